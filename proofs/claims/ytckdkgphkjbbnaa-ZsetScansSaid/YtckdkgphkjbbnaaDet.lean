/- The heap logic: operations that tell one value and leave the heap. -/
import Derived.Test.YtckdkgphkjbbnaaCode
set_option linter.unusedVariables false
set_option linter.unusedSimpArgs false
namespace Go.Proofs.Ytckdkgphkjbbnaa.Hw

variable {P : Program} (X : Cx P)

/-- A clause that tells one value, or none. -/
def Dt (F : (Value → Prop) → Prop) : Prop := ∃ r : Option Value, ∀ K, F K ↔ ∃ v, r = some v ∧ K v

theorem Dt.ret (v : Value) : Dt fun K => K v := ⟨some v, fun K => by simp⟩
theorem Dt.no : Dt fun _ => False := ⟨none, fun K => by simp⟩
theorem Dt.and {p : Prop} {F : (Value → Prop) → Prop} (h : Dt F) : Dt fun K => p ∧ F K := by
  obtain ⟨r, hr⟩ := h
  by_cases hp : p
  · exact ⟨r, fun K => by simp only [hr]; simp [hp]⟩
  · exact ⟨none, fun K => by simp [hp]⟩
theorem Dt.map {F : (Value → Prop) → Prop} (h : Dt F) (g : Value → Value) : Dt fun K => F fun v => K (g v) := by
  obtain ⟨r, hr⟩ := h
  refine ⟨r.map g, fun K => ?_⟩
  simp only [hr]
  cases r <;> simp

theorem Dt.cond {c : Bool} {F G : (Value → Prop) → Prop} (h1 : Dt F) (h2 : Dt G) : Dt fun K => match c with | true => F K | false => G K := by
  cases c
  · exact h2
  · exact h1

theorem NN_dt {a : Option Addr} {g : Addr → Value} : Dt fun K => NN a fun p => K (g p) := by
  cases a
  · exact Dt.no
  · exact Dt.ret _

theorem pick_dt (c a b : Value) : Dt (pickE c a b) := by
  cases c <;> first | exact Dt.no | exact Dt.ret _

theorem part_dt (T : TI) (cs : List Value) (off : Nat) : Dt (partE T cs off) := by
  unfold partE
  cases T.known
  · exact Dt.no
  · cases T.ck
    · cases cs[off]?
      · exact Dt.no
      · exact Dt.ret _
    · exact Dt.ret _

theorem partX_dt (T : TI) (cs : List Value) (off : Nat) : Dt (partX T cs off) := by
  unfold partX
  cases T.known
  · exact Dt.no
  · cases T.ck with
    | one s =>
      cases hc : cs[off]? with
      | none =>
        refine ⟨none, fun K => ?_⟩
        refine ⟨fun h => ?_, fun ⟨v, h, _⟩ => by cases h⟩
        obtain ⟨v, hv, _⟩ := SK.ex_elim h
        cases hv
      | some u =>
        by_cases hs : s.ex fun v => some u = some v
        · refine ⟨some u, fun K => ⟨fun h => ?_, ?_⟩⟩
          · obtain ⟨v, hv, hK⟩ := SK.ex_elim h
            exact ⟨v, hv, hK⟩
          · rintro ⟨v, hv, hK⟩
            refine ex_mono (fun w hw => ⟨hw, ?_⟩) hs
            rw [hw] at hv
            injection hv with hv
            subst hv; exact hK
        · refine ⟨none, fun K => ⟨fun h => ?_, ?_⟩⟩
          · exact (hs (ex_mono (fun w hw => hw.1) h)).elim
          · rintro ⟨v, hv, _⟩; cases hv
    | agg ks => exact Dt.ret _

theorem build_dt (t : TypeId) (ps : List (Nat × Value)) : Dt (buildE X t ps) := by
  unfold buildE
  cases (X.tb t).known
  · exact Dt.no
  · cases (X.tb t).desc <;> first | exact Dt.no | skip
    · rename_i n e
      dsimp only
      cases (X.tb e).known
      · exact Dt.no
      · cases lay (fun i => some (i * (X.tb e).size, (X.tb e).size)) (X.tb t).zero ps
        · exact Dt.no
        · exact Dt.ret _
    · rename_i fs
      dsimp only
      cases fs.all fun f => (X.tb f.2).known
      · exact Dt.no
      · cases lay (fun i => (fs[i]?).map fun f => (f.1, (X.tb f.2).size)) (X.tb t).zero ps
        · exact Dt.no
        · exact Dt.ret _

theorem nil_dt (v : Value) : Dt (nilE v) := by
  cases v <;> first | exact Dt.no | exact NN_dt | skip
  rename_i f a b
  cases f <;> first | exact Dt.no | exact Dt.ret _

theorem fieldA_dt (t : TypeId) (v : Value) (f : Nat) : Dt (fieldAE X t v f) := by
  unfold fieldAE
  cases (X.tb t).known
  · exact Dt.no
  · cases (X.tb t).desc <;> first | exact Dt.no | skip
    rename_i fs
    dsimp only
    cases fs[f]?
    · exact Dt.no
    · rename_i q
      obtain ⟨off, ft⟩ := q
      show Dt fun K => match (X.tb ft).known, (X.tb ft).size with
        | true, _ + 1 => match v with
          | .pointer (some p) => K (.pointer (some (p.add off)))
          | _ => False
        | _, _ => False
      cases (X.tb ft).known
      · exact Dt.no
      · cases (X.tb ft).size
        · exact Dt.no
        · cases v <;> first | exact Dt.no | skip
          rename_i a
          cases a
          · exact Dt.no
          · exact Dt.ret _

theorem field_dt (t : TypeId) (v : Value) (f : Nat) : Dt (fieldE X t v f) := by
  unfold fieldE
  cases (X.tb t).known
  · exact Dt.no
  · cases (X.tb t).desc <;> first | exact Dt.no | skip
    rename_i fs
    dsimp only
    cases fs[f]?
    · exact Dt.no
    · rename_i q
      obtain ⟨off, ft⟩ := q
      cases v <;> first | exact Dt.no | exact part_dt _ _ _

theorem indexA_dt (t : TypeId) (v i : Value) : Dt (indexAE X t v i) := by
  unfold indexAE
  cases (X.tb t).known
  · exact Dt.no
  · cases (X.tb t).desc <;> first | exact Dt.no | skip
    · rename_i e
      dsimp only
      cases (X.tb e).known
      · exact Dt.no
      · cases v <;> first | exact Dt.no | skip
        cases i <;> first | exact Dt.no | exact Dt.and (Dt.and NN_dt)
    · rename_i n e
      dsimp only
      cases (X.tb e).known
      · exact Dt.no
      · cases v <;> first | exact Dt.no | skip
        rename_i a
        cases a
        · exact Dt.no
        · cases i <;> first | exact Dt.no | exact Dt.and (Dt.and (Dt.ret _))

theorem index_dt (t : TypeId) (v i : Value) : Dt (indexE X t v i) := by
  unfold indexE
  cases (X.tb t).known
  · exact Dt.no
  · cases (X.tb t).desc <;> first | exact Dt.no | skip
    · cases v <;> first | exact Dt.no | skip
      cases i <;> first | exact Dt.no | exact Dt.and (Dt.and (Dt.ret _))
    · rename_i n e
      dsimp only
      cases (X.tb e).known
      · exact Dt.no
      · cases v <;> first | exact Dt.no | skip
        cases i <;> first | exact Dt.no | exact Dt.and (Dt.and (partX_dt _ _ _))

theorem bnd_dt {v : Option Value} {d : Int} {F : Int → (Value → Prop) → Prop} (h : ∀ n, Dt (F n)) : Dt fun K => bnd v d fun n => F n K := by
  cases v with
  | none => exact h d
  | some v => cases v <;> first | exact Dt.no | exact h _

theorem slice_dt (t : TypeId) (v : Value) (lo hi mx : Option Value) : Dt (sliceE X t v lo hi mx) := by
  unfold sliceE
  cases (X.tb t).known
  · exact Dt.no
  · cases (X.tb t).desc <;> first | exact Dt.no | skip
    · cases mx
      · cases v <;> first | exact Dt.no | exact bnd_dt fun n => bnd_dt fun m => Dt.and (Dt.and (Dt.and (Dt.ret _)))
      · exact Dt.no
    · rename_i e
      dsimp only
      cases (X.tb e).known
      · exact Dt.no
      · cases v <;> first | exact Dt.no | skip
        cases mx
        · exact bnd_dt fun n => bnd_dt fun m => Dt.and (Dt.and (Dt.and (Dt.and (Dt.ret _))))
        · cases hi
          · exact Dt.no
          · exact bnd_dt fun n => bnd_dt fun m => bnd_dt fun k => Dt.and (Dt.and (Dt.and (Dt.and (Dt.ret _))))
    · rename_i n e
      dsimp only
      cases (X.tb e).known
      · exact Dt.no
      · cases v <;> first | exact Dt.no | skip
        rename_i a
        cases a
        · exact Dt.no
        · cases mx
          · exact bnd_dt fun n => bnd_dt fun m => Dt.and (Dt.and (Dt.and (Dt.and (Dt.ret _))))
          · exact Dt.no

theorem extract_dt (v : Value) (i : Nat) : Dt (extractE v i) := by
  unfold extractE
  cases v <;> first | exact Dt.no | skip
  rename_i vs
  show Dt fun K => match vs.toList[i]? with
    | some v => K v
    | none => False
  cases vs.toList[i]?
  · exact Dt.no
  · exact Dt.ret _

theorem intBin_dt (op : BinOp) (k : IntKind) (x y : Int) : Dt (intBin op k x y) := by
  cases op <;> first | exact Dt.no | exact Dt.ret _ | exact Dt.and (Dt.ret _)

theorem strBin_dt (op : BinOp) (x y : List UInt8) : Dt (strBin op x y) := by
  cases op <;> first | exact Dt.no | exact Dt.ret _ | exact Dt.and (Dt.ret _)

theorem un_dt (op : UnOp) (v : Value) : Dt (unE op v) := by
  cases op <;> cases v <;> first | exact Dt.no | exact Dt.ret _ | exact intBin_dt _ _ _ _

/-- The same of bools. -/
def DtB (F : (Bool → Prop) → Prop) : Prop := ∃ r : Option Bool, ∀ K, F K ↔ ∃ v, r = some v ∧ K v
theorem DtB.ret (v : Bool) : DtB fun K => K v := ⟨some v, fun K => by simp⟩
theorem DtB.no : DtB fun _ => False := ⟨none, fun K => by simp⟩
theorem DtB.map {F : (Bool → Prop) → Prop} (h : DtB F) (g : Bool → Value) : Dt fun K => F fun v => K (g v) := by
  obtain ⟨r, hr⟩ := h
  refine ⟨r.map g, fun K => ?_⟩
  simp only [hr]
  cases r <;> simp

theorem ptrEq2_dt (h : Hp) (p q : Addr) : DtB (ptrEq2 h p q) := by
  unfold ptrEq2
  by_cases e : p.block = q.block
  · exact ⟨some (decide (p = q)), fun K => by simp [e]⟩
  · by_cases hb : plainB h p.block ∧ plainB h q.block
    · exact ⟨some false, fun K => by simp [e, hb]⟩
    · exact ⟨none, fun K => by simp only [e, false_implies, true_and, ne_eq, not_false_eq_true, true_implies]; simp; intro h1 h2; exact (hb ⟨h1, h2⟩).elim⟩

theorem cellsEq_dt : ∀ (vs ws : List Value), DtB (cellsEqE vs ws) := by
  intro vs
  induction vs with
  | nil => intro ws; cases ws
           · exact DtB.ret _
           · exact DtB.no
  | cons v vs ih =>
    intro ws
    cases ws with
    | nil => exact DtB.no
    | cons w ws =>
      show DtB fun K => match cellEq v w with
        | some b => cellsEqE vs ws fun r => K (b && r)
        | none => False
      cases cellEq v w with
      | none => exact DtB.no
      | some b =>
        obtain ⟨r, hr⟩ := ih ws
        refine ⟨r.map (b && ·), fun K => ?_⟩
        simp only [hr]
        cases r <;> simp

theorem eq_dt (h : Hp) (t : TypeId) (a b : Value) : DtB (eqE X h t a b) := by
  unfold eqE
  cases (X.tb t).known
  · exact DtB.no
  · cases (X.tb t).desc <;> first | exact DtB.no | skip
    · cases a <;> first | exact DtB.no | skip
      cases b <;> first | exact DtB.no | exact DtB.ret _
    · rename_i e
      show DtB fun K => match (X.tb e).known, (X.tb e).size with
        | true, _ + 1 => match a, b with
          | .pointer x, .pointer y => ptrEqE h x y K
          | _, _ => False
        | _, _ => False
      cases (X.tb e).known
      · exact DtB.no
      · cases (X.tb e).size
        · exact DtB.no
        · cases a <;> first | exact DtB.no | skip
          cases b <;> first | exact DtB.no | skip
          rename_i x y
          cases y
          · exact DtB.ret _
          · cases x
            · exact DtB.ret _
            · exact ptrEq2_dt _ _ _
    · cases b <;> first | exact DtB.no | skip
      rename_i y _ _
      cases y
      · cases a <;> first | exact DtB.no | exact DtB.ret _
      · cases a <;> first | exact DtB.no | skip
        rename_i x _ _
        cases x
        · exact DtB.ret _
        · exact DtB.no
    · cases b <;> first | exact DtB.no | skip
      rename_i y
      cases y
      · cases a <;> first | exact DtB.no | exact DtB.ret _
      · exact DtB.no
    · cases a <;> first | exact DtB.no | skip
      cases b <;> first | exact DtB.no | skip
      rename_i fs xs ys
      show DtB fun K => match (X.tb t).eqOk, flatF X fs 0 xs.toList ys.toList with
        | true, true => cellsEqE xs.toList ys.toList K
        | _, _ => False
      cases (X.tb t).eqOk
      · exact DtB.no
      · cases flatF X fs 0 xs.toList ys.toList
        · exact DtB.no
        · exact cellsEq_dt _ _

theorem same_dt {b : Bool} {F : (Value → Prop) → Prop} (h : Dt F) : Dt fun K => match b with | true => F K | false => False := by
  cases b
  · exact Dt.no
  · exact h

theorem bin_dt (op : BinOp) (h : Hp) (t : TypeId) (a b : Value) : Dt (binE X op h t a b) := by
  have gen : Dt fun K => match op with
      | .eql => eqE X h t a b fun r => K (.bool r)
      | .neq => eqE X h t a b fun r => K (.bool (!r))
      | _ => False := by
    cases op <;> first | exact Dt.no | exact (eq_dt X h t a b).map _
  cases a <;> first | exact gen | skip
  · cases b <;> first | exact gen | skip
    cases op <;> first | exact intBin_dt .shl _ _ _ | exact intBin_dt .shr _ _ _ | exact same_dt (intBin_dt _ _ _ _)
  · cases b <;> first | exact gen | exact strBin_dt _ _ _

theorem mn_dt : ∀ (ws : List Value) (v : Value), Dt (mnE v ws) := by
  intro ws
  induction ws with
  | nil => intro v; exact Dt.ret _
  | cons w ws ih => intro v; cases v <;> first | exact Dt.no | (cases w <;> first | exact Dt.no | exact ih _)

theorem mx_dt : ∀ (ws : List Value) (v : Value), Dt (mxE v ws) := by
  intro ws
  induction ws with
  | nil => intro v; exact Dt.ret _
  | cons w ws ih => intro v; cases v <;> first | exact Dt.no | (cases w <;> first | exact Dt.no | exact ih _)

theorem cap_dt (t : TypeId) (v : Value) : Dt (capE X t v) := by
  unfold capE
  cases (X.tb t).known
  · exact Dt.no
  · cases (X.tb t).desc <;> first | exact Dt.no | skip
    cases v <;> first | exact Dt.no | exact Dt.ret _

end Go.Proofs.Ytckdkgphkjbbnaa.Hw

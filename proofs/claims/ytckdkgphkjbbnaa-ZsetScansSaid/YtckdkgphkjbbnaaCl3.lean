/- The heap logic: loads, stores, new variables, parts. -/
import Derived.Test.YtckdkgphkjbbnaaCl2
set_option linter.unusedVariables false
set_option linter.unusedSimpArgs false
namespace Go.Proofs.Ytckdkgphkjbbnaa.Hw

variable {P : Program} (X : Cx P)

theorem hp_loadCellsFrom {h : Hp} {p : Addr} {K : Array Value → Hp → Prop} : ∀ (vs : List Value) (i : Nat) (acc : Array Value), rowAt h p i vs → K (acc ++ vs.toArray) h → hp P (loadCellsFrom p i vs.length acc) h K := by
  intro vs
  induction vs with
  | nil => intro i acc _ hK; simpa [loadCellsFrom, hp_pure'] using hK
  | cons v vs ih =>
    intro i acc hr hK
    simp only [List.length_cons, loadCellsFrom, hp_bind, hp_load]
    refine ⟨v, hr.1, ih (i + 1) _ hr.2 ?_⟩
    simpa using hK

theorem hp_loadCells {h : Hp} {p : Addr} {K : Array Value → Hp → Prop} {vs : List Value} {n : Nat} (hn : vs.length = n) (hr : rowAt h p 0 vs) (hK : K vs.toArray h) : hp P (loadCells p n) h K := by
  subst hn
  exact hp_loadCellsFrom vs 0 #[] hr (by simpa using hK)

theorem hp_loadVar {h : Hp} {t : TypeId} {p : Addr} {K : Value → Hp → Prop} (hk : (X.tb t).known = true) (hh : ldE (X.tb t).ck h p fun v => K v h) : hp P (loadVar t p) h K := by
  obtain ⟨i, d, z, T⟩ := X.known hk
  unfold loadVar
  rw [hp_bind, hp_isAgg T.und]
  rw [T.ck] at hh
  by_cases ha : isAggD (some d) = true
  · rw [if_pos ha] at hh
    simp only [ha, if_true]
    obtain ⟨vs, hl, hr, hK⟩ := exL_elim hh
    rw [hp_bind, hp_size T.info, hp_bind]
    refine hp_loadCells (vs := vs) ?_ hr hK
    rw [hl, List.length_map, T.zlen, T.size]
  · rw [if_neg ha] at hh
    simp only [ha, if_false]
    obtain ⟨v, hv, hK⟩ := SK.ex_elim hh
    exact ⟨v, hv, hK⟩

theorem hp_store1 {h : Hp} {p : Addr} {v : Value} {K : Unit → Hp → Prop} (h1 : oneCell v = true) (hw : okW h p) (hK : K () (wr h p v)) : hp P (store p v) h K := by
  refine ⟨h1, hw.1, hw.2, fun o ho => ?_⟩
  have e : wr h p v = upd h p.block (putOf o p v) := by simp [wr, ho]
  rw [← e]
  exact hK

theorem hp_storeCells {p : Addr} {K : Unit → Hp → Prop} : ∀ (vs : List Value) (i : Nat) (h : Hp), okWs h p i vs → K () (wrs h p i vs) → hp P (storeCells p vs i) h K := by
  intro vs
  induction vs with
  | nil => intro i h _ hK; simpa [storeCells, hp_pure', wrs] using hK
  | cons v vs ih =>
    intro i h hw hK
    unfold storeCells
    rw [hp_bind]
    exact hp_store1 hw.1 hw.2.1 (ih _ _ hw.2.2 hK)

theorem agg_size {t : TypeId} {i : TypeInfo} {d : TypeDesc} {z : Value} (T : Known P t (X.tb t) i d z) {ks : List SK} (hc : (X.tb t).ck = .agg ks) : ks.length = (X.tb t).size := by
  have h := T.ck
  rw [hc] at h
  split at h
  · injection h with h; rw [h, List.length_map, T.zlen]
  · cases h

theorem one_size {t : TypeId} {i : TypeInfo} {d : TypeDesc} {z : Value} (T : Known P t (X.tb t) i d z) {s : SK} (hc : (X.tb t).ck = .one s) : isAggD (some d) = false := by
  have h := T.ck
  rw [hc] at h
  split at h
  · cases h
  · simp_all

def ckLen : CK → Nat
  | .one _ => 1
  | .agg ks => ks.length

/-- A value of one cell. -/
def one1 (v : Value) (Q : Prop) : Prop :=
  match v with
  | .agg _ => False
  | .tuple _ => False
  | _ => Q

theorem one1_out {v : Value} {Q : Prop} (h : one1 v Q) : oneCell v = true ∧ v.cells = #[v] ∧ Q := by
  cases v <;> first | exact ⟨rfl, rfl, h⟩ | exact h.elim

/-- A store of one cell, of several. -/
def st1 (h : Hp) (p : Addr) (v : Value) (K : Hp → Prop) : Prop := okW h p ∧ K (wr h p v)
def stN (h : Hp) (p : Addr) (vs : List Value) (K : Hp → Prop) : Prop := okWs h p 0 vs ∧ K (wrs h p 0 vs)

/-- A store of a value into a variable. -/
def stVE (T : TI) (h : Hp) (p : Addr) (v : Value) (K : Hp → Prop) : Prop :=
  match T.known, T.ck, T.size with
  | true, .one _, 1 => one1 v (st1 h p v K)
  | true, .agg _, n => match v with
    | .agg cs => match Nat.beq cs.toList.length n with
      | true => stN h p cs.toList K
      | false => False
    | _ => False
  | _, _, _ => False

theorem hp_storeVar {h : Hp} {t : TypeId} {p : Addr} {v : Value} {K : Unit → Hp → Prop} (hh : stVE (X.tb t) h p v fun h' => K () h') : hp P (storeVar t p v) h K := by
  have hk : (X.tb t).known = true := by
    unfold stVE at hh
    split at hh <;> first | assumption | exact hh.elim
  obtain ⟨i, d, z, T⟩ := X.known hk
  unfold storeVar
  simp only [hp_bind]
  rw [hp_size T.info, T.size]
  unfold stVE at hh
  split at hh
  · rename_i _ _ hs
    obtain ⟨h0, hc, h1, h2⟩ := one1_out hh
    rw [hc, if_neg (by simp [hs])]
    unfold storeCells
    rw [hp_bind]
    exact hp_store1 h0 (by simpa [Addr.add] using h1) (by simpa [storeCells, hp_pure', Addr.add] using h2)
  · split at hh
    · rename_i cs
      split at hh
      · rename_i h1
        have h1' := Nat.eq_of_beq_eq_true h1
        have hc : (Value.agg cs).cells.size = (X.tb t).size := by simpa [Value.cells] using h1'
        rw [if_neg (by simpa using hc)]
        exact hp_storeCells _ _ _ hh.1 hh.2
      · exact hh.elim
    · exact hh.elim
  · exact hh.elim

theorem hp_newRow {h : Hp} {t : TypeId} {cs : Array Value} {K : Value → Hp → Prop} (hh : newE h (.cells cs t) fun b h' => K (.pointer (some ⟨b, 0, none⟩)) h') :
    hp P (do pure (.pointer (some (← newRow t cs)))) h K := by
  rw [hp_bind]
  unfold newRow
  rw [hp_bind]
  exact hh

theorem hp_alloc {h : Hp} {t : TypeId} {K : Value → Hp → Prop} (hk : (X.tb t).known = true) (hh : newE h (.cells (X.tb t).zero.toArray t) fun b h' => K (.pointer (some ⟨b, 0, none⟩)) h') :
    hp P (Instr.alloc t true (.tuple #[])) h K := by
  obtain ⟨i, d, z, T⟩ := X.known hk
  unfold Instr.alloc
  rw [hp_bind, hp_zero T.info T.zero]
  simp only []
  refine hp_newRow ?_
  rw [T.zcells]
  exact hh

theorem hp_box {h : Hp} {t : TypeId} {v : Value} {K : Value → Hp → Prop} (hh : newE h (.cells v.cells t) fun b h' => K (.pointer (some ⟨b, 0, none⟩)) h') :
    hp P (Instr.box t v) h K := hp_newRow hh

/-- Parts laid into cells. -/
def splice (cs : List Value) (off : Nat) (vs : List Value) : List Value := cs.take off ++ vs ++ cs.drop (off + vs.length)

def cellsL (v : Value) : List Value :=
  match v with
  | .agg cs => cs.toList
  | v => [v]

def lay (place : Nat → Option (Nat × Nat)) : List Value → List (Nat × Value) → Option (List Value)
  | cs, [] => some cs
  | cs, (i, v) :: rest =>
    match place i with
    | none => none
    | some (off, size) =>
      match Nat.beq (cellsL v).length size && Nat.ble (off + (cellsL v).length) cs.length with
      | true => lay place (splice cs off (cellsL v)) rest
      | false => none

theorem cellsL_eq (v : Value) : v.cells.toList = cellsL v := by cases v <;> rfl

theorem foldl_set (off : Nat) : ∀ (vs : List Value) (k : Nat) (cs : Array Value), off + k + vs.length ≤ cs.size →
    ((vs.zipIdx k).foldl (fun cs (x : Value × Nat) => cs.setIfInBounds (off + x.2) x.1) cs).toList = splice cs.toList (off + k) vs := by
  intro vs
  induction vs with
  | nil => intro k cs h; simp [splice]
  | cons v vs ih =>
    intro k cs h
    simp only [List.length_cons] at h
    simp only [List.zipIdx_cons, List.foldl_cons]
    rw [show k + 1 = k + 1 from rfl, ih (k + 1) _ (by simp; omega)]
    simp only [Array.toList_setIfInBounds]
    apply List.ext_getElem?
    intro j
    simp only [splice]
    have hlen : off + k < cs.toList.length := by simp; omega
    simp only [List.getElem?_append, List.length_take, List.length_set, List.length_append, List.getElem?_take, List.getElem?_drop, List.getElem?_set, List.length_cons]
    have hm : min (off + (k + 1)) cs.toList.length = off + k + 1 := by simp; omega
    have hm' : min (off + k) cs.toList.length = off + k := by simp; omega
    rw [hm, hm']
    by_cases h1 : j < off + k
    · simp [h1, show j < off + k + 1 + vs.length by omega, show j < off + k + 1 by omega, show j < off + (k + 1) by omega, show j < off + k + (vs.length + 1) by omega, show ¬ off + k = j by omega]
    · by_cases h2 : j = off + k
      · subst h2
        simp [show off + k < off + k + 1 + vs.length by omega, show off + k < off + k + (vs.length + 1) by omega, hlen]
        simpa using hlen
      · by_cases h3 : j < off + k + 1 + vs.length
        · simp [h1, h3, show ¬ j < off + k + 1 by omega, show j < off + k + (vs.length + 1) by omega]
          rw [show j - (off + k) = (j - (off + k + 1)) + 1 by omega, List.getElem?_cons_succ]
        · simp [h1, h3, show ¬ j < off + k + (vs.length + 1) by omega, show ¬ j < off + k + 1 by omega]
          rw [if_neg (by omega)]
          congr 1
          omega

theorem fill_lay (place : Nat → Option (Nat × Nat)) : ∀ (parts : List (Nat × Value)) (cs : Array Value) (r : List Value), lay place cs.toList parts = some r → Instr.fill place cs parts = some r.toArray := by
  intro parts
  induction parts with
  | nil => intro cs r h; simp only [lay, Option.some.injEq] at h; subst h; simp [Instr.fill]
  | cons x parts ih =>
    obtain ⟨i, v⟩ := x
    intro cs r h
    unfold lay at h
    unfold Instr.fill
    cases hp : place i with
    | none => simp [hp] at h
    | some q =>
      obtain ⟨off, size⟩ := q
      simp only [hp] at h ⊢
      split at h
      · rename_i hb
        simp only [Bool.and_eq_true] at hb
        obtain ⟨hb1, hb2⟩ := hb
        have hb1 := Nat.eq_of_beq_eq_true hb1
        have hb2 := Nat.le_of_ble_eq_true hb2
        have e1 : v.cells.size = (cellsL v).length := by rw [← cellsL_eq]; simp
        rw [if_neg (by simp [e1, hb1]; simp at hb2; omega)]
        apply ih
        have e2 := foldl_set off (cellsL v) 0 cs (by simpa using hb2)
        have e3 : v.cells.zipIdx.foldl (fun cs (x : Value × Nat) => cs.setIfInBounds (off + x.2) x.1) cs = ((cellsL v).zipIdx 0).foldl (fun cs (x : Value × Nat) => cs.setIfInBounds (off + x.2) x.1) cs := by
          rw [← Array.foldl_toList, Array.toList_zipIdx, cellsL_eq]
        have e4 : (v.cells.zipIdx.foldl (fun cs (x : Value × Nat) => cs.setIfInBounds (off + x.2) x.1) cs).toList = splice cs.toList off (cellsL v) := by rw [e3]; exact e2
        rw [← h, ← e4]
      · cases h

end Go.Proofs.Ytckdkgphkjbbnaa.Hw

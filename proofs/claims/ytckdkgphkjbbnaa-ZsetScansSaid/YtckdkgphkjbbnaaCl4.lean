/- The heap logic: literals, fields, indexes, slices, conversions, lengths. -/
import Derived.Test.YtckdkgphkjbbnaaCl3
set_option linter.unusedVariables false
set_option linter.unusedSimpArgs false
namespace Go.Proofs.Ytckdkgphkjbbnaa.Hw

variable {P : Program} (X : Cx P)

def sizeK (T : TI) (K : Nat → Prop) : Prop :=
  match T.known with
  | true => K T.size
  | false => False

/-- A literal of a struct or an array. -/
def buildE (t : TypeId) (parts : List (Nat × Value)) (K : Value → Prop) : Prop :=
  match (X.tb t).known, (X.tb t).desc with
  | true, .struct fs =>
    match fs.all (fun f => (X.tb f.2).known), lay (fun i => (fs[i]?).map fun f => (f.1, (X.tb f.2).size)) (X.tb t).zero parts with
    | true, some cs => K (.agg cs.toArray)
    | _, _ => False
  | true, .arr _ e =>
    match (X.tb e).known, lay (fun i => some (i * (X.tb e).size, (X.tb e).size)) (X.tb t).zero parts with
    | true, some cs => K (.agg cs.toArray)
    | _, _ => False
  | _, _ => False

theorem hp_mapM_list {α β : Type} (g : α → β) (f : α → Sem β) (h : Hp) : ∀ (l : List α), (∀ x ∈ l, ∀ K : β → Hp → Prop, K (g x) h → hp P (f x) h K) → ∀ {K : List β → Hp → Prop}, K (l.map g) h → hp P (l.mapM f) h K := by
  intro l
  induction l with
  | nil => intro _ K hK; simpa [hp_pure'] using hK
  | cons x l ih =>
    intro hf K hK
    rw [List.mapM_cons, hp_bind]
    refine hf x (by simp) _ ?_
    rw [hp_bind]
    exact ih (fun y hy => hf y (by simp [hy])) (by simpa [hp_pure'] using hK)

theorem hp_mapM_arr {α β : Type} (g : α → β) (f : α → Sem β) (h : Hp) (l : Array α) (hf : ∀ x ∈ l.toList, ∀ K : β → Hp → Prop, K (g x) h → hp P (f x) h K) {K : Array β → Hp → Prop} (hK : K (l.map g) h) : hp P (l.mapM f) h K := by
  rw [Array.mapM_eq_mapM_toList]
  show hp P (List.toArray <$> l.toList.mapM f) h K
  rw [hp_map]
  refine hp_mapM_list g f h l.toList hf ?_
  have : (l.toList.map g).toArray = l.map g := by simp [← Array.toList_map]
  rw [this]
  exact hK

theorem hp_build {h : Hp} {t : TypeId} {parts : Array (Nat × Value)} {K : Value → Hp → Prop} (hh : buildE X t parts.toList fun v => K v h) : hp P (Instr.build t parts) h K := by
  unfold buildE at hh
  split at hh
  · rename_i fs hk hd
    obtain ⟨i, d, z, T⟩ := X.known hk
    have hdd := T.desc
    rw [hd] at hdd
    cases d <;> simp [tdOf] at hdd
    rename_i fields
    unfold Instr.build
    rw [hp_bind, hp_zero T.info T.zero, hp_bind, hp_und T.und]
    simp only []
    split at hh
    · rename_i cs hall hlay
      rw [hp_bind]
      refine hp_mapM_arr (fun f => (f.offset, (X.tb f.type).size)) _ h fields ?_ ?_
      · intro f hf K' hK'
        have : (X.tb f.type).known = true := by
          have := List.all_eq_true.1 hall (f.offset, f.type) (by rw [← hdd]; exact List.mem_map.2 ⟨f, hf, rfl⟩)
          exact this
        obtain ⟨i', d', z', T'⟩ := X.known this
        rw [hp_bind, hp_size T'.info, T'.size]
        exact hK'
      · rw [T.zcells]
        have e : Instr.fill (fun x => (fields.map fun f => (f.offset, (X.tb f.type).size))[x]?) (X.tb t).zero.toArray parts.toList = some cs.toArray := by
          apply fill_lay
          rw [← hlay]
          congr 1
          funext x
          rw [← hdd]
          simp [Function.comp_def]
        rw [e]
        exact hh
    · exact hh.elim
  · rename_i n e hk hd
    obtain ⟨i, d, z, T⟩ := X.known hk
    have hdd := T.desc
    rw [hd] at hdd
    cases d <;> simp [tdOf] at hdd
    obtain ⟨rfl, rfl⟩ := hdd
    unfold Instr.build
    rw [hp_bind, hp_zero T.info T.zero, hp_bind, hp_und T.und]
    simp only []
    split at hh
    · rename_i cs hke hlay
      obtain ⟨i', d', z', T'⟩ := X.known hke
      rw [hp_bind, hp_size T'.info, T'.size, T.zcells]
      rw [fill_lay _ _ _ _ hlay]
      exact hh
    · exact hh.elim
  · exact hh.elim

def repL (n : Nat) (z : List Value) : List Value :=
  match n with
  | 0 => []
  | n + 1 => z ++ repL n z

theorem repL_len (n : Nat) (z : List Value) : (repL n z).length = n * z.length := by
  induction n with
  | zero => simp [repL]
  | succ n ih => simp [repL, ih, Nat.succ_mul]; omega

theorem repL_get (n : Nat) (z : List Value) : ∀ i, i < n * z.length → (repL n z)[i]? = z[i % z.length]? := by
  induction n with
  | zero => intro i hi; simp at hi
  | succ n ih =>
    intro i hi
    simp only [repL]
    by_cases h1 : i < z.length
    · rw [List.getElem?_append_left h1, Nat.mod_eq_of_lt h1]
    · rw [List.getElem?_append_right (by omega), ih _ (by rw [Nat.succ_mul] at hi; omega)]
      congr 1
      rw [Nat.mod_eq_sub_mod (a := i) (by omega)]

theorem rep_range (n : Nat) (z : Array Value) (hz : 0 < z.size) : (Array.range (n * z.size)).map (fun i => z[i % z.size]!) = (repL n z.toList).toArray := by
  apply Array.ext_getElem?
  intro i
  by_cases hi : i < n * z.size
  · have h1 := repL_get n z.toList i (by simpa using hi)
    have h2 : (repL n z.toList).toArray[i]? = z.toList[i % z.toList.length]? := by rw [List.getElem?_toArray]; exact h1
    have hm : i % z.size < z.size := Nat.mod_lt _ hz
    rw [h2]
    simp [hi, hm]
  · have hl := repL_len n z.toList
    have h2 : (repL n z.toList).toArray[i]? = none := by rw [List.getElem?_toArray]; exact List.getElem?_eq_none (by rw [hl]; simpa using hi)
    rw [h2]
    simp [hi]

/-- A literal of a slice. -/
def buildSlE (t : TypeId) (len : Nat) (parts : List (Nat × Value)) (h : Hp) (K : Value → Hp → Prop) : Prop :=
  match (X.tb t).known, (X.tb t).desc with
  | true, .slice e =>
    match (X.tb e).known, (X.tb e).size, Nat.ble (len * (X.tb e).size) 16777216, lay (fun i => some (i * (X.tb e).size, (X.tb e).size)) (repL len (X.tb e).zero) parts with
    | true, _ + 1, true, some cs => newE h (.cells cs.toArray e) fun b h' => K (.slice (some ⟨b, 0, none⟩) len len) h'
    | _, _, _, _ => False
  | _, _ => False

theorem hp_buildSl {h : Hp} {t : TypeId} {len : Nat} {parts : Array (Nat × Value)} {K : Value → Hp → Prop} (hh : buildSlE X t len parts.toList h K) : hp P (Instr.buildSlice t len parts) h K := by
  unfold buildSlE at hh
  split at hh
  · rename_i e hk hd
    obtain ⟨i, d, z, T⟩ := X.known hk
    have hdd := T.desc
    rw [hd] at hdd
    cases d <;> simp [tdOf] at hdd
    subst hdd
    rename_i e
    split at hh
    · rename_i m cs hke hs hble hlay
      obtain ⟨i', d', z', T'⟩ := X.known hke
      have hb := Nat.le_of_ble_eq_true hble
      unfold Instr.buildSlice
      rw [hp_bind, hp_und T.und]
      simp only []
      rw [hp_bind, hp_size T'.info, T'.size]
      rw [if_neg (by omega)]
      have hz : z'.cells = (X.tb e).zero.toArray := T'.zcells
      have hzl : (X.tb e).zero.length = (X.tb e).size := T'.zlen
      have fin : ∀ zz : Array Value, (Array.range (len * (X.tb e).size)).map (fun i => zz[i % zz.size]!) = (repL len (X.tb e).zero).toArray →
          hp P (do
            let some cells := Instr.fill (fun i => some (i * (X.tb e).size, (X.tb e).size)) ((Array.range (len * (X.tb e).size)).map (fun i => zz[i % zz.size]!)) parts.toList
              | stuck "buildSlice: a part of the wrong size"
            pure (.slice (some (← newRow e cells)) len len)) h K := by
        intro zz hzz
        rw [hzz, fill_lay _ _ _ _ hlay]
        simp only []
        rw [hp_bind]
        unfold newRow
        rw [hp_bind]
        exact hh
      split
      · rename_i h0
        refine fin #[] ?_
        have : len = 0 := by
          rcases Nat.mul_eq_zero.1 h0 with h | h
          · exact h
          · omega
        subst this
        simp [repL]
      · rw [hp_bind, hp_zero T'.info T'.zero, hz]
        refine fin _ ?_
        have := rep_range len (X.tb e).zero.toArray (by simp; omega)
        simp only [List.size_toArray, hzl] at this
        simpa [hzl] using this
    · exact hh.elim
  · exact hh.elim

/-- A check that a pointer is not nil. -/
def nilE (v : Value) (K : Value → Prop) : Prop :=
  match v with
  | .pointer a => NN a fun p => K (.pointer (some p))
  | .func (.func f) a b => K (.func (.func f) a b)
  | .func (.yield l) a b => K (.func (.yield l) a b)
  | _ => False

theorem nilE_ok {v : Value} {h : Hp} {K : Value → Hp → Prop} {o : Oper} {e : Env} {x : Operand} (ho : o.op = .nilCheck x) (hv : ev e x = v) (hh : nilE v fun v => K v h) : opHp P o e h K := by
  unfold opHp execOp
  simp only [ho, hv]
  unfold nilE at hh
  split at hh
  · rename_i a
    cases a with
    | none => exact hh.elim
    | some p => exact hh
  · exact hh
  · exact hh
  · exact hh.elim

/-- The address of a field. -/
def fieldAE (t : TypeId) (v : Value) (f : Nat) (K : Value → Prop) : Prop :=
  match (X.tb t).known, (X.tb t).desc with
  | true, .struct fs =>
    match fs[f]? with
    | some (off, ft) => match (X.tb ft).known, (X.tb ft).size with
      | true, _ + 1 => match v with
        | .pointer (some p) => K (.pointer (some (p.add off)))
        | _ => False
      | _, _ => False
    | none => False
  | _, _ => False

theorem hp_fieldA {h : Hp} {t : TypeId} {v : Value} {f : Nat} {K : Value → Hp → Prop} (hh : fieldAE X t v f fun v => K v h) : hp P (Instr.fieldAt t v f) h K := by
  unfold fieldAE at hh
  split at hh
  · rename_i fs hk hd
    obtain ⟨i, d, z, T⟩ := X.known hk
    have hdd := T.desc
    rw [hd] at hdd
    cases d <;> simp [tdOf] at hdd
    rename_i fields
    split at hh
    · rename_i off ft hf
      rw [← hdd] at hf
      simp only [List.getElem?_map, Array.getElem?_toList, Option.map_eq_some_iff] at hf
      obtain ⟨fd, hfd, hfe⟩ := hf
      injection hfe with e1 e2
      subst e1 e2
      split at hh
      · rename_i m hkf hsf
        split at hh
        · rename_i p
          obtain ⟨i', d', z', T'⟩ := X.known hkf
          unfold Instr.fieldAt
          rw [hp_bind, hp_und T.und]
          simp only [hfd]
          rw [hp_bind]
          simp only [Instr.sureAddr, hp_pure']
          rw [hp_bind]
          unfold fieldPlace
          rw [hp_bind, hp_size T'.info, T'.size, if_neg (by omega)]
          exact hh
        · exact hh.elim
      · exact hh.elim
    · exact hh.elim
  · exact hh.elim

/-- A part of cells, of a type. -/
def partE (T : TI) (cs : List Value) (off : Nat) (K : Value → Prop) : Prop :=
  match T.known, T.ck with
  | true, .one _ => match cs[off]? with
    | some v => K v
    | none => False
  | true, .agg _ => K (.agg ((cs.drop off).take T.size).toArray)
  | false, _ => False

theorem hp_part {h : Hp} {t : TypeId} {cs : Array Value} {off : Nat} {K : Value → Hp → Prop} (hh : partE (X.tb t) cs.toList off fun v => K v h) : hp P (part t cs off) h K := by
  unfold partE at hh
  split at hh
  · rename_i s hk hc
    obtain ⟨i, d, z, T⟩ := X.known hk
    unfold part
    rw [hp_bind, hp_isAgg T.und, one_size X T hc]
    simp only [Bool.false_eq_true, if_false]
    simp only [Array.getElem?_toList] at hh
    cases hx : cs[off]? with
    | none => simp [hx] at hh
    | some v => simpa [hx, hp_pure'] using hh
  · rename_i ks hk hc
    obtain ⟨i, d, z, T⟩ := X.known hk
    unfold part
    have ha : isAggD (some d) = true := by
      have h := T.ck
      rw [hc] at h
      split at h
      · assumption
      · cases h
    rw [hp_bind, hp_isAgg T.und, ha]
    simp only [if_true]
    rw [hp_bind, hp_size T.info, T.size]
    have e : ((cs.toList.drop off).take (X.tb t).size).toArray = cs.extract off (off + (X.tb t).size) := by
      apply Array.ext'
      simp [List.extract_eq_take_drop]
    rw [e] at hh
    exact hh
  · exact hh.elim

def fieldE (t : TypeId) (v : Value) (f : Nat) (K : Value → Prop) : Prop :=
  match (X.tb t).known, (X.tb t).desc with
  | true, .struct fs =>
    match fs[f]? with
    | some (off, ft) => match v with
      | .agg cs => partE (X.tb ft) cs.toList off K
      | _ => False
    | none => False
  | _, _ => False

theorem hp_field {h : Hp} {t : TypeId} {v : Value} {f : Nat} {K : Value → Hp → Prop} (hh : fieldE X t v f fun v => K v h) : hp P (Instr.field t v f) h K := by
  unfold fieldE at hh
  split at hh
  · rename_i fs hk hd
    obtain ⟨i, d, z, T⟩ := X.known hk
    have hdd := T.desc
    rw [hd] at hdd
    cases d <;> simp [tdOf] at hdd
    rename_i fields
    split at hh
    · rename_i off ft hf
      rw [← hdd] at hf
      simp only [List.getElem?_map, Array.getElem?_toList, Option.map_eq_some_iff] at hf
      obtain ⟨fd, hfd, hfe⟩ := hf
      injection hfe with e1 e2
      subst e1 e2
      split at hh
      · unfold Instr.field
        rw [hp_bind, hp_und T.und]
        simp only [hfd]
        rw [hp_bind]
        exact hp_part X hh
      · exact hh.elim
    · exact hh.elim
  · exact hh.elim

/-- The address of an element. -/
def indexAE (t : TypeId) (v i : Value) (K : Value → Prop) : Prop :=
  match (X.tb t).known, (X.tb t).desc with
  | true, .slice e => match (X.tb e).known, v, i with
    | true, .slice a n _, .int _ i => 0 ≤ i ∧ i < (n : Int) ∧ NN a fun p => K (.pointer (some (p.add (i.toNat * (X.tb e).size))))
    | _, _, _ => False
  | true, .arr n e => match (X.tb e).known, v, i with
    | true, .pointer (some p), .int _ i => 0 ≤ i ∧ i < (n : Int) ∧ K (.pointer (some (p.add (i.toNat * (X.tb e).size))))
    | _, _, _ => False
  | _, _ => False

theorem hp_indexA {h : Hp} {t : TypeId} {v i : Value} {K : Value → Hp → Prop} (hh : indexAE X t v i fun v => K v h) : hp P (Instr.indexAt t v i) h K := by
  unfold indexAE at hh
  split at hh
  · rename_i e hk hd
    obtain ⟨i, d, z, T⟩ := X.known hk
    have hdd := T.desc
    rw [hd] at hdd
    cases d <;> simp [tdOf] at hdd
    subst hdd
    split at hh
    · rename_i a n c k i hke
      obtain ⟨i', d', z', T'⟩ := X.known hke
      obtain ⟨h1, h2, h3⟩ := hh
      cases a with
      | none => exact h3.elim
      | some p =>
        unfold Instr.indexAt
        simp only [asIntOf, hp_bind, hp_pure']
        rw [hp_und T.und]
        simp only [hp_pure', hp_bind]
        rw [hp_und T.und]
        simp only [hp_pure']
        rw [if_pos ⟨h1, h2⟩]
        rw [hp_bind, hp_size T'.info, T'.size]
        exact h3
    · exact hh.elim
  · rename_i n e hk hd
    obtain ⟨i, d, z, T⟩ := X.known hk
    have hdd := T.desc
    rw [hd] at hdd
    cases d <;> simp [tdOf] at hdd
    obtain ⟨rfl, rfl⟩ := hdd
    split at hh
    · rename_i p k i hke
      obtain ⟨i', d', z', T'⟩ := X.known hke
      obtain ⟨h1, h2, h3⟩ := hh
      unfold Instr.indexAt
      simp only [asIntOf, hp_bind, hp_pure']
      rw [hp_und T.und]
      simp only [hp_pure', hp_bind, Instr.sureAddr]
      rw [hp_und T.und]
      simp only [hp_pure']
      rw [if_pos ⟨h1, h2⟩]
      rw [hp_bind, hp_size T'.info, T'.size]
      exact h3
    · exact hh.elim
  · exact hh.elim

end Go.Proofs.Ytckdkgphkjbbnaa.Hw

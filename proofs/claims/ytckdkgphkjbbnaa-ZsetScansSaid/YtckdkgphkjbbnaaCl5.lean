/- The heap logic: indexes by value, slices, makes, conversions, builtins. -/
import Derived.Test.YtckdkgphkjbbnaaCl4
set_option linter.unusedVariables false
set_option linter.unusedSimpArgs false
namespace Go.Proofs.Ytckdkgphkjbbnaa.Hw

variable {P : Program} (X : Cx P)

def byteV (b : UInt8) : Value := .int .u8 b.toNat

/-- A part of cells, of a type, at a place that may not be known. -/
def partX (T : TI) (cs : List Value) (off : Nat) (K : Value → Prop) : Prop :=
  match T.known, T.ck with
  | true, .one s => s.ex fun v => cs[off]? = some v ∧ K v
  | true, .agg _ => K (.agg ((cs.drop off).take T.size).toArray)
  | false, _ => False

theorem partX_E {T : TI} {cs : List Value} {off : Nat} {K : Value → Prop} (h : partX T cs off K) : partE T cs off K := by
  unfold partX at h
  unfold partE
  split at h
  · rename_i s hk hc
    obtain ⟨v, hv, hK⟩ := SK.ex_elim h
    rw [hk, hc]; simp only [hv]; exact hK
  · rename_i hk hc; rw [hk, hc]; exact h
  · exact h.elim

/-- An element by value: of an array, a byte of a string. -/
def indexE (t : TypeId) (v i : Value) (K : Value → Prop) : Prop :=
  match (X.tb t).known, (X.tb t).desc with
  | true, .str => match v, i with
    | .string s, .int _ i => 0 ≤ i ∧ i < (s.data.toList.length : Int) ∧ K (.int .u8 (s.data.toList.getD i.toNat 0).toNat)
    | _, _ => False
  | true, .arr n e => match (X.tb e).known, v, i with
    | true, .agg cs, .int _ i => 0 ≤ i ∧ i < (n : Int) ∧ partX (X.tb e) cs.toList (i.toNat * (X.tb e).size) K
    | _, _, _ => False
  | _, _ => False

theorem hp_index {h : Hp} {t : TypeId} {v i : Value} {K : Value → Hp → Prop} (hh : indexE X t v i fun v => K v h) : hp P (Instr.index t v i) h K := by
  unfold indexE at hh
  split at hh
  · rename_i hk hd
    obtain ⟨i, d, z, T⟩ := X.known hk
    have hdd := T.desc
    rw [hd] at hdd
    cases d <;> simp [tdOf] at hdd
    split at hh
    · rename_i s k i
      obtain ⟨h1, h2, h3⟩ := hh
      have hlt : i.toNat < s.size := by
        have : s.data.toList.length = s.size := by simp
        omega
      unfold Instr.index
      simp only [asIntOf, hp_bind, hp_pure']
      rw [hp_und T.und]
      simp only []
      rw [if_pos h1]
      have e : s[i.toNat]? = some (s.data.toList.getD i.toNat 0) := by
        have hlt' : i.toNat < s.data.toList.length := by simpa using hlt
        rw [List.getD_eq_getElem?_getD, List.getElem?_eq_getElem hlt', getElem?_pos s i.toNat hlt]
        rfl
      simp only [e]
      exact h3
    · exact hh.elim
  · rename_i n e hk hd
    obtain ⟨i, d, z, T⟩ := X.known hk
    have hdd := T.desc
    rw [hd] at hdd
    cases d <;> simp [tdOf] at hdd
    obtain ⟨rfl, rfl⟩ := hdd
    split at hh
    · rename_i cs k i hke
      obtain ⟨i', d', z', T'⟩ := X.known hke
      obtain ⟨h1, h2, h3⟩ := hh
      replace h3 := partX_E h3
      unfold Instr.index
      simp only [asIntOf, hp_bind, hp_pure']
      rw [hp_und T.und]
      simp only []
      rw [if_pos ⟨h1, h2⟩]
      rw [hp_bind, hp_size T'.info, T'.size]
      exact hp_part X h3
    · exact hh.elim
  · exact hh.elim

/-- A bound that is told, or its default. -/
def bnd (v : Option Value) (d : Int) (K : Int → Prop) : Prop :=
  match v with
  | none => K d
  | some (.int _ n) => K n
  | some _ => False

/-- A part of a string. -/
def slStr (l : List UInt8) (lo hi : Int) (K : List UInt8 → Prop) : Prop :=
  0 ≤ lo ∧ lo ≤ hi ∧ hi ≤ (l.length : Int) ∧ K ((l.take hi.toNat).drop lo.toNat)

/-- A part of a slice. -/
def slSl (a : Option Addr) (n c : Nat) (lo hi mx : Int) (size : Nat) (K : Option Addr → Nat → Nat → Prop) : Prop :=
  0 ≤ lo ∧ lo ≤ hi ∧ hi ≤ mx ∧ mx ≤ (c : Int) ∧ K (if mx.toNat = lo.toNat then a else a.map (·.add (lo.toNat * size))) (hi.toNat - lo.toNat) (mx.toNat - lo.toNat)

def sliceE (t : TypeId) (v : Value) (lo hi mx : Option Value) (K : Value → Prop) : Prop :=
  match (X.tb t).known, (X.tb t).desc with
  | true, .str => match mx, v with
    | none, .string s => bnd lo 0 fun lo => bnd hi (s.data.toList.length : Int) fun hi => slStr s.data.toList lo hi fun r => K (.string ⟨r.toArray⟩)
    | _, _ => False
  | true, .slice e => match (X.tb e).known, v with
    | true, .slice a n c => match mx with
      | none => bnd lo 0 fun lo => bnd hi (n : Int) fun hi => slSl a n c lo hi (c : Int) (X.tb e).size fun a n c => K (.slice a n c)
      | some m => match hi with
        | some hi => bnd lo 0 fun lo => bnd (some hi) 0 fun hi => bnd (some m) 0 fun m => slSl a n c lo hi m (X.tb e).size fun a n c => K (.slice a n c)
        | none => False
    | _, _ => False
  | true, .arr n e => match (X.tb e).known, v, mx with
    | true, .pointer (some p), none => bnd lo 0 fun lo => bnd hi (n : Int) fun hi => slSl (some p) n n lo hi (n : Int) (X.tb e).size fun a n c => K (.slice a n c)
    | _, _, _ => False
  | _, _ => False

theorem hp_sliceBound {h : Hp} {k : IntKind} {i : Int} {y : Nat} {c : BoundsCode} {K : Nat → Hp → Prop} (h0 : 0 ≤ i) (h1 : i ≤ (y : Int)) (hK : K i.toNat h) : hp P (Instr.sliceBound (.int k i) y c) h K := by
  unfold Instr.sliceBound
  simp only [asIntOf, hp_bind, hp_pure']
  rw [if_pos ⟨h0, h1⟩]
  exact hK

theorem hp_sliceBounds {h : Hp} {b : Bool} {n c : Nat} {lo hi : Option Value} {K : Nat × Nat × Nat → Hp → Prop} {Q : Int → Int → Prop}
    (hb : bnd lo 0 fun lo => bnd hi (n : Int) fun hi => Q lo hi)
    (hq : ∀ lo hi, Q lo hi → 0 ≤ lo ∧ lo ≤ hi ∧ hi ≤ (c : Int) ∧ K (lo.toNat, hi.toNat, c) h) :
    hp P (Instr.sliceBounds b n c lo hi none) h K := by
  unfold Instr.sliceBounds
  simp only [hp_bind, hp_pure']
  cases hi with
  | none =>
    cases lo with
    | none =>
      have := hq _ _ hb
      simp only [hp_pure', hp_bind]
      exact this.2.2.2
    | some lo =>
      cases lo <;> simp only [bnd] at hb <;> try exact hb.elim
      rename_i k i
      have := hq _ _ hb
      simp only [hp_pure', hp_bind]
      exact hp_sliceBound this.1 (by simpa using this.2.1) this.2.2.2
  | some hi =>
    cases lo with
    | none =>
      cases hi <;> simp only [bnd] at hb <;> try exact hb.elim
      have := hq _ _ hb
      dsimp only
      rw [hp_bind]
      refine hp_sliceBound (by omega) this.2.2.1 ?_
      simpa [hp_pure', hp_bind] using this.2.2.2
    | some lo =>
      cases lo <;> simp only [bnd] at hb <;> try exact hb.elim
      cases hi <;> simp only [] at hb <;> try exact hb.elim
      have := hq _ _ hb
      dsimp only
      rw [hp_bind]
      refine hp_sliceBound (by omega) this.2.2.1 ?_
      rw [hp_bind]
      exact hp_sliceBound this.1 (by have := this.2.1; omega) (by simpa [hp_pure'] using this.2.2.2)

theorem str_extract (s : ByteArray) (lo hi : Nat) : (⟨((s.data.toList.take hi).drop lo).toArray⟩ : ByteArray) = s.extract lo hi := by
  apply ByteArray.ext
  apply Array.ext'
  simp [ByteArray.data_extract, List.extract_eq_take_drop, List.drop_take]

theorem hp_slice {h : Hp} {t : TypeId} {v : Value} {lo hi mx : Option Value} {K : Value → Hp → Prop} (hh : sliceE X t v lo hi mx fun v => K v h) : hp P (Instr.sliceAt t v lo hi mx) h K := by
  unfold sliceE at hh
  split at hh
  · rename_i hk hd
    obtain ⟨i, d, z, T⟩ := X.known hk
    have hdd := T.desc
    rw [hd] at hdd
    cases d <;> simp [tdOf] at hdd
    split at hh
    · rename_i s
      unfold Instr.sliceAt
      rw [hp_bind, hp_und T.und]
      simp only []
      unfold Instr.slice
      rw [hp_bind, hp_und T.und]
      simp only [Option.isSome_none, Bool.false_eq_true, if_false]
      simp only [hp_bind]
      have hl : (s.data.toList.length : Int) = (s.size : Int) := by simp
      rw [hl] at hh
      refine hp_sliceBounds hh ?_
      intro lo hi hq
      refine ⟨hq.1, hq.2.1, by rw [← hl]; exact hq.2.2.1, ?_⟩
      rw [hp_pure', ← str_extract]
      exact hq.2.2.2
    · exact hh.elim
  · rename_i e hk hd
    obtain ⟨i, d, z, T⟩ := X.known hk
    have hdd := T.desc
    rw [hd] at hdd
    cases d <;> simp [tdOf] at hdd
    subst hdd
    split at hh
    · rename_i a n c hke
      obtain ⟨i', d', z', T'⟩ := X.known hke
      unfold Instr.sliceAt
      rw [hp_bind, hp_und T.und]
      simp only []
      unfold Instr.slice
      rw [hp_bind, hp_und T.und]
      simp only []
      rw [hp_bind]
      split at hh
      · refine hp_sliceBounds hh ?_
        intro lo hi hq
        refine ⟨hq.1, hq.2.1, hq.2.2.1, ?_⟩
        rw [hp_bind, hp_size T'.info, T'.size, hp_pure']
        have := hq.2.2.2.2
        simp only [Int.toNat_natCast] at this
        exact this
      · rename_i m
        split at hh
        · rename_i hi
          cases lo with
          | none =>
            cases hi <;> simp only [bnd] at hh <;> try exact hh.elim
            cases m <;> simp only [] at hh <;> try exact hh.elim
            obtain ⟨h1, h2, h3, h4, h5⟩ := hh
            unfold Instr.sliceBounds
            simp only [hp_bind]
            refine hp_sliceBound (by omega) h4 ?_
            refine hp_sliceBound (by omega) (by omega) ?_
            simp only [hp_pure']
            rw [hp_size T'.info, T'.size]
            exact h5
          | some lo =>
            cases lo <;> simp only [bnd] at hh <;> try exact hh.elim
            cases hi <;> simp only [] at hh <;> try exact hh.elim
            cases m <;> simp only [] at hh <;> try exact hh.elim
            obtain ⟨h1, h2, h3, h4, h5⟩ := hh
            unfold Instr.sliceBounds
            simp only [hp_bind]
            refine hp_sliceBound (by omega) h4 ?_
            refine hp_sliceBound (by omega) (by omega) ?_
            refine hp_sliceBound (by omega) (by omega) ?_
            simp only [hp_pure']
            rw [hp_size T'.info, T'.size]
            exact h5
        · exact hh.elim
    · exact hh.elim
  · rename_i n e hk hd
    obtain ⟨i, d, z, T⟩ := X.known hk
    have hdd := T.desc
    rw [hd] at hdd
    cases d <;> simp [tdOf] at hdd
    obtain ⟨rfl, rfl⟩ := hdd
    rename_i n e
    split at hh
    · rename_i p hke
      obtain ⟨i', d', z', T'⟩ := X.known hke
      unfold Instr.sliceAt
      rw [hp_bind, hp_und T.und]
      simp only []
      simp only [hp_bind, Instr.sureAddr, hp_pure']
      refine hp_sliceBounds hh ?_
      intro lo hi hq
      refine ⟨hq.1, hq.2.1, hq.2.2.1, ?_⟩
      rw [hp_size T'.info, T'.size]
      have := hq.2.2.2.2
      simp only [Int.toNat_natCast] at this
      by_cases hc : n = lo.toNat
      · rw [if_pos hc] at this ⊢; exact this
      · rw [if_neg hc] at this ⊢; exact this
    · exact hh.elim
  · exact hh.elim

def extractE (v : Value) (i : Nat) (K : Value → Prop) : Prop :=
  match v with
  | .tuple vs => match vs.toList[i]? with
    | some v => K v
    | none => False
  | _ => False

theorem hp_extract {h : Hp} {v : Value} {i : Nat} {K : Value → Hp → Prop} (hh : extractE v i fun v => K v h) : hp P (Instr.extract v i) h K := by
  unfold extractE at hh
  split at hh
  · rename_i vs
    unfold Instr.extract
    simp only [Array.getElem?_toList] at hh
    cases hx : vs[i]? with
    | none => simp [hx] at hh
    | some v => simpa [hx, hp_pure'] using hh
  · exact hh.elim

/-- A new slice of zeros. -/
def mkSl (e : TypeId) (bytes : Nat) (zero : List Value) (l c : Int) (h : Hp) (K : Nat → Hp → Prop) : Prop :=
  0 ≤ l ∧ l ≤ c ∧ c ≤ 140737488355328 ∧ (bytes : Int) * c ≤ 140737488355328 ∧ newE h (.cells (repL c.toNat zero).toArray e) K

def makeSlE (t : TypeId) (l c : Value) (h : Hp) (K : Value → Hp → Prop) : Prop :=
  match (X.tb t).known, (X.tb t).desc with
  | true, .slice e => match (X.tb e).known, (X.tb e).size, l, c with
    | true, _ + 1, .int _ l, .int _ c => mkSl e (X.tb e).bytes (X.tb e).zero l c h fun b h' => K (.slice (some ⟨b, 0, none⟩) l.toNat c.toNat) h'
    | _, _, _, _ => False
  | _, _ => False

theorem wrap_id {n : Int} (h0 : 0 ≤ n) (h1 : n ≤ 140737488355328) : IntKind.i64.wrap n = n := by
  have e : n % (2 ^ IntKind.i64.bits : Int) = n := Int.emod_eq_of_lt h0 (by simp [IntKind.bits]; omega)
  unfold IntKind.wrap
  simp only [e]
  rw [if_neg]
  simp [IntKind.bits]
  intro _
  omega

theorem hp_makeSl {h : Hp} {t : TypeId} {l c : Value} {K : Value → Hp → Prop} (hh : makeSlE X t l c h K) : hp P (Instr.makeSlice t l c) h K := by
  unfold makeSlE at hh
  split at hh
  · rename_i e hk hd
    obtain ⟨i, d, z, T⟩ := X.known hk
    have hdd := T.desc
    rw [hd] at hdd
    cases d <;> simp [tdOf] at hdd
    subst hdd
    rename_i e
    split at hh
    · rename_i m kl l kc c hke hs
      obtain ⟨i', d', z', T'⟩ := X.known hke
      obtain ⟨h1, h2, h3, h4, h5⟩ := hh
      unfold Instr.makeSlice
      rw [hp_bind, hp_und T.und]
      simp only [asInt, asIntOf, hp_bind, hp_pure']
      rw [hp_info T'.info]
      rw [wrap_id (by omega) h3, wrap_id h1 (by omega), T'.bytes]
      rw [if_neg (by
        simp only [Bool.or_eq_true, decide_eq_true_eq]
        omega)]
      have hask : ∀ {K' : Unit → Hp → Prop} {b : Nat}, K' () h → hp P (askRoom b) h K' := by
        intro K' b hK
        unfold askRoom
        split
        · exact hK
        · exact hK
      simp only [hp_bind]
      refine hask ?_
      rw [hp_size T'.info, T'.size]
      have hzl : (X.tb e).zero.length = (X.tb e).size := T'.zlen
      have fin : ∀ zz : Array Value, (Array.range (c.toNat * (X.tb e).size)).map (fun i => zz[i % zz.size]!) = (repL c.toNat (X.tb e).zero).toArray →
          hp P (do
            let a ← newRow e ((Array.range (c.toNat * (X.tb e).size)).map (fun i => zz[i % zz.size]!))
            pure (.slice (some a) l.toNat c.toNat)) h K := by
        intro zz hzz
        rw [hzz, hp_bind]
        unfold newRow
        rw [hp_bind]
        exact h5
      split
      · rename_i h0
        refine fin #[] ?_
        have : c.toNat = 0 := by
          rcases Nat.mul_eq_zero.1 h0 with h | h
          · exact h
          · omega
        rw [this]
        simp [repL]
      · rw [hp_bind, hp_zero T'.info T'.zero, T'.zcells]
        refine fin _ ?_
        have := rep_range c.toNat (X.tb e).zero.toArray (by simp; omega)
        simp only [List.size_toArray, hzl] at this
        simpa [hzl] using this
    · exact hh.elim
  · exact hh.elim

end Go.Proofs.Ytckdkgphkjbbnaa.Hw

/- The heap logic: unary, conversions, builtins. -/
import Derived.Test.YtckdkgphkjbbnaaCl5
set_option linter.unusedVariables false
set_option linter.unusedSimpArgs false
namespace Go.Proofs.Ytckdkgphkjbbnaa.Hw

variable {P : Program} (X : Cx P)

def unE (op : UnOp) (v : Value) (K : Value → Prop) : Prop :=
  match op, v with
  | .not, .bool b => K (.bool (!b))
  | .neg, .int k n => K (.int k (k.wrap (0 - n)))
  | .xor, .int k n => intBin .xor k (if k.signed then -1 else k.max) n K
  | _, _ => False

theorem hp_un {op : UnOp} {v : Value} {h : Hp} {K : Value → Hp → Prop} (hh : unE op v fun v => K v h) : hp P (Op.unary op v) h K := by
  unfold unE at hh
  split at hh
  · exact hh
  · simpa [Op.unary, Op.intArith, hp_pure'] using hh
  · simpa [Op.unary, Op.intBits, hp_pure', intBin] using hh
  · exact hh.elim

/-- Bytes that lie in a row. -/
def bytesAt (h : Hp) (a : Option Addr) (n : Nat) (l : List UInt8) : Prop :=
  match a with
  | none => l = []
  | some p => l.length = n ∧ rowAt h p 0 (l.map byteV)

theorem upd_upd (h : Hp) (b : Nat) (o o' : Obj) : upd (upd h b o) b o' = upd h b o' := by
  funext c
  simp only [upd]
  split <;> rfl

/-- Bytes made of a string: a new block. -/
def newBytes (e : TypeId) (l : List UInt8) (h : Hp) (K : Nat → Nat → Hp → Prop) : Prop :=
  ∀ cap, l.length ≤ cap → newE h (.cells (l.map byteV ++ List.replicate (cap - l.length) (Value.int .u8 0)).toArray e (cap, cap + 1)) fun b h' => K b cap h'

def convE (src dst : TypeId) (v : Value) (h : Hp) (K : Value → Hp → Prop) : Prop :=
  match (X.tb src).known, (X.tb dst).known, (X.tb src).desc, (X.tb dst).desc with
  | true, true, _, .int k => match v with
    | .int _ n => K (.int k (k.wrap n)) h
    | _ => False
  | true, true, .slice e, .str => match (X.tb e).known, (X.tb e).desc, v with
    | true, .int .u8, .slice a n _ => ∃ l : List UInt8, bytesAt h a n l ∧ K (.string ⟨l.toArray⟩) h
    | _, _, _ => False
  | true, true, _, .str => match v with
    | .string s => K (.string s) h
    | _ => False
  | true, true, _, .slice e => match (X.tb e).known, (X.tb e).desc, v with
    | true, .int .u8, .string s => newBytes e s.data.toList h fun b cap h' => K (.slice (some ⟨b, 0, none⟩) s.data.toList.length cap) h'
    | _, _, _ => False
  | _, _, _, _ => False

theorem forIn_bytes {h : Hp} {K : ByteArray → Hp → Prop} : ∀ (l : List UInt8) (acc : ByteArray), K (acc ++ ⟨l.toArray⟩) h →
    hp P (forIn (l.map byteV) acc fun c r => do
      let .int .u8 n := c | stuck "bytesToString: byte expected"
      pure (ForInStep.yield (r.push (UInt8.ofNat n.toNat)))) h K := by
  intro l
  induction l with
  | nil =>
    intro acc hK
    have : acc ++ (⟨([] : List UInt8).toArray⟩ : ByteArray) = acc := by apply ByteArray.ext; simp
    rw [this] at hK
    simpa [hp_pure'] using hK
  | cons x l ih =>
    intro acc hK
    simp only [List.map_cons, List.forIn_cons, byteV]
    rw [hp_bind, hp_pure']
    refine ih _ ?_
    have : acc.push (UInt8.ofNat (x.toNat : Int).toNat) ++ (⟨l.toArray⟩ : ByteArray) = acc ++ ⟨(x :: l).toArray⟩ := by
      apply ByteArray.ext
      apply Array.ext'
      simp
    rw [this]
    exact hK

theorem adm_cap {need old : Nat} {e : TypeId} {n : Nat} (h : adm (.appendCap need old e) n) : need ≤ n := by
  simp only [adm, Question.forced, Bool.false_eq_true, if_false, Question.cut] at h
  obtain ⟨t, rfl⟩ := h
  omega

theorem hp_conv {src dst : TypeId} {v : Value} {h : Hp} {K : Value → Hp → Prop} (hh : convE X src dst v h K) : hp P (convert src dst v) h K := by
  unfold convE at hh
  split at hh
  · rename_i k hks hkd hd
    obtain ⟨i, d, z, T⟩ := X.known hks
    obtain ⟨i', d', z', T'⟩ := X.known hkd
    have hdd := T'.desc
    rw [hd] at hdd
    cases d' <;> simp [tdOf] at hdd
    subst hdd
    unfold convert
    rw [hp_bind, hp_und T.und, hp_bind, hp_und T'.und]
    split at hh
    · exact hh
    · exact hh.elim
  · rename_i e hks hkd hs hd
    obtain ⟨i, d, z, T⟩ := X.known hks
    obtain ⟨i', d', z', T'⟩ := X.known hkd
    have hdd := T'.desc
    rw [hd] at hdd
    cases d' <;> simp [tdOf] at hdd
    have hds := T.desc
    rw [hs] at hds
    cases d <;> simp [tdOf] at hds
    subst hds
    unfold convert
    rw [hp_bind, hp_und T.und, hp_bind, hp_und T'.und]
    split at hh
    · rename_i a n c hke hde
      obtain ⟨l, hl, hK⟩ := hh
      obtain ⟨ie, de, ze, Te⟩ := X.known hke
      have hdde := Te.desc
      rw [hde] at hdde
      cases de <;> simp [tdOf] at hdde
      subst hdde
      simp only []
      rw [hp_bind, hp_und Te.und]
      simp only []
      unfold Conv.bytesToString
      cases a with
      | none =>
        simp only [bytesAt] at hl
        subst hl
        exact hK
      | some p =>
        obtain ⟨hn, hr⟩ := hl
        simp only [hp_bind]
        refine hp_loadCells (vs := l.map byteV) (by simp [hn]) hr ?_
        simp only [List.forIn_toArray]
        refine forIn_bytes l ByteArray.empty ?_
        have : ByteArray.empty ++ (⟨l.toArray⟩ : ByteArray) = ⟨l.toArray⟩ := by apply ByteArray.ext; simp
        rw [this]
        exact hK
    · exact hh.elim
  · rename_i hks hkd hd hno
    obtain ⟨i, d, z, T⟩ := X.known hks
    obtain ⟨i', d', z', T'⟩ := X.known hkd
    have hdd := T'.desc
    rw [hd] at hdd
    cases d' <;> simp [tdOf] at hdd
    unfold convert
    rw [hp_bind, hp_und T.und, hp_bind, hp_und T'.und]
    split at hh
    · exact hh
    · exact hh.elim
  · rename_i e hks hkd hd
    obtain ⟨i, d, z, T⟩ := X.known hks
    obtain ⟨i', d', z', T'⟩ := X.known hkd
    have hdd := T'.desc
    rw [hd] at hdd
    cases d' <;> simp [tdOf] at hdd
    subst hdd
    unfold convert
    rw [hp_bind, hp_und T.und, hp_bind, hp_und T'.und]
    split at hh
    · rename_i s hke hde
      obtain ⟨ie, de, ze, Te⟩ := X.known hke
      have hdde := Te.desc
      rw [hde] at hdde
      cases de <;> simp [tdOf] at hdde
      subst hdde
      simp only []
      rw [hp_bind, hp_und Te.und]
      simp only []
      unfold Conv.stringToBytes
      rw [hp_bind, hp_choose]
      intro cap hcap
      have hc := adm_cap hcap
      have hlen : s.data.toList.length = s.size := by simp
      rw [hp_bind]
      unfold newRow
      rw [hp_bind, hp_newObj]
      intro b hb
      rw [hp_pure', hp_bind]
      unfold markStringish
      rw [hp_bind, hp_shape]
      refine ⟨_, upd_same _ _ _, ?_⟩
      simp only [shapeOf]
      rw [hp_freeze]
      refine ⟨_, upd_same _ _ _, ?_⟩
      simp only [hp_pure', Nat.one_ne_zero, if_false, freezeOf, BEq.rfl, if_true, upd_upd]
      have h2 := hh cap (by omega) b hb
      have e1 : (Array.map (fun b => Value.int IntKind.u8 ↑b.toNat) s.data ++ Array.replicate (cap - s.size) (Value.int .u8 0)) = (s.data.toList.map byteV ++ List.replicate (cap - s.data.toList.length) (Value.int .u8 0)).toArray := by
        apply Array.ext'
        simp [byteV, hlen]
      have e2 : ((Array.map (fun b => Value.int IntKind.u8 ↑b.toNat) s.data) ++ Array.replicate (cap - s.size) (Value.int .u8 0)).size = cap := by
        simp
        have : s.data.size = s.size := rfl
        omega
      rw [e2, e1]
      rw [hlen] at h2
      rw [hlen]
      exact h2
    · exact hh.elim
  · exact hh.elim

end Go.Proofs.Ytckdkgphkjbbnaa.Hw

/- Bits read from their other end: contracts of bits.Reverse64, hash.Turn, hash.Next. -/
import Derived.Test.YtckdkgphkjbbnaaZHash
set_option linter.unusedVariables false
set_option linter.unusedSimpArgs false
namespace Go.Proofs.Ytckdkgphkjbbnaa.Hw
open Go.Proofs

/-- The lowest bits of a number, from their other end. -/
def rv : Nat → Nat → Nat
  | 0, _ => 0
  | s + 1, m => m % 2 * 2 ^ s + rv s (m / 2)

theorem rv_lt : ∀ s m, rv s m < 2 ^ s := by
  intro s
  induction s with
  | zero => intro m; simp [rv]
  | succ s ih =>
    intro m
    have := ih (m / 2)
    have h2 : m % 2 < 2 := Nat.mod_lt _ (by omega)
    have h3 : m % 2 = 0 ∨ m % 2 = 1 := by omega
    simp only [rv, Nat.pow_succ]
    rcases h3 with h | h <;> rw [h] <;> omega

theorem rv_bit : ∀ s m i, (rv s m).testBit i = (decide (i < s) && m.testBit (s - 1 - i)) := by
  intro s
  induction s with
  | zero => intro m i; simp [rv]
  | succ s ih =>
    intro m i
    have hl := rv_lt s (m / 2)
    simp only [rv]
    rw [Nat.mul_comm, Nat.testBit_two_pow_mul_add _ hl]
    by_cases h1 : i < s
    · rw [if_pos h1, ih]
      have e : s + 1 - 1 - i = (s - 1 - i) + 1 := by omega
      rw [e, Nat.testBit_succ]
      simp [h1, Nat.lt_succ_of_lt h1]
    · rw [if_neg h1]
      by_cases h2 : i = s
      · subst h2
        simp [Nat.testBit_zero]
      · have : i - s = (i - s - 1) + 1 := by omega
        rw [this, Nat.testBit_succ]
        have : m % 2 / 2 = 0 := by omega
        simp [this]
        omega

theorem rv_rv (s m : Nat) : rv s (rv s m) = m % 2 ^ s := by
  apply Nat.eq_of_testBit_eq
  intro i
  rw [rv_bit, rv_bit, Nat.testBit_mod_two_pow]
  by_cases h : i < s
  · have h1 : s - 1 - i < s := by omega
    have h2 : s - 1 - (s - 1 - i) = i := by omega
    simp [h, h1, h2]
  · simp [h]

theorem rv_mod (s m : Nat) : rv s (m % 2 ^ s) = rv s m := by
  apply Nat.eq_of_testBit_eq
  intro i
  rw [rv_bit, rv_bit, Nat.testBit_mod_two_pow]
  by_cases h : i < s
  · have h1 : s - 1 - i < s := by omega
    simp [h, h1]
  · simp [h]

theorem rv_up (s m : Nat) (hs : s ≤ 64) (hm : m < 2 ^ s) : rv 64 m / 2 ^ (64 - s) = rv s m := by
  apply Nat.eq_of_testBit_eq
  intro i
  rw [← Nat.shiftRight_eq_div_pow, Nat.testBit_shiftRight, rv_bit, rv_bit]
  by_cases h : i < s
  · have h1 : 64 - s + i < 64 := by omega
    have h2 : 64 - 1 - (64 - s + i) = s - 1 - i := by omega
    simp [h, h1, h2]
  · have h1 : ¬ 64 - s + i < 64 := by omega
    simp [h, h1]

/-- One swap of neighbours. -/
def swp (k : Nat) (m x : BitVec 64) : BitVec 64 := ((x >>> k) &&& m) ||| ((x &&& m) <<< k)

def sg (k i : Nat) : Nat := if (i / k) % 2 = 0 then i + k else i - k

theorem swp_bit {k : Nat} {m : BitVec 64} (hk : 0 < k) (hm : ∀ i : _root_.Fin 64, m.getLsbD i = decide ((i.val / k) % 2 = 0)) (h64 : ∀ i : _root_.Fin 64, sg k i.val < 64) (x : BitVec 64) (i : Nat) (hi : i < 64) : (swp k m x).getLsbD i = x.getLsbD (sg k i) := by
  have h1 := hm ⟨i, hi⟩
  have h3 := h64 ⟨i, hi⟩
  simp only at h1 h3
  unfold swp
  simp only [BitVec.getLsbD_or, BitVec.getLsbD_and, BitVec.getLsbD_ushiftRight, BitVec.getLsbD_shiftLeft, h1]
  unfold sg at *
  split at h3
  · rename_i h0
    simp only [h0, decide_true, Bool.and_true, if_true]
    rw [Nat.add_comm k i]
    by_cases hki : i < k
    · simp [hki]
    · have h2 := hm ⟨i - k, by omega⟩
      simp only at h2
      have e : (i - k) / k % 2 = 1 := by
        have : i / k = (i - k) / k + 1 := by
          rw [← Nat.add_div_right _ hk]
          congr 1
          omega
        omega
      rw [h2]
      simp [e]
  · rename_i h0
    have hik : ¬ i < k := by
      intro h
      rw [Nat.div_eq_of_lt h] at h0
      simp at h0
    have h2 := hm ⟨i - k, by omega⟩
    simp only at h2
    have e : (i - k) / k % 2 = 0 := by
      have : i / k = (i - k) / k + 1 := by
        rw [← Nat.add_div_right _ hk]
        congr 1
        omega
      omega
    rw [h2]
    simp [h0, e, hik, hi]

theorem rot_bit (x : BitVec 64) (i : Nat) (hi : i < 64) : ((x >>> 32) ||| (x <<< 32)).getLsbD i = x.getLsbD (sg 32 i) := by
  simp only [BitVec.getLsbD_or, BitVec.getLsbD_ushiftRight, BitVec.getLsbD_shiftLeft]
  unfold sg
  by_cases h : i < 32
  · have : i / 32 % 2 = 0 := by omega
    simp [h, this, Nat.add_comm]
  · have : i / 32 % 2 = 1 := by omega
    have h2 : 64 ≤ 32 + i := by omega
    simp [h, this, hi, BitVec.getLsbD_of_ge _ _ h2]

def m0 : BitVec 64 := BitVec.ofInt 64 6148914691236517205
def m1 : BitVec 64 := BitVec.ofInt 64 3689348814741910323
def m2 : BitVec 64 := BitVec.ofInt 64 1085102592571150095
def m3 : BitVec 64 := BitVec.ofInt 64 71777214294589695
def m4 : BitVec 64 := BitVec.ofInt 64 281470681808895

theorem m0_bit : ∀ i : _root_.Fin 64, m0.getLsbD i = decide ((i.val / 1) % 2 = 0) := by decide +kernel
theorem m1_bit : ∀ i : _root_.Fin 64, m1.getLsbD i = decide ((i.val / 2) % 2 = 0) := by decide +kernel
theorem m2_bit : ∀ i : _root_.Fin 64, m2.getLsbD i = decide ((i.val / 4) % 2 = 0) := by decide +kernel
theorem m3_bit : ∀ i : _root_.Fin 64, m3.getLsbD i = decide ((i.val / 8) % 2 = 0) := by decide +kernel
theorem m4_bit : ∀ i : _root_.Fin 64, m4.getLsbD i = decide ((i.val / 16) % 2 = 0) := by decide +kernel
theorem s0 : ∀ i : _root_.Fin 64, sg 1 i.val < 64 := by decide +kernel
theorem s1 : ∀ i : _root_.Fin 64, sg 2 i.val < 64 := by decide +kernel
theorem s2 : ∀ i : _root_.Fin 64, sg 4 i.val < 64 := by decide +kernel
theorem s3 : ∀ i : _root_.Fin 64, sg 8 i.val < 64 := by decide +kernel
theorem s4 : ∀ i : _root_.Fin 64, sg 16 i.val < 64 := by decide +kernel
theorem s5 : ∀ i : _root_.Fin 64, sg 32 i.val < 64 := by decide +kernel

def rb (x : BitVec 64) : BitVec 64 := let y := swp 16 m4 (swp 8 m3 x); (y >>> 32) ||| (y <<< 32)
def rw64 (x : BitVec 64) : BitVec 64 := rb (swp 4 m2 (swp 2 m1 (swp 1 m0 x)))

theorem all_sg : ∀ i : _root_.Fin 64, sg 1 (sg 2 (sg 4 (sg 8 (sg 16 (sg 32 i.val))))) = 63 - i.val := by decide +kernel

theorem rw64_bit (x : BitVec 64) (i : Nat) (hi : i < 64) : (rw64 x).getLsbD i = x.getLsbD (63 - i) := by
  have e := all_sg ⟨i, hi⟩
  simp only at e
  unfold rw64 rb
  simp only []
  have h5 : sg 32 i < 64 := s5 ⟨i, hi⟩
  have h4 : sg 16 (sg 32 i) < 64 := s4 ⟨_, h5⟩
  have h3 : sg 8 (sg 16 (sg 32 i)) < 64 := s3 ⟨_, h4⟩
  have h2 : sg 4 (sg 8 (sg 16 (sg 32 i))) < 64 := s2 ⟨_, h3⟩
  have h1 : sg 2 (sg 4 (sg 8 (sg 16 (sg 32 i)))) < 64 := s1 ⟨_, h2⟩
  rw [rot_bit _ _ hi, swp_bit (by omega) m4_bit s4 _ _ h5, swp_bit (by omega) m3_bit s3 _ _ h4, swp_bit (by omega) m2_bit s2 _ _ h3, swp_bit (by omega) m1_bit s1 _ _ h2, swp_bit (by omega) m0_bit s0 _ _ h1, e]

theorem rw64_rv (x : BitVec 64) : (rw64 x).toNat = rv 64 x.toNat := by
  apply Nat.eq_of_testBit_eq
  intro i
  rw [rv_bit]
  by_cases hi : i < 64
  · have := rw64_bit x i hi
    simp only [BitVec.getLsbD] at this
    simp [this, hi]
  · have h2 : (rw64 x).toNat.testBit i = false := by
      have := BitVec.getLsbD_of_ge (rw64 x) i (by omega)
      simpa [BitVec.getLsbD] using this
    simp [h2, hi]

/-! The formulas in words of 64 bits. -/

theorem of_to (x : BitVec 64) : BitVec.ofInt 64 (x.toNat : Int) = x := by
  rw [BitVec.ofInt_natCast]
  simp

theorem w_to (x : BitVec 64) : IntKind.wrap .u64 (x.toNat : Int) = (x.toNat : Int) := wu64 (by omega) (by have := x.isLt; omega)

theorem shr_to (x : BitVec 64) (k : Nat) : Int.fdiv (x.toNat : Int) (2 ^ k) = ((x >>> k).toNat : Int) := by
  rw [pow_int, Int.fdiv_eq_ediv_of_nonneg _ (Int.natCast_nonneg _)]
  simp [Nat.shiftRight_eq_div_pow]

theorem shl_to (x : BitVec 64) (k : Nat) : IntKind.wrap .u64 ((x.toNat : Int) * 2 ^ k) = ((x <<< k).toNat : Int) := by
  unfold IntKind.wrap
  simp only [IntKind.signed, IntKind.bits, Bool.false_and, Bool.false_eq_true, if_false]
  rw [BitVec.toNat_shiftLeft, Nat.shiftLeft_eq, pow_int]
  simp

theorem b64 : IntKind.bits .u64 = 64 := rfl

theorem RevBytes_ok (x : BitVec 64) {h : Hp} {K : Value → Hp → Prop} (hK : K (.int .u64 ((rb x).toNat : Int)) h) : CallH Try.prog 145 #[.int .u64 (x.toNat : Int)] h K := by
  apply F145_ok
  unfold F145
  refine ⟨by omega, by omega, by omega, by omega, by omega, by omega, ?_⟩
  have a8 : min (Int.toNat (8 : Int)) 64 = 8 := rfl
  have a16 : min (Int.toNat (16 : Int)) 64 = 16 := rfl
  have a32 : min (Int.toNat (32 : Int)) 64 = 32 := rfl
  dsimp only [IntKind.bits]
  simp only [a8, a16, a32, of_to, shr_to, w_to, shl_to]
  exact hK

theorem Rev_ok (x : BitVec 64) {h : Hp} {K : Value → Hp → Prop} (hK : K (.int .u64 ((rv 64 x.toNat : Nat) : Int)) h) : CallH Try.prog 140 #[.int .u64 (x.toNat : Int)] h K := by
  apply F140_ok
  unfold F140
  refine ⟨by omega, by omega, by omega, by omega, by omega, by omega, ?_⟩
  have a1 : min (Int.toNat (1 : Int)) 64 = 1 := rfl
  have a2 : min (Int.toNat (2 : Int)) 64 = 2 := rfl
  have a4 : min (Int.toNat (4 : Int)) 64 = 4 := rfl
  dsimp only [IntKind.bits]
  simp only [a1, a2, a4, of_to, shr_to, w_to, shl_to]
  refine RevBytes_ok _ ⟨_, rfl, ?_⟩
  rw [← rw64_rv] at hK
  exact hK

/-- A number, read from its other end. -/
def hTurn (n b : Int) : Nat := rv (hSize b).toNat n.toNat

theorem hTurn_lt (n b : Int) : hTurn n b < 2 ^ (hSize b).toNat := rv_lt _ _

theorem Turn_ok {n b : Int} (h0 : 0 ≤ n) (h1 : n < 18446744073709551616) {h : Hp} {K : Value → Hp → Prop} (hK : K (.int .u64 (hTurn n b : Int)) h) : CallH Try.prog 124 #[.int .u64 n, .int .i64 b] h K := by
  apply F124_ok
  unfold F124
  refine size_ok ⟨_, rfl, ?_⟩
  have hr := hSize_range b
  constructor
  · intro he
    have : hSize b = 0 := by simpa using he
    have h2 : hTurn n b = 0 := by unfold hTurn; rw [this]; rfl
    rw [h2] at hK
    exact hK
  · intro he
    have hne : hSize b ≠ 0 := by simpa using he
    refine low_ok h0 h1 ⟨_, rfl, ?_⟩
    have hl := hLow_range n b
    have hp := pow_le16 (k := (hSize b).toNat) (by omega)
    obtain ⟨m, hm⟩ := Int.eq_ofNat_of_zero_le hl.1
    have hm2 : m < 2 ^ (hSize b).toNat := by
      have := hl.2
      rw [hm, pow_int] at this
      omega
    have hx : (((BitVec.ofNat 64 m).toNat : Nat) : Int) = hLow n b := by
      rw [hm, BitVec.toNat_ofNat, Nat.mod_eq_of_lt (by omega)]
    rw [← hx]
    refine Rev_ok _ ⟨_, rfl, ?_⟩
    refine size_ok ⟨_, rfl, ?_⟩
    rw [w64 (by omega) (by omega)]
    refine ⟨by omega, ?_⟩
    have e1 : min (Int.toNat ((64 : Int) - hSize b)) (IntKind.bits .u64) = 64 - (hSize b).toNat := by
      rw [b64]; omega
    rw [e1]
    have e2 : (BitVec.ofNat 64 m).toNat = m := by rw [BitVec.toNat_ofNat, Nat.mod_eq_of_lt (by omega)]
    rw [e2]
    have e3 : Int.fdiv ((rv 64 m : Nat) : Int) (2 ^ (64 - (hSize b).toNat)) = (hTurn n b : Int) := by
      rw [pow_int, Int.fdiv_eq_ediv_of_nonneg _ (Int.natCast_nonneg _)]
      have := rv_up (hSize b).toNat m (by omega) hm2
      rw [← Int.natCast_ediv, this]
      unfold hTurn
      have e4 : m = n.toNat % 2 ^ (hSize b).toNat := by
        unfold hLow at hm
        obtain ⟨k, rfl⟩ := Int.eq_ofNat_of_zero_le h0
        rw [pow_int] at hm
        have : ((k % 2 ^ (hSize b).toNat : Nat) : Int) = (m : Int) := by rw [← hm]; simp
        simp only [Int.toNat_natCast]
        omega
      rw [e4, rv_mod]
    rw [e3]
    exact hK

/-- The cursor behind one. -/
def hNext (cursor b : Int) : Int := hTurn ((hTurn cursor b : Int) + 1) b

theorem Next_ok {n b : Int} (h0 : 0 ≤ n) (h1 : n < 18446744073709551616) {h : Hp} {K : Value → Hp → Prop} (hK : K (.int .u64 (hNext n b)) h) : CallH Try.prog 103 #[.int .u64 n, .int .i64 b] h K := by
  apply F103_ok
  unfold F103
  refine Turn_ok h0 h1 ⟨_, rfl, ?_⟩
  have hr := hSize_range b
  have hp := pow_le16 (k := (hSize b).toNat) (by omega)
  have hl := hTurn_lt n b
  rw [wu64 (by omega) (by omega)]
  exact Turn_ok (by omega) (by omega) ⟨_, rfl, hK⟩

/-- From one cursor to the next: the turned numbers, one behind the other. -/
theorem hNext_rv (b : Int) (i : Nat) (hi : i < 2 ^ (hSize b).toNat) : hNext ((rv (hSize b).toNat i : Nat) : Int) b = ((rv (hSize b).toNat (i + 1) : Nat) : Int) := by
  unfold hNext hTurn
  simp only [Int.toNat_natCast]
  rw [rv_rv, Nat.mod_eq_of_lt hi]
  congr 2

end Go.Proofs.Ytckdkgphkjbbnaa.Hw

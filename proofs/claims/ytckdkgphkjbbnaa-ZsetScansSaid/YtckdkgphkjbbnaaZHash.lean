/- Contracts of package hash. -/
import Derived.Test.YtckdkgphkjbbnaaUse
import Derived.Test.YtckdkgphkjbbnaaZall
set_option linter.unusedVariables false
set_option linter.unusedSimpArgs false
namespace Go.Proofs.Ytckdkgphkjbbnaa.Hw
open Go.Proofs

def hStep (h : Int) (c : UInt8) : Int :=
  IntKind.wrap .u64 ((IntKind.wrap .u64 ((BitVec.ofInt (IntKind.bits .u64) h ^^^ BitVec.ofInt (IntKind.bits .u64) (IntKind.wrap .u64 (c.toNat : Int))).toNat : Int)) * (1099511628211 : Int))

def hFin (h k : Int) : Int :=
  IntKind.wrap .u64 ((IntKind.wrap .u64 ((BitVec.ofInt (IntKind.bits .u64) h ^^^ BitVec.ofInt (IntKind.bits .u64) (Int.fdiv h (2 ^ (min (Int.toNat (33 : Int)) (IntKind.bits .u64))))).toNat : Int)) * k)

/-- A text's number (sealed: the kernel is not to compute it). -/
def hOf' (seed : Int) (s : List UInt8) : Int :=
  hFin (hFin (hFin (s.foldl hStep (IntKind.wrap .u64 ((BitVec.ofInt (IntKind.bits .u64) (14695981039346656037 : Int) ^^^ BitVec.ofInt (IntKind.bits .u64) seed).toNat : Int))) 18397679294719823053) 14181476777654086739) 1

theorem hOf_ex : ∃ f : Int → List UInt8 → Int, f = hOf' := ⟨_, rfl⟩
noncomputable def hOf : Int → List UInt8 → Int := hOf_ex.choose
theorem hOf_eq : hOf = hOf' := hOf_ex.choose_spec

theorem hOf_range (seed : Int) (s : List UInt8) : 0 ≤ hOf seed s ∧ hOf seed s < 18446744073709551616 := by rw [hOf_eq]; exact u64_range _

theorem Of_ok {seed : Int} {s : List UInt8} {h : Hp} {K : Value → Hp → Prop} (hs : (s.length : Int) ≤ 9223372036854775806) (hK : K (.int .u64 (hOf seed s)) h) :
    CallH Try.prog 100 #[.int .u64 seed, .string ⟨s.toArray⟩] h K := by
  apply F100_ok
  rw [hOf_eq] at hK
  unfold F100
  intro K1 hK1 W2 hW2
  have l1 : ∀ a, K (.int .u64 (hFin (hFin (hFin a 18397679294719823053) 14181476777654086739) 1)) h → K1 [.int .u64 a] h := by
    intro a ha
    refine hK1 _ _ fun _ => ?_
    intro K2 hK2 W1 hW1
    refine hW1 _ _ _ fun _ => ⟨fun _ => ⟨by omega, by omega, _, rfl, by omega, ?_⟩, fun hx => by simp at hx⟩
    rw [w64 (by omega) (by omega)]
    refine hW1 _ _ _ fun _ => ⟨fun _ => ⟨by omega, by omega, _, rfl, by omega, ?_⟩, fun hx => by simp at hx⟩
    rw [w64 (by omega) (by omega)]
    refine hW1 _ _ _ fun _ => ⟨fun _ => ⟨by omega, by omega, _, rfl, by omega, ?_⟩, fun hx => by simp at hx⟩
    rw [w64 (by omega) (by omega)]
    refine hW1 _ _ _ fun _ => ⟨fun hx => by simp at hx, fun _ => ?_⟩
    exact hK2 _ _ fun _ => ha
  have l2 : ∀ (l : List UInt8) (i : Nat) (a : Int), s.drop i = l → i ≤ s.length → K1 [.int .u64 (l.foldl hStep a)] h → W2 [.int .u64 a, .int .i64 (i : Int)] h := by
    intro l
    induction l with
    | nil =>
      intro i a hd hi hk
      have : s.length ≤ i := by simpa using hd
      refine hW2 _ _ _ fun _ => ⟨fun hx => ?_, fun _ => hk⟩
      simp at hx; omega
    | cons c l ih =>
      intro i a hd hi hk
      have hlt : i < s.length := by
        rcases Nat.lt_or_ge i s.length with h1 | h1
        · exact h1
        · rw [List.drop_eq_nil_of_le h1] at hd; cases hd
      refine hW2 _ _ _ fun _ => ⟨fun _ => ⟨by omega, by omega, ?_⟩, fun hx => ?_⟩
      · rw [w64 (by omega) (by omega)]
        have hc : s.getD i 0 = c := by
          have : (s.drop i)[0]? = some c := by rw [hd]; rfl
          simp at this
          rw [List.getD_eq_getElem?_getD, this]; rfl
        have hd' : s.drop (i + 1) = l := by
          have : (s.drop i).tail = l := by rw [hd]; rfl
          simpa using this
        have := ih (i + 1) (hStep a c) hd' hlt hk
        simp only [Int.toNat_natCast, hc]
        exact this
      · simp at hx; omega
  exact l2 s 0 _ rfl (by omega) (l1 _ hK)

/-- A table's size, as it counts. -/
def hSize (b : Int) : Int := if 16 < (if 0 > b then 0 else b) then 16 else (if 0 > b then 0 else b)

theorem size_ok {b : Int} {h : Hp} {K : Value → Hp → Prop} (hK : K (.int .i64 (hSize b)) h) : CallH Try.prog 139 #[.int .i64 b] h K := F139_ok hK

theorem hSize_le {b : Int} (h0 : 0 ≤ b) (h1 : b ≤ 16) : hSize b = b := by unfold hSize; split <;> split at * <;> omega

theorem hSize_range (b : Int) : 0 ≤ hSize b ∧ hSize b ≤ 16 := by unfold hSize; split <;> split at * <;> omega

/-- A number's lowest bits. -/
def hLow (n b : Int) : Int := n % 2 ^ (hSize b).toNat

theorem pow_le16 {k : Nat} (hk : k ≤ 16) : 1 ≤ 2 ^ k ∧ 2 ^ k ≤ 65536 := by
  refine ⟨Nat.one_le_two_pow, ?_⟩
  exact Nat.pow_le_pow_right (by omega) hk

theorem hLow_range (n b : Int) : 0 ≤ hLow n b ∧ hLow n b < 2 ^ (hSize b).toNat := by
  unfold hLow
  have : (0 : Int) < 2 ^ (hSize b).toNat := Int.pow_pos (by omega)
  exact ⟨Int.emod_nonneg _ (by omega), Int.emod_lt_of_pos _ this⟩

theorem pow_int (k : Nat) : ((2 : Int) ^ k) = ((2 ^ k : Nat) : Int) := by simp

theorem and_low {n : Int} (h0 : 0 ≤ n) (h1 : n < 18446744073709551616) {k : Nat} (hk : k ≤ 16) :
    (((BitVec.ofInt (IntKind.bits .u64) n &&& BitVec.ofInt (IntKind.bits .u64) ((2 : Int) ^ k - 1)).toNat : Nat) : Int) = n % 2 ^ k := by
  have hp := pow_le16 hk
  obtain ⟨m, rfl⟩ := Int.eq_ofNat_of_zero_le h0
  have e1 : ((2 : Int) ^ k - 1) = ((2 ^ k - 1 : Nat) : Int) := by rw [pow_int, Int.ofNat_sub hp.1]; rfl
  rw [e1, pow_int]
  have hb : IntKind.bits .u64 = 64 := rfl
  rw [hb, BitVec.toNat_and]
  simp only [BitVec.ofInt_natCast, BitVec.toNat_ofNat]
  have h2 : (m : Nat) % 2 ^ 64 = m := Nat.mod_eq_of_lt (by omega)
  have h3 : (2 ^ k - 1) % 2 ^ 64 = 2 ^ k - 1 := Nat.mod_eq_of_lt (by omega)
  rw [h2, h3, Nat.and_two_pow_sub_one_eq_mod]
  simp

theorem low_ok {n b : Int} (h0 : 0 ≤ n) (h1 : n < 18446744073709551616) {h : Hp} {K : Value → Hp → Prop} (hK : K (.int .u64 (hLow n b)) h) : CallH Try.prog 125 #[.int .u64 n, .int .i64 b] h K := by
  apply F125_ok
  unfold F125
  refine size_ok ⟨_, rfl, (hSize_range b).1, ?_⟩
  have hr := hSize_range b
  have hk : (hSize b).toNat ≤ 16 := by omega
  have hp := pow_le16 hk
  have e : min (hSize b).toNat (IntKind.bits .u64) = (hSize b).toNat := by
    have : IntKind.bits .u64 = 64 := rfl
    omega
  have a1 : IntKind.wrap .u64 ((2 : Int) ^ (hSize b).toNat) = 2 ^ (hSize b).toNat := by rw [pow_int]; exact wu64 (by omega) (by omega)
  have a2 : IntKind.wrap .u64 ((2 : Int) ^ (hSize b).toNat - 1) = 2 ^ (hSize b).toNat - 1 := by rw [pow_int]; exact wu64 (by omega) (by omega)
  rw [e, Int.one_mul, a1, a2, and_low h0 h1 hk]
  have := hLow_range n b
  rw [show n % 2 ^ (hSize b).toNat = hLow n b from rfl]
  rw [pow_int] at this
  rw [wu64 (by omega) (by omega)]
  exact hK

theorem Place_ok {n b : Int} (h0 : 0 ≤ n) (h1 : n < 18446744073709551616) {h : Hp} {K : Value → Hp → Prop} (hK : K (.int .i64 (hLow n b)) h) : CallH Try.prog 105 #[.int .u64 n, .int .i64 b] h K := by
  apply F105_ok
  unfold F105
  refine low_ok h0 h1 ⟨_, rfl, ?_⟩
  have := hLow_range n b
  have hr := hSize_range b
  have hp := pow_le16 (k := (hSize b).toNat) (by omega)
  rw [pow_int] at this
  rw [w64 (by omega) (by omega)]
  exact hK

end Go.Proofs.Ytckdkgphkjbbnaa.Hw

/- Contracts of package scan: Turn. -/
import Derived.Test.YtckdkgphkjbbnaaZChain
set_option linter.unusedVariables false
set_option linter.unusedSimpArgs false
namespace Go.Proofs.Ytckdkgphkjbbnaa.Hw
open Go.Proofs

/-- The size by which a table is gone through. -/
def scS (t : Tab) : Nat := match t.h1 with | none => t.h0.sz | some H => min H.sz t.h0.sz

def chAt (H : Half) (c : Nat) : List Ent := (H.ch[c]?).getD []

/-- The entries of a turn. -/
def turnE (t : Tab) (c : Nat) : List Ent :=
  match t.h1 with
  | none => chAt t.h0 c
  | some H => if t.h0.sz < H.sz then chAt t.h0 c ++ (chAt H c ++ chAt H (c + 2 ^ t.h0.sz)) else chAt H c ++ (chAt t.h0 c ++ chAt t.h0 (c + 2 ^ H.sz))

theorem chAt_some {H : Half} {seed : Int} (hH : H.ok seed) {c : Nat} (hc : c < 2 ^ H.sz) : H.ch[c]? = some (chAt H c) := by
  have hl : c < H.ch.length := by rw [hH.len]; exact hc
  unfold chAt
  rw [List.getElem?_eq_getElem hl]
  rfl

theorem chAt_len {t : Tab} {T k c : Nat} {H : Half} (ho : t.ok T) (hk : t.half k = some H) : (chAt H c).length ≤ t.n := by
  unfold chAt
  cases hx : H.ch[c]? with
  | none => simp
  | some L =>
    rw [ho.cnt]
    have hm : L ∈ H.ch := List.mem_of_getElem? hx
    have h1 : L.length ≤ H.ch.flatten.length := (List.sublist_flatten_of_mem hm).length_le
    simp only [Option.getD_some]
    unfold Tab.ents
    rw [List.length_append]
    rcases half01 hk with rfl | ⟨rfl, h2⟩
    · injection hk with hk; subst hk; omega
    · rw [h2]; simp only [en1]; omega

theorem scS_le {t : Tab} {T : Nat} (ho : t.ok T) : 2 ≤ scS t ∧ scS t ≤ 16 := by
  unfold scS
  have := ho.k0.lo
  have := ho.k0.hi
  cases h1 : t.h1 with
  | none => simp only []; omega
  | some H =>
    have := (ho.k1 _ h1).lo
    simp only []
    omega

theorem turnE_len {t : Tab} {T c : Nat} (ho : t.ok T) : (turnE t c).length ≤ 3 * t.n := by
  unfold turnE
  have h0 : ∀ c, (chAt t.h0 c).length ≤ t.n := fun c => chAt_len (k := 0) ho rfl
  cases h1 : t.h1 with
  | none => simp only []; have := h0 c; omega
  | some H =>
    have h2 : ∀ c, (chAt H c).length ≤ t.n := fun c => chAt_len (k := 1) ho h1
    simp only []
    split
    · have := h0 c; have := h2 c; have := h2 (c + 2 ^ t.h0.sz); simp only [List.length_append]; omega
    · have := h0 c; have := h2 c; have := h0 (c + 2 ^ H.sz); simp only [List.length_append]; omega

theorem low_id {c s : Nat} (hs : s ≤ 16) (hc : c < 2 ^ s) : hLow (c : Int) (s : Int) = c := by
  unfold hLow
  rw [hSize_nat hs, pow_int]
  simp only [Int.toNat_natCast]
  exact Int.emod_eq_of_lt (by omega) (by omega)

theorem strs_app (l m : List (List UInt8)) : strs (l ++ m) = strs l ++ strs m := by simp [strs]

theorem strs_one (l : List (List UInt8)) : ∀ v ∈ strs l, oneCell v = true := by
  intro v hv
  obtain ⟨x, _, rfl⟩ := List.mem_map.1 hv
  rfl

theorem Turn_nil {c : Int} {h : Hp} {K : Value → Hp → Prop} (hK : K (.tuple #[.int .u64 0, .slice none 0 0]) h) : CallH Try.prog 79 #[.pointer none, .int .u64 c] h K := by
  apply F79_ok
  unfold F79
  exact ⟨fun _ => hK, fun hx => by simp at hx⟩

/-- A turn at a cursor. -/
theorem ScanTurn_ok {h : Hp} {T : Nat} {t : Tab} {c : Nat} {K : Value → Hp → Prop} (hT : TabH h T t) (ho : t.ok T) (hc : c < 2 ^ scS t) (hn : t.n ≤ 1048576)
    (hK : ∀ h' a m, Le h h' → Own h' 1 9 a (turnE t c).length m (strs ((turnE t c).map (·.k))) → (∀ b ∈ ownB a, h b = none) → K (.tuple #[.int .u64 (hNext (c : Int) (scS t : Int)), .slice a (turnE t c).length m]) h') :
    CallH Try.prog 79 #[.pointer (some ⟨T, 0, none⟩), .int .u64 c] h K := by
  apply F79_ok
  unfold F79
  have hs := scS_le ho
  have hp := pow16 hs.2
  have hc64 : (c : Int) < 18446744073709551616 := by omega
  refine ⟨fun hx => by simp at hx, fun _ => ?_⟩
  refine Size_ok hT ⟨_, rfl, ?_⟩
  refine Toward_ok hT ⟨_, rfl, ?_⟩
  cases h1 : t.h1 with
  | none =>
    have es : scS t = t.h0.sz := by unfold scS; rw [h1]
    have et : turnE t c = chAt t.h0 c := by unfold turnE; rw [h1]
    rw [es] at hc hK hp hs
    rw [et] at hK
    refine ⟨fun _ => ?_, fun hx => by simp at hx⟩
    refine Next_ok (by omega) hc64 ⟨_, rfl, ?_⟩
    refine Place_ok (by omega) hc64 ⟨_, rfl, ?_⟩
    rw [low_id hs.2 hc]
    refine Chain_ok (k := 0) hT ho rfl (chAt_some ho.k0 hc) (by have := chAt_len (k := 0) (c := c) ho rfl; omega) fun h' a m l o f => ⟨_, _, _, rfl, ?_⟩
    exact hK h' a m l (by simpa using o) f
  | some H =>
    refine ⟨fun hx => ?_, fun _ => ?_⟩
    · have := of_decide_eq_true hx
      simp only at this
      omega
    have es : scS t = min H.sz t.h0.sz := by unfold scS; rw [h1]
    have et : turnE t c = if t.h0.sz < H.sz then chAt t.h0 c ++ (chAt H c ++ chAt H (c + 2 ^ t.h0.sz)) else chAt H c ++ (chAt t.h0 c ++ chAt t.h0 (c + 2 ^ H.sz)) := by unfold turnE; rw [h1]
    have hd := ho.df _ h1
    have ho1 := ho.k1 _ h1
    have emin : (if (H.sz : Int) < (t.h0.sz : Int) then (H.sz : Int) else (t.h0.sz : Int)) = (scS t : Int) := by
      rw [es]; split <;> omega
    simp only []
    rw [emin]
    refine Place_ok (by omega) hc64 ⟨_, rfl, ?_⟩
    rw [low_id hs.2 hc]
    -- the small half ks, the great one kg
    have main : ∀ (ks kg : Nat) (Hs Hg : Half), t.half ks = some Hs → t.half kg = some Hg → Hs.sz = scS t → Hg.sz = scS t + 1 → isOld ks = ((scS t : Int) == (t.h0.sz : Int)) → isOld kg = ((scS t : Int) != (t.h0.sz : Int)) →
        turnE t c = chAt Hs c ++ (chAt Hg c ++ chAt Hg (c + 2 ^ scS t)) →
        CallH Try.prog 104 #[.pointer (some ⟨T, 0, none⟩), .bool ((scS t : Int) == (t.h0.sz : Int)), .int .i64 (c : Int)] h fun r13 h7 =>
          (∃ (r14 : Option Addr) (r14n : Nat) (r14c : Nat), r13 = .slice r14 r14n r14c ∧ (∀ K1 : List Value → Hp → Prop, (∀ (l1 : Option Addr) (l1n : Nat) (l1c : Nat), ∀ h8 : Hp, (∀ _j1 : Nat → Value, (CallH Try.prog 103 #[.int .u64 c, .int .i64 (scS t : Int)] h8 fun r15 h9 => (∃ (r16 : Int), r15 = .int .u64 r16 ∧ K (.tuple #[.int .u64 r16, .slice l1 l1n l1c]) h9))) → K1 [.slice l1 l1n l1c] h8) → (0 ≤ (scS t : Int) ∧ (∀ W1 : List Value → Hp → Prop, (∀ (l2 : Option Addr) (l2n : Nat) (l2c : Nat) (t2 : Int), ∀ h10 : Hp, (∀ _j2 : Nat → Value, (((decide (t2 < (2 : Int))) = true → (0 ≤ t2 ∧ t2 < (2 : Int) ∧ ∃ (t3 : Int), ([.int .i64 (c : Int), .int .i64 (IntKind.wrap .i64 ((c : Int) + (IntKind.wrap .i64 ((1 : Int) * 2 ^ (min (Int.toNat (scS t : Int)) (IntKind.bits .i64))))))] : List Value)[Int.toNat t2 * 1]? = some (.int .i64 t3) ∧ (CallH Try.prog 104 #[.pointer (some ⟨T, 0, none⟩), .bool ((scS t : Int) != (t.h0.sz : Int)), .int .i64 t3] h10 fun r17 h11 => (∃ (r18 : Option Addr) (r18n : Nat) (r18c : Nat), r17 = .slice r18 r18n r18c ∧ (appE 9 1 16 [.string ⟨([] : List UInt8).toArray⟩] l2 l2n l2c (.slice r18 r18n r18c) h11 fun s1 s1n s1c h12 => W1 [.slice s1 s1n s1c, .int .i64 (IntKind.wrap .i64 (t2 + (1 : Int)))] h12))))) ∧ ((decide (t2 < (2 : Int))) = false → K1 [.slice l2 l2n l2c] h10))) → W1 [.slice l2 l2n l2c, .int .i64 t2] h10) → W1 [.slice r14 r14n r14c, .int .i64 0] h7)))) := by
      intro ks kg Hs Hg hks hkg hss hsg hos hog hte
      have hsp : (2 : Nat) ^ (scS t + 1) = 2 * 2 ^ scS t := by rw [Nat.pow_succ]; omega
      rw [← hos, ← hog]
      have n1 := chAt_len (c := c) ho hks
      have n2 := chAt_len (c := c) ho hkg
      have n3 := chAt_len (c := c + 2 ^ scS t) ho hkg
      refine Chain_ok hT ho hks (chAt_some (half_ok ho hks) (by rw [hss]; exact hc)) (by omega) fun g a m lg og fg => ⟨_, _, _, rfl, ?_⟩
      intro K1 hK1
      refine ⟨by omega, ?_⟩
      intro W1 hW1
      have ep : IntKind.wrap .i64 ((1 : Int) * 2 ^ (min (Int.toNat (scS t : Int)) (IntKind.bits .i64))) = ((2 ^ scS t : Nat) : Int) := by
        have : min (Int.toNat (scS t : Int)) (IntKind.bits .i64) = scS t := by
          have : IntKind.bits .i64 = 64 := rfl
          omega
        rw [this, Int.one_mul, pow_int]
        exact w64 (by omega) (by omega)
      have ec : IntKind.wrap .i64 ((c : Int) + ((2 ^ scS t : Nat) : Int)) = ((c + 2 ^ scS t : Nat) : Int) := by
        rw [w64 (by omega) (by omega)]; simp
      rw [ep, ec] at hW1
      refine hW1 _ _ _ _ _ fun _ => ⟨fun _ => ⟨by omega, by omega, (c : Int), rfl, ?_⟩, fun hx => by simp at hx⟩
      refine Chain_ok (hT.le lg) ho hkg (chAt_some (half_ok ho hkg) (by rw [hsg]; omega)) (by omega) fun g2 a2 m2 lg2 og2 fg2 => ⟨_, _, _, rfl, ?_⟩
      refine appE_own (og.le lg2) rfl rfl (src_own og2) og2.len (strs_one _) (by simp only [lenV]; omega) (by simp only [lenV]; omega) fun a3 m3 g3 og3 fg3 bg3 => ?_
      have lh3 : Le h g3 := (lg.trans lg2).fr_then fg3 fg
      have fh3 : ∀ b ∈ ownB a3, h b = none := fun b hb => (bg3 b hb).elim (fg b) fun z => (lg.trans lg2).dom b z
      rw [w64 (by omega) (by omega)]
      refine hW1 _ _ _ _ _ fun _ => ⟨fun _ => ⟨by omega, by omega, ((c + 2 ^ scS t : Nat) : Int), rfl, ?_⟩, fun hx => by simp at hx⟩
      refine Chain_ok (hT.le lh3) ho hkg (chAt_some (half_ok ho hkg) (by rw [hsg]; omega)) (by omega) fun g4 a4 m4 lg4 og4 fg4 => ⟨_, _, _, rfl, ?_⟩
      refine appE_own (og3.le lg4) rfl rfl (src_own og4) og4.len (strs_one _) (by simp only [lenV]; omega) (by simp only [lenV]; omega) fun a5 m5 g5 og5 fg5 bg5 => ?_
      have lh5 : Le h g5 := (lh3.trans lg4).fr_then fg5 fh3
      have fh5 : ∀ b ∈ ownB a5, h b = none := fun b hb => (bg5 b hb).elim (fh3 b) fun z => (lh3.trans lg4).dom b z
      rw [w64 (by omega) (by omega)]
      refine hW1 _ _ _ _ _ fun _ => ⟨fun hx => by simp at hx, fun _ => ?_⟩
      refine hK1 _ _ _ _ fun _ => ?_
      refine Next_ok (by omega) hc64 ⟨_, rfl, ?_⟩
      have el : (chAt Hs c).length + (chAt Hg c).length + (chAt Hg (c + 2 ^ scS t)).length = (turnE t c).length := by
        rw [hte]; simp only [List.length_append]; omega
      have ek : strs ((chAt Hs c).map (·.k)) ++ strs ((chAt Hg c).map (·.k)) ++ strs ((chAt Hg (c + 2 ^ scS t)).map (·.k)) = strs ((turnE t c).map (·.k)) := by
        rw [hte]; simp only [List.map_append, strs_app, List.append_assoc]
      simp only [lenV] at og5 ⊢
      rw [el, ek] at og5
      have := hK g5 a5 m5 lh5 og5 fh5
      rw [← el] at this
      exact this
    by_cases hlt : t.h0.sz < H.sz
    · have es2 : scS t = t.h0.sz := by rw [es]; omega
      refine main 0 1 t.h0 H rfl h1 es2.symm (by omega) (by rw [es2]; simp [isOld]) (by rw [es2]; simp [isOld]) ?_
      rw [et, if_pos hlt, es2]
    · have es2 : scS t = H.sz := by rw [es]; omega
      have hne : ((scS t : Int) == (t.h0.sz : Int)) = false := by
        simp; omega
      have hne2 : ((scS t : Int) != (t.h0.sz : Int)) = true := by
        simp; omega
      refine main 1 0 H t.h0 h1 rfl es2.symm (by omega) (by rw [hne]; rfl) (by rw [hne2]; rfl) ?_
      rw [et, if_neg hlt, es2]

end Go.Proofs.Ytckdkgphkjbbnaa.Hw

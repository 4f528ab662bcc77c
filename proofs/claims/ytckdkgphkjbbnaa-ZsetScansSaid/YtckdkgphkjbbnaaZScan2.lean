/- Contracts of package scan: Scan. -/
import Derived.Test.YtckdkgphkjbbnaaZScan
set_option linter.unusedVariables false
set_option linter.unusedSimpArgs false
namespace Go.Proofs.Ytckdkgphkjbbnaa.Hw
open Go.Proofs

/-- The entries of so many turns, from one on. -/
def segE (t : Tab) (i : Nat) : Nat → List Ent
  | 0 => []
  | d + 1 => segE t i d ++ turnE t (rv (scS t) (i + d))

theorem segE_len {t : Tab} {T : Nat} (ho : t.ok T) (i : Nat) : ∀ d, (segE t i d).length ≤ d * (3 * t.n) := by
  intro d
  induction d with
  | zero => simp [segE]
  | succ d ih =>
    have := turnE_len (c := rv (scS t) (i + d)) ho
    rw [Nat.succ_mul]
    simp only [segE, List.length_append]
    omega

theorem rv_pow (s : Nat) : rv s (2 ^ s) = 0 := by
  rw [← rv_mod, Nat.mod_self]
  apply Nat.eq_of_testBit_eq
  intro i
  rw [rv_bit]
  simp

theorem rv_zero {s i : Nat} (hi : i < 2 ^ s) (h : rv s i = 0) : i = 0 := by
  have := rv_rv s i
  rw [h, Nat.mod_eq_of_lt hi] at this
  rw [← this]
  apply Nat.eq_of_testBit_eq
  intro j
  rw [rv_bit]
  simp

theorem Scan_ok {h : Hp} {T : Nat} {t : Tab} {i : Nat} {count : Int} {K : Value → Hp → Prop} (hT : TabH h T t) (ho : t.ok T) (hi : i < 2 ^ scS t) (hn : t.n ≤ 1048576)
    (hK : ∀ h' a m d, 0 < d → i + d ≤ 2 ^ scS t → Le h h' → Own h' 1 9 a (segE t i d).length m (strs ((segE t i d).map (·.k))) → (∀ b ∈ ownB a, h b = none) → K (.tuple #[.int .u64 (rv (scS t) (i + d) : Nat), .slice a (segE t i d).length m]) h') :
    CallH Try.prog 49 #[.pointer (some ⟨T, 0, none⟩), .int .u64 (rv (scS t) i : Nat), .int .i64 count] h K := by
  apply F49_ok
  unfold F49
  have hs := scS_le ho
  have hp := pow16 hs.2
  intro K1 hK1 W1 hW1
  obtain ⟨N, hN⟩ : ∃ N : Int, N = IntKind.wrap .i64 ((10 : Int) * (if 100000 < (if 1 > count then 1 else count) then 100000 else (if 1 > count then 1 else count))) := ⟨_, rfl⟩
  have hN1 : 10 ≤ N := by
    rw [hN, w64]
    · split <;> split at * <;> omega
    · split <;> split at * <;> omega
    · split <;> split at * <;> omega
  rw [← hN] at hW1
  generalize hcnt : (if 1 > count then 1 else count) = cnt at hW1
  have loop : ∀ (f d : Nat) (x : Hp) (a : Option Addr) (m : Nat), 2 ^ scS t - (i + d) = f → i + d < 2 ^ scS t → Le h x → Own x 1 9 a (segE t i d).length m (strs ((segE t i d).map (·.k))) → (∀ b ∈ ownB a, h b = none) →
      W1 [.slice a (segE t i d).length m, .int .u64 (rv (scS t) (i + d) : Nat), .int .i64 (d : Int)] x := by
    intro f
    induction f with
    | zero => intro d x a m hf hlt; omega
    | succ f ih =>
      intro d x a m hf hlt lx ow fr
      refine hW1 _ _ _ _ _ _ fun _ => ⟨fun _ => ?_, fun hx => ?_⟩
      · refine ScanTurn_ok (hT.le lx) ho (rv_lt _ _) hn fun g a2 m2 lg og fg => ⟨_, _, _, _, rfl, ?_⟩
        have l1 := segE_len ho i d
        have l2 := turnE_len (c := rv (scS t) (i + d)) ho
        have l3 : d * (3 * t.n) ≤ 65536 * (3 * 1048576) := Nat.mul_le_mul (by omega) (by omega)
        refine appE_own (m := (turnE t (rv (scS t) (i + d))).length) (ow.le lg) rfl rfl (src_own og) og.len (strs_one _) (by omega) (by omega) fun a3 m3 g3 og3 fg3 bg3 => ?_
        have l5 : Le h g3 := (lx.trans lg).fr_then fg3 fr
        have f5 : ∀ b ∈ ownB a3, h b = none := fun b hb => (bg3 b hb).elim (fr b) fun z => (lx.trans lg).dom b z
        have el : (segE t i d).length + (turnE t (rv (scS t) (i + d))).length = (segE t i (d + 1)).length := by simp [segE]
        have ek : strs ((segE t i d).map (·.k)) ++ strs ((turnE t (rv (scS t) (i + d))).map (·.k)) = strs ((segE t i (d + 1)).map (·.k)) := by simp [segE, strs]
        have enx : hNext ((rv (scS t) (i + d) : Nat) : Int) (scS t : Int) = ((rv (scS t) (i + (d + 1)) : Nat) : Int) := by
          have := hNext_rv (scS t : Int) (i + d) (by rw [hSize_nat hs.2]; simpa using hlt)
          rw [hSize_nat hs.2] at this
          simpa [Nat.add_assoc] using this
        rw [ek] at og3
        rw [enx]
        generalize hq : (segE t i d).length + (turnE t (rv (scS t) (i + d))).length = q at og3 ⊢
        have hq2 : q = (segE t i (d + 1)).length := by rw [← hq, el]
        subst hq2
        have done : K1 [.slice a3 (segE t i (d + 1)).length m3, .int .u64 (rv (scS t) (i + (d + 1)) : Nat)] g3 := by
          refine hK1 _ _ _ _ _ fun _ => ?_
          exact hK g3 a3 m3 (d + 1) (by omega) (by omega) l5 og3 f5
        intro J1 hJ1
        refine ⟨fun _ => hJ1 _ _ fun _ => ⟨fun _ => done, fun hx => by cases hx⟩, fun hx => hJ1 _ _ fun _ => ⟨fun _ => done, fun _ => ?_⟩⟩
        have hne : i + (d + 1) ≠ 2 ^ scS t := by
          intro e
          rw [e, rv_pow] at hx
          simp at hx
        rw [w64 (by omega) (by omega)]
        have := ih (d + 1) g3 a3 m3 (by omega) (by omega) l5 og3 f5
        simpa using this
      · have := of_decide_eq_false hx
        refine hK1 _ _ _ _ _ fun _ => ?_
        exact hK x a m d (by omega) (by omega) lx ow fr
  have := loop (2 ^ scS t - i) 0 h none 0 rfl (by simpa using hi) (Le.refl h) .nil (by simp [ownB])
  simpa [segE] using this

/-! ### All turns: each entry once -/

theorem chAt_flat {H : Half} : ∀ {n : Nat}, H.ch.length = n → ((List.range n).map (chAt H)).flatten = H.ch.flatten := by
  intro n hn
  congr 1
  apply List.ext_getElem
  · simp [hn]
  · intro i h1 h2
    simp [chAt, List.getElem?_eq_getElem h2]

theorem range_add_map {α : Type} (f : Nat → α) (n : Nat) : (List.range (n + n)).map f = (List.range n).map f ++ (List.range n).map (fun i => f (i + n)) := by
  rw [List.range_add, List.map_append, List.map_map]
  congr 1
  apply List.map_congr_left
  intro i _
  simp [Nat.add_comm]

theorem flat_app_perm {α β : Type} (f g : α → List β) : ∀ l : List α, ((l.map (fun x => f x ++ g x)).flatten).Perm ((l.map f).flatten ++ (l.map g).flatten) := by
  intro l
  induction l with
  | nil => exact List.Perm.refl _
  | cons a l ih =>
    simp only [List.map_cons, List.flatten_cons]
    refine (List.Perm.append_left _ ih).trans ?_
    simp only [List.append_assoc]
    refine List.Perm.append_left _ ?_
    rw [← List.append_assoc, ← List.append_assoc]
    exact List.Perm.append_right _ List.perm_append_comm

theorem turns_perm {t : Tab} {T : Nat} (ho : t.ok T) : (((List.range (2 ^ scS t)).map (turnE t)).flatten).Perm t.ents := by
  cases h1 : t.h1 with
  | none =>
    have es : scS t = t.h0.sz := by unfold scS; rw [h1]
    have et : turnE t = chAt t.h0 := by funext c; unfold turnE; rw [h1]
    rw [es, et, chAt_flat ho.k0.len]
    simp [Tab.ents, h1, en1]
  | some H =>
    have hd := ho.df _ h1
    have ho1 := ho.k1 _ h1
    have gen : ∀ (Hs Hg : Half), Hs.ch.length = 2 ^ scS t → Hg.ch.length = 2 ^ scS t + 2 ^ scS t → (∀ c, turnE t c = chAt Hs c ++ (chAt Hg c ++ chAt Hg (c + 2 ^ scS t))) →
        (((List.range (2 ^ scS t)).map (turnE t)).flatten).Perm (Hs.ch.flatten ++ Hg.ch.flatten) := by
      intro Hs Hg hs hg he
      rw [funext he]
      refine (flat_app_perm _ _ _).trans ?_
      rw [chAt_flat hs]
      refine List.Perm.append_left _ ?_
      refine (flat_app_perm _ _ _).trans ?_
      have := chAt_flat hg
      rw [range_add_map, List.flatten_append] at this
      rw [← this]
    by_cases hlt : t.h0.sz < H.sz
    · have es2 : scS t = t.h0.sz := by unfold scS; rw [h1]; simp only []; omega
      have := gen t.h0 H (by rw [ho.k0.len, es2]) (by rw [ho1.len, es2, show H.sz = t.h0.sz + 1 by omega, Nat.pow_succ]; omega) (fun c => by unfold turnE; rw [h1]; simp only []; rw [if_pos hlt, es2])
      simp only [Tab.ents, h1, en1]
      exact this
    · have es2 : scS t = H.sz := by unfold scS; rw [h1]; simp only []; omega
      have := gen H t.h0 (by rw [ho1.len, es2]) (by rw [ho.k0.len, es2, show t.h0.sz = H.sz + 1 by omega, Nat.pow_succ]; omega) (fun c => by unfold turnE; rw [h1]; simp only []; rw [if_neg hlt, es2])
      simp only [Tab.ents, h1, en1]
      exact this.trans List.perm_append_comm

theorem rv_perm (s : Nat) : ((List.range (2 ^ s)).map (rv s)).Perm (List.range (2 ^ s)) := by
  have hn : ((List.range (2 ^ s)).map (rv s)).Nodup := by
    unfold List.Nodup
    rw [List.pairwise_map]
    refine List.Pairwise.imp_of_mem (fun {a b} ha hb hne e => hne ?_) (List.nodup_range (n := 2 ^ s))
    have h1 := rv_rv s a
    have h2 := rv_rv s b
    rw [List.mem_range] at ha hb
    rw [e, h2, Nat.mod_eq_of_lt hb, Nat.mod_eq_of_lt ha] at h1
    exact h1.symm
  refine (List.perm_ext_iff_of_nodup hn List.nodup_range).2 fun a => ?_
  simp only [List.mem_map, List.mem_range]
  constructor
  · rintro ⟨i, _, rfl⟩; exact rv_lt _ _
  · intro ha
    exact ⟨rv s a, rv_lt _ _, by rw [rv_rv, Nat.mod_eq_of_lt ha]⟩

theorem segE_flat (t : Tab) (i : Nat) : ∀ d, segE t i d = ((List.range d).map fun j => turnE t (rv (scS t) (i + j))).flatten := by
  intro d
  induction d with
  | zero => rfl
  | succ d ih => rw [List.range_succ, List.map_append, List.flatten_append, ← ih]; simp [segE]

/-- Gone through from 0 on, each entry is met once. -/
theorem segE_all {t : Tab} {T : Nat} (ho : t.ok T) : (segE t 0 (2 ^ scS t)).Perm t.ents := by
  rw [segE_flat]
  have e : ((List.range (2 ^ scS t)).map fun j => turnE t (rv (scS t) (0 + j))) = ((List.range (2 ^ scS t)).map (rv (scS t))).map (turnE t) := by
    rw [List.map_map]
    apply List.map_congr_left
    intro j _
    simp
  rw [e]
  exact (((rv_perm _).map (turnE t)).flatten).trans (turns_perm ho)

theorem segE_app (t : Tab) (i d e : Nat) : segE t i (d + e) = segE t i d ++ segE t (i + d) e := by
  induction e with
  | zero => simp [segE]
  | succ e ih => rw [← Nat.add_assoc]; simp only [segE, ih, List.append_assoc, Nat.add_assoc]

end Go.Proofs.Ytckdkgphkjbbnaa.Hw

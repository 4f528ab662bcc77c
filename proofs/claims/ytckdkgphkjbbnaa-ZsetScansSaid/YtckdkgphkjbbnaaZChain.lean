/- Contracts of package dict: Chain. -/
import Derived.Test.YtckdkgphkjbbnaaZDict7
set_option linter.unusedVariables false
set_option linter.unusedSimpArgs false
namespace Go.Proofs.Ytckdkgphkjbbnaa.Hw
open Go.Proofs

/-- Texts' cells. -/
def strs (l : List (List UInt8)) : List Value := l.map fun s => .string ⟨s.toArray⟩

def isOld (k : Nat) : Bool := k == 0

theorem half01 {t : Tab} {k : Nat} {H : Half} (hk : t.half k = some H) : k = 0 ∨ (k = 1 ∧ t.h1 = some H) := by
  unfold Tab.half at hk
  split at hk
  · exact .inl (by assumption)
  · split at hk
    · exact .inr ⟨by assumption, hk⟩
    · cases hk

theorem Chain_ok {h : Hp} {T : Nat} {t : Tab} {k i : Nat} {H : Half} {L : List Ent} {K : Value → Hp → Prop} (hT : TabH h T t) (ho : t.ok T) (hk : t.half k = some H) (hL : H.ch[i]? = some L)
    (hn : L.length ≤ 1099511627776)
    (hK : ∀ h' a c, Le h h' → Own h' 1 9 a L.length c (strs (L.map (·.k))) → (∀ b ∈ ownB a, h b = none) → K (.slice a L.length c) h') :
    CallH Try.prog 104 #[.pointer (some ⟨T, 0, none⟩), .bool (isOld k), .int .i64 i] h K := by
  apply F104_ok
  unfold F104
  have hH := half_ok ho hk
  have hi : i < 2 ^ H.sz := by rw [← hH.len]; exact (List.getElem?_eq_some_iff.1 hL).1
  have hp := pow16 hH.hi
  refine ready_ok hT ⟨_, rfl, ?_⟩
  intro J1 hJ1
  refine ⟨fun hx => by simp at hx, fun _ => ?_⟩
  intro J3 hJ3
  have main : J1 [.bool false] h := by
    refine hJ1 _ _ fun _ => ⟨(fun hx => by cases hx), fun _ => ?_⟩
    simp only [NN_some, add_mk]
    have rw0 : rowAt h ⟨T, 0 + 1 + Int.toNat (0 : Int) * 2, none⟩ 0 [.int .i64 (t.h0.sz : Int), .slice (some ⟨t.h0.a, 0, none⟩) (2 ^ t.h0.sz) (2 ^ t.h0.sz)] := by
      refine rowAt_mk hT.1 _ _ _ fun k hk => ?_
      have : k = 0 ∨ k = 1 := by simp at hk; omega
      rcases this with z | z <;> subst z <;> simp [tabCells]
    refine ⟨by omega, by omega, _, _, _, _, rw0, ?_⟩
    intro b hb
    refine stN_mk (upd_same _ _ _) (by simp) (by simp [oneCell]) ?_
    rw [upd_upd]
    intro K1 hK1
    -- behind the copy: the block b has the half
    have tail : ∀ g, Le h g → g b = some (ob [.int .i64 (H.sz : Int), .slice (some ⟨H.a, 0, none⟩) (2 ^ H.sz) (2 ^ H.sz)] 137) → K1 [] g := by
      intro g lg hgb
      have hgT := hT.le lg
      have hgH := half_mem hgT hk
      refine hK1 _ fun _ => ?_
      intro J2 hJ2
      have cb : cell g ⟨b, 0 + 1, none⟩ = some (.slice (some ⟨H.a, 0, none⟩) (2 ^ H.sz) (2 ^ H.sz)) := by rw [cell_mk hgb]; rfl
      refine ⟨fun hx => by simp at hx; omega, fun _ => ⟨_, _, _, cb, ?_⟩⟩
      refine hJ2 _ _ fun _ => ⟨fun hx => ?_, fun _ => ?_⟩
      · have := of_decide_eq_true hx
        omega
      intro K2 hK2
      refine ⟨_, _, _, cb, by omega, Int.ofNat_lt.2 hi, ?_⟩
      simp only [NN_some, add_mk, Int.toNat_natCast, Nat.zero_add, Nat.mul_one]
      refine ⟨hd L, by rw [cell_mk hgH.1, List.getElem?_map, hL]; rfl, ?_⟩
      intro W1 hW1
      have loop : ∀ (M D : List Ent) (x : Hp) (a : Option Addr) (c : Nat), Le h x → ChainH x M → L = D ++ M → Own x 1 9 a D.length c (strs (D.map (·.k))) → (∀ y ∈ ownB a, h y = none) →
          (∀ e ∈ M, ∃ o, h e.b = some o) → W1 [.slice a D.length c, .pointer (hd M)] x := by
        intro M
        induction M with
        | nil =>
          intro D x a c lx _ hD ow hfr _
          refine hW1 _ _ _ _ _ fun _ => ⟨fun hx => by simp [hd] at hx, fun _ => hK2 _ _ _ _ fun _ => ?_⟩
          rw [List.append_nil] at hD
          subst hD
          exact hK _ _ _ lx ow hfr
        | cons e M ih =>
          intro D x a c lx hc hD ow hfr hdm
          refine hW1 _ _ _ _ _ fun _ => ⟨fun _ => ?_, fun hx => by simp [hd] at hx⟩
          simp only [hd, NN_some, add_mk]
          refine ⟨e.k, by rw [cell_mk hc.1]; rfl, ?_⟩
          intro b2 hb2
          have lu := Le.new (.cells #[.string ⟨e.k.toArray⟩] 9) hb2
          have hlen : D.length + 1 ≤ L.length := by rw [hD]; simp
          refine app1 (ow.le lu) (by rfl) (upd_same _ _ _) rfl (by simp [oneCell]) (by omega) (by omega) fun a' c' x' ow' hf' hb' => ?_
          have lx' : Le h x' := (lx.trans lu).fr_then hf' hfr
          have hfr' : ∀ y ∈ ownB a', h y = none := by
            intro y hy
            rcases hb' y hy with z | z
            · exact hfr y z
            · exact (lx.trans lu).dom y z
          have hcx' : ChainH x' (e :: M) := by
            refine ChainH.fr hf' (hc.fr (lu.fr []) (by simp)) fun d hd' hm => ?_
            obtain ⟨o, ho⟩ := hdm d hd'
            rw [hfr _ hm] at ho
            cases ho
          refine ⟨hd M, by rw [cell_mk hcx'.1]; rfl, ?_⟩
          have := ih (D ++ [e]) x' a' c' lx' hcx'.2 (by simp [hD]) (by simpa [strs] using ow') hfr' (fun d hd' => hdm d (by simp [hd']))
          simpa using this
      exact loop L [] g none 0 lg (hgH.2 _ (List.mem_of_getElem? hL)) rfl .nil (by simp [ownB]) ((half_mem hT hk).2 _ (List.mem_of_getElem? hL)).dom
    rcases half01 hk with rfl | ⟨rfl, h1⟩
    · have : H = t.h0 := by injection hk with hk; exact hk.symm
      subst this
      refine ⟨fun hx => by simp [isOld] at hx, fun _ => ?_⟩
      exact tail _ (Le.new _ hb) (by rw [upd_same]; rfl)
    · refine ⟨fun _ => ?_, fun hx => by simp [isOld] at hx⟩
      generalize hg : upd h b _ = g
      have lg : Le h g := by rw [← hg]; exact Le.new _ hb
      have hgT := hT.le lg
      have rw1 : rowAt g ⟨T, 0 + 1 + Int.toNat (1 : Int) * 2, none⟩ 0 [.int .i64 (H.sz : Int), .slice (some ⟨H.a, 0, none⟩) (2 ^ H.sz) (2 ^ H.sz)] := by
        refine rowAt_mk hgT.1 _ _ _ fun k hk => ?_
        have : k = 0 ∨ k = 1 := by simp at hk; omega
        rcases this with z | z <;> subst z <;> simp [tabCells, h1, sz1, sl1]
      refine ⟨by omega, by omega, _, _, _, _, rw1, ?_⟩
      have hgb : g b = some (ob [.int .i64 (t.h0.sz : Int), .slice (some ⟨t.h0.a, 0, none⟩) (2 ^ t.h0.sz) (2 ^ t.h0.sz)] 137) := by rw [← hg, upd_same]; rfl
      refine stN_mk hgb (by simp) (by simp [oneCell]) ?_
      refine tail _ ?_ (by rw [upd_same]; rfl)
      refine lg.fr_then (Fr.upd (S := [b]) _ (by simp)) fun y hy => ?_
      simp at hy; rw [hy]; exact hb
  rcases half01 hk with rfl | ⟨rfl, h1⟩
  · refine ⟨fun hx => by simp [isOld] at hx, fun _ => ?_⟩
    exact hJ3 _ _ fun _ => main
  · refine ⟨fun _ => ?_, fun hx => by simp [isOld] at hx⟩
    simp only [NN_some, add_mk]
    refine ⟨true, by rw [cell_mk hT.1]; simp [tabCells, h1], ?_⟩
    exact hJ3 _ _ fun _ => main

end Go.Proofs.Ytckdkgphkjbbnaa.Hw

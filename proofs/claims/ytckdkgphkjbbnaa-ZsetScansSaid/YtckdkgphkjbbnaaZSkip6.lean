/- Contracts of package skip: Put: a level turned. -/
import Derived.Test.YtckdkgphkjbbnaaZSkip5
set_option linter.unusedVariables false
set_option linter.unusedSimpArgs false
namespace Go.Proofs.Ytckdkgphkjbbnaa.Hw
open Go.Proofs

/-- A node while the levels below k lead as in the new list. -/
def MixL (h : Hp) (ns : List Nd) (m : Nat) (nd : Nd) (k p : Nat) (d : Nd) : Prop :=
  ∃ cs, h d.lb = some (ob cs 160) ∧ cs.length = 2 * d.ht ∧ ∀ j, j < d.ht → if j < k then LinkC (insN ns m nd) j (sh m p) cs[2 * j]? cs[2 * j + 1]? else LinkC ns j p cs[2 * j]? cs[2 * j + 1]?

def NewL (h : Hp) (ns : List Nd) (m : Nat) (nd : Nd) (k : Nat) : Prop :=
  ∃ cs, h nd.lb = some (ob cs 160) ∧ cs.length = 2 * nd.ht ∧ ∀ j, j < nd.ht → j < k → LinkC (insN ns m nd) j (m + 1) cs[2 * j]? cs[2 * j + 1]?

/-- A link that is not turned is as it should be. -/
theorem LinkC_keep {ns : List Nd} {m k p : Nat} {nd : Nd} {c0 c1 : Option Value} (hm : m < ns.length) (h0 : k < htOf ns 0) (hkp : k < htOf ns p) (hp : p ≠ posF (htOf ns) k m) (h : LinkC ns k p c0 c1) :
    LinkC (insN ns m nd) k (sh m p) c0 c1 := by
  obtain ⟨q, by_, hq, e0, e1, hby⟩ := h
  obtain ⟨g1, g2, g3⟩ := posF_spec h0 m
  have hcase : m < p ∨ ∃ q', q = some q' ∧ q' ≤ m ∧ p ≤ m := by
    rcases Nat.lt_or_ge m p with h | h
    · exact .inl h
    · right
      have hlt : p < posF (htOf ns) k m := by
        have := posF_ge h0 h hkp
        omega
      cases q with
      | none => have := hq _ hlt; omega
      | some q =>
        refine ⟨q, rfl, ?_, h⟩
        rcases Nat.lt_or_ge (posF (htOf ns) k m) q with h2 | h2
        · have := hq.2.2 _ hlt h2; omega
        · omega
  refine ⟨q.map (sh m), by_, Nx_keep hm hq ?_, ?_, e1, fun q' hq' => ?_⟩
  · rcases hcase with h | ⟨q', h1, h2, _⟩
    · exact .inl h
    · exact .inr (.inr ⟨q', h1, h2⟩)
  · rw [ptOf_sh hm]; exact e0
  · cases q with
    | none => cases hq'
    | some q =>
      simp only [Option.map_some, Option.some.injEq] at hq'
      subst hq'
      rw [hby q rfl]
      rcases hcase with h | ⟨q', h1, h2, h3⟩
      · have hqp := hq.1
        unfold sh
        rw [if_neg (by omega), if_neg (by omega)]
        omega
      · injection h1 with h1
        subst h1
        unfold sh
        rw [if_pos h2, if_pos h3]

/-- The link of the last node ahead, where the new node does not stand: one further. -/
theorem LinkC_far {ns : List Nd} {m k : Nat} {nd : Nd} {q : Option Nat} {by_ : Int} (hm : m < ns.length) (h0 : k < htOf ns 0) (hk : nd.ht ≤ k) (hq : Nx (htOf ns) k (posF (htOf ns) k m) q)
    (hby : ∀ q', q = some q' → by_ = (q' : Int) - (posF (htOf ns) k m : Nat)) :
    LinkC (insN ns m nd) k (sh m (posF (htOf ns) k m)) (some (.pointer (ptOf ns q))) (some (.int .i64 (by_ + 1))) := by
  obtain ⟨g1, g2, g3⟩ := posF_spec h0 m
  refine ⟨q.map (sh m), by_ + 1, Nx_keep hm hq (.inr (.inl hk)), by rw [ptOf_sh hm], rfl, fun q' hq' => ?_⟩
  cases q with
  | none => cases hq'
  | some q =>
    simp only [Option.map_some, Option.some.injEq] at hq'
    subst hq'
    have hqm : m < q := by
      rcases Nat.lt_or_ge m q with h | h
      · exact h
      · have := g3 q hq.1 h; have := hq.2.1; omega
    rw [hby q rfl]
    unfold sh
    rw [if_neg (by omega), if_pos g1]
    omega

/-- The last node ahead leads to the new one. -/
theorem LinkC_to {ns : List Nd} {m k : Nat} {nd : Nd} (hm : m < ns.length) (h0 : k < htOf ns 0) (hk : k < nd.ht) :
    LinkC (insN ns m nd) k (sh m (posF (htOf ns) k m)) (some (.pointer (some ⟨nd.b, 0, none⟩))) (some (.int .i64 ((m : Int) + 1 - (posF (htOf ns) k m : Nat)))) := by
  obtain ⟨g1, g2, g3⟩ := posF_spec h0 m
  have e : sh m (posF (htOf ns) k m) = posF (htOf ns) k m := by unfold sh; rw [if_pos g1]
  rw [e]
  refine ⟨some (m + 1), _, Nx_to hm h0 hk, ?_, rfl, fun q' hq' => ?_⟩
  · simp [ptOf, insN_mid hm]
  · injection hq' with hq'
    subst hq'
    omega

/-- The new one leads on. -/
theorem LinkC_from {ns : List Nd} {m k : Nat} {nd : Nd} {q : Option Nat} {by_ : Int} (hm : m < ns.length) (h0 : k < htOf ns 0) (hq : Nx (htOf ns) k (posF (htOf ns) k m) q)
    (hby : ∀ q', q = some q' → by_ = (q' : Int) - (posF (htOf ns) k m : Nat)) {n1 : Int} (hn : ∀ q', q = some q' → n1 = by_ - ((m : Int) - (posF (htOf ns) k m : Nat))) :
    LinkC (insN ns m nd) k (m + 1) (some (.pointer (ptOf ns q))) (some (.int .i64 n1)) := by
  obtain ⟨g1, g2, g3⟩ := posF_spec h0 m
  refine ⟨q.map (sh m), _, Nx_from hm h0 hq, by rw [ptOf_sh hm], rfl, fun q' hq' => ?_⟩
  cases q with
  | none => cases hq'
  | some q =>
    simp only [Option.map_some, Option.some.injEq] at hq'
    subst hq'
    have hqm : m < q := by
      rcases Nat.lt_or_ge m q with h | h
      · exact h
      · have := g3 q hq.1 h; have := hq.2.1; omega
    rw [hn q rfl, hby q rfl]
    unfold sh
    rw [if_neg (by omega)]
    omega

/-- Before the first level, and behind the last one. -/
theorem MixL_start {h : Hp} {ns : List Nd} {m p : Nat} {nd d : Nd} (hl : LinksH h ns p d) : MixL h ns m nd 0 p d := by
  obtain ⟨cs, h1, h2, h3⟩ := hl
  exact ⟨cs, h1, h2, fun j hj => by rw [if_neg (by omega)]; exact h3 j hj⟩

theorem MixL_end {h : Hp} {ns : List Nd} {m p : Nat} {nd d : Nd} (hd : d.ht ≤ 16) (hl : MixL h ns m nd 16 p d) : LinksH h (insN ns m nd) (sh m p) d := by
  obtain ⟨cs, h1, h2, h3⟩ := hl
  exact ⟨cs, h1, h2, fun j hj => by have := h3 j hj; rw [if_pos (by omega)] at this; exact this⟩

theorem NewL_end {h : Hp} {ns : List Nd} {m : Nat} {nd : Nd} (hd : nd.ht ≤ 16) (hl : NewL h ns m nd 16) : LinksH h (insN ns m nd) (m + 1) nd := by
  obtain ⟨cs, h1, h2, h3⟩ := hl
  exact ⟨cs, h1, h2, fun j hj => h3 j hj (by omega)⟩

theorem MixL_fr {h h' : Hp} {S : List Nat} {ns : List Nd} {m k p : Nat} {nd d : Nd} (f : Fr S h h') (hn : d.lb ∉ S) (hl : MixL h ns m nd k p d) : MixL h' ns m nd k p d := by
  obtain ⟨cs, h1, h2, h3⟩ := hl
  exact ⟨cs, f _ _ h1 hn, h2, h3⟩

/-- A node that is not turned at level k. -/
theorem MixL_next {h : Hp} {ns : List Nd} {m k p : Nat} {nd d : Nd} (hm : m < ns.length) (h0 : k < htOf ns 0) (hd : ns[p]? = some d) (hp : p ≠ posF (htOf ns) k m) (hl : MixL h ns m nd k p d) : MixL h ns m nd (k + 1) p d := by
  obtain ⟨cs, h1, h2, h3⟩ := hl
  refine ⟨cs, h1, h2, fun j hj => ?_⟩
  have := h3 j hj
  by_cases e : j = k
  · subst e
    rw [if_neg (by omega)] at this
    rw [if_pos (by omega)]
    refine LinkC_keep hm h0 ?_ hp this
    unfold htOf
    rw [hd]
    exact hj
  · by_cases e2 : j < k
    · rw [if_pos e2] at this; rw [if_pos (by omega)]; exact this
    · rw [if_neg e2] at this; rw [if_neg (by omega)]; exact this

/-- A node whose link at level k was turned. -/
theorem MixL_turn {h h' : Hp} {ns : List Nd} {m k p : Nat} {nd d : Nd} {cs cs' : List Value} (h1 : h d.lb = some (ob cs 160)) (hl : MixL h ns m nd k p d)
    (h2 : h' d.lb = some (ob cs' 160)) (hlen : cs'.length = cs.length) (hsame : ∀ i, i ≠ 2 * k → i ≠ 2 * k + 1 → cs'[i]? = cs[i]?)
    (hk : LinkC (insN ns m nd) k (sh m p) cs'[2 * k]? cs'[2 * k + 1]?) : MixL h' ns m nd (k + 1) p d := by
  obtain ⟨c, g1, g2, g3⟩ := hl
  have : c = cs := by
    rw [h1] at g1
    injection g1 with g1
    injection g1 with g1
    exact (List.toArray_inj g1).symm
  subst this
  refine ⟨cs', h2, by rw [hlen, g2], fun j hj => ?_⟩
  by_cases e : j = k
  · subst e
    rw [if_pos (by omega)]
    exact hk
  · have := g3 j hj
    rw [hsame _ (by omega) (by omega), hsame _ (by omega) (by omega)]
    by_cases e2 : j < k
    · rw [if_pos e2] at this; rw [if_pos (by omega)]; exact this
    · rw [if_neg e2] at this; rw [if_neg (by omega)]; exact this

theorem NewL_turn {h h' : Hp} {ns : List Nd} {m k : Nat} {nd : Nd} {cs cs' : List Value} (h1 : h nd.lb = some (ob cs 160)) (hl : NewL h ns m nd k)
    (h2 : h' nd.lb = some (ob cs' 160)) (hlen : cs'.length = cs.length) (hsame : ∀ i, i ≠ 2 * k → i ≠ 2 * k + 1 → cs'[i]? = cs[i]?)
    (hk : k < nd.ht → LinkC (insN ns m nd) k (m + 1) cs'[2 * k]? cs'[2 * k + 1]?) : NewL h' ns m nd (k + 1) := by
  obtain ⟨c, g1, g2, g3⟩ := hl
  have : c = cs := by
    rw [h1] at g1
    injection g1 with g1
    injection g1 with g1
    exact (List.toArray_inj g1).symm
  subst this
  refine ⟨cs', h2, by rw [hlen, g2], fun j hj hjk => ?_⟩
  by_cases e : j = k
  · subst e; exact hk hj
  · have := g3 j hj (by omega)
    rw [hsame _ (by omega) (by omega), hsame _ (by omega) (by omega)]
    exact this

theorem NewL_far {h : Hp} {ns : List Nd} {m k : Nat} {nd : Nd} (hk : nd.ht ≤ k) (hl : NewL h ns m nd k) : NewL h ns m nd (k + 1) := by
  obtain ⟨cs, h1, h2, h3⟩ := hl
  exact ⟨cs, h1, h2, fun j hj _ => h3 j hj (by omega)⟩

end Go.Proofs.Ytckdkgphkjbbnaa.Hw

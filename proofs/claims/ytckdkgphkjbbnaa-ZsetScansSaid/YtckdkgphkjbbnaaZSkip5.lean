/- Lists with one more node: places, links. -/
import Derived.Test.YtckdkgphkjbbnaaZSkip4
set_option linter.unusedVariables false
set_option linter.unusedSimpArgs false
namespace Go.Proofs.Ytckdkgphkjbbnaa.Hw
open Go.Proofs

def insN (ns : List Nd) (m : Nat) (nd : Nd) : List Nd := ns.take (m + 1) ++ nd :: ns.drop (m + 1)
def sh (m p : Nat) : Nat := if p ≤ m then p else p + 1

theorem insN_lo {ns : List Nd} {m p : Nat} {nd : Nd} (hm : m < ns.length) (hp : p ≤ m) : (insN ns m nd)[p]? = ns[p]? := by
  unfold insN
  rw [List.getElem?_append_left (by simp; omega), List.getElem?_take]
  simp; omega

theorem insN_mid {ns : List Nd} {m : Nat} {nd : Nd} (hm : m < ns.length) : (insN ns m nd)[m + 1]? = some nd := by
  unfold insN
  rw [List.getElem?_append_right (by simp; omega)]
  have : m + 1 - (ns.take (m + 1)).length = 0 := by simp; omega
  rw [this]; rfl

theorem insN_hi {ns : List Nd} {m p : Nat} {nd : Nd} (hm : m < ns.length) (hp : m < p) : (insN ns m nd)[p + 1]? = ns[p]? := by
  unfold insN
  rw [List.getElem?_append_right (by simp; omega)]
  have : p + 1 - (ns.take (m + 1)).length = (p - (m + 1)) + 1 := by simp; omega
  rw [this, List.getElem?_cons_succ, List.getElem?_drop]
  congr 1
  omega

theorem insN_sh {ns : List Nd} {m p : Nat} {nd : Nd} (hm : m < ns.length) : (insN ns m nd)[sh m p]? = ns[p]? := by
  unfold sh
  split
  · rename_i h; exact insN_lo hm h
  · rename_i h; exact insN_hi hm (by omega)

theorem ptOf_sh {ns : List Nd} {m : Nat} {nd : Nd} (hm : m < ns.length) (q : Option Nat) : ptOf (insN ns m nd) (q.map (sh m)) = ptOf ns q := by
  cases q with
  | none => rfl
  | some q => simp [ptOf, insN_sh hm]

theorem htI_lo {ns : List Nd} {m p : Nat} {nd : Nd} (hm : m < ns.length) (hp : p ≤ m) : htOf (insN ns m nd) p = htOf ns p := by unfold htOf; rw [insN_lo hm hp]
theorem htI_mid {ns : List Nd} {m : Nat} {nd : Nd} (hm : m < ns.length) : htOf (insN ns m nd) (m + 1) = nd.ht := by unfold htOf; rw [insN_mid hm]; rfl
theorem htI_hi {ns : List Nd} {m p : Nat} {nd : Nd} (hm : m < ns.length) (hp : m < p) : htOf (insN ns m nd) (p + 1) = htOf ns p := by unfold htOf; rw [insN_hi hm hp]

/-- A link that does not pass the new node's place. -/
theorem Nx_keep {ns : List Nd} {m k p : Nat} {nd : Nd} {q : Option Nat} (hm : m < ns.length) (hq : Nx (htOf ns) k p q)
    (hpass : m < p ∨ nd.ht ≤ k ∨ ∃ q', q = some q' ∧ q' ≤ m) : Nx (htOf (insN ns m nd)) k (sh m p) (q.map (sh m)) := by
  cases q with
  | none =>
    intro r hr
    have hp : m < p ∨ nd.ht ≤ k := by
      rcases hpass with h | h | ⟨q', h, _⟩
      · exact .inl h
      · exact .inr h
      · cases h
    rcases Nat.lt_trichotomy r (m + 1) with h | h | h
    · rw [htI_lo hm (by omega)]
      refine hq r ?_
      unfold sh at hr; split at hr <;> omega
    · subst h
      rw [htI_mid hm]
      rcases hp with h1 | h1
      · unfold sh at hr; split at hr <;> omega
      · exact h1
    · obtain ⟨r', rfl⟩ : ∃ r', r = r' + 1 := ⟨r - 1, by omega⟩
      rw [htI_hi hm (by omega)]
      refine hq r' ?_
      unfold sh at hr; split at hr <;> omega
  | some q =>
    obtain ⟨h1, h2, h3⟩ := hq
    refine ⟨?_, ?_, fun r hr hr2 => ?_⟩
    · unfold sh; split <;> split <;> omega
    · show k < htOf (insN ns m nd) (sh m q)
      unfold sh
      split
      · rename_i h; rw [htI_lo hm h]; exact h2
      · rename_i h; rw [htI_hi hm (by omega)]; exact h2
    · rcases Nat.lt_trichotomy r (m + 1) with h | h | h
      · rw [htI_lo hm (by omega)]
        refine h3 r ?_ ?_
        · unfold sh at hr; split at hr <;> omega
        · unfold sh at hr2; split at hr2 <;> omega
      · subst h
        rw [htI_mid hm]
        rcases hpass with h4 | h4 | ⟨q', h4, h5⟩
        · unfold sh at hr; split at hr <;> omega
        · exact h4
        · injection h4 with h4; subst h4
          unfold sh at hr2; split at hr2 <;> omega
      · obtain ⟨r', rfl⟩ : ∃ r', r = r' + 1 := ⟨r - 1, by omega⟩
        rw [htI_hi hm (by omega)]
        refine h3 r' ?_ ?_
        · unfold sh at hr; split at hr <;> omega
        · unfold sh at hr2; split at hr2 <;> omega

/-- From the last node ahead to the new one. -/
theorem Nx_to {ns : List Nd} {m k : Nat} {nd : Nd} (hm : m < ns.length) (h0 : k < htOf ns 0) (hk : k < nd.ht) : Nx (htOf (insN ns m nd)) k (posF (htOf ns) k m) (some (m + 1)) := by
  obtain ⟨h1, h2, h3⟩ := posF_spec h0 m
  refine ⟨by omega, by rw [htI_mid hm]; exact hk, fun r hr hr2 => ?_⟩
  rw [htI_lo hm (by omega)]
  exact h3 r hr (by omega)

/-- From the new node on. -/
theorem Nx_from {ns : List Nd} {m k : Nat} {nd : Nd} {q : Option Nat} (hm : m < ns.length) (h0 : k < htOf ns 0) (hq : Nx (htOf ns) k (posF (htOf ns) k m) q) : Nx (htOf (insN ns m nd)) k (m + 1) (q.map (sh m)) := by
  obtain ⟨h1, h2, h3⟩ := posF_spec h0 m
  cases q with
  | none =>
    intro r hr
    obtain ⟨r', rfl⟩ : ∃ r', r = r' + 1 := ⟨r - 1, by omega⟩
    rw [htI_hi hm (by omega)]
    exact hq r' (by omega)
  | some q =>
    obtain ⟨g1, g2, g3⟩ := hq
    have hqm : m < q := by
      rcases Nat.lt_or_ge m q with h | h
      · exact h
      · have := h3 q g1 h; omega
    have hs : sh m q = q + 1 := by unfold sh; rw [if_neg (by omega)]
    refine ⟨by show m + 1 < sh m q; omega, ?_, fun r hr hr2 => ?_⟩
    · show k < htOf _ (sh m q)
      rw [hs, htI_hi hm hqm]; exact g2
    · rw [hs] at hr2
      obtain ⟨r', rfl⟩ : ∃ r', r = r' + 1 := ⟨r - 1, by omega⟩
      rw [htI_hi hm (by omega)]
      exact g3 r' (by omega) (by omega)

end Go.Proofs.Ytckdkgphkjbbnaa.Hw

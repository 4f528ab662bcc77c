/- Lists with one node less: links. -/
import Derived.Test.YtckdkgphkjbbnaaZSkip8
set_option linter.unusedVariables false
set_option linter.unusedSimpArgs false
namespace Go.Proofs.Ytckdkgphkjbbnaa.Hw
open Go.Proofs

theorem Nx_uniq {ht : Nat → Nat} {k p : Nat} {q q' : Option Nat} (h : Nx ht k p q) (h' : Nx ht k p q') : q = q' := by
  cases q with
  | none =>
    cases q' with
    | none => rfl
    | some q' => have := h q' h'.1; have := h'.2.1; omega
  | some q =>
    cases q' with
    | none => have := h' q h.1; have := h.2.1; omega
    | some q' =>
      rcases Nat.lt_trichotomy q q' with hl | hl | hl
      · have := h'.2.2 q h.1 hl; have := h.2.1; omega
      · rw [hl]
      · have := h.2.2 q' h'.1 hl; have := h'.2.1; omega

theorem least_of {P : Nat → Prop} : ∀ n, P n → ∃ q, P q ∧ ∀ r, r < q → ¬ P r := by
  intro n
  induction n using Nat.strongRecOn with
  | ind n ih =>
    intro hn
    by_cases h : ∃ r, r < n ∧ P r
    · obtain ⟨r, h1, h2⟩ := h
      exact ih r h1 h2
    · exact ⟨n, hn, fun r hr hp => h ⟨r, hr, hp⟩⟩

theorem Nx_ex (ht : Nat → Nat) (k p N : Nat) (hN : ∀ r, N ≤ r → ht r = 0) : ∃ q, Nx ht k p q := by
  by_cases h : ∃ q, p < q ∧ k < ht q
  · obtain ⟨q, h1, h2⟩ : ∃ q, (p < q ∧ k < ht q) ∧ ∀ r, r < q → ¬ (p < r ∧ k < ht r) := by
      obtain ⟨q, hq⟩ := h
      exact least_of (P := fun q => p < q ∧ k < ht q) q hq
    exact ⟨some q, h1.1, h1.2, fun r g1 g2 => by have := h2 r g2; omega⟩
  · exact ⟨none, fun r hr => by
      rcases Nat.lt_or_ge k (ht r) with h1 | h1
      · exact (h ⟨r, hr, h1⟩).elim
      · exact h1⟩

theorem htOf_big (ns : List Nd) (r : Nat) (h : ns.length ≤ r) : htOf ns r = 0 := by
  unfold htOf
  rw [List.getElem?_eq_none h]
  rfl

theorem LinkC_un {ns : List Nd} {k p : Nat} {c0 c1 : Option Value} {q : Option Nat} (h : LinkC ns k p c0 c1) (hq : Nx (htOf ns) k p q) :
    ∃ by_, c0 = some (.pointer (ptOf ns q)) ∧ c1 = some (.int .i64 by_) ∧ ∀ q', q = some q' → by_ = (q' : Int) - p := by
  obtain ⟨q2, by_, h1, h2, h3, h4⟩ := h
  have := Nx_uniq hq h1
  subst this
  exact ⟨by_, h2, h3, h4⟩

theorem posF_ins {ns : List Nd} {m k : Nat} {nd : Nd} (hm : m < ns.length) : ∀ j, j ≤ m → posF (htOf (insN ns m nd)) k j = posF (htOf ns) k j := by
  intro j
  induction j with
  | zero => intro _; rfl
  | succ j ih => intro hj; simp only [posF]; rw [htI_lo hm hj, ih (by omega)]

/-- The place ahead, and where it leads. -/
theorem Nx_behind {ns : List Nd} {m k q : Nat} (h0 : k < htOf ns 0) (hq : Nx (htOf ns) k (posF (htOf ns) k m) (some q)) : m < q := by
  obtain ⟨g1, g2, g3⟩ := posF_spec h0 m
  rcases Nat.lt_or_ge m q with h | h
  · exact h
  · have := g3 q hq.1 h; have := hq.2.1; omega

theorem LinkC_drop_keep {ns : List Nd} {m k p : Nat} {nd : Nd} {c0 c1 : Option Value} (hm : m < ns.length) (h0 : k < htOf ns 0) (hkp : k < htOf ns p) (hp : p ≠ posF (htOf ns) k m) (h : LinkC (insN ns m nd) k (sh m p) c0 c1) :
    LinkC ns k p c0 c1 := by
  obtain ⟨q, hq⟩ := Nx_ex (htOf ns) k p ns.length (htOf_big ns)
  have hk := LinkC_keep (nd := nd) (c0 := some (.pointer (ptOf ns q))) (c1 := some (.int .i64 (match q with | some q' => (q' : Int) - p | none => 0))) hm h0 hkp hp
    ⟨q, _, hq, rfl, rfl, fun q' e => by subst e; rfl⟩
  obtain ⟨q2, b2, h1, h2, h3, h4⟩ := hk
  obtain ⟨b, e0, e1, e2⟩ := LinkC_un h h1
  refine ⟨q, b, hq, by rw [e0, ← h2], e1, fun q' hq' => ?_⟩
  subst hq'
  injection h3 with h3
  injection h3 with _ h3
  cases q2 with
  | none =>
    exfalso
    have hx : ptOf ns (some q') = none := by injection h2 with h2; injection h2 with h2
    obtain ⟨d, hd, _⟩ := nd_get hq.2.1
    simp [ptOf, hd] at hx
  | some q2 =>
    have := h4 q2 rfl
    have := e2 q2 rfl
    simp only at h3
    omega

theorem LinkC_drop_far {ns : List Nd} {m k : Nat} {nd : Nd} {c0 c1 : Option Value} (hm : m < ns.length) (h0 : k < htOf ns 0) (hk : nd.ht ≤ k) (h : LinkC (insN ns m nd) k (sh m (posF (htOf ns) k m)) c0 c1) :
    ∃ q by_, Nx (htOf ns) k (posF (htOf ns) k m) q ∧ c0 = some (.pointer (ptOf ns q)) ∧ c1 = some (.int .i64 by_) ∧ ∀ q', q = some q' → by_ - 1 = (q' : Int) - (posF (htOf ns) k m : Nat) ∧ m < q' := by
  obtain ⟨q, hq⟩ := Nx_ex (htOf ns) k (posF (htOf ns) k m) ns.length (htOf_big ns)
  obtain ⟨g1, g2, g3⟩ := posF_spec h0 m
  have hk := Nx_keep (nd := nd) hm hq (.inr (.inl hk))
  obtain ⟨b, e0, e1, e2⟩ := LinkC_un h hk
  rw [ptOf_sh hm] at e0
  refine ⟨q, b, hq, e0, e1, fun q' e => ?_⟩
  subst e
  have hb := Nx_behind h0 hq
  have := e2 _ rfl
  unfold sh at this
  rw [if_neg (by omega), if_pos g1] at this
  omega

theorem LinkC_drop_at {ns : List Nd} {m k : Nat} {nd : Nd} {c0 c1 : Option Value} (hm : m < ns.length) (h0 : k < htOf ns 0) (hk : k < nd.ht) (h : LinkC (insN ns m nd) k (sh m (posF (htOf ns) k m)) c0 c1) :
    c0 = some (.pointer (some ⟨nd.b, 0, none⟩)) ∧ c1 = some (.int .i64 ((m : Int) + 1 - (posF (htOf ns) k m : Nat))) := by
  obtain ⟨g1, g2, g3⟩ := posF_spec h0 m
  have e : sh m (posF (htOf ns) k m) = posF (htOf ns) k m := by unfold sh; rw [if_pos g1]
  rw [e] at h
  obtain ⟨b, e0, e1, e2⟩ := LinkC_un h (Nx_to hm h0 hk)
  refine ⟨by rw [e0]; simp [ptOf, insN_mid hm], ?_⟩
  rw [e1, e2 _ rfl]
  rfl

theorem LinkC_drop_from {ns : List Nd} {m k : Nat} {nd : Nd} {c0 c1 : Option Value} (hm : m < ns.length) (h0 : k < htOf ns 0) (h : LinkC (insN ns m nd) k (m + 1) c0 c1) :
    ∃ q by_, Nx (htOf ns) k (posF (htOf ns) k m) q ∧ c0 = some (.pointer (ptOf ns q)) ∧ c1 = some (.int .i64 by_) ∧ ∀ q', q = some q' → by_ = (q' : Int) - m ∧ m < q' := by
  obtain ⟨q, hq⟩ := Nx_ex (htOf ns) k (posF (htOf ns) k m) ns.length (htOf_big ns)
  obtain ⟨b, e0, e1, e2⟩ := LinkC_un h (Nx_from (nd := nd) hm h0 hq)
  rw [ptOf_sh hm] at e0
  refine ⟨q, b, hq, e0, e1, fun q' e => ?_⟩
  subst e
  have hb := Nx_behind h0 hq
  have := e2 _ rfl
  unfold sh at this
  rw [if_neg (by omega)] at this
  omega

/-- A node while the levels below k lead as in the list with one node less. -/
def MixD (h : Hp) (ns : List Nd) (m : Nat) (nd : Nd) (k p : Nat) (d : Nd) : Prop :=
  ∃ cs, h d.lb = some (ob cs 160) ∧ cs.length = 2 * d.ht ∧ ∀ j, j < d.ht → if j < k then LinkC ns j p cs[2 * j]? cs[2 * j + 1]? else LinkC (insN ns m nd) j (sh m p) cs[2 * j]? cs[2 * j + 1]?

theorem MixD_start {h : Hp} {ns : List Nd} {m p : Nat} {nd d : Nd} (hl : LinksH h (insN ns m nd) (sh m p) d) : MixD h ns m nd 0 p d := by
  obtain ⟨cs, h1, h2, h3⟩ := hl
  exact ⟨cs, h1, h2, fun j hj => by rw [if_neg (by omega)]; exact h3 j hj⟩

theorem MixD_end {h : Hp} {ns : List Nd} {m p : Nat} {nd d : Nd} (hd : d.ht ≤ 16) (hl : MixD h ns m nd 16 p d) : LinksH h ns p d := by
  obtain ⟨cs, h1, h2, h3⟩ := hl
  exact ⟨cs, h1, h2, fun j hj => by have := h3 j hj; rw [if_pos (by omega)] at this; exact this⟩

theorem MixD_fr {h h' : Hp} {S : List Nat} {ns : List Nd} {m k p : Nat} {nd d : Nd} (f : Fr S h h') (hn : d.lb ∉ S) (hl : MixD h ns m nd k p d) : MixD h' ns m nd k p d := by
  obtain ⟨cs, h1, h2, h3⟩ := hl
  exact ⟨cs, f _ _ h1 hn, h2, h3⟩

theorem MixD_next {h : Hp} {ns : List Nd} {m k p : Nat} {nd d : Nd} (hm : m < ns.length) (h0 : k < htOf ns 0) (hd : ns[p]? = some d) (hp : p ≠ posF (htOf ns) k m) (hl : MixD h ns m nd k p d) : MixD h ns m nd (k + 1) p d := by
  obtain ⟨cs, h1, h2, h3⟩ := hl
  refine ⟨cs, h1, h2, fun j hj => ?_⟩
  have := h3 j hj
  by_cases e : j = k
  · subst e
    rw [if_neg (by omega)] at this
    rw [if_pos (by omega)]
    refine LinkC_drop_keep hm h0 ?_ hp this
    unfold htOf
    rw [hd]
    exact hj
  · by_cases e2 : j < k
    · rw [if_pos e2] at this; rw [if_pos (by omega)]; exact this
    · rw [if_neg e2] at this; rw [if_neg (by omega)]; exact this

theorem MixD_turn {h h' : Hp} {ns : List Nd} {m k p : Nat} {nd d : Nd} {cs cs' : List Value} (h1 : h d.lb = some (ob cs 160)) (hl : MixD h ns m nd k p d)
    (h2 : h' d.lb = some (ob cs' 160)) (hlen : cs'.length = cs.length) (hsame : ∀ i, i ≠ 2 * k → i ≠ 2 * k + 1 → cs'[i]? = cs[i]?)
    (hk : LinkC ns k p cs'[2 * k]? cs'[2 * k + 1]?) : MixD h' ns m nd (k + 1) p d := by
  obtain ⟨c, g1, g2, g3⟩ := hl
  have : c = cs := by
    rw [h1] at g1
    injection g1 with g1
    injection g1 with g1
    exact (List.toArray_inj g1).symm
  subst this
  refine ⟨cs', h2, by rw [hlen, g2], fun j hj => ?_⟩
  by_cases e : j = k
  · subst e
    rw [if_pos (by omega)]
    exact hk
  · have := g3 j hj
    rw [hsame _ (by omega) (by omega), hsame _ (by omega) (by omega)]
    by_cases e2 : j < k
    · rw [if_pos e2] at this; rw [if_pos (by omega)]; exact this
    · rw [if_neg e2] at this; rw [if_neg (by omega)]; exact this

/-- What is in memory while the levels below k are turned back. -/
structure MidD (h : Hp) (L : Nat) (seed : Int) (ns : List Nd) (m : Nat) (nd : Nd) (k : Nat) : Prop where
  top : h L = some (ob [.int .u64 seed, .pointer (Sk.hd ⟨seed, ns⟩), .int .i64 ((Sk.n ⟨seed, ns⟩ : Nat) + 1 : Int)] 147)
  nodes : ∀ (p : Nat) (d : Nd), ns[p]? = some d → h d.b = some (ob [.string ⟨d.x.m.toArray⟩, .int .i64 d.x.s, .slice (some ⟨d.lb, 0, none⟩) d.ht d.ht] 145)
  links : ∀ (p : Nat) (d : Nd), ns[p]? = some d → MixD h ns m nd k p d
  old : NodeH h (insN ns m nd) (m + 1) nd

/-- The list with one node less is well, and so it was. -/
theorem del_ok {L : Nat} {seed : Int} {ns : List Nd} {m : Nat} {nd : Nd} (hm : m < ns.length) (ho : Sk.ok ⟨seed, insN ns m nd⟩ L) : Sk.ok ⟨seed, ns⟩ L ∧ nd.b ∉ Sk.bs ⟨seed, ns⟩ L ∧ nd.lb ∉ Sk.bs ⟨seed, ns⟩ L := by
  have hsub : List.Sublist ns (insN ns m nd) := by
    unfold insN
    have h1 : List.Sublist (ns.take (m + 1) ++ ns.drop (m + 1)) (ns.take (m + 1) ++ nd :: ns.drop (m + 1)) := List.Sublist.append_left (List.sublist_cons_self _ _) _
    rwa [List.take_append_drop] at h1
  have hp : List.Perm (ndB (insN ns m nd)) ([nd.b, nd.lb] ++ ndB ns) := by
    have h1 : List.Perm (insN ns m nd) (nd :: ns) := by
      unfold insN
      refine List.perm_middle.trans ?_
      rw [List.take_append_drop]
    unfold ndB
    exact (List.Perm.flatMap_right _ h1)
  have hb := ho.bs
  unfold Sk.bs at hb
  have hb2 := (List.Perm.cons L hp).nodup_iff.1 hb
  simp only [List.nodup_cons, List.mem_append, List.mem_cons, List.not_mem_nil, or_false, List.cons_append, List.nil_append, not_or] at hb2
  obtain ⟨⟨a1, a2, a3⟩, ⟨a4, a5⟩, a6, a7⟩ := hb2
  refine ⟨⟨?_, fun d hd => ho.hts d (hsub.subset hd), ?_, ?_, fun d hd => ho.keys d (hsub.subset hd), ho.sd⟩, ?_, ?_⟩
  · have := ho.head
    rw [← this]
    exact (htI_lo hm (Nat.zero_le m)).symm
  · unfold Sk.bs
    exact List.nodup_cons.2 ⟨a3, a7⟩
  · have := ho.bnd
    have h2 := hsub.length_le
    exact Nat.lt_of_le_of_lt h2 this
  · unfold Sk.bs
    simp only [List.mem_cons, not_or]
    exact ⟨fun h => a1 h.symm, a5⟩
  · unfold Sk.bs
    simp only [List.mem_cons, not_or]
    exact ⟨fun h => a2 h.symm, a6⟩

end Go.Proofs.Ytckdkgphkjbbnaa.Hw

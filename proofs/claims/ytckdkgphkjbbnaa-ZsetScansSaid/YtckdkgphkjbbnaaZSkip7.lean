/- Contracts of package skip: Put. -/
import Derived.Test.YtckdkgphkjbbnaaZSkip6
set_option linter.unusedVariables false
set_option linter.unusedSimpArgs false
namespace Go.Proofs.Ytckdkgphkjbbnaa.Hw
open Go.Proofs

theorem nd_ne {s : Sk} {L : Nat} (ho : s.ok L) {p q : Nat} {d e : Nd} (hd : s.ns[p]? = some d) (he : s.ns[q]? = some e) : L ≠ d.b ∧ L ≠ d.lb ∧ d.b ≠ e.lb ∧ (p ≠ q → d.lb ≠ e.lb) := by
  have hb := ho.bs
  unfold Sk.bs ndB at hb
  simp only [List.nodup_cons, List.mem_flatMap, not_exists, not_and] at hb
  have hdm := List.mem_of_getElem? hd
  have h1 := hb.1 d hdm
  simp only [List.mem_cons, List.not_mem_nil, or_false, not_or] at h1
  have gen : ∀ (l : List Nd), (l.flatMap fun d => [d.b, d.lb]).Nodup → ∀ (p q : Nat) (d e : Nd), l[p]? = some d → l[q]? = some e → d.b ≠ e.lb ∧ (p ≠ q → d.lb ≠ e.lb) := by
    intro l
    induction l with
    | nil => intro _ p q d e h; simp at h
    | cons a l ih =>
      intro hn p q d e hd he
      simp only [List.flatMap_cons, List.cons_append, List.nil_append, List.nodup_cons, List.mem_cons, List.mem_flatMap, not_or, not_exists, not_and] at hn
      obtain ⟨⟨n1, n2⟩, n3, n4⟩ := hn
      cases p with
      | zero =>
        simp at hd; subst hd
        cases q with
        | zero => simp at he; subst he; exact ⟨n1, fun h => (h rfl).elim⟩
        | succ q =>
          simp at he
          have hm := List.mem_of_getElem? he
          have g1 := n2 e hm
          have g2 := n3 e hm
          simp only [List.mem_cons, List.not_mem_nil, or_false, not_or] at g1 g2
          exact ⟨g1.2.1, fun _ => g2.2.1⟩
      | succ p =>
        simp at hd
        have hm := List.mem_of_getElem? hd
        cases q with
        | zero =>
          simp at he; subst he
          have g2 := n3 d hm
          simp only [List.mem_cons, List.not_mem_nil, or_false, not_or] at g2
          exact ⟨fun h => g2.1 h.symm, fun _ h => g2.2.1 h.symm⟩
        | succ q =>
          simp at he
          have := ih n4 p q d e hd he
          exact ⟨this.1, fun h => this.2 (fun h2 => h (by rw [h2]))⟩
  obtain ⟨g1, g2⟩ := gen s.ns hb.2 p q d e hd he
  exact ⟨h1.1, h1.2, g1, g2⟩

theorem SkH.le {h h' : Hp} {L : Nat} {s : Sk} (hS : SkH h L s) (l : Le h h') : SkH h' L s :=
  ⟨l _ _ hS.1, fun p d hd => by
    obtain ⟨n1, cs, n2, n3, n4⟩ := hS.2 p d hd
    exact ⟨l _ _ n1, cs, l _ _ n2, n3, n4⟩⟩

/-- What is in memory while the levels below k are turned. -/
structure Mid (h : Hp) (L : Nat) (s : Sk) (m : Nat) (nd : Nd) (k : Nat) : Prop where
  top : h L = some (ob [.int .u64 s.seed, .pointer s.hd, .int .i64 (s.n : Int)] 147)
  nodes : ∀ (p : Nat) (d : Nd), s.ns[p]? = some d → h d.b = some (ob [.string ⟨d.x.m.toArray⟩, .int .i64 d.x.s, .slice (some ⟨d.lb, 0, none⟩) d.ht d.ht] 145)
  links : ∀ (p : Nat) (d : Nd), s.ns[p]? = some d → MixL h s.ns m nd k p d
  new : h nd.b = some (ob [.string ⟨nd.x.m.toArray⟩, .int .i64 nd.x.s, .slice (some ⟨nd.lb, 0, none⟩) nd.ht nd.ht] 145)
  newl : NewL h s.ns m nd k

theorem SkH.dom {h : Hp} {L : Nat} {s : Sk} (hS : SkH h L s) : ∀ b ∈ s.bs L, ∃ o, h b = some o := by
  intro b hb
  unfold Sk.bs ndB at hb
  rcases List.mem_cons.1 hb with h1 | h1
  · subst h1; exact ⟨_, hS.1⟩
  · obtain ⟨d, hd, h2⟩ := List.mem_flatMap.1 h1
    obtain ⟨p, hp⟩ := List.getElem?_of_mem hd
    obtain ⟨n1, cs, n2, _⟩ := hS.2 p d hp
    simp only [List.mem_cons, List.not_mem_nil, or_false] at h2
    rcases h2 with h3 | h3
    · subst h3; exact ⟨_, n1⟩
    · subst h3; exact ⟨_, n2⟩

theorem SkH.fresh {h : Hp} {L : Nat} {s : Sk} (hS : SkH h L s) {b : Nat} (hb : h b = none) : b ∉ s.bs L := by
  intro hm
  obtain ⟨o, ho⟩ := hS.dom b hm
  rw [hb] at ho; cases ho

theorem mem_bs {s : Sk} {L p : Nat} {e : Nd} (he : s.ns[p]? = some e) : e.b ∈ s.bs L ∧ e.lb ∈ s.bs L := by
  have hm := List.mem_of_getElem? he
  unfold Sk.bs ndB
  exact ⟨List.mem_cons_of_mem _ (List.mem_flatMap.2 ⟨e, hm, by simp⟩), List.mem_cons_of_mem _ (List.mem_flatMap.2 ⟨e, hm, by simp⟩)⟩

/-- A level turned: the node at its last place ahead, and the new one. -/
theorem Mid.next {y z : Hp} {L : Nat} {s : Sk} {m k : Nat} {nd d : Nd} (ho : s.ok L) (hm : m < s.ns.length) (h0 : k < htOf s.ns 0) (my : Mid y L s m nd k) (hd : s.ns[posF (htOf s.ns) k m]? = some d)
    (n1 : nd.lb ∉ s.bs L) (n2 : nd.b ∉ s.bs L) (n3 : nd.b ≠ nd.lb) (f : Fr [d.lb, nd.lb] y z) (hP : MixL z s.ns m nd (k + 1) (posF (htOf s.ns) k m) d) (hN : NewL z s.ns m nd (k + 1)) : Mid z L s m nd (k + 1) := by
  have mem : ∀ (p : Nat) (e : Nd), s.ns[p]? = some e → e.b ∈ s.bs L ∧ e.lb ∈ s.bs L := by
    intro p e he
    have hm := List.mem_of_getElem? he
    unfold Sk.bs ndB
    exact ⟨List.mem_cons_of_mem _ (List.mem_flatMap.2 ⟨e, hm, by simp⟩), List.mem_cons_of_mem _ (List.mem_flatMap.2 ⟨e, hm, by simp⟩)⟩
  have hL : L ∈ s.bs L := by simp [Sk.bs]
  have hdm := mem _ d hd
  obtain ⟨w1, w2, w3, w4⟩ := nd_ne ho hd hd
  refine ⟨f _ _ my.top ?_, fun p e he => f _ _ (my.nodes p e he) ?_, fun p e he => ?_, f _ _ my.new ?_, hN⟩
  · simp only [List.mem_cons, List.not_mem_nil, or_false, not_or]
    exact ⟨w2, fun h => n1 (h ▸ hL)⟩
  · simp only [List.mem_cons, List.not_mem_nil, or_false, not_or]
    exact ⟨(nd_ne ho he hd).2.2.1, fun h => n1 (h ▸ (mem p e he).1)⟩
  · by_cases hp : p = posF (htOf s.ns) k m
    · subst hp
      rw [hd] at he
      injection he with he
      subst he
      exact hP
    · refine MixL_next hm h0 he hp (MixL_fr f ?_ (my.links p e he))
      simp only [List.mem_cons, List.not_mem_nil, or_false, not_or]
      exact ⟨(nd_ne ho he hd).2.2.2 hp, fun h => n1 (h ▸ (mem p e he).2)⟩
  · simp only [List.mem_cons, List.not_mem_nil, or_false, not_or]
    exact ⟨fun h => n2 (h ▸ hdm.2), n3⟩

end Go.Proofs.Ytckdkgphkjbbnaa.Hw

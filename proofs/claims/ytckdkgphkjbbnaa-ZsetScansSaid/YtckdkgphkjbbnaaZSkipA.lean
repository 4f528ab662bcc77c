/- Contracts of package skip: Drop. -/
import Derived.Test.YtckdkgphkjbbnaaZSkip9
set_option linter.unusedVariables false
set_option linter.unusedSimpArgs false
namespace Go.Proofs.Ytckdkgphkjbbnaa.Hw
open Go.Proofs

theorem Drop_sk {h : Hp} {L : Nat} {seed : Int} {ns : List Nd} {x : Pr} {m : Nat} {nd : Nd} {K : Value → Hp → Prop} (hm : m < ns.length) (hS : SkH h L ⟨seed, insN ns m nd⟩) (ho : Sk.ok ⟨seed, insN ns m nd⟩ L) (hx : nd.x = x)
    (hp : ∀ p d, (insN ns m nd)[p]? = some d → 0 < p → (prLess d.x x = true ↔ p ≤ m))
    (hyes : ∀ h', SkH h' L ⟨seed, ns⟩ → Fr (Sk.bs ⟨seed, ns⟩ L) h h' → K (.bool true) h') :
    CallH Try.prog 46 #[.pointer (some ⟨L, 0, none⟩), .agg #[.string ⟨x.m.toArray⟩, .int .i64 x.s]] h K := by
  apply F46_ok
  unfold F46
  obtain ⟨s, hs⟩ : ∃ s : Sk, s = ⟨seed, insN ns m nd⟩ := ⟨_, rfl⟩
  have hsn : s.ns = insN ns m nd := by rw [hs]
  rw [← hs] at hS ho
  obtain ⟨ho', nb, nlb⟩ := del_ok hm (hs ▸ ho)
  have hmI : m < (insN ns m nd).length := by simp [insN]; omega
  have hm' : m < s.ns.length := by rw [hsn]; exact hmI
  have hp' : ∀ p d, s.ns[p]? = some d → 0 < p → (prLess d.x x = true ↔ p ≤ m) := by rw [hsn]; exact hp
  refine new_mk fun b1 g1 hb1 e1 l1 _ => ?_
  have hS1 := hS.le l1
  refine ready_sk hS1 ho ⟨_, rfl, fun hx => by simp at hx, fun _ => ?_⟩
  refine ⟨x.m, x.s, row_all (cs := prC x) e1, ?_⟩
  refine to_ok hS1 ho hm' hp' fun g2 l2 => ?_
  obtain ⟨f, hf⟩ : ∃ f : Nat → Option Addr, f = fun k => ptOf s.ns (some (posF (htOf s.ns) k m)) := ⟨_, rfl⟩
  obtain ⟨g, hg⟩ : ∃ g : Nat → Int, g = fun k => (posF (htOf s.ns) k m : Int) := ⟨_, rfl⟩
  rw [← hf, ← hg]
  refine ⟨f 0, f 1, f 2, f 3, f 4, f 5, f 6, f 7, f 8, f 9, f 10, f 11, f 12, f 13, f 14, f 15, g 0, g 1, g 2, g 3, g 4, g 5, g 6, g 7, g 8, g 9, g 10, g 11, g 12, g 13, g 14, g 15, rfl, ?_⟩
  refine new_mk fun b2 g3 hb2 e2 l3 _ => ?_
  show stN g3 ⟨b2, 0, none⟩ (trC f g) _
  refine stN_all (cs := trC (fun _ => none) (fun _ => 0)) e2 rfl (by simp [oneCell, trC]) ?_
  generalize hg4 : upd g3 b2 (ob (trC f g) 157) = g4
  have e4 : g4 b2 = some (ob (trC f g) 157) := by rw [← hg4]; exact upd_same _ _ _
  have l4 : Le g2 g4 := l3.fr_then (S := [b2]) (by rw [← hg4]; exact Fr.upd _ (by simp)) fun b hb => by simp at hb; rw [hb]; exact hb2
  have la := (l1.trans l2).trans l4
  refine ⟨x.m, x.s, row_all (cs := prC x) ((l2.trans l4) _ _ e1), ?_⟩
  have hfk : ∀ k, f k = ptOf ns (some (posF (htOf ns) k m)) := by
    intro k
    rw [hf]
    show ptOf s.ns (some (posF (htOf s.ns) k m)) = _
    rw [hsn, posF_ins hm m (Nat.le_refl _)]
    rcases Nat.lt_or_ge m (posF (htOf ns) k m) with hc | hc
    · exfalso
      have : ∀ j, posF (htOf ns) k j ≤ j := by
        intro j
        induction j with
        | zero => exact Nat.le_refl _
        | succ j ih => simp only [posF]; split <;> omega
      have := this m
      omega
    · simp [ptOf, insN_lo hm hc]
  have h16 : htOf ns 0 = 16 := ho'.head
  have pos0 : posF (htOf ns) 0 m = m := by
    refine posF_eq (p := m) (by rw [h16]; omega) (Nat.le_refl _) ?_ (fun r h1 h2 => by omega)
    unfold htOf
    rw [List.getElem?_eq_getElem hm]
    exact (ho'.hts _ (List.getElem_mem hm)).1
  have hf0 : f 0 = ptOf s.ns (some m) := by rw [hfk 0, pos0, hsn]; simp [ptOf, insN_lo hm (Nat.le_refl m)]
  have hhas : hasAt s.ns m x = true := by
    unfold hasAt
    rw [hsn, insN_mid hm]
    simp [hx]
  refine has_ok (hS.le la) ho e4 hf0 hm' fun g5 l5 => ⟨_, rfl, (fun hx => by rw [hhas] at hx; cases hx), fun _ => ?_⟩
  have lb := la.trans l5
  have hSb := hS.le lb
  have e5 : g5 b2 = some (ob (trC f g) 157) := l5 _ _ e4
  have hdm : ns[m]? = some ns[m] := List.getElem?_eq_getElem hm
  have hNm := hSb.2 m ns[m] (by rw [hsn, insN_lo hm (Nat.le_refl m)]; exact hdm)
  have hdm1 := (ho'.hts _ (List.getElem_mem hm)).1
  obtain ⟨cs, hcs, hcl, hlk⟩ := hNm.2
  obtain ⟨t0, t1⟩ := LinkC_drop_at (k := 0) (nd := nd) hm (by rw [h16]; omega) (by
    have := ho.hts nd (by rw [hsn]; exact List.mem_of_getElem? (insN_mid hm)); omega) (by
    have := hlk 0 (by omega)
    rw [hsn] at this
    rw [pos0]
    have e : sh m m = m := by unfold sh; rw [if_pos (Nat.le_refl m)]
    rw [e]; exact this)
  refine ⟨by omega, by omega, f 0, by simp only [add_mk]; rw [cell_mk e5]; rfl, ?_⟩
  have hpt : f 0 = some ⟨ns[m].b, 0, none⟩ := by rw [hfk 0, pos0]; simp [ptOf, hdm]
  rw [hpt]
  simp only [NN_some, add_mk]
  refine ⟨_, _, _, by rw [cell_mk hNm.1]; rfl, by omega, by omega, ?_⟩
  simp only [NN_some, add_mk]
  refine ⟨some ⟨nd.b, 0, none⟩, by rw [cell_mk hcs]; exact t0, ?_⟩
  intro K1 hK1 W1 hW1
  have hNd : NodeH g5 (insN ns m nd) (m + 1) nd := by
    have := hSb.2 (m + 1) nd (by rw [hsn]; exact insN_mid hm)
    rwa [hsn] at this
  have ndh := ho.hts nd (by rw [hsn]; exact List.mem_of_getElem? (insN_mid hm))
  have old : ∀ (p : Nat) (d : Nd), ns[p]? = some d → NodeH g5 (insN ns m nd) (sh m p) d := by
    intro p d hd
    have := hSb.2 (sh m p) d (by rw [hsn, insN_sh hm]; exact hd)
    rwa [hsn] at this
  have m0 : MidD g5 L seed ns m nd 0 := by
    refine ⟨?_, fun p d hd => (old p d hd).1, fun p d hd => MixD_start (old p d hd).2, hNd⟩
    have := hSb.1
    have e1 : s.hd = Sk.hd ⟨seed, ns⟩ := by simp [Sk.hd, ptOf, hsn, insN_lo hm (Nat.zero_le m)]
    have e2 : (s.n : Int) = (Sk.n ⟨seed, ns⟩ : Nat) + 1 := by simp [Sk.n, hsn, insN]; omega
    rw [e1, e2] at this
    rw [this, hs]
  have hb20 : h b2 = none := (l1.trans l2).dom _ hb2
  have b2s : b2 ∉ s.bs L := hS.fresh hb20
  have bsub : ∀ b, b ∈ Sk.bs ⟨seed, ns⟩ L → b ∈ s.bs L := by
    intro b hb
    unfold Sk.bs ndB at *
    rcases List.mem_cons.1 hb with h1 | h1
    · subst h1; exact List.mem_cons_self
    · obtain ⟨d, hd, h2⟩ := List.mem_flatMap.1 h1
      refine List.mem_cons_of_mem _ (List.mem_flatMap.2 ⟨d, ?_, h2⟩)
      obtain ⟨p, hp⟩ := List.getElem?_of_mem hd
      rw [hsn]
      exact List.mem_of_getElem? (i := sh m p) (by rw [insN_sh hm]; exact hp)
  have b2n : b2 ∉ Sk.bs ⟨seed, ns⟩ L := fun h => b2s (bsub _ h)
  have step : ∀ (k : Nat) (y z : Hp) (d : Nd), k < 16 → MidD y L seed ns m nd k → ns[posF (htOf ns) k m]? = some d → Fr [d.lb] y z → MixD z ns m nd (k + 1) (posF (htOf ns) k m) d → MidD z L seed ns m nd (k + 1) := by
    intro k y z d hk my hd f hP
    obtain ⟨w1, w2, w3, w4⟩ := nd_ne ho' hd hd
    refine ⟨f _ _ my.top (by simpa using w2), fun p e he => f _ _ (my.nodes p e he) (by simpa using (nd_ne ho' he hd).2.2.1), fun p e he => ?_, ?_⟩
    · by_cases hp : p = posF (htOf ns) k m
      · subst hp
        rw [hd] at he
        injection he with he
        subst he
        exact hP
      · exact MixD_next hm (by rw [h16]; exact hk) he hp (MixD_fr f (by simpa using (nd_ne ho' he hd).2.2.2 hp) (my.links p e he))
    · obtain ⟨n1, c, n2, n3, n4⟩ := my.old
      have hmem := (mem_bs (s := ⟨seed, ns⟩) (L := L) hd).2
      refine ⟨f _ _ n1 ?_, c, f _ _ n2 ?_, n3, n4⟩
      · simp only [List.mem_singleton]; intro e; rw [e] at nb; exact nb hmem
      · simp only [List.mem_singleton]; intro e; rw [e] at nlb; exact nlb hmem
  have loop : ∀ (r k : Nat) (y : Hp), 16 - k = r → k ≤ 16 → MidD y L seed ns m nd k → y b2 = some (ob (trC f g) 157) → Fr (Sk.bs ⟨seed, ns⟩ L) h y → W1 [.int .i64 (k : Int)] y := by
    intro r
    induction r with
    | zero =>
      intro k y hr hk my yb yf
      have hk16 : k = 16 := by omega
      subst hk16
      refine hW1 _ _ fun _ => ⟨fun hx => by simp at hx, fun _ => hK1 _ fun _ => ?_⟩
      refine ⟨_, by rw [cell_mk my.top]; rfl, ?_⟩
      have hn : Sk.n ⟨seed, ns⟩ < 4611686018427387904 := by have := ho'.bnd; unfold Sk.n; omega
      rw [w64 (by omega) (by omega)]
      refine st1_mk my.top (by simp) ?_
      generalize hz : upd y L _ = z
      have fz : Fr [L] y z := by rw [← hz]; exact Fr.upd _ (by simp)
      refine hyes z ⟨?_, fun p d hd => ?_⟩ (yf.then fz fun b hb => .inl (by simp at hb; rw [hb]; simp [Sk.bs]))
      · rw [← hz, upd_same]
        have e : ((Sk.n ⟨seed, ns⟩ : Nat) + 1 : Int) - 1 = (Sk.n ⟨seed, ns⟩ : Nat) := by omega
        rw [e]; rfl
      · obtain ⟨w1, w2, _, _⟩ := nd_ne ho' hd hd
        exact ⟨fz _ _ (my.nodes p d hd) (by simpa using w1.symm), MixD_end (ho'.hts d (List.mem_of_getElem? hd)).2 (MixD_fr fz (by simpa using w2.symm) (my.links p d hd))⟩
    | succ r ih =>
      intro k y hr hk my yb yf
      have hk16 : k < 16 := by omega
      refine hW1 _ _ fun _ => ⟨fun _ => ?_, fun hx => by have := of_decide_eq_false hx; omega⟩
      intro K2 hK2
      rw [w64 (by omega) (by omega)] at hK2
      have hk0 : k < htOf ns 0 := by rw [h16]; exact hk16
      obtain ⟨q1, q2, q3⟩ := posF_spec hk0 m
      obtain ⟨d, hd, hdt⟩ := nd_get q2
      have hpt : f k = some ⟨d.b, 0, none⟩ := by rw [hfk]; simp [ptOf, hd]
      simp only [add_mk, Int.toNat_natCast]
      refine ⟨by omega, by omega, f k, by rw [cell_mk yb]; simp only [Nat.zero_add, Nat.mul_one]; exact trC_at f g hk16, ?_⟩
      rw [hpt]
      simp only [NN_some, add_mk]
      refine ⟨_, _, _, by rw [cell_mk (my.nodes _ d hd)]; rfl, by omega, by omega, ?_⟩
      simp only [NN_some, add_mk]
      obtain ⟨cs, c1, c2, c3⟩ := my.links _ d hd
      have hlk := c3 k (by omega)
      rw [if_neg (by omega)] at hlk
      have eL : 0 + k * 2 + 0 = 2 * k := by omega
      have eL1 : 0 + k * 2 + 1 = 2 * k + 1 := by omega
      have eL2 : 0 + k * 2 = 2 * k := by omega
      have hmemb := (mem_bs (s := ⟨seed, ns⟩) (L := L) hd)
      have b2d : b2 ≠ d.lb := fun e => b2n (by rw [e]; exact hmemb.2)
      rcases Nat.lt_or_ge k nd.ht with hkn | hkn
      · -- the node stands in this level
        obtain ⟨t0, t1⟩ := LinkC_drop_at (nd := nd) hm hk0 hkn hlk
        refine ⟨some ⟨nd.b, 0, none⟩, by rw [cell_mk c1, eL]; exact t0, ?_⟩
        obtain ⟨o1, co, o2, o3, o4⟩ := my.old
        refine ⟨fun _ => ?_, fun hne => (hne rfl).elim⟩
        rw [decide_eq_true (rfl : (⟨nd.b, 0, none⟩ : Addr) = _)]
        refine ⟨fun _ => ?_, (fun hx => by cases hx)⟩
        obtain ⟨q, by_, hq, u0, u1, hby⟩ := LinkC_drop_from hm hk0 (o4 k hkn)
        refine ⟨_, _, _, by rw [cell_mk o1]; rfl, by omega, by omega, ?_⟩
        simp only [NN_some, add_mk]
        refine ⟨ptOf ns q, by rw [cell_mk o2, eL]; exact u0, _, by rw [cell_mk c1, eL1]; exact t1, _, _, _, by rw [cell_mk o1]; rfl, by omega, by omega, ?_⟩
        simp only [NN_some, add_mk]
        refine ⟨by_, by rw [cell_mk o2, eL1]; exact u1, ?_⟩
        rw [eL2]
        refine stN_mk c1 (by simp; omega) (by simp [oneCell]) ?_
        generalize hz : upd y d.lb _ = z
        have fz : Fr [d.lb] y z := by rw [← hz]; exact Fr.upd _ (by simp)
        refine hK2 _ fun _ => ih (k + 1) z (by omega) (by omega) (step k y z d hk16 my hd fz ?_) ?_ (yf.then fz fun b hb => .inl (by simp at hb; rw [hb]; exact hmemb.2))
        · refine MixD_turn c1 (my.links _ d hd) (by rw [← hz]; exact upd_same _ _ _) (over_len _ _ _) (fun i h1 h2 => ?_) ?_
          · simp only [over]
            rw [List.getElem?_set, List.getElem?_set, if_neg (fun e => h2 e.symm), if_neg (fun e => h1 e.symm)]
          · simp only [over]
            rw [List.getElem?_set, List.getElem?_set, if_neg (by omega), if_pos rfl, if_pos (by omega), List.getElem?_set, if_pos rfl, if_pos (by simp; omega)]
            refine ⟨q, _, hq, rfl, rfl, fun q' e => ?_⟩
            obtain ⟨h1, h2⟩ := hby q' e
            have hql : q' < ns.length := by
              subst e
              obtain ⟨d2, hd2, _⟩ := nd_get hq.2.1
              exact (List.getElem?_eq_some_iff.1 hd2).1
            have := ho'.bnd
            have hb3 : ns.length < 4611686018427387904 := this
            rw [h1, w64 (n := (m : Int) + 1 - _ + _) (by omega) (by omega), w64 (by omega) (by omega)]
            omega
        · rw [← hz, upd_ne _ _ b2d]; exact yb
      · obtain ⟨q, by_, hq, t0, t1, hby⟩ := LinkC_drop_far hm hk0 hkn hlk
        refine ⟨ptOf ns q, by rw [cell_mk c1, eL]; exact t0, ?_⟩
        have hne : ptOf ns q ≠ some ⟨nd.b, 0, none⟩ := by
          intro e
          cases q with
          | none => simp [ptOf] at e
          | some q =>
            obtain ⟨d2, hd2, _⟩ := nd_get hq.2.1
            simp [ptOf, hd2] at e
            exact nb (by rw [← e]; exact (mem_bs (s := ⟨seed, ns⟩) (L := L) hd2).1)
        cases q with
        | none =>
          refine ⟨(fun hx => by cases hx), fun _ => ⟨ptOf ns none, by rw [cell_mk c1, eL]; exact t0, fun hs => by simp [ptOf] at hs, fun _ => ?_⟩⟩
          refine hK2 _ fun _ => ih (k + 1) y (by omega) (by omega) (step k y y d hk16 my hd (Fr.refl _ _) ?_) yb yf
          refine MixD_turn c1 (my.links _ d hd) c1 rfl (fun _ _ _ => rfl) ?_
          rw [t0, t1]
          exact ⟨none, by_, hq, rfl, rfl, fun q' h => by cases h⟩
        | some q =>
          obtain ⟨d2, hd2, _⟩ := nd_get hq.2.1
          have hpt2 : ptOf ns (some q) = some ⟨d2.b, 0, none⟩ := by simp [ptOf, hd2]
          have hbb : d2.b ≠ nd.b := fun e => hne (by rw [hpt2, e])
          rw [hpt2]
          have zq := my.nodes q d2 hd2
          refine ⟨fun e => (hbb e).elim, fun _ => ⟨⟨_, _, zq⟩, ⟨_, _, my.old.1⟩, (fun hx => by cases hx), fun _ => ?_⟩⟩
          refine ⟨some ⟨d2.b, 0, none⟩, by rw [cell_mk c1, eL, t0, hpt2], fun _ => ?_, fun hs => by simp at hs⟩
          refine ⟨by_, by rw [cell_mk c1, eL1]; exact t1, ?_⟩
          refine st1_mk c1 (by omega) ?_
          rw [eL1]
          generalize hz : upd y d.lb _ = z
          have fz : Fr [d.lb] y z := by rw [← hz]; exact Fr.upd _ (by simp)
          have hql : q < ns.length := (List.getElem?_eq_some_iff.1 hd2).1
          have hb3 : ns.length < 4611686018427387904 := ho'.bnd
          have hbq := hby q rfl
          refine hK2 _ fun _ => ih (k + 1) z (by omega) (by omega) (step k y z d hk16 my hd fz ?_) ?_ (yf.then fz fun b hb => .inl (by simp at hb; rw [hb]; exact hmemb.2))
          · refine MixD_turn c1 (my.links _ d hd) (by rw [← hz]; exact upd_same _ _ _) (by simp) (fun i _ h2 => by rw [List.getElem?_set]; rw [if_neg (fun e => h2 e.symm)]) ?_
            rw [List.getElem?_set, List.getElem?_set, if_neg (by omega), if_pos rfl, if_pos (by omega), t0, w64 (by omega) (by omega)]
            exact ⟨some q, by_ - 1, hq, rfl, rfl, fun q' e => by injection e with e; subst e; exact hbq.1⟩
          · rw [← hz, upd_ne _ _ b2d]; exact yb
  exact loop 16 0 g5 rfl (by omega) m0 e5 (lb.fr _)

end Go.Proofs.Ytckdkgphkjbbnaa.Hw

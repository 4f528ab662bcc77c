/- Contracts of package skip: Put (under way: does not build yet if it bears 'sorry'). -/
import Derived.Test.YtckdkgphkjbbnaaZSkip7
set_option linter.unusedVariables false
set_option linter.unusedSimpArgs false
namespace Go.Proofs.Ytckdkgphkjbbnaa.Hw
open Go.Proofs

theorem Put_sk {h : Hp} {L : Nat} {s : Sk} {x : Pr} {m : Nat} {K : Value → Hp → Prop} (hS : SkH h L s) (ho : s.ok L) (hm : m < s.ns.length) (hx : keyOk x.m) (hbd : s.ns.length + 1 < 4611686018427387904)
    (hp : ∀ p d, s.ns[p]? = some d → 0 < p → (prLess d.x x = true ↔ p ≤ m))
    (hno : hasAt s.ns m x = true → ∀ h', Le h h' → K (.bool false) h')
    (hyes : hasAt s.ns m x = false → ∀ h' nd, nd.x = x → 1 ≤ nd.ht → nd.ht ≤ 16 → h nd.b = none → h nd.lb = none → nd.b ≠ nd.lb → SkH h' L { s with ns := insN s.ns m nd } → Fr (s.bs L) h h' → K (.bool true) h') :
    CallH Try.prog 47 #[.pointer (some ⟨L, 0, none⟩), .agg #[.string ⟨x.m.toArray⟩, .int .i64 x.s]] h K := by
  apply F47_ok
  unfold F47
  refine new_mk fun b1 g1 hb1 e1 l1 _ => ?_
  have hS1 := hS.le l1
  refine ready_sk hS1 ho ⟨_, rfl, fun hx => by simp at hx, fun _ => ?_⟩
  refine ⟨x.m, x.s, row_all (cs := prC x) e1, ?_⟩
  refine to_ok hS1 ho hm hp fun g2 l2 => ?_
  obtain ⟨f, hf⟩ : ∃ f : Nat → Option Addr, f = fun k => ptOf s.ns (some (posF (htOf s.ns) k m)) := ⟨_, rfl⟩
  obtain ⟨g, hg⟩ : ∃ g : Nat → Int, g = fun k => (posF (htOf s.ns) k m : Int) := ⟨_, rfl⟩
  rw [← hf, ← hg]
  refine ⟨f 0, f 1, f 2, f 3, f 4, f 5, f 6, f 7, f 8, f 9, f 10, f 11, f 12, f 13, f 14, f 15, g 0, g 1, g 2, g 3, g 4, g 5, g 6, g 7, g 8, g 9, g 10, g 11, g 12, g 13, g 14, g 15, rfl, ?_⟩
  refine new_mk fun b2 g3 hb2 e2 l3 _ => ?_
  show stN g3 ⟨b2, 0, none⟩ (trC f g) _
  refine stN_all (cs := trC (fun _ => none) (fun _ => 0)) e2 rfl (by simp [oneCell, trC]) ?_
  generalize hg4 : upd g3 b2 (ob (trC f g) 157) = g4
  have e4 : g4 b2 = some (ob (trC f g) 157) := by rw [← hg4]; exact upd_same _ _ _
  have l4 : Le g2 g4 := l3.fr_then (S := [b2]) (by rw [← hg4]; exact Fr.upd _ (by simp)) fun b hb => by simp at hb; rw [hb]; exact hb2
  have la := (l1.trans l2).trans l4
  refine ⟨x.m, x.s, row_all (cs := prC x) ((l2.trans l4) _ _ e1), ?_⟩
  have hf0 : f 0 = ptOf s.ns (some m) := by
    rw [hf]
    show ptOf s.ns (some (posF (htOf s.ns) 0 m)) = _
    rw [posF_eq (p := m) (by rw [ho.head]; omega) (Nat.le_refl _) ?_ (fun r h1 h2 => by omega)]
    unfold htOf
    rw [List.getElem?_eq_getElem hm]
    exact (ho.hts _ (List.getElem_mem hm)).1
  refine has_ok (hS.le la) ho e4 hf0 hm fun g5 l5 => ⟨_, rfl, fun hx => hno hx _ (la.trans l5), fun hx2 => ?_⟩
  have lb := la.trans l5
  have eb1 : g5 b1 = some (ob (prC x) 56) := ((l2.trans l4).trans l5) _ _ e1
  refine ⟨x.m, x.s, row_all eb1, x.m, by rw [add_mk, cell_mk eb1]; rfl, ?_⟩
  refine height_ok (hS.le lb) hx fun n n1 n16 => ⟨_, rfl, ⟨⟨x.m, x.s, row_all eb1, rfl⟩, trivial⟩, ?_⟩
  refine ⟨by omega, by omega, by omega, by omega, new_mk fun b3 g6 hb3 e6 l6 _ => new_mk fun b4 g7 hb4 e7 l7 _ => ?_⟩
  intro K1 hK1 W1 hW1
  obtain ⟨nd, hnd⟩ : ∃ nd : Nd, nd = ⟨b4, b3, x, n⟩ := ⟨_, rfl⟩
  have ndx : nd.x = x := by rw [hnd]
  have ndh : nd.ht = n := by rw [hnd]
  have ndb : nd.b = b4 := by rw [hnd]
  have ndl : nd.lb = b3 := by rw [hnd]
  have n34 : b3 ≠ b4 := ne_of_some_none e6 hb4
  have l7' := (lb.trans l6).trans l7
  have hb30 : h b3 = none := lb.dom _ hb3
  have hb40 : h b4 = none := (lb.trans l6).dom _ hb4
  have hS7 := hS.le l7'
  have m0 : Mid g7 L s m nd 0 := by
    refine ⟨hS7.1, fun p d hd => (hS7.2 p d hd).1, fun p d hd => MixL_start (hS7.2 p d hd).2, ?_, ?_⟩
    · rw [ndb, ndx, ndl, ndh, e7]; rfl
    · refine ⟨repL n [.pointer none, .int .i64 0], ?_, ?_, fun j _ h => by omega⟩
      · rw [ndl, l7 _ _ e6]; rfl
      · rw [repL_len, ndh]; simp; omega
  have e72 : g7 b2 = some (ob (trC f g) 157) := ((l5.trans l6).trans l7) _ _ e4
  have nl : nd.lb ∉ s.bs L := hS.fresh (by rw [ndl]; exact hb30)
  have nb : nd.b ∉ s.bs L := hS.fresh (by rw [ndb]; exact hb40)
  have nbl : nd.b ≠ nd.lb := by rw [ndb, ndl]; exact n34.symm
  have hb20 : h b2 = none := (l1.trans l2).dom _ hb2
  have n2s : b2 ∉ s.bs L := hS.fresh hb20
  have n23 : b2 ≠ nd.lb := by rw [ndl]; exact ne_of_some_none (l5 _ _ e4) hb3
  have loop : ∀ (r k : Nat) (y : Hp), 16 - k = r → k ≤ 16 → Mid y L s m nd k → y b2 = some (ob (trC f g) 157) → Fr (s.bs L) h y → W1 [.int .i64 (k : Int)] y := by
    intro r
    induction r with
    | zero =>
      intro k y hr hk my yb yf
      have hk16 : k = 16 := by omega
      subst hk16
      refine hW1 _ _ fun _ => ⟨fun hx => by simp at hx, fun _ => hK1 _ fun _ => ?_⟩
      refine ⟨(s.n : Int), by rw [add_mk, cell_mk my.top]; rfl, ?_⟩
      have hn : s.n < 4611686018427387904 := by unfold Sk.n; omega
      rw [w64 (by omega) (by omega)]
      simp only [NN_some, add_mk]
      refine st1_mk my.top (by simp) ?_
      generalize hz : upd y L (ob ([.int .u64 s.seed, .pointer s.hd, .int .i64 (s.n : Int)].set (0 + 2) (.int .i64 ((s.n : Int) + 1))) 147) = z
      have fz : Fr [L] y z := by rw [← hz]; exact Fr.upd _ (by simp)
      refine hyes hx2 z nd ndx (by omega) (by omega) (by rw [ndb]; exact hb40) (by rw [ndl]; exact hb30) (by rw [ndb, ndl]; exact n34.symm) ?_ (yf.then fz fun b hb => .inl (by simp at hb; rw [hb]; simp [Sk.bs]))
      have hL4 : L ≠ nd.b := by rw [ndb]; exact ne_of_some_none hS.1 hb40
      have hL3 : L ≠ nd.lb := by rw [ndl]; exact ne_of_some_none hS.1 hb30
      have old : ∀ (p : Nat) (d : Nd), s.ns[p]? = some d → NodeH z (insN s.ns m nd) (sh m p) d := by
        intro p d hd
        obtain ⟨w1, w2, _, _⟩ := nd_ne ho hd hd
        refine ⟨fz _ _ (my.nodes p d hd) (by simpa using w1.symm), MixL_end (ho.hts d (List.mem_of_getElem? hd)).2 (MixL_fr fz (by simpa using w2.symm) (my.links p d hd))⟩
      refine ⟨?_, fun p d hd => ?_⟩
      · show z L = _
        rw [← hz, upd_same]
        have e1 : Sk.hd { s with ns := insN s.ns m nd } = s.hd := by simp [Sk.hd, ptOf, insN_lo hm (Nat.zero_le m)]
        have e2 : ((Sk.n { s with ns := insN s.ns m nd } : Nat) : Int) = (s.n : Int) + 1 := by simp [Sk.n, insN]; omega
        rw [e1, e2]; rfl
      · rcases Nat.lt_trichotomy p (m + 1) with h | h | h
        · rw [insN_lo hm (by omega)] at hd
          have := old p d hd
          rwa [show sh m p = p by unfold sh; rw [if_pos (by omega)]] at this
        · subst h
          rw [insN_mid hm] at hd
          injection hd with hd
          subst hd
          obtain ⟨cs, c1, c2, c3⟩ := my.newl
          exact ⟨fz _ _ my.new (by simpa using hL4.symm), NewL_end (by omega) ⟨cs, fz _ _ c1 (by simpa using hL3.symm), c2, c3⟩⟩
        · obtain ⟨p', rfl⟩ : ∃ p', p = p' + 1 := ⟨p - 1, by omega⟩
          rw [insN_hi hm (by omega)] at hd
          have := old p' d hd
          rwa [show sh m p' = p' + 1 by unfold sh; rw [if_neg (by omega)]] at this
    | succ r ih =>
      intro k y hr hk my yb yf
      have hk16 : k < 16 := by omega
      refine hW1 _ _ fun _ => ⟨fun _ => ?_, fun hx => by have := of_decide_eq_false hx; omega⟩
      intro K2 hK2
      rw [w64 (by omega) (by omega)] at hK2
      have fk : f k = ptOf s.ns (some (posF (htOf s.ns) k m)) := by rw [hf]
      have hk0 : k < htOf s.ns 0 := by rw [ho.head]; exact hk16
      obtain ⟨q1, q2, q3⟩ := posF_spec hk0 m
      obtain ⟨d, hd, hdt⟩ := nd_get q2
      have hpt : f k = some ⟨d.b, 0, none⟩ := by rw [fk]; simp [ptOf, hd]
      simp only [add_mk, Int.toNat_natCast]
      refine ⟨by omega, by omega, f k, by rw [cell_mk yb]; simp only [Nat.zero_add, Nat.mul_one]; exact trC_at f g hk16, ?_⟩
      rw [hpt]
      simp only [NN_some, add_mk]
      refine ⟨_, _, _, by rw [cell_mk (my.nodes _ d hd)]; rfl, by omega, by omega, ?_⟩
      simp only [NN_some, add_mk]
      refine ⟨some ⟨b3, 0, none⟩, n, n, by have := my.new; rw [ndb, ndl, ndh] at this; rw [cell_mk this]; rfl, fun hge => ?_, fun hlt => ?_⟩
      · have hnk : nd.ht ≤ k := by
          have := of_decide_eq_true hge
          omega
        obtain ⟨cs, c1, c2, c3⟩ := my.links _ d hd
        have hlk := c3 k (by omega)
        rw [if_neg (by omega)] at hlk
        obtain ⟨q, by_, hq, t0, t1, hby⟩ := hlk
        intro K3 hK3
        have eL : 0 + k * 2 + 0 = 2 * k := by omega
        have eL1 : 0 + k * 2 + 1 = 2 * k + 1 := by omega
        refine ⟨ptOf s.ns q, by rw [cell_mk c1, eL]; exact t0, fun hs => ⟨by_, by rw [cell_mk c1, eL1]; exact t1, ?_⟩, fun hs => ?_⟩
        · cases q with
          | none => simp [ptOf] at hs
          | some q =>
            have hql : q < s.ns.length := by
              obtain ⟨d2, hd2, _⟩ := nd_get hq.2.1
              exact (List.getElem?_eq_some_iff.1 hd2).1
            have hb := hby q rfl
            rw [w64 (by omega) (by omega)]
            refine st1_mk c1 (by omega) ?_
            rw [eL1]
            generalize hz : upd y d.lb (ob (cs.set (2 * k + 1) (.int .i64 (by_ + 1))) 160) = z
            have fz : Fr [d.lb, nd.lb] y z := by rw [← hz]; exact Fr.upd _ (by simp)
            refine hK3 _ fun _ => hK2 _ fun _ => ih (k + 1) z (by omega) (by omega) ?_ ?_ ?_
            · refine my.next ho hm hk0 hd nl nb nbl fz ?_ (NewL_far hnk ?_)
              · refine MixL_turn c1 (my.links _ d hd) (by rw [← hz]; exact upd_same _ _ _) (by simp) (fun i _ h2 => by rw [List.getElem?_set]; rw [if_neg (fun e => h2 e.symm)]) ?_
                have := LinkC_far hm hk0 hnk hq hby
                rw [List.getElem?_set, List.getElem?_set, if_neg (by omega), if_pos rfl, if_pos (by omega), t0]
                exact this
              · obtain ⟨cs2, v1, v2, v3⟩ := my.newl
                have hne : nd.lb ≠ d.lb := fun e => nl (by rw [e]; exact (mem_bs hd).2)
                exact ⟨cs2, by rw [← hz, upd_ne _ _ hne]; exact v1, v2, v3⟩
            · have hne : b2 ≠ d.lb := fun e => n2s (by rw [e]; exact (mem_bs hd).2)
              rw [← hz, upd_ne _ _ hne]; exact yb
            · exact yf.then (S' := [d.lb]) (by rw [← hz]; exact Fr.upd _ (by simp)) fun b hb => by simp at hb; rw [hb]; exact .inl (mem_bs hd).2
        · have hqn : q = none := by
            cases q with
            | none => rfl
            | some q =>
              obtain ⟨d2, hd2, _⟩ := nd_get hq.2.1
              simp [ptOf, hd2] at hs
          subst hqn
          refine hK3 _ fun _ => hK2 _ fun _ => ih (k + 1) y (by omega) (by omega) ?_ yb yf
          refine my.next ho hm hk0 hd nl nb nbl (Fr.refl _ _) ?_ (NewL_far hnk my.newl)
          refine MixL_turn c1 (my.links _ d hd) c1 rfl (fun _ _ _ => rfl) ?_
          rw [t0, t1]
          exact ⟨none, by_, Nx_keep hm hq (.inr (.inl hnk)), rfl, rfl, fun q' h => by cases h⟩
      · have hkn : k < nd.ht := by
          have := of_decide_eq_false hlt
          omega
        obtain ⟨cs, c1, c2, c3⟩ := my.links _ d hd
        obtain ⟨cs2, v1, v2, v3⟩ := my.newl
        have hlk := c3 k (by omega)
        rw [if_neg (by omega)] at hlk
        obtain ⟨q, by_, hq, t0, t1, hby⟩ := hlk
        have eL : 0 + k * 2 + 0 = 2 * k := by omega
        have eL1 : 0 + k * 2 + 1 = 2 * k + 1 := by omega
        have eL2 : 0 + k * 2 = 2 * k := by omega
        have g0 : g 0 = (m : Int) := by
          rw [hg]
          show ((posF (htOf s.ns) 0 m : Nat) : Int) = m
          rw [posF_eq (p := m) (by rw [ho.head]; omega) (Nat.le_refl _) ?_ (fun r h1 h2 => by omega)]
          unfold htOf
          rw [List.getElem?_eq_getElem hm]
          exact (ho.hts _ (List.getElem_mem hm)).1
        have gk : g k = (posF (htOf s.ns) k m : Int) := by rw [hg]
        refine ⟨by omega, by omega, by omega, by omega, g 0, by rw [cell_mk yb]; exact trC_rank f g (k := 0) (by omega), g k, by rw [cell_mk yb]; simp only [Nat.zero_add, Nat.mul_one]; exact trC_rank f g hk16,
          some ⟨b3, 0, none⟩, n, n, by have := my.new; rw [ndb, ndl, ndh] at this; rw [cell_mk this]; rfl, ptOf s.ns q, by rw [cell_mk c1, eL]; exact t0, by_, by rw [cell_mk c1, eL1]; exact t1, by omega, by omega, ?_⟩
        simp only [NN_some, add_mk]
        rw [g0, gk, eL2]
        have w1 : IntKind.wrap .i64 ((m : Int) - (posF (htOf s.ns) k m : Nat)) = (m : Int) - (posF (htOf s.ns) k m : Nat) := w64 (by omega) (by omega)
        have w2 : IntKind.wrap .i64 ((m : Int) - (posF (htOf s.ns) k m : Nat) + 1) = (m : Int) + 1 - (posF (htOf s.ns) k m : Nat) := by rw [w64 (by omega) (by omega)]; omega
        rw [w1, w2]
        have hne : nd.lb ≠ d.lb := fun e => nl (by rw [e]; exact (mem_bs hd).2)
        rw [ndl] at v1 hne
        refine stN_mk v1 (by simp; omega) (by simp [oneCell]) ?_
        generalize hz1 : upd y b3 _ = z1
        have c1' : z1 d.lb = some (ob cs 160) := by rw [← hz1, upd_ne _ _ hne.symm]; exact c1
        refine stN_mk c1' (by simp; omega) (by simp [oneCell]) ?_
        generalize hz : upd z1 d.lb _ = z
        have fz : Fr [d.lb, nd.lb] y z := by
          refine Fr.trans (b := z1) ?_ ?_
          · rw [← hz1]; exact Fr.upd _ (by rw [ndl]; simp)
          · rw [← hz]; exact Fr.upd _ (by simp)
        have zl : z d.lb = some (ob (over cs (2 * k) [.pointer (some ⟨b4, 0, none⟩), .int .i64 ((m : Int) + 1 - (posF (htOf s.ns) k m : Nat))]) 160) := by rw [← hz]; exact upd_same _ _ _
        have znl : z b3 = some (ob (over cs2 (2 * k) [.pointer (ptOf s.ns q), .int .i64 (IntKind.wrap .i64 (by_ - ((m : Int) - (posF (htOf s.ns) k m : Nat))))]) 160) := by
          rw [← hz, upd_ne _ _ hne, ← hz1]; exact upd_same _ _ _
        have ov : ∀ (l : List Value) (a b : Value), 2 * k + 1 < l.length → (over l (2 * k) [a, b])[2 * k]? = some a ∧ (over l (2 * k) [a, b])[2 * k + 1]? = some b ∧ ∀ i, i ≠ 2 * k → i ≠ 2 * k + 1 → (over l (2 * k) [a, b])[i]? = l[i]? := by
          intro l a b hl
          simp only [over]
          refine ⟨?_, ?_, fun i h1 h2 => ?_⟩
          · rw [List.getElem?_set, List.getElem?_set, if_neg (by omega), if_pos rfl, if_pos (by omega)]
          · rw [List.getElem?_set, if_pos rfl, if_pos (by simp; omega)]
          · rw [List.getElem?_set, List.getElem?_set, if_neg (fun e => h2 e.symm), if_neg (fun e => h1 e.symm)]
        refine hK2 _ fun _ => ih (k + 1) z (by omega) (by omega) (my.next ho hm hk0 hd nl nb nbl fz ?_ ?_) ?_ ?_
        · obtain ⟨o1, o2, o3⟩ := ov cs (.pointer (some ⟨b4, 0, none⟩)) (.int .i64 ((m : Int) + 1 - (posF (htOf s.ns) k m : Nat))) (by omega)
          refine MixL_turn c1 (my.links _ d hd) zl (over_len _ _ _) o3 ?_
          rw [o1, o2]
          have := LinkC_to (nd := nd) hm hk0 hkn
          rw [ndb] at this
          exact this
        · obtain ⟨o1, o2, o3⟩ := ov cs2 (.pointer (ptOf s.ns q)) (.int .i64 (IntKind.wrap .i64 (by_ - ((m : Int) - (posF (htOf s.ns) k m : Nat))))) (by omega)
          refine NewL_turn (by rw [ndl]; exact v1) my.newl (by rw [ndl]; exact znl) (over_len _ _ _) o3 fun _ => ?_
          rw [o1, o2]
          refine LinkC_from hm hk0 hq hby fun q' hq' => ?_
          have hql : q' < s.ns.length := by
            subst hq'
            obtain ⟨d2, hd2, _⟩ := nd_get hq.2.1
            exact (List.getElem?_eq_some_iff.1 hd2).1
          have := hby q' hq'
          exact w64 (by omega) (by omega)
        · have h1 : b2 ≠ d.lb := fun e => n2s (by rw [e]; exact (mem_bs hd).2)
          rw [← hz, upd_ne _ _ h1, ← hz1, upd_ne _ _ (by rw [ndl] at n23; exact n23)]
          exact yb
        · refine yf.then fz fun b hb => ?_
          simp only [List.mem_cons, List.not_mem_nil, or_false] at hb
          rcases hb with e | e
          · rw [e]; exact .inl (mem_bs hd).2
          · rw [e, ndl]; exact .inr hb30
  exact loop 16 0 g7 rfl (by omega) m0 e72 (l7'.fr _)

end Go.Proofs.Ytckdkgphkjbbnaa.Hw

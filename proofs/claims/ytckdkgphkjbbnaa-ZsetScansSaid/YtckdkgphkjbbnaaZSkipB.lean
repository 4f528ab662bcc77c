/- Contracts of package skip: node, Cut, Rank, Below. -/
import Derived.Test.YtckdkgphkjbbnaaZSkipA
set_option linter.unusedVariables false
set_option linter.unusedSimpArgs false
namespace Go.Proofs.Ytckdkgphkjbbnaa.Hw
open Go.Proofs

/-- Where a node stands and where it leads, in memory. -/
theorem nd_at {h : Hp} {L k p : Nat} {s : Sk} (hS : SkH h L s) (hk : k < htOf s.ns p) : ∃ d q by_, s.ns[p]? = some d ∧ ptOf s.ns (some p) = some ⟨d.b, 0, none⟩ ∧ k < d.ht ∧ Nx (htOf s.ns) k p q ∧
    cell h ⟨d.b, 0 + 2, none⟩ = some (.slice (some ⟨d.lb, 0, none⟩) d.ht d.ht) ∧ cell h ⟨d.lb, 0 + k * 2 + 0, none⟩ = some (.pointer (ptOf s.ns q)) ∧ cell h ⟨d.lb, 0 + k * 2 + 1, none⟩ = some (.int .i64 by_) ∧ (∀ q', q = some q' → by_ = (q' : Int) - p) ∧
    rowAt h ⟨d.b, 0, none⟩ 0 (prC d.x) := by
  obtain ⟨d, hd, hdt⟩ := nd_get hk
  obtain ⟨n1, cs, c1, c2, c3⟩ := hS.2 p d hd
  obtain ⟨q, by_, hq, t0, t1, hby⟩ := c3 k (by omega)
  have eL : 0 + k * 2 + 0 = 2 * k := by omega
  have eL1 : 0 + k * 2 + 1 = 2 * k + 1 := by omega
  refine ⟨d, q, by_, hd, by simp [ptOf, hd], by omega, hq, by rw [cell_mk n1]; rfl, by rw [cell_mk c1, eL]; exact t0, by rw [cell_mk c1, eL1]; exact t1, hby, ?_⟩
  refine rowAt_mk n1 _ _ _ fun i hi => ?_
  have : i = 0 ∨ i = 1 := by simp at hi; omega
  rcases this with e | e <;> subst e <;> simp

theorem node_ok {h : Hp} {L M : Nat} {s : Sk} {K : Value → Hp → Prop} (hS : SkH h L s) (ho : s.ok L) (h1 : 1 ≤ M) (hM : M < s.ns.length) (hK : K (.pointer (ptOf s.ns (some M))) h) :
    CallH Try.prog 106 #[.pointer (some ⟨L, 0, none⟩), .int .i64 ((M : Int) - 1)] h K := by
  apply F106_ok
  unfold F106
  have hlen := ho.bnd
  have h16 : htOf s.ns 0 = 16 := ho.head
  simp only [NN_some, add_mk]
  refine ⟨s.hd, by rw [cell_mk hS.1]; rfl, ?_⟩
  intro K1 hK1 W1 hW1
  have outer : ∀ (k : Nat) (p : Nat), k ≤ 16 → p ≤ M → (∀ j, j < k → j < htOf s.ns p) → (k = 0 → p = M) → W1 [.int .i64 ((M : Int) - p), .pointer (ptOf s.ns (some p)), .int .i64 (16 - (k : Int))] h := by
    intro k
    induction k with
    | zero =>
      intro p _ _ _ hp
      have := hp rfl
      subst this
      refine hW1 _ _ _ _ fun _ => ⟨fun hx => by simp at hx, fun _ => hK1 _ _ fun _ => hK⟩
    | succ k ih =>
      intro p hk hpm hpk _
      refine hW1 _ _ _ _ fun _ => ⟨fun _ => ?_, fun hx => by have := of_decide_eq_false hx; omega⟩
      have e15 : IntKind.wrap .i64 ((15 : Int) - (16 - ((k + 1 : Nat) : Int))) = (k : Int) := by rw [w64 (by omega) (by omega)]; omega
      have e1 : IntKind.wrap .i64 ((16 - ((k + 1 : Nat) : Int)) + (1 : Int)) = 16 - (k : Int) := by rw [w64 (by omega) (by omega)]; omega
      intro K2 hK2 W2 hW2
      simp only [e15, Int.toNat_natCast] at hW2
      simp only [e1] at hK2
      have hk0 : k < htOf s.ns 0 := by rw [h16]; omega
      have inner : ∀ (n : Nat) (p : Nat), M - p = n → p ≤ M → k < htOf s.ns p → W2 [.int .i64 ((M : Int) - p), .pointer (ptOf s.ns (some p))] h := by
        intro n
        induction n using Nat.strongRecOn with
        | ind n ihn =>
        intro p hn hpm hkp
        obtain ⟨d, q, by_, hd, hpt, hkd, hq, m1, m2, m3, hby, _⟩ := nd_at hS hkp
        have stop : (∀ r, p < r → r ≤ M → htOf s.ns r ≤ k) → K2 [.int .i64 ((M : Int) - p), .pointer (some ⟨d.b, 0, none⟩)] h := by
          intro hr
          refine hK2 _ _ _ fun _ => ?_
          rw [← hpt]
          refine ih p (by omega) hpm (fun j hj => by omega) fun hk0 => ?_
          subst hk0
          rcases Nat.lt_or_ge p M with hlt | hge
          · have h2 := hr M hlt (Nat.le_refl _)
            have h3 := (ho.hts _ (List.getElem_mem hM)).1
            unfold htOf at h2
            rw [List.getElem?_eq_getElem hM] at h2
            simp at h2
            omega
          · omega
        refine hW2 _ _ _ fun _ => ?_
        rw [hpt]
        simp only [NN_some, add_mk]
        refine ⟨_, _, _, m1, by omega, by omega, ?_⟩
        simp only [NN_some, add_mk]
        refine ⟨_, m2, ?_⟩
        intro J1 hJ1
        cases q with
        | none =>
          refine ⟨fun hs => by simp [ptOf] at hs, fun _ => hJ1 _ _ fun _ => ⟨(fun hx => by cases hx), fun _ => ?_⟩⟩
          exact stop fun r g1 _ => hq r g1
        | some q =>
          obtain ⟨hpq, hkq, hmid⟩ := hq
          obtain ⟨d2, hd2, _⟩ := nd_get hkq
          have hpt2 : ptOf s.ns (some q) = some ⟨d2.b, 0, none⟩ := by simp [ptOf, hd2]
          have hql : q < s.ns.length := (List.getElem?_eq_some_iff.1 hd2).1
          have hbq := hby q rfl
          refine ⟨fun _ => ⟨_, _, _, m1, by omega, by omega, ?_⟩, fun hs => by rw [hpt2] at hs; simp at hs⟩
          simp only [NN_some, add_mk]
          refine ⟨_, m3, hJ1 _ _ fun _ => ⟨fun hx => ?_, fun hx => ?_⟩⟩
          · have hle := of_decide_eq_true hx
            refine ⟨_, _, _, m1, by omega, by omega, ?_⟩
            simp only [NN_some, add_mk]
            refine ⟨_, m3, _, _, _, m1, by omega, by omega, ?_⟩
            simp only [NN_some, add_mk]
            refine ⟨_, m2, ?_⟩
            have ew : IntKind.wrap .i64 ((M : Int) - p - by_) = (M : Int) - q := by rw [w64 (by omega) (by omega)]; omega
            rw [ew]
            exact ihn (M - q) (by omega) q rfl (by omega) hkq
          · have hgt := of_decide_eq_false hx
            exact stop fun r g1 g2 => hmid r g1 (by omega)
      refine inner _ p rfl hpm (hpk k (by omega))
  have e : IntKind.wrap .i64 ((M : Int) - 1 + 1) = (M : Int) - (0 : Nat) := by rw [w64 (by omega) (by omega)]; omega
  rw [e]
  exact outer 16 0 (by omega) (by omega) (fun j hj => by rw [h16]; exact hj) (by omega)

/-- The pairs. -/
def Sk.prs (s : Sk) : List Pr := (s.ns.drop 1).map (·.x)
def prsC (l : List Pr) : List Value := l.flatMap prC

theorem prsC_app (a b : List Pr) : prsC (a ++ b) = prsC a ++ prsC b := by simp [prsC]
theorem prsC_one (a : Pr) : prsC [a] = prC a := by simp [prsC]
theorem prsC_len (l : List Pr) : (prsC l).length = l.length * 2 := by
  induction l with
  | nil => rfl
  | cons a l ih => simp [prsC] at *; omega

theorem prs_len (s : Sk) : s.prs.length = s.n := by simp [Sk.prs, Sk.n]
theorem prs_at {s : Sk} {p : Nat} {d : Nd} (h : s.ns[p + 1]? = some d) : s.prs[p]? = some d.x := by
  simp only [Sk.prs, List.getElem?_map, List.getElem?_drop]
  rw [Nat.add_comm, h]; rfl

theorem take_next {α : Type} {l : List α} {k : Nat} {x : α} (h : l[k]? = some x) : l.take (k + 1) = l.take k ++ [x] := by
  rw [List.take_add_one, h]; rfl

theorem Cut_ok {h : Hp} {L : Nat} {s : Sk} {from_ to_ : Int} {K : Value → Hp → Prop} (hS : SkH h L s) (ho : s.ok L) (hn : s.n ≤ 5000000000000) (hf : -4611686018427387904 ≤ from_) (hf2 : from_ ≤ 4611686018427387904) (ht : -4611686018427387904 ≤ to_)
    (hK : ∀ (l : List Pr) (a : Option Addr) (c : Nat) (h' : Hp), l = (s.prs.drop from_.toNat).take (min to_ (s.n - 1 : Int) + 1 - max from_ 0).toNat → Own h' 2 56 a l.length c (prsC l) → (∀ b ∈ ownB a, h b = none) → Le h h' → K (.slice a l.length c) h') :
    CallH Try.prog 81 #[.pointer (some ⟨L, 0, none⟩), .int .i64 from_, .int .i64 to_] h K := by
  apply F81_ok
  unfold F81
  have e1 : IntKind.wrap .i64 ((s.n : Int) - 1) = (s.n : Int) - 1 := w64 (by omega) (by omega)
  refine Len_sk hS ⟨(s.n : Int), rfl, ?_⟩
  obtain ⟨F, hF⟩ : ∃ F : Int, F = max from_ 0 := ⟨_, rfl⟩
  obtain ⟨T, hT⟩ : ∃ T : Int, T = min to_ (s.n - 1 : Int) := ⟨_, rfl⟩
  have eF : (if 0 > from_ then 0 else from_) = F := by rw [hF]; split <;> omega
  have eT : (if IntKind.wrap .i64 ((s.n : Int) - 1) < to_ then IntKind.wrap .i64 ((s.n : Int) - 1) else to_) = T := by rw [hT, e1]; split <;> omega
  rw [eF, eT]
  rw [← hT, ← hF] at hK
  refine ⟨fun hx => ?_, fun hx => ?_⟩
  · have := of_decide_eq_true hx
    have e : (T + 1 - F).toNat = 0 := by omega
    refine hK [] none 0 h (by rw [e]; simp) .nil (by simp [ownB]) (Le.refl h)
  · have hle := of_decide_eq_false hx
    have hF0 : 0 ≤ F := by omega
    have hTn : T ≤ (s.n : Int) - 1 := by omega
    have w1 : IntKind.wrap .i64 (T - F) = T - F := w64 (by omega) (by omega)
    have w2 : IntKind.wrap .i64 (T - F + 1) = T - F + 1 := w64 (by omega) (by omega)
    rw [w1, w2]
    obtain ⟨N, hN⟩ : ∃ N : Nat, (N : Int) = T - F + 1 := ⟨(T - F + 1).toNat, by omega⟩
    obtain ⟨A, hA⟩ : ∃ A : Nat, (A : Int) = F := ⟨F.toNat, by omega⟩
    refine ⟨by omega, by omega, by omega, by omega, new_mk fun b1 g1 hb1 z1 l1 _ => ?_⟩
    rw [← hN] at z1 ⊢
    intro K1 hK1
    have hlen : s.ns.length = s.n + 1 := by
      have : s.ns.length ≠ 0 := by
        intro h0
        have := ho.head
        rw [List.length_eq_zero_iff.1 h0] at this
        simp [htOf] at this
      unfold Sk.n; omega
    have eA : F = ((A + 1 : Nat) : Int) - 1 := by omega
    rw [eA]
    refine node_ok (hS.le l1) ho (by omega) (by omega) ⟨_, rfl, ?_⟩
    intro W1 hW1
    obtain ⟨l, hl⟩ : ∃ l : List Pr, l = (s.prs.drop from_.toNat).take (T + 1 - F).toNat := ⟨_, rfl⟩
    have hdrop : from_.toNat = A := by omega
    have hN2 : (T + 1 - F).toNat = N := by omega
    rw [hdrop, hN2] at hl
    have hll : l.length = N := by rw [hl, List.length_take, List.length_drop, prs_len]; omega
    have loop : ∀ (r i : Nat) (y : Hp) (a : Option Addr) (c : Nat), N - i = r → i ≤ N → Own y 2 56 a i c (prsC (l.take i)) → (∀ b ∈ ownB a, h b = none) → Le h y → W1 [.slice a i c, .pointer (ptOf s.ns (some (A + 1 + i)))] y := by
      intro r
      induction r with
      | zero =>
        intro i y a c hr hi oy fy ly
        have : i = N := by omega
        subst this
        refine hW1 _ _ _ _ _ fun _ => ⟨fun hx => by have := of_decide_eq_true hx; omega, fun _ => hK1 _ _ _ _ fun _ => ?_⟩
        rw [← hll] at oy ⊢
        rw [List.take_length] at oy
        exact hK l a c y (by rw [hdrop, hN2]; exact hl) oy fy ly
      | succ r ih =>
        intro i y a c hr hi oy fy ly
        refine hW1 _ _ _ _ _ fun _ => ⟨fun hx => ?_, fun hx => by have := of_decide_eq_false hx; omega⟩
        have hin : A + 1 + i < s.ns.length := by omega
        have hht : 0 < htOf s.ns (A + 1 + i) := by
          unfold htOf
          rw [List.getElem?_eq_getElem hin]
          exact (ho.hts _ (List.getElem_mem hin)).1
        have sy := hS.le ly
        obtain ⟨d, q, by_, hd, hpt, hkd, hq, m1, m2, m3, hby, row⟩ := nd_at sy hht
        rw [hpt]
        simp only [NN_some, add_mk]
        refine ⟨d.x.m, d.x.s, row, new_mk fun b2 g2 hb2 z2 l2 _ => ?_⟩
        have hxl : l[i]? = some d.x := by
          rw [hl, List.getElem?_take, if_pos (by omega), List.getElem?_drop]
          refine prs_at ?_
          rw [← hd]; congr 1; omega
        refine app1 (xs := prC d.x) (oy.le l2) (by simp) z2 (by simp) (by simp [oneCell]) (by omega) (by omega) fun a' c' g3 o3 f3 n3 => ?_
        have fy3 : Fr (ownB a) y g3 := (l2.fr _).trans f3
        have ly3 : Le h g3 := ly.fr_then fy3 fy
        have s3 := hS.le ly3
        obtain ⟨d', q', by', hd', hpt', hkd', hq', m1', m2', _, _, _⟩ := nd_at s3 hht
        have : d' = d := by rw [hd] at hd'; injection hd' with h; exact h.symm
        subst this
        refine ⟨_, _, _, m1', by omega, by omega, ?_⟩
        simp only [NN_some, add_mk]
        refine ⟨_, m2', ?_⟩
        rw [nx0 ho hq']
        refine ih (i + 1) g3 a' c' (by omega) (by omega) ?_ (fun b hb => ?_) ly3
        · rw [take_next hxl, prsC_app, prsC_one]; exact o3
        · rcases n3 b hb with h1 | h1
          · exact fy b h1
          · exact (ly.trans l2).dom _ h1
    exact loop N 0 g1 (some ⟨b1, 0, none⟩) N rfl (by omega) (.at_ (cs := []) (rest := repL N [.string ⟨#[]⟩, .int .i64 0]) (by rw [z1]; simp) rfl (by rw [repL_len]; simp) (by omega)) (fun b hb => by simp [ownB] at hb; rw [hb]; exact hb1) l1

theorem Rank_ok {h : Hp} {L : Nat} {s : Sk} {x : Pr} {m : Nat} {K : Value → Hp → Prop} (hS : SkH h L s) (ho : s.ok L) (hm : m < s.ns.length)
    (hp : ∀ p d, s.ns[p]? = some d → 0 < p → (prLess d.x x = true ↔ p ≤ m))
    (hK : ∀ h', Le h h' → K (.int .i64 (if hasAt s.ns m x = true then (m : Int) else -1)) h') :
    CallH Try.prog 56 #[.pointer (some ⟨L, 0, none⟩), .agg #[.string ⟨x.m.toArray⟩, .int .i64 x.s]] h K := by
  apply F56_ok
  unfold F56
  refine new_mk fun b1 g1 hb1 e1 l1 _ => ?_
  have hS1 := hS.le l1
  refine Len_sk hS1 ⟨_, rfl, fun hx => ?_, fun _ => ?_⟩
  · have hn : (s.n : Int) = 0 := by simpa using hx
    have := hK g1 l1
    have hh : hasAt s.ns m x = false := by
      unfold hasAt
      have : s.ns[m + 1]? = none := List.getElem?_eq_none (by unfold Sk.n at hn; omega)
      rw [this]
    rw [hh] at this
    exact this
  refine ⟨x.m, x.s, row_all (cs := prC x) e1, ?_⟩
  refine to_ok hS1 ho hm hp fun g2 l2 => ?_
  obtain ⟨f, hf⟩ : ∃ f : Nat → Option Addr, f = fun k => ptOf s.ns (some (posF (htOf s.ns) k m)) := ⟨_, rfl⟩
  obtain ⟨g, hg⟩ : ∃ g : Nat → Int, g = fun k => (posF (htOf s.ns) k m : Int) := ⟨_, rfl⟩
  rw [← hf, ← hg]
  refine ⟨f 0, f 1, f 2, f 3, f 4, f 5, f 6, f 7, f 8, f 9, f 10, f 11, f 12, f 13, f 14, f 15, g 0, g 1, g 2, g 3, g 4, g 5, g 6, g 7, g 8, g 9, g 10, g 11, g 12, g 13, g 14, g 15, rfl, ?_⟩
  refine new_mk fun b2 g3 hb2 e2 l3 _ => ?_
  show stN g3 ⟨b2, 0, none⟩ (trC f g) _
  refine stN_all (cs := trC (fun _ => none) (fun _ => 0)) e2 rfl (by simp [oneCell, trC]) ?_
  generalize hg4 : upd g3 b2 (ob (trC f g) 157) = g4
  have e4 : g4 b2 = some (ob (trC f g) 157) := by rw [← hg4]; exact upd_same _ _ _
  have l4 : Le g2 g4 := l3.fr_then (S := [b2]) (by rw [← hg4]; exact Fr.upd _ (by simp)) fun b hb => by simp at hb; rw [hb]; exact hb2
  have la := (l1.trans l2).trans l4
  refine ⟨x.m, x.s, row_all (cs := prC x) ((l2.trans l4) _ _ e1), ?_⟩
  have pos0 : posF (htOf s.ns) 0 m = m := by
    refine posF_eq (p := m) (by rw [ho.head]; omega) (Nat.le_refl _) ?_ (fun r h1 h2 => by omega)
    unfold htOf
    rw [List.getElem?_eq_getElem hm]
    exact (ho.hts _ (List.getElem_mem hm)).1
  have hf0 : f 0 = ptOf s.ns (some m) := by
    rw [hf]
    show ptOf s.ns (some (posF (htOf s.ns) 0 m)) = _
    rw [pos0]
  refine has_ok (hS.le la) ho e4 hf0 hm fun g5 l5 => ⟨_, rfl, fun hx => ?_, fun hx => ?_⟩
  · have := hK g5 (la.trans l5)
    have hh : hasAt s.ns m x = false := by simpa using hx
    rw [hh] at this
    exact this
  · have := hK g5 (la.trans l5)
    have hh : hasAt s.ns m x = true := by simpa using hx
    rw [hh] at this
    refine ⟨by omega, by omega, (m : Int), ?_, this⟩
    simp only [add_mk]
    rw [cell_mk (l5 _ _ e4)]
    have := trC_rank f g (k := 0) (by omega)
    rw [hg] at this
    simp only [pos0] at this
    rw [← this, hg]
    rfl

/-- A score is below a bound. -/
def belowB (score : Int) (op : Bool) (x : Pr) : Bool := decide (x.s < score) || (op && x.s == score)

theorem asks_below {score : Int} {op : Bool} {a b : Nat} {h : Hp} (ha : h a = some (ob [.int .i64 score] 2)) (hb : h b = some (ob [.bool op] 4)) :
    Asks (.func (.func 107) #[] #[.pointer (some ⟨a, 0, none⟩), .pointer (some ⟨b, 0, none⟩)]) (belowB score op) h := by
  intro y h' K l hK
  show CallH Try.prog 107 #[.agg #[.string ⟨y.m.toArray⟩, .int .i64 y.s], .pointer (some ⟨a, 0, none⟩), .pointer (some ⟨b, 0, none⟩)] h' K
  apply F107_ok
  unfold F107
  refine new_mk fun c g hc ec lc _ => ?_
  simp only [add_mk]
  have ca := lc _ _ (l _ _ ha)
  have cb := lc _ _ (l _ _ hb)
  refine ⟨y.s, by rw [cell_mk (cs := prC y) ec]; rfl, score, by rw [cell_mk ca]; rfl, ?_⟩
  have hk := hK g lc
  unfold belowB at hk
  intro J1 hJ1
  refine ⟨fun h1 => hJ1 _ _ fun _ => ?_, fun h1 => ⟨op, by rw [cell_mk cb]; rfl, ?_⟩⟩
  · rw [h1] at hk; exact hk
  · intro J2 hJ2
    rw [h1] at hk
    refine ⟨fun h2 => ⟨y.s, by rw [cell_mk (cs := prC y) ec]; rfl, score, by rw [cell_mk ca]; rfl, hJ2 _ _ fun _ => hJ1 _ _ fun _ => ?_⟩, fun h2 => hJ2 _ _ fun _ => hJ1 _ _ fun _ => ?_⟩
    · rw [h2] at hk; exact hk
    · rw [h2] at hk; exact hk

theorem Below_ok {h : Hp} {L : Nat} {s : Sk} {score : Int} {op : Bool} {m : Nat} {K : Value → Hp → Prop} (hS : SkH h L s) (ho : s.ok L) (hm : m < s.ns.length)
    (hp : ∀ p d, s.ns[p]? = some d → 0 < p → (belowB score op d.x = true ↔ p ≤ m))
    (hK : ∀ h', Le h h' → K (.int .i64 (m : Int)) h') :
    CallH Try.prog 84 #[.pointer (some ⟨L, 0, none⟩), .int .i64 score, .bool op] h K := by
  apply F84_ok
  unfold F84
  refine new_mk fun b1 g1 hb1 e1 l1 _ => new_mk fun b2 g2 hb2 e2 l2 _ => ?_
  have l12 := l1.trans l2
  have hS1 := hS.le l12
  refine Len_sk hS1 ⟨_, rfl, fun hx => ?_, fun _ => ?_⟩
  · have hn : (s.n : Int) = 0 := by simpa using hx
    have := hK g2 l12
    have h0 : m = 0 := by unfold Sk.n at hn; omega
    rw [h0] at this
    exact this
  refine down_ok hS1 ho (asks_below (l2 _ _ e1) e2) hm hp fun g3 l3 => ?_
  have pos0 : posF (htOf s.ns) 0 m = m := by
    refine posF_eq (p := m) (by rw [ho.head]; omega) (Nat.le_refl _) ?_ (fun r h1 h2 => by omega)
    unfold htOf
    rw [List.getElem?_eq_getElem hm]
    exact (ho.hts _ (List.getElem_mem hm)).1
  obtain ⟨f, hf⟩ : ∃ f : Nat → Option Addr, f = fun k => ptOf s.ns (some (posF (htOf s.ns) k m)) := ⟨_, rfl⟩
  obtain ⟨g, hg⟩ : ∃ g : Nat → Int, g = fun k => (posF (htOf s.ns) k m : Int) := ⟨_, rfl⟩
  have g0 : g 0 = (m : Int) := by rw [hg]; show ((posF (htOf s.ns) 0 m : Nat) : Int) = m; rw [pos0]
  rw [← hf, ← hg]
  refine ⟨f 0, f 1, f 2, f 3, f 4, f 5, f 6, f 7, f 8, f 9, f 10, f 11, f 12, f 13, f 14, f 15, g 0, g 1, g 2, g 3, g 4, g 5, g 6, g 7, g 8, g 9, g 10, g 11, g 12, g 13, g 14, g 15, rfl, by omega, by omega, g 0, rfl, ?_⟩
  rw [g0]
  exact hK _ (l12.trans l3)

end Go.Proofs.Ytckdkgphkjbbnaa.Hw

/- Contracts of package skip: going down. -/
import Derived.Test.YtckdkgphkjbbnaaZSkip
set_option linter.unusedVariables false
set_option linter.unusedSimpArgs false
namespace Go.Proofs.Ytckdkgphkjbbnaa.Hw
open Go.Proofs

/-- The last place up to m that stands in level k. -/
def posF (ht : Nat → Nat) (k : Nat) : Nat → Nat
  | 0 => 0
  | m + 1 => if k < ht (m + 1) then m + 1 else posF ht k m

theorem posF_spec {ht : Nat → Nat} {k : Nat} (h0 : k < ht 0) : ∀ m, posF ht k m ≤ m ∧ k < ht (posF ht k m) ∧ ∀ r, posF ht k m < r → r ≤ m → ht r ≤ k := by
  intro m
  induction m with
  | zero => exact ⟨Nat.le_refl _, h0, fun r h1 h2 => by simp [posF] at h1; omega⟩
  | succ m ih =>
    unfold posF
    split
    · rename_i h; exact ⟨Nat.le_refl _, h, fun r h1 h2 => by omega⟩
    · rename_i h
      refine ⟨by omega, ih.2.1, fun r h1 h2 => ?_⟩
      rcases Nat.lt_or_ge m r with h3 | h3
      · have : r = m + 1 := by omega
        subst this; omega
      · exact ih.2.2 r h1 h3

theorem posF_eq {ht : Nat → Nat} {k m p : Nat} (h0 : k < ht 0) (h1 : p ≤ m) (h2 : k < ht p) (h3 : ∀ r, p < r → r ≤ m → ht r ≤ k) : posF ht k m = p := by
  obtain ⟨g1, g2, g3⟩ := posF_spec h0 m
  rcases Nat.lt_trichotomy (posF ht k m) p with h | h | h
  · have := g3 p h h1; omega
  · exact h
  · have := h3 _ h g1; omega

theorem posF_ge {ht : Nat → Nat} {k m p : Nat} (h0 : k < ht 0) (h1 : p ≤ m) (h2 : k < ht p) : p ≤ posF ht k m := by
  obtain ⟨g1, g2, g3⟩ := posF_spec h0 m
  rcases Nat.lt_or_ge (posF ht k m) p with h | h
  · have := g3 p h h1; omega
  · exact h

/-- A trail's cells. -/
def trC (f : Nat → Option Addr) (g : Nat → Int) : List Value :=
  [.pointer (f 0), .pointer (f 1), .pointer (f 2), .pointer (f 3), .pointer (f 4), .pointer (f 5), .pointer (f 6), .pointer (f 7), .pointer (f 8), .pointer (f 9), .pointer (f 10), .pointer (f 11), .pointer (f 12), .pointer (f 13), .pointer (f 14), .pointer (f 15),
   .int .i64 (g 0), .int .i64 (g 1), .int .i64 (g 2), .int .i64 (g 3), .int .i64 (g 4), .int .i64 (g 5), .int .i64 (g 6), .int .i64 (g 7), .int .i64 (g 8), .int .i64 (g 9), .int .i64 (g 10), .int .i64 (g 11), .int .i64 (g 12), .int .i64 (g 13), .int .i64 (g 14), .int .i64 (g 15)]

theorem trC_eq (f : Nat → Option Addr) (g : Nat → Int) : trC f g = (List.range 16).map (fun i => Value.pointer (f i)) ++ (List.range 16).map (fun i => Value.int .i64 (g i)) := rfl

theorem trC_at (f : Nat → Option Addr) (g : Nat → Int) {k : Nat} (hk : k < 16) : (trC f g)[k]? = some (.pointer (f k)) := by
  rw [trC_eq, List.getElem?_append_left (by simpa using hk)]
  simp [hk]

theorem trC_rank (f : Nat → Option Addr) (g : Nat → Int) {k : Nat} (hk : k < 16) : (trC f g)[16 + k]? = some (.int .i64 (g k)) := by
  rw [trC_eq, List.getElem?_append_right (by simp)]
  simp [hk]

theorem trC_set (f : Nat → Option Addr) (g : Nat → Int) {k : Nat} (hk : k < 16) (a : Option Addr) (n : Int) :
    ((trC f g).set k (.pointer a)).set (16 + k) (.int .i64 n) = trC (fun i => if i = k then a else f i) (fun i => if i = k then n else g i) := by
  apply List.ext_getElem?
  intro i
  rw [List.getElem?_set, List.getElem?_set]
  have hl : (trC f g).length = 32 := rfl
  by_cases h1 : i < 16
  · rw [trC_at _ _ h1]
    have : ¬ 16 + k = i := by omega
    rw [if_neg this]
    by_cases h2 : k = i
    · subst h2; rw [if_pos rfl, if_pos (by rw [hl]; omega), trC_at _ _ h1]; simp
    · rw [if_neg h2, trC_at _ _ h1]
      have : ¬ i = k := fun e => h2 e.symm
      simp [this]
  · by_cases h3 : i < 32
    · obtain ⟨j, rfl⟩ : ∃ j, i = 16 + j := ⟨i - 16, by omega⟩
      rw [trC_rank _ _ (by omega)]
      by_cases h2 : k = j
      · subst h2; rw [if_pos rfl, if_pos (by rw [List.length_set, hl]; omega), trC_rank _ _ hk]; simp
      · have h4 : ¬ 16 + k = 16 + j := by omega
        have h5 : ¬ k = 16 + j := by omega
        rw [if_neg h4, if_neg h5, trC_rank _ _ (by omega)]
        have : ¬ j = k := fun e => h2 e.symm
        simp [this]
    · have h4 : ¬ 16 + k = i := by omega
      have h5 : ¬ k = i := by omega
      rw [if_neg h4, if_neg h5]
      rw [List.getElem?_eq_none (by rw [hl]; omega), List.getElem?_eq_none (by show 32 ≤ i; omega)]

/-- What is asked of a pair, and who answers. -/
def Asks (f : Value) (ahead : Pr → Bool) (h : Hp) : Prop :=
  ∀ (y : Pr) (h' : Hp) (K : Value → Hp → Prop), Le h h' → (∀ h'', Le h' h'' → K (.bool (ahead y)) h'') → callVE X f [.agg #[.string ⟨y.m.toArray⟩, .int .i64 y.s]] h' K

theorem nd_get {ns : List Nd} {k p : Nat} (h : k < htOf ns p) : ∃ d, ns[p]? = some d ∧ d.ht = htOf ns p := by
  unfold htOf at *
  cases hx : ns[p]? with
  | none => rw [hx] at h; simp at h
  | some d => exact ⟨d, rfl, rfl⟩

theorem down_ok {h : Hp} {L : Nat} {s : Sk} {f : Value} {ahead : Pr → Bool} {m : Nat} {K : Value → Hp → Prop} (hS : SkH h L s) (ho : s.ok L) (hf : Asks f ahead h) (hm : m < s.ns.length)
    (hp : ∀ p d, s.ns[p]? = some d → 0 < p → (ahead d.x = true ↔ p ≤ m))
    (hK : ∀ h', Le h h' → K (.agg (trC (fun k => ptOf s.ns (some (posF (htOf s.ns) k m))) (fun k => (posF (htOf s.ns) k m : Int))).toArray) h') :
    CallH Try.prog 97 #[.pointer (some ⟨L, 0, none⟩), f] h K := by
  apply F97_ok
  unfold F97
  have hlen := ho.bnd
  refine new_mk fun b1 g1 hb1 e1 l1 _ => new_mk fun b2 g0 hb2 e2 l2 w2 => ?_
  have hb12 : b1 ≠ b2 := ne_of_some_none e1 hb2
  have hb20 : h b2 = none := l1.dom _ hb2
  have l0 : Le h g0 := l1.trans l2
  have z1 : g0 b1 = some (ob (trC (fun _ => none) (fun _ => 0)) 157) := l2 _ _ e1
  have z2 : g0 b2 = some (ob (trC (fun _ => none) (fun _ => 0)) 157) := e2
  have nb : ∀ b : Nat, b ∈ [b2] → h b = none := fun b hb => by simp at hb; rw [hb]; exact hb20
  simp only [NN_some, add_mk]
  refine ⟨s.hd, by rw [cell_mk (l0 _ _ hS.1)]; rfl, ?_⟩
  intro K1 hK1 W1 hW1
  -- the end
  have fin : ∀ x, Le h x → x b1 = some (ob (trC (fun _ => none) (fun _ => 0)) 157) → x b2 = some (ob (trC (fun k => ptOf s.ns (some (posF (htOf s.ns) k m))) (fun k => (posF (htOf s.ns) k m : Int))) 157) → K1 [] x := by
    intro x lx y1 y2
    generalize (fun k => ptOf s.ns (some (posF (htOf s.ns) k m))) = f at *
    generalize (fun k => (posF (htOf s.ns) k m : Int)) = g at *
    refine hK1 _ fun _ => ?_
    refine ⟨f 0, f 1, f 2, f 3, f 4, f 5, f 6, f 7, f 8, f 9, f 10, f 11, f 12, f 13, f 14, f 15, g 0, g 1, g 2, g 3, g 4, g 5, g 6, g 7, g 8, g 9, g 10, g 11, g 12, g 13, g 14, g 15, ?_, ?_⟩
    · exact row_all y2
    · show stN x ⟨b1, 0, none⟩ (trC f g) _
      refine stN_all y1 rfl (by simp [oneCell, trC]) ?_
      refine ⟨f 0, f 1, f 2, f 3, f 4, f 5, f 6, f 7, f 8, f 9, f 10, f 11, f 12, f 13, f 14, f 15, g 0, g 1, g 2, g 3, g 4, g 5, g 6, g 7, g 8, g 9, g 10, g 11, g 12, g 13, g 14, g 15, ?_, ?_⟩
      · exact row_all (upd_same x b1 (ob (trC f g) 157))
      · exact hK _ (lx.fr_then (Fr.upd (S := [b1]) _ (by simp)) fun b hb => by simp at hb; rw [hb]; exact hb1)
  have h16 : htOf s.ns 0 = 16 := ho.head
  have outer : ∀ (k : Nat) (x : Hp) (p : Nat), k ≤ 16 → Le h x → x b1 = some (ob (trC (fun _ => none) (fun _ => 0)) 157) →
      x b2 = some (ob (trC (fun i => if k ≤ i then ptOf s.ns (some (posF (htOf s.ns) i m)) else none) (fun i => if k ≤ i then (posF (htOf s.ns) i m : Int) else 0)) 157) →
      p ≤ m → (∀ j, j < k → j < htOf s.ns p) → W1 [.int .i64 (p : Int), .pointer (ptOf s.ns (some p)), .int .i64 (16 - (k : Int))] x := by
    intro k
    induction k with
    | zero =>
      intro x p _ lx y1 y2 _ _
      refine hW1 _ _ _ _ fun _ => ⟨fun hx => by simp at hx, fun _ => fin x lx y1 ?_⟩
      rw [y2]
      simp
    | succ k ih =>
      intro x p hk lx y1 y2 hpm hpk
      refine hW1 _ _ _ _ fun _ => ⟨fun _ => ?_, fun hx => by have := of_decide_eq_false hx; omega⟩
      have e15 : IntKind.wrap .i64 ((15 : Int) - (16 - ((k + 1 : Nat) : Int))) = (k : Int) := by rw [w64 (by omega) (by omega)]; omega
      have e1 : IntKind.wrap .i64 ((16 - ((k + 1 : Nat) : Int)) + (1 : Int)) = 16 - (k : Int) := by rw [w64 (by omega) (by omega)]; omega
      intro K2 hK2 K3 hK3 W2 hW2
      simp only [e15, Int.toNat_natCast, Nat.zero_add, Nat.mul_one, Nat.add_zero, add_mk] at hK3 hW2
      simp only [e1] at hK2
      have hk0 : k < htOf s.ns 0 := by rw [h16]; omega
      -- behind the level
      have lev : ∀ z, Le h z → z b1 = some (ob (trC (fun _ => none) (fun _ => 0)) 157) →
          z b2 = some (ob (trC (fun i => if k + 1 ≤ i then ptOf s.ns (some (posF (htOf s.ns) i m)) else none) (fun i => if k + 1 ≤ i then (posF (htOf s.ns) i m : Int) else 0)) 157) →
          K3 [.int .i64 (posF (htOf s.ns) k m : Int), .pointer (ptOf s.ns (some (posF (htOf s.ns) k m)))] z := by
        intro z lz w1 w2
        refine hK3 _ _ _ fun _ => ⟨by omega, by omega, ?_⟩
        refine st1_mk w2 (by show k < 32; omega) ?_
        refine ⟨by omega, by omega, ?_⟩
        refine st1_mk (upd_same _ _ _) (by rw [List.length_set]; show 16 + k < 32; omega) ?_
        rw [upd_upd, trC_set _ _ (by omega)]
        refine hK2 _ _ _ fun _ => ?_
        obtain ⟨q1, q2, q3⟩ := posF_spec hk0 m
        refine ih _ _ (by omega) (lz.fr_then (Fr.upd (S := [b2]) _ (by simp)) nb) ?_ ?_ q1 (fun j hj => by omega)
        · rw [upd_ne _ _ hb12]; exact w1
        · rw [upd_same]
          congr 2
          congr 1
          congr 1
          · funext i
            by_cases hi : i = k
            · subst hi; simp
            · have : (k + 1 ≤ i) ↔ (k ≤ i) := by omega
              simp [hi, this]
          · funext i
            by_cases hi : i = k
            · subst hi; simp
            · have : (k + 1 ≤ i) ↔ (k ≤ i) := by omega
              simp [hi, this]
      have inner : ∀ (n : Nat) (z : Hp) (p : Nat), m - p = n → Le h z → z b1 = some (ob (trC (fun _ => none) (fun _ => 0)) 157) →
          z b2 = some (ob (trC (fun i => if k + 1 ≤ i then ptOf s.ns (some (posF (htOf s.ns) i m)) else none) (fun i => if k + 1 ≤ i then (posF (htOf s.ns) i m : Int) else 0)) 157) →
          p ≤ m → k < htOf s.ns p → W2 [.int .i64 (p : Int), .pointer (ptOf s.ns (some p))] z := by
        intro n
        induction n using Nat.strongRecOn with
        | ind n ihn =>
        intro z p hn lz w1 w2 hpm hkp
        obtain ⟨d, hd, hdt⟩ := nd_get hkp
        have hN := hS.2 p d hd
        have hpt : ptOf s.ns (some p) = some ⟨d.b, 0, none⟩ := by simp [ptOf, hd]
        obtain ⟨cs, hcs, hcl, hlk⟩ := hN.2
        obtain ⟨q, by_, hq, hc0, hc1, hby⟩ := hlk k (by omega)
        have zb := lz _ _ hN.1
        have zl := lz _ _ hcs
        have stop : (∀ r, p < r → r ≤ m → htOf s.ns r ≤ k) → ∀ y, Le h y → y b1 = some (ob (trC (fun _ => none) (fun _ => 0)) 157) → y b2 = some (ob (trC (fun i => if k + 1 ≤ i then ptOf s.ns (some (posF (htOf s.ns) i m)) else none) (fun i => if k + 1 ≤ i then (posF (htOf s.ns) i m : Int) else 0)) 157) →
            K3 [.int .i64 (p : Int), .pointer (some ⟨d.b, 0, none⟩)] y := by
          intro hr y ly v1 v2
          have := posF_eq hk0 hpm hkp hr
          have := lev y ly v1 v2
          rw [posF_eq hk0 hpm hkp hr, hpt] at this
          exact this
        refine hW2 _ _ _ fun _ => ?_
        rw [hpt]
        simp only [NN_some, add_mk]
        have eL : k * 2 = 2 * k := by omega
        have cnx : ∀ y, Le z y → cell y ⟨d.b, 0 + 2, none⟩ = some (.slice (some ⟨d.lb, 0, none⟩) d.ht d.ht) := fun y ly => by rw [cell_mk (ly _ _ zb)]; rfl
        have cto : ∀ y, Le z y → cell y ⟨d.lb, 0 + k * 2 + 0, none⟩ = some (.pointer (ptOf s.ns q)) := fun y ly => by rw [cell_mk (ly _ _ zl), Nat.zero_add, Nat.add_zero, eL]; exact hc0
        have cby : ∀ y, Le z y → cell y ⟨d.lb, 0 + k * 2 + 1, none⟩ = some (.int .i64 by_) := fun y ly => by rw [cell_mk (ly _ _ zl), Nat.zero_add, eL]; exact hc1
        have hkd : (k : Int) < (d.ht : Int) := by omega
        refine ⟨_, _, _, cnx z (Le.refl z), by omega, hkd, ?_⟩
        simp only [NN_some, add_mk]
        refine ⟨_, cto z (Le.refl z), ?_⟩
        intro J1 hJ1
        cases q with
        | none =>
          refine ⟨fun hs => by simp [ptOf] at hs, fun _ => ?_⟩
          refine hJ1 _ _ fun _ => ⟨(fun hx => by cases hx), fun _ => ?_⟩
          exact stop (fun r h1 _ => hq r h1) z lz w1 w2
        | some q =>
          obtain ⟨hpq, hkq, hmid⟩ := hq
          obtain ⟨d2, hd2, _⟩ := nd_get hkq
          have hpt2 : ptOf s.ns (some q) = some ⟨d2.b, 0, none⟩ := by simp [ptOf, hd2]
          have hql : q < s.ns.length := (List.getElem?_eq_some_iff.1 hd2).1
          have z2 := lz _ _ (hS.2 q d2 hd2).1
          refine ⟨fun _ => ?_, fun hs => by rw [hpt2] at hs; simp at hs⟩
          refine ⟨_, _, _, cnx z (Le.refl z), by omega, hkd, ?_⟩
          simp only [NN_some, add_mk]
          refine ⟨_, cto z (Le.refl z), ?_⟩
          rw [hpt2]
          simp only [NN_some, add_mk]
          refine ⟨d2.x.m, d2.x.s, ?_, ?_⟩
          · refine rowAt_mk z2 _ _ _ fun i hi => ?_
            have : i = 0 ∨ i = 1 := by simp at hi; omega
            rcases this with e | e <;> subst e <;> simp
          · refine hf d2.x z _ lz fun y ly => ⟨_, rfl, hJ1 _ _ fun _ => ⟨fun hx => ?_, fun hx => ?_⟩⟩
            · have hqm : q ≤ m := (hp q d2 hd2 (by omega)).1 hx
              have hby2 := hby q rfl
              refine ⟨_, _, _, cnx y ly, by omega, hkd, ?_⟩
              simp only [NN_some, add_mk]
              refine ⟨_, cby y ly, _, _, _, cnx y ly, by omega, hkd, ?_⟩
              simp only [NN_some, add_mk]
              refine ⟨_, cto y ly, ?_⟩
              have ew : IntKind.wrap .i64 ((p : Int) + by_) = (q : Int) := by
                rw [hby2, w64 (by omega) (by omega)]; omega
              rw [ew]
              exact ihn (m - q) (by omega) y q rfl (lz.trans ly) (ly _ _ w1) (ly _ _ w2) hqm hkq
            · refine stop (fun r h1 h2 => ?_) y (lz.trans ly) (ly _ _ w1) (ly _ _ w2)
              have hqm : ¬ q ≤ m := fun h => by rw [(hp q d2 hd2 (by omega)).2 h] at hx; cases hx
              exact hmid r h1 (by omega)
      refine inner _ x p rfl lx y1 y2 hpm (hpk k (by omega))
  have := outer 16 g0 0 (by omega) l0 z1 (by rw [z2]; simp [trC]) (by omega) (fun j hj => by rw [h16]; exact hj)
  exact this

end Go.Proofs.Ytckdkgphkjbbnaa.Hw

/- Contracts of the document's answers for pairs: Less, Ahead, Rank, Put, Out, Score, ZSet, Same. -/
import Derived.Test.YtckdkgphkjbbnaaZSet3
set_option linter.unusedVariables false
set_option linter.unusedSimpArgs false
namespace Go.Proofs.Ytckdkgphkjbbnaa.Hw
open Go.Proofs

theorem rowAt_iff {h : Hp} {b o : Nat} : ∀ {vs : List Value} {j : Nat}, rowAt h ⟨b, o, none⟩ j vs ↔ ∀ k, k < vs.length → cell h ⟨b, o + j + k, none⟩ = vs[k]? := by
  intro vs
  induction vs with
  | nil => intro j; simp [rowAt]
  | cons v vs ih =>
    intro j
    simp only [rowAt, add_mk, ih]
    constructor
    · rintro ⟨h1, h2⟩ k hk
      cases k with
      | zero => simpa using h1
      | succ k =>
        have := h2 k (by simpa using hk)
        rw [List.getElem?_cons_succ, ← this]
        congr 2; omega
    · intro hh
      refine ⟨by simpa using hh 0 (by simp), fun k hk => ?_⟩
      have := hh (k + 1) (by simpa using hk)
      rw [List.getElem?_cons_succ] at this
      rw [← this]
      congr 2; omega

theorem cell_fr {h h' : Hp} {S : List Nat} (k : Fr S h h') {a : Addr} {v : Value} (hc : cell h a = some v) (hn : a.block ∉ S) : cell h' a = some v := by
  unfold cell at *
  cases ho : h a.block with
  | none => rw [ho] at hc; simp [cellOf] at hc
  | some o => rw [k _ _ ho hn, ← ho]; exact hc

theorem cell_le {h h' : Hp} (k : Le h h') {a : Addr} {v : Value} (hc : cell h a = some v) : cell h' a = some v := cell_fr (k.fr []) hc (by simp)

/-- Pairs in memory, one behind the other. -/
def PrAt (h : Hp) (a : Option Addr) (l : List Pr) : Prop := l = [] ∨ ∃ b o, a = some ⟨b, o, none⟩ ∧ rowAt h ⟨b, o, none⟩ 0 (prsC l)

theorem rowAt_fr {h h' : Hp} {S : List Nat} (k : Fr S h h') {b o j : Nat} {vs : List Value} (hr : rowAt h ⟨b, o, none⟩ j vs) (hn : b ∉ S) : rowAt h' ⟨b, o, none⟩ j vs := by
  rw [rowAt_iff] at *
  intro i hi
  have := hr i hi
  rw [List.getElem?_eq_getElem hi] at this ⊢
  exact cell_fr k this hn

theorem PrAt.le {h h' : Hp} {a : Option Addr} {l : List Pr} (hp : PrAt h a l) (k : Le h h') : PrAt h' a l := by
  rcases hp with h1 | ⟨b, o, h1, h2⟩
  · exact .inl h1
  · exact .inr ⟨b, o, h1, rowAt_fr (k.fr []) h2 (by simp)⟩

theorem Own.prAt {h : Hp} {a : Option Addr} {n c : Nat} {l : List Pr} (o : Own h 2 56 a n c (prsC l)) : PrAt h a l := by
  cases h0 : a with
  | none =>
    subst h0
    left
    have := o.len
    have h2 := prsC_len l
    generalize prsC l = cs at *
    cases o with
    | nil => exact List.length_eq_zero_iff.1 (by omega)
  | some p =>
    subst h0
    cases o with
    | at_ hb hl hr hn => exact .inr ⟨_, 0, rfl, row_of_own hb⟩

theorem PrAt.at_ {h : Hp} {a : Option Addr} {l : List Pr} {i : Nat} {x : Pr} (hp : PrAt h a l) (hx : l[i]? = some x) : ∃ b o, a = some ⟨b, o, none⟩ ∧ rowAt h ⟨b, o + i * 2, none⟩ 0 (prC x) := by
  rcases hp with h1 | ⟨b, o, h1, h2⟩
  · rw [h1] at hx; simp at hx
  · refine ⟨b, o, h1, rowAt_iff.2 fun k hk => ?_⟩
    have hk2 : k < 2 := hk
    have hil := (List.getElem?_eq_some_iff.1 hx).1
    have := rowAt_iff.1 h2 (i * 2 + k) (by rw [prsC_len]; omega)
    rw [prsC_at hx k hk2] at this
    rw [← this]
    congr 2; omega

theorem PrAt.src {h : Hp} {a : Option Addr} {l : List Pr} {c : Nat} (hp : PrAt h a l) : srcAt 2 h (.slice a l.length c) l.length (prsC l) := by
  rcases hp with h1 | ⟨b, o, h1, h2⟩
  · subst h1
    cases a with
    | none => rfl
    | some p => exact ⟨rfl, trivial⟩
  · subst h1
    exact ⟨prsC_len l, h2⟩

theorem PrAt.take {h : Hp} {a : Option Addr} {l : List Pr} (hp : PrAt h a l) (k : Nat) : PrAt h a (l.take k) := by
  rcases hp with h1 | ⟨b, o, h1, h2⟩
  · subst h1; left; simp
  · refine .inr ⟨b, o, h1, rowAt_iff.2 fun i hi => ?_⟩
    have e : prsC l = prsC (l.take k) ++ prsC (l.drop k) := by rw [← prsC_app, List.take_append_drop]
    have := rowAt_iff.1 h2 i (by rw [e, List.length_append]; omega)
    rw [this, e, List.getElem?_append_left hi]

theorem PrAt.drop {h : Hp} {b o : Nat} {l : List Pr} {k : Nat} (hp : PrAt h (some ⟨b, o, none⟩) l) (hk : k ≤ l.length) : PrAt h (some ⟨b, o + k * 2, none⟩) (l.drop k) := by
  rcases hp with h1 | ⟨b', o', h1, h2⟩
  · subst h1; left; simp
  · injection h1 with h1
    injection h1 with e1 e2
    subst e1 e2
    refine .inr ⟨b, o + k * 2, rfl, rowAt_iff.2 fun i hi => ?_⟩
    have e : prsC l = prsC (l.take k) ++ prsC (l.drop k) := by rw [← prsC_app, List.take_append_drop]
    have hl : (prsC (l.take k)).length = k * 2 := by rw [prsC_len, List.length_take]; omega
    have := rowAt_iff.1 h2 (k * 2 + i) (by rw [e, List.length_append]; omega)
    rw [e, List.getElem?_append_right (by omega)] at this
    have e2 : k * 2 + i - (prsC (l.take k)).length = i := by omega
    rw [e2] at this
    rw [← this]
    congr 2; omega

/-! ### Less, Ahead, Rank -/

theorem rLess_ok {a b : Pr} {h : Hp} {K : Value → Hp → Prop} (hK : ∀ h', Le h h' → K (.bool (prLess a b)) h') :
    CallH Try.prog 121 #[.agg #[.string ⟨a.m.toArray⟩, .int .i64 a.s], .agg #[.string ⟨b.m.toArray⟩, .int .i64 b.s]] h K := by
  apply F121_ok
  unfold F121
  refine new_mk fun x g1 hx e1 l1 _ => new_mk fun y g2 hy e2 l2 _ => ?_
  have c1 : g2 x = some (ob (prC a) 56) := l2 _ _ e1
  have c2 : g2 y = some (ob (prC b) 56) := e2
  have hk := hK g2 (l1.trans l2)
  simp only [add_mk]
  refine ⟨a.s, by rw [cell_mk c1]; rfl, b.s, by rw [cell_mk c2]; rfl, fun hne => ?_, fun heq => ?_⟩
  · refine ⟨a.s, by rw [cell_mk c1]; rfl, b.s, by rw [cell_mk c2]; rfl, ?_⟩
    have : a.s ≠ b.s := by simpa using hne
    have e : prLess a b = decide (a.s < b.s) := by unfold prLess; simp [this]
    rw [← e]; exact hk
  · refine ⟨a.m, by rw [cell_mk c1]; rfl, b.m, by rw [cell_mk c2]; rfl, ?_⟩
    have : a.s = b.s := by simpa using heq
    have e : prLess a b = Op.bytesLess a.m b.m := by unfold prLess; simp [this]
    rw [← e]; exact hk

def cntP (x : Pr) (l : List Pr) : Nat := l.countP fun y => prLess y x

theorem cntP_le (x : Pr) (l : List Pr) : cntP x l ≤ l.length := List.countP_le_length

theorem cntP_srt {x : Pr} : ∀ {l : List Pr}, Srt l → cntP x l = nAhead x l := by
  intro l
  induction l with
  | nil => intro _; rfl
  | cons y l ih =>
    intro hs
    obtain ⟨h1, h2⟩ := List.pairwise_cons.1 hs
    simp only [nAhead]
    unfold cntP at ih ⊢
    rw [List.countP_cons]
    split
    · rename_i h; rw [ih h2]
    · rename_i h
      rw [Nat.add_zero, List.countP_eq_zero]
      intro z hz h3
      exact h (prLess_trans (h1 z hz) h3)

theorem rAhead_ok {a : Option Addr} {c : Nat} {l : List Pr} {x : Pr} {h : Hp} {K : Value → Hp → Prop} (hp : PrAt h a l) (hl : l.length < 4611686018427387904) (hK : ∀ h', Le h h' → K (.int .i64 (cntP x l : Int)) h') :
    CallH Try.prog 92 #[.slice a l.length c, .agg #[.string ⟨x.m.toArray⟩, .int .i64 x.s]] h K := by
  apply F92_ok
  unfold F92
  refine new_mk fun bx g hbx e1 l1 _ => ?_
  intro K1 hK1 W1 hW1
  obtain ⟨n, hn⟩ : ∃ n, n = l.length := ⟨_, rfl⟩
  rw [← hn] at hW1 hl
  have loop : ∀ (r i : Nat) (y : Hp), n - i = r → i ≤ n → Le g y → W1 [.int .i64 (cntP x (l.take i) : Int), .int .i64 (i : Int)] y := by
    intro r
    induction r with
    | zero =>
      intro i y hr hi ly
      have : i = n := by omega
      subst this
      refine hW1 _ _ _ fun _ => ⟨fun hx => by have := of_decide_eq_true hx; omega, fun _ => hK1 _ _ fun _ => ?_⟩
      rw [hn, List.take_length]
      exact hK y (l1.trans ly)
    | succ r ih =>
      intro i y hr hi ly
      refine hW1 _ _ _ fun _ => ⟨fun _ => ?_, fun hx => by have := of_decide_eq_false hx; omega⟩
      intro K2 hK2
      obtain ⟨w, hw⟩ : ∃ w, l[i]? = some w := ⟨l[i]'(by omega), List.getElem?_eq_getElem _⟩
      obtain ⟨b, o, ha, hrow⟩ := (hp.le (l1.trans ly)).at_ hw
      subst ha
      simp only [NN_some, add_mk, Int.toNat_natCast]
      refine ⟨by omega, by omega, w.m, w.s, hrow, x.m, x.s, row_all (cs := prC x) (ly _ _ e1), rLess_ok fun y2 l2 => ⟨_, rfl, ?_⟩⟩
      have e1 : IntKind.wrap .i64 ((i : Int) + 1) = ((i + 1 : Nat) : Int) := by rw [w64 (by omega) (by omega)]; omega
      rw [e1] at hK2
      have hc : cntP x (l.take (i + 1)) = cntP x (l.take i) + (if prLess w x = true then 1 else 0) := by
        rw [take_next hw]; unfold cntP; rw [List.countP_append]; simp [List.countP_cons]
      have hcl : cntP x (l.take i) ≤ i := Nat.le_trans (cntP_le _ _) (by rw [List.length_take]; omega)
      have hnext := ih (i + 1) y2 (by omega) (by omega) (ly.trans l2)
      refine ⟨fun h1 => hK2 _ _ fun _ => ?_, fun h1 => hK2 _ _ fun _ => ?_⟩
      · rw [hc, if_pos h1] at hnext
        rw [w64 (by omega) (by omega)]
        exact hnext
      · rw [hc, h1] at hnext
        exact hnext
  exact loop n 0 g rfl (by omega) (Le.refl g)

theorem rRank_ok {a : Option Addr} {c : Nat} {l : List Pr} {x : Pr} {h : Hp} {K : Value → Hp → Prop} (hp : PrAt h a l) (hl : l.length < 4611686018427387904) (hK : ∀ h' (r : Int), Le h h' → (0 ≤ r ↔ x ∈ l) → K (.int .i64 r) h') :
    CallH Try.prog 91 #[.slice a l.length c, .agg #[.string ⟨x.m.toArray⟩, .int .i64 x.s]] h K := by
  apply F91_ok
  unfold F91
  refine new_mk fun bx g hbx e1 l1 _ => ?_
  intro K1 hK1 W1 hW1
  obtain ⟨n, hn⟩ : ∃ n, n = l.length := ⟨_, rfl⟩
  rw [← hn] at hW1 hl
  have hpg := hp.le l1
  have loop : ∀ (r i : Nat), n - i = r → i ≤ n → x ∉ l.take i → W1 [.int .i64 (i : Int)] g := by
    intro r
    induction r with
    | zero =>
      intro i hr hi hno
      have : i = n := by omega
      subst this
      refine hW1 _ _ fun _ => ⟨fun hx => by have := of_decide_eq_true hx; omega, fun _ => hK1 _ fun _ => ?_⟩
      rw [hn, List.take_length] at hno
      exact hK g (-1) l1 ⟨fun h => by omega, fun h => (hno h).elim⟩
    | succ r ih =>
      intro i hr hi hno
      refine hW1 _ _ fun _ => ⟨fun _ => ?_, fun hx => by have := of_decide_eq_false hx; omega⟩
      obtain ⟨w, hw⟩ : ∃ w, l[i]? = some w := ⟨l[i]'(by omega), List.getElem?_eq_getElem _⟩
      obtain ⟨b, o, ha, hrow⟩ := hpg.at_ hw
      subst ha
      simp only [NN_some, add_mk, Int.toNat_natCast]
      refine ⟨by omega, by omega, w.m, w.s, hrow, x.m, x.s, row_all (cs := prC x) e1, ?_⟩
      have e1 : IntKind.wrap .i64 ((i : Int) + 1) = ((i + 1 : Nat) : Int) := by rw [w64 (by omega) (by omega)]; omega
      rw [e1]
      show cellsEqE [.string ⟨w.m.toArray⟩, .int .i64 w.s] [.string ⟨x.m.toArray⟩, .int .i64 x.s] _
      have fin : ∀ e : Bool, (e = true ↔ w = x) → (e = true → K (.int .i64 (i : Int)) g) ∧ (e = false → W1 [.int .i64 ((i + 1 : Nat) : Int)] g) := by
        intro e he
        refine ⟨fun h1 => hK g i l1 ⟨fun _ => ?_, fun _ => by omega⟩, fun h1 => ih (i + 1) (by omega) (by omega) ?_⟩
        · rw [← he.1 h1]; exact List.mem_of_getElem? hw
        · rw [take_next hw, List.mem_append, List.mem_singleton]
          rintro (h2 | h2)
          · exact hno h2
          · rw [he.2 h2.symm] at h1; cases h1
      have := fin ((w.m == x.m) && (w.s == x.s)) ⟨fun h1 => by simp at h1; cases w; cases x; simp_all, fun h1 => by simp [h1]⟩
      simpa [cellsEqE, cellEq] using this
  exact loop n 0 rfl (by omega) (by simp)

/-! ### Put -/

theorem rPut_ok {a : Option Addr} {c : Nat} {l : List Pr} {x : Pr} {h : Hp} {K : Value → Hp → Prop} (hp : PrAt h a l) (hl : l.length < 1000000000000) (hlc : l.length ≤ c)
    (hyes : x ∈ l → ∀ h', Le h h' → K (.tuple #[.slice a l.length c, .bool false]) h')
    (hno : x ∉ l → ∀ h' a' c' r, r = l.take (cntP x l) ++ x :: l.drop (cntP x l) → Own h' 2 56 a' r.length c' (prsC r) → (∀ b ∈ ownB a', h b = none) → Le h h' → K (.tuple #[.slice a' r.length c', .bool true]) h') :
    CallH Try.prog 64 #[.slice a l.length c, .agg #[.string ⟨x.m.toArray⟩, .int .i64 x.s]] h K := by
  apply F64_ok
  unfold F64
  refine new_mk fun bx g hbx e1 l1 _ => ?_
  refine ⟨x.m, x.s, row_all (cs := prC x) e1, rRank_ok (hp.le l1) (by omega) fun g2 r l2 hr => ⟨_, rfl, fun h1 => ?_, fun h1 => ?_⟩⟩
  · exact hyes (hr.1 (of_decide_eq_true h1)) g2 (l1.trans l2)
  · have hnx : x ∉ l := fun hm => (of_decide_eq_false h1) (hr.2 hm)
    have hp2 := hp.le (l1.trans l2)
    refine ⟨x.m, x.s, row_all (cs := prC x) (l2 _ _ e1), rAhead_ok hp2 (by omega) fun g3 l3 => ⟨_, rfl, ?_⟩⟩
    have hk := cntP_le x l
    generalize hkk : cntP x l = k at *
    have hp3 := hp2.le l3
    refine ⟨by omega, by omega, by omega, by omega, ?_⟩
    have ea : (if (c : Int).toNat = (0 : Int).toNat then a else a.map (·.add ((0 : Int).toNat * 2))) = a := by
      split
      · rfl
      · rcases hp with h2 | ⟨b, o, h2, _⟩
        · cases a with
          | none => rfl
          | some p => simp [Addr.add]
        · rw [h2]; simp
    have ek : (k : Int).toNat - (0 : Int).toNat = k := by omega
    rw [ea, ek]
    have hpt := hp3.take k
    have hlt : (l.take k).length = k := by rw [List.length_take]; omega
    have hst := hpt.src (c := (c : Int).toNat - (0 : Int).toNat)
    rw [hlt] at hst
    have hleng := prsC_len (l.take k)
    rw [hlt] at hleng
    refine appE_own (h := g3) (sz := 2) (m := k) (xs := prsC (l.take k)) .nil rfl rfl hst hleng ?_ (by omega) (by omega) fun a1 c1 g4 o1 f1 n1 => ?_
    · intro v hv
      simp only [prsC, List.mem_flatMap] at hv
      obtain ⟨y, _, hy⟩ := hv
      simp at hy
      rcases hy with e | e <;> subst e <;> rfl
    · have l4 : Le g3 g4 := f1.le
      have lall := ((l1.trans l2).trans l3).trans l4
      refine ⟨x.m, x.s, row_all (cs := prC x) (((l2.trans l3).trans l4) _ _ e1), new_mk fun b5 g5 hb5 e5 l5 _ => ?_⟩
      rw [Nat.zero_add] at o1
      simp only [List.nil_append] at o1
      have fr1 : ∀ b ∈ ownB a1, g3 b = none := fun b hb => by
        rcases n1 b hb with h2 | h2
        · simp [ownB] at h2
        · exact h2
      rw [Nat.zero_add]
      refine app1 (xs := prC x) (o1.le l5) (by simp) e5 (by simp) (by simp [oneCell]) (by omega) (by omega) fun a2 c2 g6 o2 f2 n2 => ?_
      have f46 : Fr (ownB a1) g4 g6 := (l5.fr _).trans f2
      have l6 : Le g3 g6 := l4.fr_then f46 fr1
      have fr2 : ∀ b ∈ ownB a2, g3 b = none := fun b hb => by
        rcases n2 b hb with h2 | h2
        · exact fr1 b h2
        · exact (l4.trans l5).dom _ h2
      refine ⟨by omega, by omega, by omega, by omega, ?_⟩
      have ek2 : ((l.length : Nat) : Int).toNat - (k : Int).toNat = (l.drop k).length := by rw [List.length_drop]; omega
      rw [ek2]
      have hp6 := hp3.le l6
      have hpd : PrAt g6 (if (c : Int).toNat = (k : Int).toNat then a else a.map (·.add ((k : Int).toNat * 2))) (l.drop k) := by
        split
        · rename_i hc
          left
          rw [List.drop_eq_nil_of_le]; omega
        · cases a with
          | none =>
            rcases hp6 with h2 | ⟨b, o, h2, _⟩
            · left; rw [h2]; simp
            · cases h2
          | some p =>
            rcases hp6 with h2 | ⟨b, o, h2, h3⟩
            · left; rw [h2]; simp
            · injection h2 with h2
              subst h2
              simp only [Option.map_some, add_mk, Int.toNat_natCast]
              exact PrAt.drop (.inr ⟨b, o, rfl, h3⟩) hk
      have hld := prsC_len (l.drop k)
      refine appE_own (sz := 2) (m := (l.drop k).length) (xs := prsC (l.drop k)) o2 rfl rfl hpd.src hld ?_ (by rw [List.length_drop]; omega) (by rw [List.length_drop]; omega) fun a3 c3 g7 o3 f3 n3 => ?_
      · intro v hv
        simp only [prsC, List.mem_flatMap] at hv
        obtain ⟨y, _, hy⟩ := hv
        simp at hy
        rcases hy with e | e <;> subst e <;> rfl
      · have l7 : Le g3 g7 := l6.fr_then f3 fr2
        have l123 := (l1.trans l2).trans l3
        have er : k + 1 + (l.drop k).length = (l.take k ++ x :: l.drop k).length := by simp only [List.length_append, List.length_cons, hlt]; omega
        rw [er] at o3 ⊢
        have ec : prsC (l.take k) ++ prC x ++ prsC (l.drop k) = prsC (l.take k ++ x :: l.drop k) := by
          rw [prsC_app]; simp [prsC]
        rw [ec] at o3
        exact hno hnx g7 a3 c3 _ rfl o3 (fun b hb => by
          rcases n3 b hb with h2 | h2
          · exact l123.dom _ (fr2 b h2)
          · exact (l123.trans l6).dom _ h2) (l123.trans l7)

end Go.Proofs.Ytckdkgphkjbbnaa.Hw

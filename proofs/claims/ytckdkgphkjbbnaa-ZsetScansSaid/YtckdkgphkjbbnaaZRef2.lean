/- Contracts of the document's answers for pairs: Out, Score, ZSet, Same. -/
import Derived.Test.YtckdkgphkjbbnaaZRef
set_option linter.unusedVariables false
set_option linter.unusedSimpArgs false
namespace Go.Proofs.Ytckdkgphkjbbnaa.Hw
open Go.Proofs

theorem rOut_ok {a : Option Addr} {c : Nat} {l : List Pr} {key : List UInt8} {h : Hp} {K : Value → Hp → Prop} (hp : PrAt h a l) (hl : l.length < 1000000000000)
    (hK : ∀ h' a' c' r, r = outP key l → Own h' 2 56 a' r.length c' (prsC r) → (∀ b ∈ ownB a', h b = none) → Le h h' → K (.slice a' r.length c') h') :
    CallH Try.prog 80 #[.slice a l.length c, .string ⟨key.toArray⟩] h K := by
  apply F80_ok
  unfold F80
  intro K1 hK1 W1 hW1
  obtain ⟨n, hn⟩ : ∃ n, n = l.length := ⟨_, rfl⟩
  rw [← hn] at hW1 hl
  have loop : ∀ (r i : Nat) (y : Hp) (a2 : Option Addr) (c2 : Nat), n - i = r → i ≤ n → Own y 2 56 a2 (outP key (l.take i)).length c2 (prsC (outP key (l.take i))) → (∀ b ∈ ownB a2, h b = none) → Le h y →
      W1 [.slice a2 (outP key (l.take i)).length c2, .int .i64 (i : Int)] y := by
    intro r
    induction r with
    | zero =>
      intro i y a2 c2 hr hi oy fy ly
      have : i = n := by omega
      subst this
      refine hW1 _ _ _ _ _ fun _ => ⟨fun hx => by have := of_decide_eq_true hx; omega, fun _ => hK1 _ _ _ _ fun _ => ?_⟩
      rw [hn, List.take_length] at oy ⊢
      exact hK y a2 c2 _ rfl oy fy ly
    | succ r ih =>
      intro i y a2 c2 hr hi oy fy ly
      refine hW1 _ _ _ _ _ fun _ => ⟨fun _ => ?_, fun hx => by have := of_decide_eq_false hx; omega⟩
      intro K2 hK2
      obtain ⟨w, hw⟩ : ∃ w, l[i]? = some w := ⟨l[i]'(by omega), List.getElem?_eq_getElem _⟩
      obtain ⟨b, o, ha, hrow⟩ := (hp.le ly).at_ hw
      subst ha
      have e1 : IntKind.wrap .i64 ((i : Int) + 1) = ((i + 1 : Nat) : Int) := by rw [w64 (by omega) (by omega)]; omega
      rw [e1] at hK2
      simp only [NN_some, add_mk, Int.toNat_natCast]
      have hc0 : cell y ⟨b, o + i * 2 + 0, none⟩ = some (.string ⟨w.m.toArray⟩) := by simpa using rowAt_iff.1 hrow 0 (by simp)
      have hout : outP key (l.take (i + 1)) = outP key (l.take i) ++ (if (!(w.m == key)) = true then [w] else []) := by
        rw [take_next hw]
        unfold outP
        rw [List.filter_append, List.filter_cons]
        simp only [List.filter_nil]
      have hlen : (outP key (l.take i)).length ≤ n := Nat.le_trans (List.length_filter_le _ _) (by rw [List.length_take]; omega)
      have hnext := ih (i + 1)
      refine ⟨by omega, by omega, w.m, hc0, fun h1 => ?_, fun h1 => ?_⟩
      · refine ⟨by omega, by omega, w.m, w.s, hrow, new_mk fun b2 g2 hb2 z2 l2 _ => ?_⟩
        refine app1 (xs := prC w) (oy.le l2) (by simp) z2 (by simp) (by simp [oneCell]) (by omega) (by omega) fun a' c' g3 o3 f3 n3 => ?_
        refine hK2 _ _ _ _ fun _ => ?_
        have fy3 : Fr (ownB a2) y g3 := (l2.fr _).trans f3
        rw [hout, if_pos h1] at hnext
        have := hnext g3 a' c' (by omega) (by omega)
        rw [List.length_append, prsC_app, prsC_one] at this
        refine this o3 (fun b hb => ?_) (ly.fr_then fy3 fy)
        rcases n3 b hb with h2 | h2
        · exact fy b h2
        · exact (ly.trans l2).dom _ h2
      · refine hK2 _ _ _ _ fun _ => ?_
        rw [hout, h1] at hnext
        have := hnext y a2 c2 (by omega) (by omega)
        simp only [Bool.false_eq_true, if_false, List.append_nil] at this
        exact this oy fy ly
  exact loop n 0 h none 0 rfl (by omega) .nil (by simp [ownB]) (Le.refl h)

theorem rScore_ok {a : Option Addr} {c : Nat} {l : List Pr} {x : Pr} {h : Hp} {K : Value → Hp → Prop} (hp : PrAt h a l) (hl : l.length < 1000000000000) (hs : Srt l)
    (hK : ∀ h' a' c' r, r = putP x l → Own h' 2 56 a' r.length c' (prsC r) → (∀ b ∈ ownB a', h b = none) → Le h h' → K (.slice a' r.length c') h') :
    CallH Try.prog 50 #[.slice a l.length c, .agg #[.string ⟨x.m.toArray⟩, .int .i64 x.s]] h K := by
  apply F50_ok
  unfold F50
  refine new_mk fun bx g hbx e1 l1 _ => ?_
  refine ⟨x.m, by rw [add_mk, cell_mk (cs := prC x) e1]; rfl, x.m, x.s, row_all (cs := prC x) e1, rOut_ok (hp.le l1) hl fun g2 a2 c2 r hr o2 fr2 l2 => ⟨_, _, _, rfl, ⟨⟨x.m, x.s, row_all (cs := prC x) (l2 _ _ e1), rfl⟩, trivial⟩, ?_⟩⟩
  have hrl : r.length ≤ l.length := by rw [hr]; exact List.length_filter_le _ _
  have hrc : r.length ≤ c2 := by
    cases hr0 : r with
    | nil => simp
    | cons y r' =>
      obtain ⟨b, hb⟩ := own_some o2 (by rw [hr0]; simp)
      subst hb
      rw [← hr0]
      cases o2 with
      | at_ _ _ _ hn => exact hn
  refine rPut_ok (x := x) o2.prAt (by omega) hrc (fun hm => ?_) fun _ g3 a3 c3 q hq o3 fr3 l3 => ⟨_, _, _, _, rfl, ?_⟩
  · rw [hr] at hm
    exact ((outP_mem.1 hm).2 rfl).elim
  · have hrs : Srt r := by rw [hr]; exact outP_srt hs
    have hqq : q = putP x l := by
      rw [hq, cntP_srt hrs, ← insP_eq, hr]; rfl
    exact hK g3 a3 c3 q hqq o3 (fun b hb => (l1.trans l2).dom _ (fr3 b hb)) ((l1.trans l2).trans l3)

/-- Pairs put one by one. -/
def setP (l : List Pr) : List Pr := l.foldl (fun acc x => putP x acc) []

theorem setP_snoc (l : List Pr) (x : Pr) : setP (l ++ [x]) = putP x (setP l) := by unfold setP; rw [List.foldl_append]; rfl

theorem setP_ok (l : List Pr) : Srt (setP l) ∧ Nm (setP l) ∧ (setP l).length ≤ l.length := by
  have : ∀ (l acc : List Pr), Srt acc → Nm acc → Srt (l.foldl (fun acc x => putP x acc) acc) ∧ Nm (l.foldl (fun acc x => putP x acc) acc) ∧ (l.foldl (fun acc x => putP x acc) acc).length ≤ acc.length + l.length := by
    intro l
    induction l with
    | nil => intro acc h1 h2; exact ⟨h1, h2, Nat.le_refl _⟩
    | cons x l ih =>
      intro acc h1 h2
      obtain ⟨g1, g2, g3⟩ := ih (putP x acc) (putP_srt h1) (putP_nm h2)
      refine ⟨g1, g2, Nat.le_trans g3 ?_⟩
      have : (putP x acc).length ≤ acc.length + 1 := by
        unfold putP
        rw [insP_len]
        have := List.length_filter_le (fun y : Pr => !(y.m == x.m)) acc
        unfold outP
        omega
      simp only [List.length_cons]
      omega
  have := this l [] List.Pairwise.nil List.nodup_nil
  simpa [setP] using this

abbrev valC (kind : Int) (v : Value) : List Value := [.int .i64 kind, .string ⟨([] : List UInt8).toArray⟩, .slice none 0 0, .slice none 0 0, v]

theorem rZSet_ok {a : Option Addr} {c : Nat} {l : List Pr} {h : Hp} {K : Value → Hp → Prop} (hp : PrAt h a l) (hl : l.length < 1000000000000)
    (hK : ∀ h' a' c' (kind : Int) r, r = setP l → Own h' 2 56 a' r.length c' (prsC r) → (∀ b ∈ ownB a', h b = none) → Le h h' → K (.agg (valC kind (.slice a' r.length c')).toArray) h') :
    CallH Try.prog 27 #[.slice a l.length c] h K := by
  apply F27_ok
  unfold F27
  refine new_mk fun b1 g1 hb1 e1 l1 _ => ⟨fun hx => ?_, fun hx => ?_⟩
  · have h0 : l = [] := by
      have : (l.length : Int) = 0 := by simpa using hx
      exact List.length_eq_zero_iff.1 (by omega)
    show stN g1 ⟨b1, 0, none⟩ (valC 0 (.slice none 0 0)) _
    refine stN_all (cs := valC 0 (.slice none 0 0)) e1 rfl (by simp [oneCell]) ?_
    rw [upd_eq e1]
    refine ⟨0, [], none, 0, 0, none, 0, 0, none, 0, 0, row_all (cs := valC 0 (.slice none 0 0)) e1, ?_⟩
    subst h0
    exact hK g1 none 0 0 [] rfl .nil (by simp [ownB]) l1
  · refine new_mk fun b2 g2 hb2 e2 l2 _ => ?_
    show stN g2 ⟨b2, 0, none⟩ (valC 5 (.slice none 0 0)) _
    refine stN_all (cs := valC 0 (.slice none 0 0)) e2 rfl (by simp [oneCell]) ?_
    generalize hg3 : upd g2 b2 (ob (valC 5 (.slice none 0 0)) 63) = g3
    have e3 : g3 b2 = some (ob (valC 5 (.slice none 0 0)) 63) := by rw [← hg3]; exact upd_same _ _ _
    have l3 : Le g1 g3 := l2.fr_then (S := [b2]) (by rw [← hg3]; exact Fr.upd _ (by simp)) fun b hb => by simp at hb; rw [hb]; exact hb2
    have e13 := l3 _ _ e1
    have hb12 : b1 ≠ b2 := ne_of_some_none e1 hb2
    intro K1 hK1 W1 hW1
    obtain ⟨n, hn⟩ : ∃ n, n = l.length := ⟨_, rfl⟩
    rw [← hn] at hW1 hl
    have loop : ∀ (r i : Nat) (y : Hp) (a2 : Option Addr) (c2 : Nat), n - i = r → i ≤ n → Own y 2 56 a2 (setP (l.take i)).length c2 (prsC (setP (l.take i))) → (∀ b ∈ ownB a2, g3 b = none) →
        y b2 = some (ob (valC 5 (.slice a2 (setP (l.take i)).length c2)) 63) → Fr [b2] g3 y → W1 [.int .i64 (i : Int)] y := by
      intro r
      induction r with
      | zero =>
        intro i y a2 c2 hr hi oy fy yb ly
        have : i = n := by omega
        subst this
        refine hW1 _ _ fun _ => ⟨fun hx => by have := of_decide_eq_true hx; omega, fun _ => hK1 _ fun _ => ?_⟩
        rw [hn, List.take_length] at oy yb
        refine ⟨5, [], none, 0, 0, none, 0, 0, a2, (setP l).length, c2, row_all (cs := valC 5 (.slice a2 (setP l).length c2)) yb, ?_⟩
        have e1y : y b1 = some (ob (valC 0 (.slice none 0 0)) 63) := ly _ _ e13 (by simpa using hb12)
        show stN y ⟨b1, 0, none⟩ (valC 5 (.slice a2 (setP l).length c2)) _
        refine stN_all (cs := valC 0 (.slice none 0 0)) e1y rfl (by simp [oneCell]) ?_
        refine ⟨5, [], none, 0, 0, none, 0, 0, a2, (setP l).length, c2, row_all (cs := valC 5 (.slice a2 (setP l).length c2)) (upd_same _ _ _), ?_⟩
        have f1 : Fr [b1, b2] g3 (upd y b1 (ob (valC 5 (.slice a2 (setP l).length c2)) 63)) := (ly.mono (fun b hb => .inl (by simp at hb; simp [hb]))).trans (Fr.upd _ (by simp))
        have lf : Le h (upd y b1 (ob (valC 5 (.slice a2 (setP l).length c2)) 63)) := by
          have : Fr [b1, b2] g1 (upd y b1 (ob (valC 5 (.slice a2 (setP l).length c2)) 63)) := (l3.fr _).trans f1
          refine l1.fr_then this fun b hb => ?_
          simp at hb
          rcases hb with e | e <;> subst e
          · exact hb1
          · exact l1.dom _ hb2
        refine hK _ a2 c2 5 _ rfl (oy.fr (Fr.upd (S := [b1]) _ (by simp)) fun b hb hm => ?_) (fun b hb => (l1.trans l3).dom _ (fy b hb)) lf
        simp at hm
        subst hm
        have := fy b hb
        rw [e13] at this; cases this
      | succ r ih =>
        intro i y a2 c2 hr hi oy fy yb ly
        refine hW1 _ _ fun _ => ⟨fun _ => ?_, fun hx => by have := of_decide_eq_false hx; omega⟩
        obtain ⟨w, hw⟩ : ∃ w, l[i]? = some w := ⟨l[i]'(by omega), List.getElem?_eq_getElem _⟩
        have hpy : PrAt y a l := by
          rcases hp with h1 | ⟨b, o, h1, h2⟩
          · exact .inl h1
          · refine .inr ⟨b, o, h1, rowAt_fr (S := [b2]) ((l1.trans l3).fr _ |>.trans ly) h2 ?_⟩
            intro hm
            simp at hm
            have h0 := rowAt_iff.1 h2 0 (by rw [prsC_len]; have := (List.getElem?_eq_some_iff.1 hw).1; omega)
            rw [List.getElem?_eq_getElem (by rw [prsC_len]; have := (List.getElem?_eq_some_iff.1 hw).1; omega)] at h0
            unfold cell at h0
            rw [hm] at h0
            rw [l1.dom _ hb2] at h0
            simp [cellOf] at h0
        obtain ⟨b, o, ha, hrow⟩ := hpy.at_ hw
        subst ha
        have e1 : IntKind.wrap .i64 ((i : Int) + 1) = ((i + 1 : Nat) : Int) := by rw [w64 (by omega) (by omega)]; omega
        rw [e1]
        simp only [NN_some, add_mk, Int.toNat_natCast]
        obtain ⟨s1, s2, s3⟩ := setP_ok (l.take i)
        have s4 : (l.take i).length ≤ n := by rw [List.length_take]; omega
        refine ⟨by omega, by omega, a2, _, c2, by rw [cell_mk yb]; rfl, w.m, w.s, hrow, rScore_ok (x := w) oy.prAt (by omega) s1 fun g4 a4 c4 q hq o4 fr4 l4 => ⟨_, _, _, rfl, ?_⟩⟩
        refine st1_mk (l4 _ _ yb) (by simp) ?_
        generalize hz : upd g4 b2 (ob ((valC 5 (.slice a2 (setP (l.take i)).length c2)).set (0 + 4) (.slice a4 q.length c4)) 63) = z
        have hq2 : q = setP (l.take (i + 1)) := by rw [take_next hw, setP_snoc]; exact hq
        rw [hq2] at hz o4
        have fz : Fr [b2] g4 z := by rw [← hz]; exact Fr.upd _ (by simp)
        refine ih (i + 1) z a4 c4 (by omega) (by omega) (o4.fr fz fun b hb hm => ?_) (fun b hb => ly.dom _ (fr4 b hb)) (by rw [← hz]; exact upd_same _ _ _) (ly.trans ((l4.fr _).trans fz))
        simp at hm
        subst hm
        have := fr4 b hb
        rw [yb] at this; cases this
    exact loop n 0 g3 none 0 rfl (by omega) .nil (by simp [ownB]) e3 (Fr.refl _ _)

theorem prEq (w v : Pr) : ((w.m == v.m) && (w.s == v.s)) = true ↔ w = v := by
  cases w; cases v; simp

theorem rSame_ok {a b : Option Addr} {c d : Nat} {l m : List Pr} {h : Hp} {K : Value → Hp → Prop} (hp : PrAt h a l) (hq : PrAt h b m) (hl : l.length < 4611686018427387904) (hK : ∀ r : Bool, (r = true ↔ l = m) → K (.bool r) h) :
    CallH Try.prog 26 #[.slice a l.length c, .slice b m.length d] h K := by
  apply F26_ok
  unfold F26
  refine ⟨fun hx => hK false ⟨(fun h => by cases h), fun h => ?_⟩, fun hx => ?_⟩
  · subst h; simp at hx
  · have hlm : l.length = m.length := by
      have : (l.length : Int) = m.length := by simpa using hx
      omega
    intro K1 hK1 W1 hW1
    obtain ⟨n, hn⟩ : ∃ n, n = l.length := ⟨_, rfl⟩
    rw [← hn] at hW1 hl
    rw [← hlm, ← hn] at hW1
    have loop : ∀ (r i : Nat), n - i = r → i ≤ n → l.take i = m.take i → W1 [.int .i64 (i : Int)] h := by
      intro r
      induction r with
      | zero =>
        intro i hr hi heq
        have : i = n := by omega
        subst this
        refine hW1 _ _ fun _ => ⟨fun hx => by have := of_decide_eq_true hx; omega, fun _ => hK1 _ fun _ => hK true ⟨fun _ => ?_, fun _ => rfl⟩⟩
        rw [hn, List.take_length, hlm, List.take_length] at heq
        exact heq
      | succ r ih =>
        intro i hr hi heq
        refine hW1 _ _ fun _ => ⟨fun _ => ?_, fun hx => by have := of_decide_eq_false hx; omega⟩
        obtain ⟨w, hw⟩ : ∃ w, l[i]? = some w := ⟨l[i]'(by omega), List.getElem?_eq_getElem _⟩
        obtain ⟨v, hv⟩ : ∃ v, m[i]? = some v := ⟨m[i]'(by omega), List.getElem?_eq_getElem _⟩
        obtain ⟨b1, o1, ha1, row1⟩ := hp.at_ hw
        obtain ⟨b2, o2, ha2, row2⟩ := hq.at_ hv
        subst ha1 ha2
        simp only [NN_some, add_mk, Int.toNat_natCast]
        have e1 : IntKind.wrap .i64 ((i : Int) + 1) = ((i + 1 : Nat) : Int) := by rw [w64 (by omega) (by omega)]; omega
        rw [e1]
        refine ⟨by omega, by omega, by omega, by omega, w.m, w.s, row1, v.m, v.s, row2, ?_⟩
        have fin : ∀ e : Bool, (e = true ↔ w = v) → ((!e) = true → K (.bool false) h) ∧ ((!e) = false → W1 [.int .i64 ((i + 1 : Nat) : Int)] h) := by
          intro e he
          refine ⟨fun h1 => hK false ⟨(fun h => by cases h), fun h => ?_⟩, fun h1 => ih (i + 1) (by omega) (by omega) ?_⟩
          · subst h
            rw [hw] at hv
            injection hv with hv
            rw [he.2 hv] at h1; cases h1
          · rw [take_next hw, take_next hv, heq, he.1 (by simpa using h1)]
        have := fin ((w.m == v.m) && (w.s == v.s)) (prEq w v)
        simpa [cellsEqE, cellEq] using this
    exact loop n 0 rfl (by omega) (by simp)

/-- Sorted lists of the same pairs are the same. -/
theorem srt_unique : ∀ {l m : List Pr}, Srt l → Srt m → (∀ x, x ∈ l ↔ x ∈ m) → l = m := by
  intro l
  induction l with
  | nil =>
    intro m _ _ h
    cases m with
    | nil => rfl
    | cons y m => have := (h y).2 (by simp); simp at this
  | cons a l ih =>
    intro m hl hm h
    cases m with
    | nil => have := (h a).1 (by simp); simp at this
    | cons b m =>
      obtain ⟨l1, l2⟩ := List.pairwise_cons.1 hl
      obtain ⟨m1, m2⟩ := List.pairwise_cons.1 hm
      have hab : a = b := by
        rcases List.mem_cons.1 ((h a).1 (by simp)) with e | e
        · exact e
        · rcases List.mem_cons.1 ((h b).2 (by simp)) with e2 | e2
          · exact e2.symm
          · have := prLess_trans (m1 a e) (l1 b e2)
            rw [prLess_irr] at this; cases this
      subst hab
      congr 1
      refine ih l2 m2 fun x => ?_
      constructor
      · intro hx
        rcases List.mem_cons.1 ((h x).1 (List.mem_cons_of_mem _ hx)) with e | e
        · subst e; have := l1 x hx; rw [prLess_irr] at this; cases this
        · exact e
      · intro hx
        rcases List.mem_cons.1 ((h x).2 (List.mem_cons_of_mem _ hx)) with e | e
        · subst e; have := m1 x hx; rw [prLess_irr] at this; cases this
        · exact e

theorem setP_mem {l : List Pr} (hn : Nm l) : ∀ x, x ∈ setP l ↔ x ∈ l := by
  have : ∀ (l acc : List Pr), Nm l → (∀ x ∈ acc, ∀ y ∈ l, x.m ≠ y.m) → ∀ x, x ∈ l.foldl (fun acc x => putP x acc) acc ↔ x ∈ acc ∨ x ∈ l := by
    intro l
    induction l with
    | nil => intro acc _ _ x; simp
    | cons y l ih =>
      intro acc hn hd x
      unfold Nm at hn
      simp only [List.map_cons, List.nodup_cons, List.mem_map, not_exists, not_and] at hn
      rw [List.foldl_cons, ih (putP y acc) hn.2]
      · rw [putP_mem]
        constructor
        · rintro ((h | h) | h)
          · exact .inr (by simp [h])
          · exact .inl h.1
          · exact .inr (by simp [h])
        · rintro (h | h)
          · exact .inl (.inr ⟨h, hd x h y (by simp)⟩)
          · rcases List.mem_cons.1 h with h | h
            · exact .inl (.inl h)
            · exact .inr h
      · intro w hw v hv
        rcases putP_mem.1 hw with e | e
        · rw [e]; exact fun e2 => hn.1 v hv e2.symm
        · exact hd w e.1 v (by simp [hv])
  intro x
  have := this l [] hn (by simp) x
  simpa [setP] using this

end Go.Proofs.Ytckdkgphkjbbnaa.Hw

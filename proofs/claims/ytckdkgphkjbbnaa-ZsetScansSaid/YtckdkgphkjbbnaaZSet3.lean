/- Contracts of package zset: Rank, ranks, Count, Range; and of no set. -/
import Derived.Test.YtckdkgphkjbbnaaZSet2
set_option linter.unusedVariables false
set_option linter.unusedSimpArgs false
namespace Go.Proofs.Ytckdkgphkjbbnaa.Hw
open Go.Proofs

/-- How many at the beginning meet something. -/
def nPre (p : Pr → Bool) : List Pr → Nat
  | [] => 0
  | y :: l => if p y = true then nPre p l + 1 else 0

theorem nPre_le (p : Pr → Bool) : ∀ l, nPre p l ≤ l.length := by
  intro l
  induction l with
  | nil => exact Nat.le_refl _
  | cons y l ih => unfold nPre; split <;> simp; omega

theorem nPre_at {p : Pr → Bool} (hp : ∀ a b, prLess a b = true → p b = true → p a = true) : ∀ {l : List Pr}, Srt l → ∀ {i : Nat} {y : Pr}, l[i]? = some y → (p y = true ↔ i < nPre p l) := by
  intro l
  induction l with
  | nil => intro _ i y h; simp at h
  | cons z l ih =>
    intro hs i y h
    obtain ⟨h1, h2⟩ := List.pairwise_cons.1 hs
    unfold nPre
    cases i with
    | zero =>
      simp at h
      subst h
      split
      · rename_i h3; simp [h3]
      · rename_i h3; simp [h3]
    | succ i =>
      simp at h
      have := ih h2 h
      split
      · rw [this]; omega
      · rename_i h3
        constructor
        · intro h4
          exact (h3 (hp _ _ (h1 y (List.mem_of_getElem? h)) h4)).elim
        · intro h4; omega

def nBelow (sc : Int) (op : Bool) (l : List Pr) : Nat := nPre (belowB sc op) l

theorem below_mono (sc : Int) (op : Bool) : ∀ a b, prLess a b = true → belowB sc op b = true → belowB sc op a = true := by
  intro a b h1 h2
  have h3 : a.s ≤ b.s := by
    rcases prLess_iff.1 h1 with h | ⟨h, _⟩ <;> omega
  unfold belowB at *
  simp only [Bool.or_eq_true, decide_eq_true_eq, Bool.and_eq_true, beq_iff_eq] at *
  rcases h2 with h | ⟨h4, h5⟩
  · exact .inl (by omega)
  · rcases Int.lt_or_le a.s sc with h | h
    · exact .inl h
    · exact .inr ⟨h4, by omega⟩

theorem zBelow_ok {h : Hp} {S : Nat} {z : Zs} {sc : Int} {op : Bool} {K : Value → Hp → Prop} (hz : ZH h S z) (ho : z.ok S) (hK : ∀ h', Le h h' → K (.int .i64 (nBelow sc op z.l : Int)) h') :
    CallH Try.prog 84 #[.pointer (some ⟨z.L, 0, none⟩), .int .i64 sc, .bool op] h K := by
  have hlen := ok_len ho.s
  have hle := nPre_le (belowB sc op) z.l
  have hn := prs_len z.s
  refine Below_ok hz.sk ho.s (m := nBelow sc op z.l) (by unfold nBelow; unfold Zs.l at *; omega) (fun p d hd hp => ?_) hK
  obtain ⟨q, rfl⟩ : ∃ q, p = q + 1 := ⟨p - 1, by omega⟩
  rw [nPre_at (below_mono sc op) ho.srt (prs_at hd)]
  unfold nBelow Zs.l
  omega

/-! ### Rank -/

def rankP (k : List UInt8) (back : Bool) (l : List Pr) : Int :=
  match lookP k l with
  | none => -1
  | some s => if back = true then (l.length : Int) - 1 - nAhead ⟨k, s⟩ l else nAhead ⟨k, s⟩ l

theorem zRank_ok {h : Hp} {S : Nat} {z : Zs} {key : List UInt8} {back : Bool} {K : Value → Hp → Prop} (hz : ZH h S z) (ho : z.ok S) (hkey : keyOk key) (hn : z.l.length < 4611686018427387904) (hK : ∀ h', Le h h' → K (.int .i64 (rankP key back z.l)) h') :
    CallH Try.prog 32 #[.pointer (some ⟨S, 0, none⟩), .string ⟨key.toArray⟩, .bool back] h K := by
  apply F32_ok
  unfold F32
  refine zScore_ok hz ho hkey fun h1 l1 => ?_
  have hz1 := hz.le l1
  cases hx : lookP key z.l with
  | none =>
    refine ⟨_, _, rfl, fun _ => ?_, (fun h => by cases h)⟩
    have := hK h1 l1
    unfold rankP at this
    rw [hx] at this
    exact this
  | some s =>
    refine ⟨_, _, rfl, (fun h => by cases h), fun _ => ?_⟩
    simp only [NN_some, add_mk]
    have hlen := ok_len ho.s
    have hle := nAhead_le ⟨key, s⟩ z.l
    have hpl := prs_len z.s
    refine ⟨_, by rw [cell_mk hz1.top]; rfl, Rank_ok (x := ⟨key, s⟩) (m := nAhead ⟨key, s⟩ z.l) hz1.sk ho.s (by unfold Zs.l at *; omega) (ahead_pos ho.srt ⟨key, s⟩) fun h2 l2 => ⟨_, rfl, ?_⟩⟩
    have hhas : hasAt z.s.ns (nAhead ⟨key, s⟩ z.l) ⟨key, s⟩ = true := (hasAt_mem ho.srt).2 (lookP_some hx)
    rw [hhas]
    simp only [if_true]
    have hk := hK h2 (l1.trans l2)
    unfold rankP at hk
    rw [hx] at hk
    intro K1 hK1
    refine ⟨fun hb => ?_, fun hb => ?_⟩
    · subst hb
      refine zLen_ok (hz1.le l2) ho ⟨_, rfl, hK1 _ _ fun _ => ?_⟩
      rw [w64 (n := (z.l.length : Int) - 1) (by omega) (by omega), w64 (by omega) (by omega)]
      simpa using hk
    · subst hb
      exact hK1 _ _ fun _ => by simpa using hk

theorem zRank_nil {key : List UInt8} {back : Bool} {h : Hp} {K : Value → Hp → Prop} (hK : K (.int .i64 (-1)) h) : CallH Try.prog 32 #[.pointer none, .string ⟨key.toArray⟩, .bool back] h K := by
  apply F32_ok
  unfold F32
  exact zScore_nil ⟨_, _, rfl, fun _ => hK, (fun h => by cases h)⟩

/-! ### Ranks of bounds -/

structure Bd where
  inf : Int
  sc : Int
  op : Bool

abbrev bdV (b : Bd) : Value := .agg #[.int .i64 b.inf, .int .i64 b.sc, .bool b.op]

def fromP (b : Bd) (l : List Pr) : Nat := if b.inf > 0 then l.length else if b.inf = 0 then nBelow b.sc b.op l else 0
def toP (b : Bd) (l : List Pr) : Nat := if b.inf < 0 then 0 else if b.inf = 0 then nBelow b.sc (!b.op) l else l.length

theorem fromP_le (b : Bd) (l : List Pr) : fromP b l ≤ l.length := by
  unfold fromP nBelow
  have := nPre_le (belowB b.sc b.op) l
  split
  · omega
  · split <;> omega

theorem toP_le (b : Bd) (l : List Pr) : toP b l ≤ l.length := by
  unfold toP nBelow
  have := nPre_le (belowB b.sc (!b.op)) l
  split
  · omega
  · split <;> omega

theorem zranks_ok {h : Hp} {S : Nat} {z : Zs} {lo hi : Bd} {K : Value → Hp → Prop} (hz : ZH h S z) (ho : z.ok S)
    (hK : ∀ h', Le h h' → K (.tuple #[.int .i64 (fromP lo z.l : Int), .int .i64 (max (fromP lo z.l) (toP hi z.l) : Nat)]) h') :
    CallH Try.prog 57 #[.pointer (some ⟨S, 0, none⟩), bdV lo, bdV hi] h K := by
  apply F57_ok
  unfold F57
  refine new_mk fun b1 g1 hb1 e1 l1 _ => new_mk fun b2 g2 hb2 e2 l2 _ => ?_
  have hz2 := hz.le (l1.trans l2)
  have c1 : ∀ g, Le g2 g → g b1 = some (ob [.int .i64 lo.inf, .int .i64 lo.sc, .bool lo.op] 75) := fun g l => l _ _ (l2 _ _ e1)
  have c2 : ∀ g, Le g2 g → g b2 = some (ob [.int .i64 hi.inf, .int .i64 hi.sc, .bool hi.op] 75) := fun g l => l _ _ e2
  refine zLen_ok hz2 ho ⟨_, rfl, fun hx => ?_, fun hx => ?_⟩
  · have h0 : z.l = [] := by
      have : (z.l.length : Int) = 0 := by simpa using hx
      exact List.length_eq_zero_iff.1 (by omega)
    have := hK g2 (l1.trans l2)
    have f0 := fromP_le lo z.l
    have t0 := toP_le hi z.l
    have e0 : z.l.length = 0 := by rw [h0]; rfl
    have e1 : fromP lo z.l = 0 := by omega
    have e2 : toP hi z.l = 0 := by omega
    rw [e1, e2] at this
    exact this
  · intro K1 hK1
    have second : ∀ g, Le g2 g → K1 [.int .i64 (fromP lo z.l : Int)] g := by
      intro g lg
      refine hK1 _ _ fun _ => ?_
      intro K2 hK2
      have hzg := hz2.le lg
      have fin : ∀ g', Le g g' → K2 [.int .i64 (toP hi z.l : Int)] g' := by
        intro g' lg'
        refine hK2 _ _ fun _ => ?_
        have := hK g' ((l1.trans l2).trans (lg.trans lg'))
        have e : (if (toP hi z.l : Int) > (fromP lo z.l : Int) then (toP hi z.l : Int) else (fromP lo z.l : Int)) = ((max (fromP lo z.l) (toP hi z.l) : Nat) : Int) := by split <;> omega
        rw [e]
        exact this
      simp only [add_mk]
      refine ⟨hi.inf, by rw [cell_mk (c2 g lg)]; rfl, fun h1 => ?_, fun h1 => ?_⟩
      · have := fin g (Le.refl g)
        unfold toP at this
        rw [if_pos (of_decide_eq_true h1)] at this
        exact this
      · have hn := of_decide_eq_false h1
        refine ⟨hi.inf, by rw [cell_mk (c2 g lg)]; rfl, fun h2 => ?_, fun h2 => ?_⟩
        · have h0 : hi.inf = 0 := by simpa using h2
          simp only [NN_some, add_mk]
          refine ⟨_, by rw [cell_mk hzg.top]; rfl, hi.sc, by rw [cell_mk (c2 g lg)]; rfl, hi.op, by rw [cell_mk (c2 g lg)]; rfl, zBelow_ok hzg ho fun g' lg' => ⟨_, rfl, ?_⟩⟩
          have := fin g' lg'
          unfold toP at this
          rw [if_neg hn, if_pos h0] at this
          exact this
        · have h0 : hi.inf ≠ 0 := by simpa using h2
          have := fin g (Le.refl g)
          unfold toP at this
          rw [if_neg hn, if_neg h0] at this
          exact this
    simp only [add_mk]
    refine ⟨lo.inf, by rw [cell_mk (c1 g2 (Le.refl _))]; rfl, fun h1 => ?_, fun h1 => ?_⟩
    · have := second g2 (Le.refl _)
      unfold fromP at this
      rw [if_pos (of_decide_eq_true h1)] at this
      exact this
    · have hn := of_decide_eq_false h1
      refine ⟨lo.inf, by rw [cell_mk (c1 g2 (Le.refl _))]; rfl, fun h2 => ?_, fun h2 => ?_⟩
      · have h0 : lo.inf = 0 := by simpa using h2
        simp only [NN_some, add_mk]
        refine ⟨_, by rw [cell_mk hz2.top]; rfl, lo.sc, by rw [cell_mk (c1 g2 (Le.refl _))]; rfl, lo.op, by rw [cell_mk (c1 g2 (Le.refl _))]; rfl, zBelow_ok hz2 ho fun g lg => ⟨_, rfl, ?_⟩⟩
        have := second g lg
        unfold fromP at this
        rw [if_neg hn, if_pos h0] at this
        exact this
      · have h0 : lo.inf ≠ 0 := by simpa using h2
        have := second g2 (Le.refl _)
        unfold fromP at this
        rw [if_neg hn, if_neg h0] at this
        exact this

theorem zranks_nil {lo hi : Bd} {h : Hp} {K : Value → Hp → Prop} (hK : ∀ h', Le h h' → K (.tuple #[.int .i64 0, .int .i64 0]) h') : CallH Try.prog 57 #[.pointer none, bdV lo, bdV hi] h K := by
  apply F57_ok
  unfold F57
  refine new_mk fun b1 g1 hb1 e1 l1 _ => new_mk fun b2 g2 hb2 e2 l2 _ => ?_
  exact zLen_nil ⟨_, rfl, fun _ => hK _ (l1.trans l2), fun hx => by simp at hx⟩

theorem zCount_nil {lo hi : Bd} {h : Hp} {K : Value → Hp → Prop} (hK : ∀ h', Le h h' → K (.int .i64 0) h') : CallH Try.prog 35 #[.pointer none, bdV lo, bdV hi] h K := by
  apply F35_ok
  unfold F35
  refine new_mk fun b1 g1 hb1 e1 l1 _ => new_mk fun b2 g2 hb2 e2 l2 _ => ?_
  refine ⟨lo.inf, lo.sc, lo.op, row_all (cs := [.int .i64 lo.inf, .int .i64 lo.sc, .bool lo.op]) (l2 _ _ e1), hi.inf, hi.sc, hi.op, row_all (cs := [.int .i64 hi.inf, .int .i64 hi.sc, .bool hi.op]) e2, ?_⟩
  refine zranks_nil (lo := lo) (hi := hi) fun h' l' => ⟨_, _, rfl, hK _ ((l1.trans l2).trans l')⟩

/-- The pairs of a range. -/
def rangeP (lo hi : Bd) (back : Bool) (skip count : Int) (l : List Pr) : List Pr :=
  let f : Int := fromP lo l
  let t : Int := (max (fromP lo l) (toP hi l) : Nat)
  if skip < 0 ∨ skip ≥ t - f ∨ count = 0 then [] else
    let n : Int := if count > 0 then min (t - f - skip) count + skip else t - f
    if back = true then zcutP (l.length - t + skip) (l.length - t + n - 1) back l else zcutP (f + skip) (f + n - 1) back l

theorem zRange_ok {h : Hp} {S : Nat} {z : Zs} {lo hi : Bd} {back : Bool} {skip count : Int} {K : Value → Hp → Prop} (hz : ZH h S z) (ho : z.ok S) (hn : z.l.length ≤ 5000000000000)
    (hK : ∀ h' a c r, r = rangeP lo hi back skip count z.l → Own h' 2 56 a r.length c (prsC r) → (∀ b ∈ ownB a, h b = none) → Le h h' → K (.slice a r.length c) h') :
    CallH Try.prog 41 #[.pointer (some ⟨S, 0, none⟩), bdV lo, bdV hi, .bool back, .int .i64 skip, .int .i64 count] h K := by
  apply F41_ok
  unfold F41
  refine new_mk fun b1 g1 hb1 e1 l1 _ => new_mk fun b2 g2 hb2 e2 l2 _ => ?_
  refine ⟨lo.inf, lo.sc, lo.op, row_all (cs := [.int .i64 lo.inf, .int .i64 lo.sc, .bool lo.op]) (l2 _ _ e1), hi.inf, hi.sc, hi.op, row_all (cs := [.int .i64 hi.inf, .int .i64 hi.sc, .bool hi.op]) e2, ?_⟩
  have hz2 := hz.le (l1.trans l2)
  refine zranks_ok (lo := lo) (hi := hi) hz2 ho fun g lg => ⟨_, _, rfl, ?_⟩
  have la := (l1.trans l2).trans lg
  have hzg := hz.le la
  have hf := fromP_le lo z.l
  have ht := toP_le hi z.l
  obtain ⟨f, hfd⟩ : ∃ f : Int, f = (fromP lo z.l : Int) := ⟨_, rfl⟩
  obtain ⟨t, htd⟩ : ∃ t : Int, t = ((max (fromP lo z.l) (toP hi z.l) : Nat) : Int) := ⟨_, rfl⟩
  rw [← hfd, ← htd]
  have hft : 0 ≤ f ∧ f ≤ t ∧ t ≤ z.l.length := by omega
  have hR : ∀ back : Bool, rangeP lo hi back skip count z.l = if skip < 0 ∨ skip ≥ t - f ∨ count = 0 then [] else
      if back = true then zcutP (z.l.length - t + skip) (z.l.length - t + (if count > 0 then min (t - f - skip) count + skip else t - f) - 1) back z.l else zcutP (f + skip) (f + (if count > 0 then min (t - f - skip) count + skip else t - f) - 1) back z.l := by
    intro back
    unfold rangeP
    rw [← hfd, ← htd]
  rw [hR] at hK
  have wtf : IntKind.wrap .i64 (t - f) = t - f := w64 (by omega) (by omega)
  intro J1 hJ1
  rw [wtf] at hJ1 ⊢
  -- the inner ones
  have no : (skip < 0 ∨ skip ≥ t - f ∨ count = 0) → ∀ J2 : List Value → Hp → Prop, (∀ (t2 : Bool) (h5 : Hp), ((_j2 : Nat → Value) → (t2 = true → K (.slice none 0 0) h5) ∧ (t2 = false → False)) → J2 [.bool t2] h5) → J2 [.bool true] g := by
    intro hc J2 hJ2
    exact hJ2 _ _ fun _ => ⟨fun _ => hK g none 0 [] (by rw [if_pos hc]) .nil (by simp [ownB]) la, (fun hx => by cases hx)⟩
  have nil_ : (skip < 0 ∨ skip ≥ t - f ∨ count = 0) → K (.slice none 0 0) g := fun hc => hK g none 0 [] (by rw [if_pos hc]) .nil (by simp [ownB]) la
  have ones : ∀ b : Bool, (b = true ↔ (skip < 0 ∨ skip ≥ t - f)) → J1 [.bool b] g := by
    intro b hb
    refine hJ1 _ _ fun _ => ?_
    intro J2 hJ2
    have twos : ∀ b2 : Bool, (b2 = true ↔ (skip < 0 ∨ skip ≥ t - f ∨ count = 0)) → J2 [.bool b2] g := by
      intro b2 hb2
      refine hJ2 _ _ fun _ => ⟨fun h1 => nil_ (hb2.1 h1), fun h1 => ?_⟩
      have hc : ¬ (skip < 0 ∨ skip ≥ t - f ∨ count = 0) := fun hc => by rw [hb2.2 hc] at h1; cases h1
      rw [if_neg hc] at hK
      obtain ⟨n, hnd⟩ : ∃ n : Int, n = if count > 0 then min (t - f - skip) count + skip else t - f := ⟨_, rfl⟩
      rw [← hnd] at hK
      have hnr : 0 ≤ n ∧ n ≤ t - f := by rw [hnd]; split <;> omega
      intro K1 hK1
      have three : K1 [.int .i64 n] g := by
        refine hK1 _ _ fun _ => ?_
        intro K2 hK2
        refine ⟨fun h2 => ?_, fun h2 => ?_⟩
        · subst h2
          refine zLen_ok hzg ho ⟨_, rfl, hK2 _ _ _ fun _ => ?_⟩
          rw [w64 (n := (z.l.length : Int) - t) (by omega) (by omega), w64 (n := (z.l.length : Int) - t + skip) (by omega) (by omega), w64 (n := (z.l.length : Int) - t + n) (by omega) (by omega), w64 (n := (z.l.length : Int) - t + n - 1) (by omega) (by omega)]
          refine zcut_ok hzg ho hn (by omega) (by omega) (by omega) (by omega) fun g2 a c r hr own fr le => ⟨_, _, _, rfl, ?_⟩
          exact hK g2 a c r (by rw [hr]; simp) own (fun b hb => la.dom _ (fr b hb)) (la.trans le)
        · subst h2
          refine hK2 _ _ _ fun _ => ?_
          rw [w64 (n := f + skip) (by omega) (by omega), w64 (n := f + n) (by omega) (by omega), w64 (n := f + n - 1) (by omega) (by omega)]
          refine zcut_ok hzg ho hn (by omega) (by omega) (by omega) (by omega) fun g2 a c r hr own fr le => ⟨_, _, _, rfl, ?_⟩
          exact hK g2 a c r (by rw [hr]; simp) own (fun b hb => la.dom _ (fr b hb)) (la.trans le)
      refine ⟨fun h2 => ?_, fun h2 => ?_⟩
      · have hp := of_decide_eq_true h2
        have w1 : IntKind.wrap .i64 (t - f - skip) = t - f - skip := w64 (by omega) (by omega)
        rw [w1]
        have e : (if count < t - f - skip then count else t - f - skip) + skip = n := by rw [hnd, if_pos hp]; split <;> omega
        rw [e, w64 (by omega) (by omega)]
        exact three
      · have hp := of_decide_eq_false h2
        have e : t - f = n := by rw [hnd, if_neg hp]
        rw [e]
        exact three
    refine ⟨fun h1 => twos true ⟨fun _ => by rcases hb.1 h1 with h | h <;> simp [h], fun _ => rfl⟩, fun h1 => ?_⟩
    have hnb : ¬ (skip < 0 ∨ skip ≥ t - f) := fun hc => by rw [hb.2 hc] at h1; cases h1
    refine twos _ ⟨fun h => .inr (.inr (by simpa using h)), fun h => ?_⟩
    rcases h with h | h | h
    · exact (hnb (.inl h)).elim
    · exact (hnb (.inr h)).elim
    · simp [h]
  refine ⟨fun h1 => ones true ⟨fun _ => .inl (of_decide_eq_true h1), fun _ => rfl⟩, fun h1 => ?_⟩
  have hn0 := of_decide_eq_false h1
  exact ones _ ⟨fun h => .inr (of_decide_eq_true h), fun h => by rcases h with h | h; exact (hn0 h).elim; exact decide_eq_true h⟩

/-! ### No set -/

theorem zAdd_nil {key : List UInt8} {n : Int} {h : Hp} {K : Value → Hp → Prop} (hK : K (.tuple #[.int .i64 0, .int .i64 8]) h) : CallH Try.prog 30 #[.pointer none, .string ⟨key.toArray⟩, .int .i64 n] h K := by
  apply F30_ok
  unfold F30
  exact zready_nil ⟨_, rfl, fun _ => hK, fun hx => by simp at hx⟩

theorem zSpan_nil {f t : Int} {back : Bool} {h : Hp} {K : Value → Hp → Prop} (hK : K (.slice none 0 0) h) : CallH Try.prog 34 #[.pointer none, .int .i64 f, .int .i64 t, .bool back] h K := by
  apply F34_ok
  unfold F34
  refine zLen_nil ⟨_, rfl, ?_⟩
  intro K1 hK1
  have one : ∀ f2 : Int, K1 [.int .i64 f2] h := by
    intro f2
    refine hK1 _ _ fun _ => ?_
    intro K2 hK2
    have two : ∀ t2 : Int, K2 [.int .i64 t2] h := by
      intro t2
      exact hK2 _ _ fun _ => ⟨fun _ => hK, fun _ => zcut_nil ⟨_, _, _, rfl, hK⟩⟩
    exact ⟨fun _ => two _, fun _ => two _⟩
  exact ⟨fun _ => one _, fun _ => one _⟩

theorem zPop_nil {n : Int} {back : Bool} {h : Hp} {K : Value → Hp → Prop} (hK : K (.slice none 0 0) h) : CallH Try.prog 33 #[.pointer none, .bool back, .int .i64 n] h K := by
  apply F33_ok
  unfold F33
  refine ⟨fun _ => hK, fun _ => zSpan_nil ⟨_, _, _, rfl, ?_⟩⟩
  intro K1 hK1 W1 hW1
  refine hW1 _ _ fun _ => ⟨fun hx => by simp at hx, fun _ => hK1 _ fun _ => hK⟩

/-- A member that is told in a slice of one is let go by no set. -/
theorem zDrop_nil {a : Option Addr} {n c : Nat} {l : List (List UInt8)} {h : Hp} {K : Value → Hp → Prop} (o : Own h 1 9 a n c (strs l)) (hn : n < 4611686018427387904) (hK : K (.int .i64 0) h) : CallH Try.prog 31 #[.pointer none, .slice a n c] h K := by
  apply F31_ok
  unfold F31
  intro K1 hK1 W1 hW1
  have hl : l.length = n := by
    have := o.len
    simp [strs] at this
    omega
  have loop : ∀ (r i : Nat), n - i = r → i ≤ n → W1 [.int .i64 0, .int .i64 (i : Int)] h := by
    intro r
    induction r with
    | zero =>
      intro i hr hi
      have : i = n := by omega
      subst this
      exact hW1 _ _ _ fun _ => ⟨fun hx => by have := of_decide_eq_true hx; omega, fun _ => hK1 _ _ fun _ => hK⟩
    | succ r ih =>
      intro i hr hi
      refine hW1 _ _ _ fun _ => ⟨fun _ => ?_, fun hx => by have := of_decide_eq_false hx; omega⟩
      intro K2 hK2
      obtain ⟨b, hb⟩ := own_some o (by omega)
      subst hb
      obtain ⟨s, hs⟩ : ∃ s, l[i]? = some s := ⟨l[i]'(by omega), List.getElem?_eq_getElem _⟩
      simp only [NN_some, add_mk, Int.toNat_natCast]
      refine ⟨by omega, by omega, s, ?_, zScore_nil ⟨_, _, rfl, (fun h => by cases h), fun _ => hK2 _ _ fun _ => ?_⟩⟩
      · rw [Nat.zero_add, Nat.mul_one]
        exact own_cell o (strs_at hs)
      · have e1 : IntKind.wrap .i64 ((i : Int) + 1) = ((i + 1 : Nat) : Int) := by rw [w64 (by omega) (by omega)]; omega
        rw [e1]
        exact ih (i + 1) (by omega) (by omega)
  exact loop n 0 rfl (by omega)

end Go.Proofs.Ytckdkgphkjbbnaa.Hw

/- The heap logic: a region that draws its order, at the world. -/
import Derived.Test.YtckdkgphkjbbnaaDraw
set_option linter.unusedVariables false
set_option linter.unusedSimpArgs false
namespace Go.Proofs.Ytckdkgphkjbbnaa.Hw

variable {P : Program} (X : Cx P)

/-- The operations that an operation must wait for, as bits, one step further than its own edges. -/
def preOf (pre : List Nat) (o : Oper) : Nat := o.after.toList.foldl (fun s e => match Region.binds .any e with
  | true => Nat.lor s (Nat.lor (Nat.pow 2 e.on) (pre.getD e.on 0))
  | false => s) 0

def preOk (ops : List Oper) (pre : List Nat) : Bool := (ops.map (preOf pre)).length == pre.length && (List.zipWith Nat.beq (ops.map (preOf pre)) pre).all id

theorem preOf_bit {pre : List Nat} {o : Oper} {k : Nat} (h : (preOf pre o).testBit k = true) : ∃ e ∈ o.after.toList, Region.binds .any e = true ∧ (k = e.on ∨ (pre.getD e.on 0).testBit k = true) := by
  unfold preOf at h
  have gen : ∀ (l : List Edge) (s : Nat), (l.foldl (fun s e => match Region.binds .any e with
      | true => Nat.lor s (Nat.lor (Nat.pow 2 e.on) (pre.getD e.on 0))
      | false => s) s).testBit k = true → s.testBit k = true ∨ ∃ e ∈ l, Region.binds .any e = true ∧ (k = e.on ∨ (pre.getD e.on 0).testBit k = true) := by
    intro l
    induction l with
    | nil => intro s hs; exact .inl hs
    | cons e l ih =>
      intro s hs
      rw [List.foldl_cons] at hs
      rcases ih _ hs with h1 | ⟨e', h1, h2⟩
      · cases hb : Region.binds .any e with
        | false => rw [hb] at h1; exact .inl h1
        | true =>
          rw [hb] at h1
          have h1 : (s ||| (2 ^ e.on ||| pre.getD e.on 0)).testBit k = true := h1
          rw [Nat.testBit_or, Nat.testBit_or, Bool.or_eq_true, Bool.or_eq_true, Nat.testBit_two_pow] at h1
          rcases h1 with h1 | h1 | h1
          · exact .inl h1
          · exact .inr ⟨e, by simp, hb, .inl (by simpa using (of_decide_eq_true h1).symm)⟩
          · exact .inr ⟨e, by simp, hb, .inr h1⟩
      · exact .inr ⟨e', by simp [h1], h2⟩
  rcases gen _ 0 h with h1 | h1
  · simp at h1
  · exact h1

theorem preOk_spec {ops : List Oper} {pre : List Nat} (h : preOk ops pre = true) {i : Nat} {o : Oper} (hi : ops[i]? = some o) : pre[i]? = some (preOf pre o) := by
  unfold preOk at h
  rw [Bool.and_eq_true] at h
  obtain ⟨h1, h2⟩ := h
  have hl : (ops.map (preOf pre)).length = pre.length := by simpa using h1
  have hlt : i < pre.length := by
    have := (List.getElem?_eq_some_iff.1 hi).1
    simpa [← hl] using this
  have h3 : (List.zipWith Nat.beq (ops.map (preOf pre)) pre)[i]? = some (Nat.beq (preOf pre o) pre[i]) := by
    rw [List.getElem?_zipWith]
    simp [hi, hlt]
  have h4 := List.all_eq_true.1 h2 _ (List.mem_of_getElem? h3)
  have h5 : Nat.beq (preOf pre o) pre[i] = true := h4
  rw [List.getElem?_eq_getElem hlt, Nat.eq_of_beq_eq_true h5]

def relE (ops : List Oper) (md : Nat → Md) (pre : List Nat) (i j : Nat) : Bool :=
  match Nat.testBit (pre.getD j 0) i with
  | true => true
  | false => mayE ops md i j

def pairs (r : Nat → Nat → Bool) : List Nat → Bool
  | [] => true
  | x :: l => l.all (r x) && pairs r l

theorem pairs_iff {r : Nat → Nat → Bool} : ∀ {l : List Nat}, pairs r l = true ↔ l.Pairwise fun i j => r i j = true := by
  intro l
  induction l with
  | nil => simp [pairs]
  | cons x l ih => simp only [pairs, Bool.and_eq_true, List.all_eq_true, List.pairwise_cons, ih]

/-- i does not wait for j. -/
def noFwd (ops : List Oper) (i j : Nat) : Bool :=
  match ops[i]? with
  | some o => o.after.toList.all fun e => match Region.binds .any e with
    | true => !(Nat.beq e.on j)
    | false => true
  | none => false

/-- Each edge leads to another operation. -/
def edgesIn (ops : List Oper) (i : Nat) : Bool :=
  match ops[i]? with
  | some o => o.after.toList.all fun e => match Region.binds .any e with
    | true => Nat.blt e.on ops.length && !(Nat.beq e.on i)
    | false => true
  | none => false

def nodupN : List Nat → Bool
  | [] => true
  | x :: l => !(memN x l) && nodupN l

theorem nodupN_iff {l : List Nat} : nodupN l = true → l.Nodup := by
  induction l with
  | nil => simp
  | cons x l ih =>
    intro h
    simp only [nodupN, Bool.and_eq_true, Bool.not_eq_true'] at h
    exact List.nodup_cons.2 ⟨fun hx => by rw [memN_iff.2 hx] at h; simp at h, ih h.2⟩

/-- A reading operation's own slot is none that it looks at. -/
def selfE (ops : List Oper) (md : Nat → Md) (i : Nat) : Bool :=
  match ops[i]? with
  | some o => noSel o && (match md i, o.dst with
    | .rd, some d => !(memN d (looks ops o))
    | _, _ => true)
  | none => false

/-- All that is asked of an order that stands for all. -/
def orderOk (n : Nat) (ops : List Oper) (md : Nat → Md) (pre : List Nat) (L : List Nat) : Bool :=
  allDst n ops && preOk ops pre && pairs (relE ops md pre) L && pairs (clobE ops md) L && pairs (noFwd ops) L && nodupN L && Nat.beq L.length ops.length && L.all (selfE ops md) && L.all (edgesIn ops) && subN (List.range ops.length) L

structure Live (ops : Array Oper) (md : Nat → Md) (pre : List Nat) (listed : Array Bool) (R : List Nat) : Prop where
  size : listed.size = ops.size
  mem : ∀ i, i ∈ R ↔ i < ops.size ∧ listed.getD i false = false
  rel : R.Pairwise fun i j => relE ops.toList md pre i j = true
  clob : R.Pairwise fun i z => clobE ops.toList md i z = true
  nodup : R.Nodup
  closed : ∀ j, j < ops.size → listed.getD j false = true → ∀ k, (pre.getD j 0).testBit k = true → listed.getD k false = true
  fwd : R.Pairwise fun i j => noFwd ops.toList i j = true

theorem draw_any {n : Nat} {ops : Array Oper} {md : Nat → Md} {pre : List Nat} (hall : allDst n ops.toList = true) (hpre : preOk ops.toList pre = true) (hself : ∀ i, i < ops.size → selfE ops.toList md i = true) (hedge : ∀ i, i < ops.size → edgesIn ops.toList i = true)
    {K : Env → Hp → Prop} {Q : Exit → Act → World → Prop} :
    ∀ (f : Nat) (listed : Array Bool) (R : List Nat) (a : Act) (w : World), f = R.length → Live ops md pre listed R → a.tmps.size = n → a.defers = [] →
    wpP X n ops.toList md R (envOf a) (abs w) K → (∀ a' w', a'.tmps.size = n → a'.defers = [] → Ev w w' → K (envOf a') (abs w') → Q .normal a' w') → wpAny P .any ops Q f listed a w := by
  have ready_mem : ∀ (listed : Array Bool) (i : Nat), listed.size = ops.size → (i ∈ Region.ready .any ops listed ↔ i < ops.size ∧ listed.getD i false = false ∧ ∀ o, ops[i]? = some o → ∀ e ∈ o.after.toList, Region.binds .any e = true → listed.getD e.on false = true) := by
    intro listed i hsz
    unfold Region.ready
    simp only [List.mem_filter, List.mem_range, Bool.and_eq_true]
    constructor
    · rintro ⟨h1, h2, h3⟩
      have hg : listed.getD i true = listed.getD i false := by simp [Array.getD_eq_getD_getElem?, hsz, h1]
      refine ⟨h1, by rw [← hg]; simpa using h2, ?_⟩
      intro o ho e he hb
      rw [ho] at h3
      simp only [Option.map_some, Option.getD_some] at h3
      have := (Array.all_eq_true_iff_forall_mem.1 h3) e (by simpa using he)
      rw [hb] at this
      simpa using this
    · rintro ⟨h1, h2, h3⟩
      have hg : listed.getD i true = listed.getD i false := by simp [Array.getD_eq_getD_getElem?, hsz, h1]
      refine ⟨h1, by rw [hg, h2]; rfl, ?_⟩
      have ho : ops[i]? = some ops[i] := Array.getElem?_eq_getElem h1
      rw [ho]
      simp only [Option.map_some, Option.getD_some]
      refine Array.all_eq_true_iff_forall_mem.2 ?_
      intro e he
      cases hb : Region.binds .any e with
      | false => rfl
      | true => simpa using h3 _ ho e (by simpa using he) hb
  have hfirst : ∀ (listed : Array Bool) (i : Nat) (B : List Nat), Live ops md pre listed (i :: B) → ∀ o, ops[i]? = some o → ∀ e ∈ o.after.toList, Region.binds .any e = true → listed.getD e.on false = true := by
    intro listed i B hL o ho e he hb
    have hoL : ops.toList[i]? = some o := by rw [Array.getElem?_toList]; exact ho
    have hi : i < ops.size := ((hL.mem i).1 (by simp)).1
    have h1 := hedge i hi
    unfold edgesIn at h1
    rw [hoL] at h1
    have h2 := List.all_eq_true.1 h1 e he
    rw [hb] at h2
    simp only [Bool.and_eq_true] at h2
    have hlt : e.on < ops.size := by have := Nat.le_of_ble_eq_true h2.1; simp at this; omega
    have hne : e.on ≠ i := by intro e1; rw [e1] at h2; simp at h2
    cases hl : listed.getD e.on false with
    | true => rfl
    | false =>
      have hR := (hL.mem e.on).2 ⟨hlt, hl⟩
      rcases List.mem_cons.1 hR with h3 | h3
      · exact (hne h3).elim
      · have h4 := (List.pairwise_cons.1 hL.fwd).1 _ h3
        unfold noFwd at h4
        rw [hoL] at h4
        have h5 := List.all_eq_true.1 h4 e he
        rw [hb] at h5
        simp at h5
  intro f
  induction f with
  | zero =>
    intro listed R a w hf hL hs hd hh hq
    have hR : R = [] := List.eq_nil_of_length_eq_zero hf.symm
    subst hR
    refine ⟨?_, hq a w hs hd (Ev.refl w) hh⟩
    cases hr : Region.ready .any ops listed with
    | nil => rfl
    | cons i l =>
      have h1 := (ready_mem listed i hL.size).1 (by rw [hr]; simp)
      have := (hL.mem i).2 ⟨h1.1, h1.2.1⟩
      cases this
  | succ f ih =>
    intro listed R a w hf hL hs hd hh hq
    refine ⟨?_, ?_⟩
    · intro hr
      exfalso
      cases R with
      | nil => simp at hf
      | cons i B =>
        have hi := (hL.mem i).1 (by simp)
        have : i ∈ Region.ready .any ops listed := (ready_mem listed i hL.size).2 ⟨hi.1, hi.2, hfirst listed i B hL⟩
        rw [hr] at this
        cases this
    · intro i hi
      obtain ⟨h1, h2, h3⟩ := (ready_mem listed i hL.size).1 hi
      have hiR := (hL.mem i).2 ⟨h1, h2⟩
      obtain ⟨A, B, hAB⟩ := List.append_of_mem hiR
      subst hAB
      have ho : ops[i]? = some ops[i] := Array.getElem?_eq_getElem h1
      have hoL : ops.toList[i]? = some ops[i] := by rw [Array.getElem?_toList]; exact ho
      -- what stands ahead of i need not
      have hmay : ∀ x ∈ A, mayE ops.toList md x i = true := by
        intro x hx
        have hr := (List.pairwise_append.1 hL.rel).2.2 x hx i (by simp)
        unfold relE at hr
        split at hr
        · rename_i hb
          exfalso
          have hpi := preOk_spec hpre hoL
          have hb' : (preOf pre ops[i]).testBit x = true := by
            have : pre.getD i 0 = preOf pre ops[i] := by rw [List.getD_eq_getElem?_getD, hpi]; rfl
            rw [← this]; exact hb
          obtain ⟨e, he, hbe, hx2⟩ := preOf_bit hb'
          have hl := h3 _ ho e he hbe
          have hxl : listed.getD x false = true := by
            rcases hx2 with rfl | hx2
            · exact hl
            · refine hL.closed e.on ?_ hl x hx2
              by_cases hlt : e.on < ops.size
              · exact hlt
              · have : listed.getD e.on false = false := by simp [Array.getD_eq_getD_getElem?, hL.size, Nat.le_of_not_lt hlt]
                rw [this] at hl; cases hl
          have := ((hL.mem x).1 (by simp [hx])).2
          rw [hxl] at this
          cases this
        · exact hr
      have hclA : A.Pairwise fun i z => clobE ops.toList md i z = true := (List.pairwise_append.1 hL.clob).1
      have hselfA : ∀ x ∈ A, ∀ ox, ops.toList[x]? = some ox → md x = .rd → ∀ d, ox.dst = some d → d ∉ looks ops.toList ox := by
        intro x hx ox hox hm d hdd hl
        have := hself x ((hL.mem x).1 (by simp [hx])).1
        unfold selfE at this
        rw [hox] at this
        simp only [hm, hdd, Bool.and_eq_true] at this
        rw [memN_iff.2 hl] at this
        simp at this
      have hsel : ∀ oi, ops.toList[i]? = some oi → noSel oi = true := by
        intro oi hoi
        have := hself i h1
        unfold selfE at this
        rw [hoi] at this
        simp only [Bool.and_eq_true] at this
        exact this.1
      have hfront : dstOk n ops[i].dst = true ∧ (wantB ops.toList ops[i] (envOf a) → opHp P ops[i] (envOf a) (abs w) fun u h1 => wpP X n ops.toList md (A ++ B) (putO (envOf a) ops[i].dst u) h1 K) ∧
          (¬ wantB ops.toList ops[i] (envOf a) → wpP X n ops.toList md (A ++ B) (putO (envOf a) ops[i].dst undef) (abs w) K) := by
        by_cases hal : md i = .al
        · obtain ⟨g1, g2, g3⟩ := front_al X hal hoL A _ _ (Fin.abs w) hh hmay
          refine ⟨g1, fun hb => ?_, g3⟩
          obtain ⟨ha, ob, vf, hO, hN⟩ := g2 hb
          exact opE_ok X ((hO _ fun u h1 => wpP X n ops.toList md (A ++ B) (putO (envOf a) ops[i].dst u) h1 K).2 hN)
        · obtain ⟨oi, g0, g1, g2, g3⟩ := front_heap X hal hh hmay hclA hselfA hsel
          have : oi = ops[i] := by rw [hoL] at g0; injection g0 with g0; exact g0.symm
          subst this
          exact ⟨g1, g2, g3⟩
      obtain ⟨hdst, hyes, hno⟩ := hfront
      have hnd : (i :: (A ++ B)).Nodup := (List.perm_middle (a := i) (l₁ := A) (l₂ := B)).nodup_iff.1 hL.nodup
      have hni : i ∉ A ++ B := (List.nodup_cons.1 hnd).1
      have hLive : Live ops md pre (listed.setIfInBounds i true) (A ++ B) := by
        have hget : ∀ k, (listed.setIfInBounds i true).getD k false = if k = i then true else listed.getD k false := by
          intro k
          simp only [Array.getD_eq_getD_getElem?, Array.getElem?_setIfInBounds]
          by_cases hk : i = k
          · subst hk; simp [hL.size, h1]
          · simp [hk, Ne.symm hk]
        refine ⟨by simp [hL.size], ?_, ?_, ?_, (List.nodup_cons.1 hnd).2, ?_, ?_⟩
        · intro k
          rw [hget]
          have := hL.mem k
          simp only [List.mem_append, List.mem_cons] at this
          constructor
          · intro hk
            have hki : k ≠ i := fun e => hni (e ▸ hk)
            rw [if_neg hki]
            exact this.1 (by rcases List.mem_append.1 hk with h | h <;> simp [h])
          · rintro ⟨hk1, hk2⟩
            split at hk2
            · cases hk2
            · rename_i hki
              rcases this.2 ⟨hk1, hk2⟩ with h | h | h
              · exact List.mem_append.2 (.inl h)
              · exact (hki h).elim
              · exact List.mem_append.2 (.inr h)
        · exact hL.rel.sublist (List.Sublist.append_left (List.sublist_cons_self _ _) _)
        · exact hL.clob.sublist (List.Sublist.append_left (List.sublist_cons_self _ _) _)
        · intro j hj hl k hk
          rw [hget] at hl ⊢
          split
          · rfl
          · split at hl
            · rename_i hji
              subst hji
              have hpi := preOk_spec hpre hoL
              have hk' : (preOf pre ops[j]).testBit k = true := by
                have : pre.getD j 0 = preOf pre ops[j] := by rw [List.getD_eq_getElem?_getD, hpi]; rfl
                rw [← this]; exact hk
              obtain ⟨e, he, hbe, hx2⟩ := preOf_bit hk'
              have hl2 := h3 _ ho e he hbe
              rcases hx2 with rfl | hx2
              · exact hl2
              · refine hL.closed e.on ?_ hl2 k hx2
                by_cases hlt : e.on < ops.size
                · exact hlt
                · have : listed.getD e.on false = false := by simp [Array.getD_eq_getD_getElem?, hL.size, Nat.le_of_not_lt hlt]
                  rw [this] at hl2; cases hl2
            · exact hL.closed j hj hl k hk
        · exact hL.fwd.sublist (List.Sublist.append_left (List.sublist_cons_self _ _) _)
      have hlen : f = (A ++ B).length := by simp at hf ⊢; omega
      unfold wpOp
      rw [ho]
      simp only []
      have hwant := wantE_ok (ops := ops) (o := ops[i]) (a := a) (yes := wantB ops.toList ops[i] (envOf a)) (no := ¬ wantB ops.toList ops[i] (envOf a)) (wantE_iff.2 ⟨id, id⟩) (by rw [hs]; exact allDst_ok hall)
      split
      · rename_i hw
        rw [if_pos hw] at hwant
        refine .inl (opHp_world (hyes hwant) ?_)
        intro v w' hev hK
        refine ih _ _ _ _ hlen hLive (by rw [put_size]; exact hs) (by rw [put_defers]; exact hd) ?_ ?_
        · rw [envOf_put _ _ _ (by rw [hs]; exact hdst)]; exact hK
        · intro a' w'' h1 h2 h3 h4; exact hq a' w'' h1 h2 (hev.trans h3) h4
      · rename_i hw
        rw [if_neg hw] at hwant
        refine ih _ _ _ _ hlen hLive (by rw [put_size]; exact hs) (by rw [put_defers]; exact hd) ?_ hq
        rw [envOf_put _ _ _ (by rw [hs]; exact hdst)]; exact hno hwant

theorem draw_ok {n : Nat} {ops : Array Oper} {md : Nat → Md} {pre : List Nat} {L : List Nat} (hord : orderOk n ops.toList md pre L = true) {id : Nat} {K : Env → Hp → Prop} {Q : Exit → Act → World → Prop} {a : Act} {w : World} (hm : P.follows .mixedOrders = true)
    (hs : a.tmps.size = n) (hd : a.defers = []) (hh : wpP X n ops.toList md L (envOf a) (abs w) K) (hq : ∀ a' w', a'.tmps.size = n → a'.defers = [] → Ev w w' → K (envOf a') (abs w') → Q .normal a' w') : (Code.region id ops true).wp P Q a w := by
  unfold orderOk at hord
  simp only [Bool.and_eq_true] at hord
  obtain ⟨⟨⟨⟨⟨⟨⟨⟨⟨h1, h2⟩, h3⟩, h4⟩, h5⟩, h6⟩, h7⟩, h8⟩, h9⟩, h10⟩ := hord
  have hlen : L.length = ops.size := by simpa using Nat.eq_of_beq_eq_true h7
  have hlt : ∀ i ∈ L, i < ops.size := by
    intro i hi
    have := List.all_eq_true.1 h8 i hi
    unfold selfE at this
    split at this
    · rename_i o ho
      have := (List.getElem?_eq_some_iff.1 ho).1
      simpa using this
    · cases this
  have hnd := nodupN_iff h6
  have hall : ∀ i, i < ops.size → i ∈ L := by
    intro i hi
    exact subN_iff.1 h10 i (by simpa using hi)
  refine wp_region_any hm ?_
  refine draw_any X h1 h2 (fun i hi => List.all_eq_true.1 h8 i (hall i hi)) (fun i hi => List.all_eq_true.1 h9 i (hall i hi)) ops.size _ L a _ hlen.symm ?_ hs hd hh ?_
  · refine ⟨by simp, ?_, pairs_iff.1 h3, pairs_iff.1 h4, hnd, ?_, pairs_iff.1 h5⟩
    · intro i
      constructor
      · intro hi; exact ⟨hlt i hi, by simp [Array.getD_eq_getD_getElem?, hlt i hi]⟩
      · intro hi; exact hall i hi.1
    · intro j hj hl
      simp [Array.getD_eq_getD_getElem?, hj] at hl
  · intro a' w' g1 g2 g3 g4
    exact hq a' w' g1 g2 (g3.after ⟨rfl, rfl, rfl, Nat.le_refl _⟩) g4

end Go.Proofs.Ytckdkgphkjbbnaa.Hw

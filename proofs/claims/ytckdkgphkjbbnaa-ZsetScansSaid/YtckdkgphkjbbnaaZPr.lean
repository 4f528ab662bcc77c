/- Pairs in order: plain law. -/
import Derived.Test.YtckdkgphkjbbnaaZSkipB
set_option linter.unusedVariables false
set_option linter.unusedSimpArgs false
namespace Go.Proofs.Ytckdkgphkjbbnaa.Hw
open Go.Proofs

theorem bLess_eq : ∀ (x y : List UInt8), Op.bytesLess x y = decide (x < y)
  | [], [] => by simp [Op.bytesLess]
  | _ :: _, [] => by simp [Op.bytesLess]
  | [], _ :: _ => by simp [Op.bytesLess]
  | a :: x, b :: y => by
    rw [Op.bytesLess, bLess_eq x y]
    simp only [List.cons_lt_cons_iff]
    by_cases h1 : a < b <;> by_cases h2 : a = b <;> by_cases h3 : x < y <;> simp [h1, h2, h3]

theorem bLess_tri (a b : List UInt8) : a < b ∨ a = b ∨ b < a := by
  by_cases h1 : a < b
  · exact .inl h1
  · by_cases h2 : b < a
    · exact .inr (.inr h2)
    · exact .inr (.inl (List.le_antisymm (List.not_lt.1 h2) (List.not_lt.1 h1)))

theorem prLess_iff {a b : Pr} : prLess a b = true ↔ a.s < b.s ∨ (a.s = b.s ∧ a.m < b.m) := by
  unfold prLess
  rw [bLess_eq]
  simp

theorem prLess_irr (a : Pr) : prLess a a = false := by
  cases h : prLess a a with
  | false => rfl
  | true =>
    rcases prLess_iff.1 h with h1 | ⟨_, h1⟩
    · omega
    · exact (List.lt_irrefl _ h1).elim

theorem prLess_trans {a b c : Pr} (h1 : prLess a b = true) (h2 : prLess b c = true) : prLess a c = true := by
  rw [prLess_iff] at *
  rcases h1 with h1 | ⟨h1, g1⟩ <;> rcases h2 with h2 | ⟨h2, g2⟩
  · exact .inl (by omega)
  · exact .inl (by omega)
  · exact .inl (by omega)
  · exact .inr ⟨by omega, List.lt_trans g1 g2⟩

theorem prLess_tri (a b : Pr) : prLess a b = true ∨ a = b ∨ prLess b a = true := by
  rw [prLess_iff, prLess_iff]
  rcases Int.lt_trichotomy a.s b.s with h | h | h
  · exact .inl (.inl h)
  · rcases bLess_tri a.m b.m with h2 | h2 | h2
    · exact .inl (.inr ⟨h, h2⟩)
    · right; left; cases a; cases b; simp_all
    · exact .inr (.inr (.inr ⟨h.symm, h2⟩))
  · exact .inr (.inr (.inl h))

theorem prLess_asym {a b : Pr} (h1 : prLess a b = true) : prLess b a = false := by
  cases h : prLess b a with
  | false => rfl
  | true => have := prLess_trans h1 h; rw [prLess_irr] at this; cases this

abbrev Srt (l : List Pr) : Prop := l.Pairwise fun a b => prLess a b = true

/-- How many are ahead. -/
def nAhead (x : Pr) : List Pr → Nat
  | [] => 0
  | y :: l => if prLess y x = true then nAhead x l + 1 else 0

def insP (x : Pr) : List Pr → List Pr
  | [] => [x]
  | y :: l => if prLess y x = true then y :: insP x l else x :: y :: l

theorem nAhead_le (x : Pr) : ∀ l, nAhead x l ≤ l.length := by
  intro l
  induction l with
  | nil => exact Nat.le_refl _
  | cons y l ih => unfold nAhead; split <;> simp; omega

theorem nAhead_at {x : Pr} : ∀ {l : List Pr}, Srt l → ∀ {i : Nat} {y : Pr}, l[i]? = some y → (prLess y x = true ↔ i < nAhead x l) := by
  intro l
  induction l with
  | nil => intro _ i y h; simp at h
  | cons z l ih =>
    intro hs i y h
    obtain ⟨h1, h2⟩ := List.pairwise_cons.1 hs
    unfold nAhead
    cases i with
    | zero =>
      simp at h
      subst h
      split
      · rename_i h3; simp [h3]
      · rename_i h3; simp [h3]
    | succ i =>
      simp at h
      have := ih h2 h
      split
      · rw [this]; omega
      · rename_i h3
        constructor
        · intro h4
          exact (h3 (prLess_trans (h1 y (List.mem_of_getElem? h)) h4)).elim
        · intro h4; omega

theorem insP_eq (x : Pr) : ∀ l, insP x l = l.take (nAhead x l) ++ x :: l.drop (nAhead x l) := by
  intro l
  induction l with
  | nil => rfl
  | cons y l ih =>
    unfold insP nAhead
    split
    · rw [ih]; simp
    · simp

theorem insP_mem {x y : Pr} {l : List Pr} : y ∈ insP x l ↔ y = x ∨ y ∈ l := by
  induction l with
  | nil => simp [insP]
  | cons z l ih =>
    unfold insP
    split
    · simp only [List.mem_cons, ih]
      constructor
      · rintro (h | h | h)
        · exact .inr (.inl h)
        · exact .inl h
        · exact .inr (.inr h)
      · rintro (h | h | h)
        · exact .inr (.inl h)
        · exact .inl h
        · exact .inr (.inr h)
    · simp

theorem insP_len (x : Pr) (l : List Pr) : (insP x l).length = l.length + 1 := by
  induction l with
  | nil => rfl
  | cons z l ih => unfold insP; split <;> simp [ih]

theorem insP_srt {x : Pr} : ∀ {l : List Pr}, Srt l → x ∉ l → Srt (insP x l) := by
  intro l
  induction l with
  | nil => intro _ _; simp [insP, Srt]
  | cons z l ih =>
    intro hs hx
    obtain ⟨h1, h2⟩ := List.pairwise_cons.1 hs
    simp only [List.mem_cons, not_or] at hx
    unfold insP
    split
    · rename_i h3
      refine List.pairwise_cons.2 ⟨fun y hy => ?_, ih h2 hx.2⟩
      rcases insP_mem.1 hy with h4 | h4
      · rw [h4]; exact h3
      · exact h1 y h4
    · rename_i h3
      refine List.pairwise_cons.2 ⟨fun y hy => ?_, hs⟩
      have hxz : prLess x z = true := by
        rcases prLess_tri x z with h4 | h4 | h4
        · exact h4
        · exact (hx.1 h4).elim
        · exact (h3 h4).elim
      rcases List.mem_cons.1 hy with h4 | h4
      · rw [h4]; exact hxz
      · exact prLess_trans hxz (h1 y h4)

/-- In a sorted list a pair stands where those ahead of it end. -/
theorem srt_at {x : Pr} {l : List Pr} (hs : Srt l) (hx : x ∈ l) : l[nAhead x l]? = some x := by
  obtain ⟨i, hi⟩ := List.getElem?_of_mem hx
  have h1 := nAhead_at (x := x) hs hi
  rw [prLess_irr] at h1
  have hge : nAhead x l ≤ i := by
    rcases Nat.lt_or_ge i (nAhead x l) with h | h
    · exact (by cases h1.2 h)
    · exact h
  have hlt : i < l.length := (List.getElem?_eq_some_iff.1 hi).1
  have hy : l[nAhead x l]? = some l[nAhead x l] := List.getElem?_eq_getElem (by omega)
  have h2 := nAhead_at (x := x) hs hy
  have h3 : ¬ prLess l[nAhead x l] x = true := fun h => by have := h2.1 h; omega
  rcases Nat.lt_or_ge (nAhead x l) i with h | h
  · exfalso
    have := List.pairwise_iff_getElem.1 hs (nAhead x l) i (by omega) hlt h
    have e : l[i] = x := (List.getElem?_eq_some_iff.1 hi).2
    rw [e] at this
    exact h3 this
  · have : nAhead x l = i := by omega
    rw [this]; exact hi

theorem mem_at {x : Pr} {l : List Pr} (h : l[nAhead x l]? = some x) : x ∈ l := List.mem_of_getElem? h

/-- Pairs without a member's. -/
def outP (k : List UInt8) (l : List Pr) : List Pr := l.filter fun x => !(x.m == k)

def lookP (k : List UInt8) (l : List Pr) : Option Int := (l.find? fun x => x.m == k).map (·.s)

theorem lookP_none {k : List UInt8} {l : List Pr} (h : lookP k l = none) : ∀ x ∈ l, x.m ≠ k := by
  unfold lookP at h
  rw [Option.map_eq_none_iff, List.find?_eq_none] at h
  intro x hx e
  have := h x hx
  rw [e] at this
  simp at this

theorem outP_none {k : List UInt8} {l : List Pr} (h : lookP k l = none) : outP k l = l := by
  unfold outP
  rw [List.filter_eq_self]
  intro x hx
  have := lookP_none h x hx
  simpa using this

theorem lookP_some {k : List UInt8} {l : List Pr} {s : Int} (h : lookP k l = some s) : (⟨k, s⟩ : Pr) ∈ l := by
  unfold lookP at h
  rw [Option.map_eq_some_iff] at h
  obtain ⟨x, hx, hs⟩ := h
  have h1 := List.mem_of_find?_eq_some hx
  have h2 := List.find?_some hx
  have h3 : x.m = k := by simpa using h2
  have : x = ⟨k, s⟩ := by cases x; simp_all
  rw [← this]; exact h1

abbrev Nm (l : List Pr) : Prop := (l.map (·.m)).Nodup

theorem nm_inj {l : List Pr} (hn : Nm l) {x y : Pr} (hx : x ∈ l) (hy : y ∈ l) (e : x.m = y.m) : x = y := nodup_inj hn hx hy e

theorem lookP_iff {k : List UInt8} {l : List Pr} (hn : Nm l) {s : Int} : lookP k l = some s ↔ (⟨k, s⟩ : Pr) ∈ l := by
  refine ⟨lookP_some, fun h => ?_⟩
  cases h1 : lookP k l with
  | none => exact (lookP_none h1 _ h rfl).elim
  | some s' =>
    have := nm_inj hn h (lookP_some h1) rfl
    injection this with _ h2
    rw [h2]

/-- A member's pair goes: it is cut out at its place. -/
theorem outP_cut {k : List UInt8} {l : List Pr} {s : Int} (hs : Srt l) (hn : Nm l) (h : lookP k l = some s) :
    l = l.take (nAhead ⟨k, s⟩ l) ++ ⟨k, s⟩ :: l.drop (nAhead ⟨k, s⟩ l + 1) ∧ outP k l = l.take (nAhead ⟨k, s⟩ l) ++ l.drop (nAhead ⟨k, s⟩ l + 1) := by
  have h1 := srt_at hs (lookP_some h)
  generalize nAhead ⟨k, s⟩ l = m at *
  obtain ⟨hm, e⟩ := List.getElem?_eq_some_iff.1 h1
  have h2 : l = l.take m ++ ⟨k, s⟩ :: l.drop (m + 1) := by
    conv => lhs; rw [← List.take_append_drop m l, List.drop_eq_getElem_cons hm, e]
  refine ⟨h2, ?_⟩
  generalize l.take m = A at *
  generalize l.drop (m + 1) = B at *
  subst h2
  unfold Nm at hn
  simp only [List.map_append, List.map_cons, List.nodup_append, List.nodup_cons, List.mem_map, List.mem_cons] at hn
  obtain ⟨_, ⟨n1, _⟩, n2⟩ := hn
  unfold outP
  simp only [List.filter_append, List.filter_cons, beq_self_eq_true, Bool.not_true, Bool.false_eq_true, if_false]
  congr 1
  · rw [List.filter_eq_self]
    intro x hx
    have := n2 x.m ⟨x, hx, rfl⟩ k (.inl rfl)
    simpa using this
  · rw [List.filter_eq_self]
    intro x hx
    have : x.m ≠ k := fun e => n1 ⟨x, hx, e⟩
    simpa using this

theorem outP_srt {k : List UInt8} {l : List Pr} (hs : Srt l) : Srt (outP k l) := List.Pairwise.filter _ hs
theorem outP_nm {k : List UInt8} {l : List Pr} (hn : Nm l) : Nm (outP k l) := hn.sublist (List.filter_sublist.map _)
theorem outP_mem {k : List UInt8} {l : List Pr} {x : Pr} : x ∈ outP k l ↔ x ∈ l ∧ x.m ≠ k := by simp [outP]

theorem outP_look {k : List UInt8} {l : List Pr} : lookP k (outP k l) = none := by
  unfold lookP
  rw [Option.map_eq_none_iff, List.find?_eq_none]
  intro x hx
  have := (outP_mem.1 hx).2
  simpa using this

/-- A member's score put. -/
def putP (x : Pr) (l : List Pr) : List Pr := insP x (outP x.m l)

theorem putP_mem {x y : Pr} {l : List Pr} : y ∈ putP x l ↔ y = x ∨ (y ∈ l ∧ y.m ≠ x.m) := by
  unfold putP
  rw [insP_mem, outP_mem]

theorem putP_srt {x : Pr} {l : List Pr} (hs : Srt l) : Srt (putP x l) := insP_srt (outP_srt hs) fun h => (outP_mem.1 h).2 rfl

theorem insP_perm (x : Pr) (l : List Pr) : (insP x l).Perm (x :: l) := by
  rw [insP_eq]
  refine List.perm_middle.trans ?_
  rw [List.take_append_drop]

theorem putP_nm {x : Pr} {l : List Pr} (hn : Nm l) : Nm (putP x l) := by
  unfold putP Nm
  rw [((insP_perm x (outP x.m l)).map _).nodup_iff]
  simp only [List.map_cons, List.nodup_cons, List.mem_map, not_exists, not_and]
  exact ⟨fun y hy e => (outP_mem.1 hy).2 e, outP_nm hn⟩

theorem putP_look {x : Pr} {l : List Pr} (hn : Nm l) (k : List UInt8) : lookP k (putP x l) = if k = x.m then some x.s else lookP k l := by
  split
  · rename_i h
    subst h
    rw [lookP_iff (putP_nm hn), putP_mem]
    exact .inl rfl
  · rename_i h
    cases h1 : lookP k l with
    | none =>
      cases h2 : lookP k (putP x l) with
      | none => rfl
      | some s =>
        have := lookP_some h2
        rw [putP_mem] at this
        rcases this with h3 | h3
        · exact (h (by rw [← h3])).elim
        · exact (lookP_none h1 _ h3.1 rfl).elim
    | some s =>
      rw [lookP_iff (putP_nm hn), putP_mem]
      exact .inr ⟨lookP_some h1, h⟩

end Go.Proofs.Ytckdkgphkjbbnaa.Hw

/- A heap logic over the model: what a Go function does to the heap, with draws and block numbers left open. Base: the abstract heap, the weakest precondition of an instruction. -/
import Derived.WalkKit
set_option linter.unusedVariables false
set_option linter.unusedSimpArgs false
namespace Go.Proofs.Ytckdkgphkjbbnaa.Hw

/-- The abstract heap: what block a number bears, if any. -/
abbrev Hp := Nat → Option Obj

def abs (w : World) : Hp := fun b => w.heap[b]?

def upd (h : Hp) (b : Nat) (o : Obj) : Hp := fun c => if c = b then some o else h c

theorem upd_same (h : Hp) (b : Nat) (o : Obj) : upd h b o b = some o := by simp [upd]
theorem upd_ne (h : Hp) {b c : Nat} (o : Obj) (hn : c ≠ b) : upd h b o c = h c := by simp [upd, hn]

def cellOf (o : Option Obj) (a : Addr) : Option Value :=
  match o with
  | some (.cells c _ _) => if a.spot.isSome then none else c[a.off]?
  | _ => none

def cell (h : Hp) (a : Addr) : Option Value := cellOf (h a.block) a

def frozenOf (o : Option Obj) (a : Addr) : Bool :=
  match o with
  | some (.cells _ _ (lo, hi)) => lo ≤ a.off && a.off < hi
  | _ => false

def shapeOf (o : Obj) : Option (TypeId × Nat) :=
  match o with
  | .cells c e _ => some (e, c.size)
  | _ => none

def putOf (o : Obj) (a : Addr) (v : Value) : Obj :=
  match o with
  | .cells c e f => .cells (if a.spot.isSome then c else c.setIfInBounds a.off v) e f
  | o => o

def freezeOf (o : Obj) (off n : Nat) : Obj :=
  match o with
  | .cells c e (lo, hi) => .cells c e (if lo == hi then (off, off + n) else (min lo off, max hi (off + n)))
  | o => o

def isCells : Obj → Bool
  | .cells .. => true
  | _ => false

def oneCell : Value → Bool
  | .agg _ => false
  | .tuple _ => false
  | _ => true

/-- What a run leaves beside the heap. -/
structure Ev (w w' : World) : Prop where
  os : w'.os = w.os
  output : w'.output = w.output
  tape : w'.tape = w.tape
  size : w.heap.size ≤ w'.heap.size

theorem Ev.refl (w : World) : Ev w w := ⟨rfl, rfl, rfl, Nat.le_refl _⟩
theorem Ev.trans {a b c : World} (h : Ev a b) (k : Ev b c) : Ev a c :=
  ⟨k.os.trans h.os, k.output.trans h.output, k.tape.trans h.tape, Nat.le_trans h.size k.size⟩

theorem Ev.after {a b c : World} (k : Ev b c) (h : Ev a b) : Ev a c := h.trans k

theorem abs_cell (w : World) (a : Addr) : w.cell? a = cell (abs w) a := by
  unfold World.cell? cell cellOf abs
  split <;> simp_all

theorem abs_frozen (w : World) (a : Addr) : w.frozen? a = frozenOf (abs w a.block) a := by
  unfold World.frozen? frozenOf abs
  split <;> simp_all

theorem abs_shape (w : World) (r : Nat) : w.shape? r = (abs w r).bind shapeOf := by
  unfold World.shape? abs
  cases h : w.heap[r]? with
  | none => simp
  | some o => cases o <;> simp [shapeOf]

theorem abs_new (w : World) (o : Obj) : abs { w with heap := w.heap.push o } = upd (abs w) w.heap.size o := by
  funext c
  unfold abs upd
  simp only [Array.getElem?_push]

theorem abs_fresh (w : World) : abs w w.heap.size = none := by simp [abs]

theorem abs_modify (w : World) (b : Nat) (f : Obj → Obj) (o : Obj) (h : abs w b = some o) :
    abs { w with heap := w.heap.modify b f } = upd (abs w) b (f o) := by
  funext c
  unfold abs at h ⊢
  unfold upd
  simp only [Array.getElem?_modify]
  by_cases hc : b = c
  · subst hc; simp [h]
  · simp [hc, Ne.symm hc]

theorem abs_setCell (w : World) (a : Addr) (v : Value) (o : Obj) (h : abs w a.block = some o) :
    abs (w.setCell a v) = upd (abs w) a.block (putOf o a v) := by
  unfold World.setCell
  refine (abs_modify w a.block _ o h).trans ?_
  cases o <;> rfl

theorem abs_freeze (w : World) (a : Addr) (n : Nat) (o : Obj) (h : abs w a.block = some o) :
    abs (w.freeze a n) = if n = 0 then abs w else upd (abs w) a.block (freezeOf o a.off n) := by
  unfold World.freeze
  split
  · rfl
  · refine (abs_modify w a.block _ o h).trans ?_
    cases o <;> rfl

theorem abs_setObj (w : World) (r : Nat) (o o' : Obj) (h : abs w r = some o') :
    abs { w with heap := w.heap.setIfInBounds r o } = upd (abs w) r o := by
  funext c
  unfold abs at h ⊢
  unfold upd
  have hlt : r < w.heap.size := (Array.getElem?_eq_some_iff.1 h).1
  simp only [Array.getElem?_setIfInBounds]
  by_cases hc : r = c
  · subst hc; simp [hlt]
  · simp [hc, Ne.symm hc]

/-- What a draw may give. -/
def adm (q : Question) (n : Nat) : Prop := if q.forced = true then n = 0 else ∃ t, n = q.cut t

/-- The weakest precondition of an instruction over the abstract heap. -/
def hp (P : Program) {α : Type} : Sem α → Hp → (α → Hp → Prop) → Prop
  | .pure a, h, K => K a h
  | .load _ a k, h, K => ∃ v, cell h a = some v ∧ hp P (k v) h K
  | .store _ a v k, h, K => oneCell v = true ∧ (cell h a).isSome = true ∧ frozenOf (h a.block) a = false ∧
      ∀ o, h a.block = some o → hp P k (upd h a.block (putOf o a v)) K
  | .new o k, h, K => ∀ b, h b = none → hp P (k b) (upd h b o) K
  | .shape r k, h, K => ∃ o, h r = some o ∧ hp P (k (shapeOf o)) h K
  | .freeze a n k, h, K => ∃ o, h a.block = some o ∧ hp P k (if n = 0 then h else upd h a.block (freezeOf o a.off n)) K
  | .frozen a k, h, K => ∃ o, h a.block = some o ∧ hp P (k (frozenOf (some o) a)) h K
  | .getObj r k, h, K => ∃ o, h r = some o ∧ isCells o = false ∧ hp P (k o) h K
  | .setObj r o k, h, K => ∃ o', h r = some o' ∧ isCells o' = false ∧ hp P k (upd h r o) K
  | .choose q k, h, K => ∀ n, adm q n → hp P (k n) h K
  | .sys _ _, _, _ => False
  | .program k, h, K => hp P (k P) h K
  | .mark _ k, h, K => hp P k h K
  | .halt _, _, _ => False

theorem hp_mono {P : Program} {α : Type} (s : Sem α) : ∀ (h : Hp) (K K' : α → Hp → Prop), (∀ a h, K a h → K' a h) → hp P s h K → hp P s h K' := by
  induction s with
  | pure a => intro h K K' hk hh; exact hk _ _ hh
  | load m a k ih => intro h K K' hk hh; obtain ⟨v, hv, hh⟩ := hh; exact ⟨v, hv, ih v _ _ _ hk hh⟩
  | store m a v k ih => intro h K K' hk hh; obtain ⟨h1, h2, h3, h4⟩ := hh; exact ⟨h1, h2, h3, fun o ho => ih _ _ _ hk (h4 o ho)⟩
  | new o k ih => intro h K K' hk hh; exact fun b hb => ih b _ _ _ hk (hh b hb)
  | shape r k ih => intro h K K' hk hh; obtain ⟨o, ho, hh⟩ := hh; exact ⟨o, ho, ih _ _ _ _ hk hh⟩
  | freeze a n k ih => intro h K K' hk hh; obtain ⟨o, ho, hh⟩ := hh; exact ⟨o, ho, ih _ _ _ hk hh⟩
  | frozen a k ih => intro h K K' hk hh; obtain ⟨o, ho, hh⟩ := hh; exact ⟨o, ho, ih _ _ _ _ hk hh⟩
  | getObj r k ih => intro h K K' hk hh; obtain ⟨o, ho, hc, hh⟩ := hh; exact ⟨o, ho, hc, ih _ _ _ _ hk hh⟩
  | setObj r o k ih => intro h K K' hk hh; obtain ⟨o', ho, hc, hh⟩ := hh; exact ⟨o', ho, hc, ih _ _ _ hk hh⟩
  | choose q k ih => intro h K K' hk hh; exact fun n hn => ih n _ _ _ hk (hh n hn)
  | sys c k ih => intro h K K' hk hh; exact hh.elim
  | program k ih => intro h K K' hk hh; exact ih P _ _ _ hk hh
  | mark m k ih => intro h K K' hk hh; exact ih _ _ _ hk hh
  | halt x => intro h K K' hk hh; exact hh.elim

theorem hp_bind {P : Program} {α β : Type} (s : Sem α) (f : α → Sem β) : ∀ (h : Hp) (K : β → Hp → Prop), hp P (s >>= f) h K ↔ hp P s h (fun a h' => hp P (f a) h' K) := by
  show ∀ (h : Hp) (K : β → Hp → Prop), hp P (s.bind f) h K ↔ _
  induction s with
  | pure a => intro h K; exact Iff.rfl
  | load m a k ih => intro h K; exact exists_congr fun v => and_congr_right fun _ => ih v _ _
  | store m a v k ih => intro h K; exact and_congr_right fun _ => and_congr_right fun _ => and_congr_right fun _ => forall_congr' fun o => imp_congr_right fun _ => ih _ _
  | new o k ih => intro h K; exact forall_congr' fun b => imp_congr_right fun _ => ih b _ _
  | shape r k ih => intro h K; exact exists_congr fun o => and_congr_right fun _ => ih _ _ _
  | freeze a n k ih => intro h K; exact exists_congr fun o => and_congr_right fun _ => ih _ _
  | frozen a k ih => intro h K; exact exists_congr fun o => and_congr_right fun _ => ih _ _ _
  | getObj r k ih => intro h K; exact exists_congr fun o => and_congr_right fun _ => and_congr_right fun _ => ih _ _ _
  | setObj r o k ih => intro h K; exact exists_congr fun o => and_congr_right fun _ => and_congr_right fun _ => ih _ _
  | choose q k ih => intro h K; exact forall_congr' fun n => imp_congr_right fun _ => ih n _ _
  | sys c k ih => intro h K; exact Iff.rfl
  | program k ih => intro h K; exact ih P _ _
  | mark m k ih => intro h K; exact ih _ _
  | halt x => intro h K; exact Iff.rfl

theorem hp_pure {P : Program} {α : Type} (a : α) (h : Hp) (K : α → Hp → Prop) : hp P (pure a) h K ↔ K a h := Iff.rfl

theorem oneCell_store {v : Value} (h : oneCell v = true) : (∀ c, v ≠ .agg c) ∧ (∀ c, v ≠ .tuple c) := by
  cases v <;> simp_all [oneCell]

theorem run_store_cell {P : Program} {α : Type} (m : Mode) (a : Addr) (v : Value) (k : Sem α) (w : World) (h1 : oneCell v = true) {u : Value} (h2 : w.cell? a = some u) (h3 : w.frozen? a = false) :
    (Sem.store m a v k).run P w = k.run P (w.setCell a v) := by
  cases v <;> simp_all [oneCell, Sem.run]

theorem hp_run {P : Program} {α : Type} (s : Sem α) : ∀ (w : World) (K : α → Hp → Prop), hp P s (abs w) K → ∃ a w', s.run P w = .ok a w' ∧ Ev w w' ∧ K a (abs w') := by
  induction s with
  | pure a => intro w K hh; exact ⟨a, w, rfl, Ev.refl w, hh⟩
  | load m a k ih =>
    intro w K hh
    obtain ⟨v, hv, hh⟩ := hh
    obtain ⟨x, w', hr, he, hK⟩ := ih v w K hh
    exact ⟨x, w', by simp only [Sem.run, abs_cell, hv]; exact hr, he, hK⟩
  | store m a v k ih =>
    intro w K hh
    obtain ⟨h1, h2, h3, h4⟩ := hh
    obtain ⟨u, hu⟩ := Option.isSome_iff_exists.1 h2
    have hb : ∃ o, abs w a.block = some o := by
      unfold cell cellOf at hu
      cases ho : abs w a.block with
      | none => simp [ho] at hu
      | some o => exact ⟨o, rfl⟩
    obtain ⟨o, ho⟩ := hb
    have h5 := h4 o ho
    rw [← abs_setCell w a v o ho] at h5
    obtain ⟨x, w', hr, he, hK⟩ := ih _ K h5
    refine ⟨x, w', ?_, ?_, hK⟩
    · rw [run_store_cell m a v k w h1 (by rw [abs_cell]; exact hu) (by rw [abs_frozen]; exact h3)]; exact hr
    · exact he.after ⟨rfl, rfl, rfl, by simp [World.setCell]⟩
  | new o k ih =>
    intro w K hh
    have h1 := hh w.heap.size (abs_fresh w)
    rw [← abs_new] at h1
    obtain ⟨x, w', hr, he, hK⟩ := ih _ _ K h1
    exact ⟨x, w', by simp only [Sem.run]; exact hr, he.after ⟨rfl, rfl, rfl, by simp⟩, hK⟩
  | shape r k ih =>
    intro w K hh
    obtain ⟨o, ho, hh⟩ := hh
    obtain ⟨x, w', hr, he, hK⟩ := ih _ w K hh
    exact ⟨x, w', by simp only [Sem.run, abs_shape, ho, Option.bind_some]; exact hr, he, hK⟩
  | freeze a n k ih =>
    intro w K hh
    obtain ⟨o, ho, hh⟩ := hh
    rw [← abs_freeze w a n o ho] at hh
    obtain ⟨x, w', hr, he, hK⟩ := ih _ K hh
    refine ⟨x, w', by simp only [Sem.run]; exact hr, he.after ?_, hK⟩
    unfold World.freeze
    split
    · exact Ev.refl w
    · exact ⟨rfl, rfl, rfl, by simp⟩
  | frozen a k ih =>
    intro w K hh
    obtain ⟨o, ho, hh⟩ := hh
    obtain ⟨x, w', hr, he, hK⟩ := ih _ w K hh
    exact ⟨x, w', by simp only [Sem.run, abs_frozen, ho]; exact hr, he, hK⟩
  | getObj r k ih =>
    intro w K hh
    obtain ⟨o, ho, hc, hh⟩ := hh
    obtain ⟨x, w', hr, he, hK⟩ := ih _ w K hh
    have ho' : w.heap[r]? = some o := ho
    refine ⟨x, w', ?_, he, hK⟩
    cases o <;> simp_all [Sem.run, isCells]
  | setObj r o k ih =>
    intro w K hh
    obtain ⟨o', ho, hc, hh⟩ := hh
    rw [← abs_setObj w r o o' ho] at hh
    obtain ⟨x, w', hr, he, hK⟩ := ih _ K hh
    have ho' : w.heap[r]? = some o' := ho
    refine ⟨x, w', ?_, he.after ⟨rfl, rfl, rfl, by simp⟩, hK⟩
    cases o' <;> simp_all [Sem.run, isCells]
  | choose q k ih =>
    intro w K hh
    by_cases hq : q.forced = true
    · have h1 := hh 0 (by simp [adm, hq])
      obtain ⟨x, w', hr, he, hK⟩ := ih _ w K h1
      exact ⟨x, w', by simp only [Sem.run, hq, if_true]; exact hr, he, hK⟩
    · have h1 := hh (q.cut (w.tape w.drawn q)) (by simp only [adm, hq, if_false]; exact ⟨_, rfl⟩)
      obtain ⟨x, w', hr, he, hK⟩ := ih _ { w with drawn := w.drawn + 1 } K h1
      refine ⟨x, w', ?_, he.after ⟨rfl, rfl, rfl, Nat.le_refl _⟩, hK⟩
      simp only [Sem.run]; rw [if_neg hq]; exact hr
  | sys c k ih => intro w K hh; exact hh.elim
  | program k ih =>
    intro w K hh
    obtain ⟨x, w', hr, he, hK⟩ := ih P w K hh
    exact ⟨x, w', by simp only [Sem.run]; exact hr, he, hK⟩
  | mark m k ih =>
    intro w K hh
    obtain ⟨x, w', hr, he, hK⟩ := ih w K hh
    exact ⟨x, w', by simp only [Sem.run]; exact hr, he, hK⟩
  | halt x => intro w K hh; exact hh.elim

/-- What a call of function f comes to, from every world with this heap. -/
def CallH (P : Program) (f : FuncId) (args : Array Value) (h : Hp) (K : Value → Hp → Prop) : Prop :=
  ∀ w, abs w = h → Calls P f args w fun e w' => ∃ v, e = .returned v ∧ Ev w w' ∧ K v (abs w')

theorem CallH.mono {P : Program} {f : FuncId} {args : Array Value} {h : Hp} {K K' : Value → Hp → Prop} (hc : CallH P f args h K) (hk : ∀ v h', K v h' → K' v h') : CallH P f args h K' :=
  fun w hw => (hc w hw).mono fun _ _ ⟨v, he, hev, hK⟩ => ⟨v, he, hev, hk _ _ hK⟩

end Go.Proofs.Ytckdkgphkjbbnaa.Hw

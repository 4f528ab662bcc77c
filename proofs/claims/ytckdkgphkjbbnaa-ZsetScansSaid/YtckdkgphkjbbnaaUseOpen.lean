/- The heap logic in use: what came in, read as data: openers for the rows' frames. -/
import Derived.Test.YtckdkgphkjbbnaaUse2
import Derived.ProofKit
import Derived.OpenShut
import Derived.ShutString
import Derived.ChangeOld
import Derived.Below
import Derived.Carry
set_option linter.unusedVariables false
set_option linter.unusedSimpArgs false
namespace Go.Proofs.Ytckdkgphkjbbnaa.Hw
open Go.Proofs

section
variable {P : Program}

/-- These cells read as a value of type t. -/
def Rd (P : Program) (w : World) (t : TypeId) (cs : List Value) : Prop :=
  ∃ (H : Type) (enc : TypeId × Value → H) (base : Nat) (sp : Nat → Bool) (held : Bool) (fuel : Nat) (x : DataW H × List MemPlace), DataW.trod enc P w base sp held fuel t cs = some x

theorem rd_int {w : World} {t : TypeId} {k : IntKind} {cs : List Value} (ht : P.underlying t = some (.int k)) (h : Rd P w t cs) : ∃ n, cs = [.int k n] ∧ k.min ≤ n ∧ n ≤ k.max := by
  obtain ⟨H, enc, base, sp, held, fuel, x, hx⟩ := h
  obtain ⟨n, h1, _, h2⟩ := DataW.trod_int ht hx
  refine ⟨n, h1, ?_⟩
  simp only [Lit.wf, Bool.and_eq_true, decide_eq_true_eq] at h2
  exact h2

theorem rd_bool {w : World} {t : TypeId} {cs : List Value} (ht : P.underlying t = some .bool) (h : Rd P w t cs) : ∃ b, cs = [.bool b] := by
  obtain ⟨H, enc, base, sp, held, fuel, x, hx⟩ := h
  obtain ⟨b, h1, _⟩ := DataW.trod_bool ht hx
  exact ⟨b, h1⟩

theorem rd_string {w : World} {t : TypeId} {cs : List Value} (ht : P.underlying t = some .string) (h : Rd P w t cs) : ∃ s : List UInt8, cs = [.string ⟨s.toArray⟩] ∧ s.length ≤ maxLen := by
  obtain ⟨H, enc, base, sp, held, fuel, x, hx⟩ := h
  obtain ⟨s, h1, _, h2⟩ := DataW.trod_string ht hx
  refine ⟨s.data.toList, by rw [h1], ?_⟩
  have e : s.data.toList.length = s.size := Array.length_toList
  rw [e]
  exact h2

theorem rd_struct {w : World} {t : TypeId} {fs : Array Field} {cs : List Value} (ht : P.underlying t = some (.struct fs)) (h : Rd P w t cs) : cs.length = P.cellsOf t ∧
    ∀ (i : Nat) (f : Field), fs[i]? = some f → Rd P w f.type ((cs.drop f.offset).take (P.cellsOf f.type)) := by
  obtain ⟨H, enc, base, sp, held, fuel, x, hx⟩ := h
  obtain ⟨xs, n, _, _, h1, h2, h3⟩ := DataW.trod_struct ht hx
  refine ⟨h1, fun i f hf => ?_⟩
  have h4 := h3 i f hf
  have hi : i < xs.length := by rw [h2]; exact (Array.getElem?_eq_some_iff.1 hf).1
  rw [List.getElem?_eq_getElem hi] at h4
  exact ⟨H, enc, base, sp, held, n, _, h4⟩

/-- A slice: nil, or so many elements, one behind the other. -/
theorem rd_slice {w : World} {t e : TypeId} {cs : List Value} (ht : P.underlying t = some (.slice e)) (hc : 0 < P.cellsOf e) (h : Rd P w t cs) :
    ∃ (a : Option Addr) (len cap : Nat), cs = [.slice a len cap] ∧ len ≤ cap ∧ cap ≤ maxLen ∧
      (len = 0 ∨ ∃ b o, a = some ⟨b, o, none⟩ ∧ ∀ i, i < len → ∃ ecs, ecs.length = P.cellsOf e ∧ rowAt (abs w) ⟨b, o + i * P.cellsOf e, none⟩ 0 ecs ∧ Rd P w e ecs) := by
  obtain ⟨H, enc, base, sp, held, fuel, x, hx⟩ := h
  rcases DataW.trod_slice ht hx with ⟨h1, _⟩ | ⟨a, len, cap, elems, rest, n, _, rfl, _, hb, hl, hm, hlen, hel, _, _⟩
  · exact ⟨none, 0, 0, h1, Nat.le_refl _, Nat.zero_le _, .inl rfl⟩
  · refine ⟨some a, len, cap, rfl, hl, hm, ?_⟩
    cases len with
    | zero => exact .inl rfl
    | succ len =>
      right
      have each : ∀ i, i < len + 1 → ∃ ecs, w.cells? base (a.add (i * P.cellsOf e)) (P.cellsOf e) = some ecs ∧ Rd P w e ecs := by
        intro i hi
        have h2 := hel i hi
        rw [List.getElem?_eq_getElem (by omega), Option.bind_eq_some_iff] at h2
        obtain ⟨ecs, h3, h4⟩ := h2
        exact ⟨ecs, h3, H, enc, base, sp, held, n, _, h4⟩
      have hspot : a.spot = none := by
        obtain ⟨ecs, h3, _⟩ := each 0 (by omega)
        obtain ⟨_, h5, h6⟩ := World.cells?_some h3
        have h7 := h6 0 hc
        rw [List.getElem?_eq_getElem (by omega)] at h7
        have := World.cell?_spot h7
        simpa [Addr.add] using this
      obtain ⟨b, o, spot⟩ := a
      simp only at hspot
      subst hspot
      refine ⟨b, o, rfl, fun i hi => ?_⟩
      obtain ⟨ecs, h3, h4⟩ := each i hi
      obtain ⟨_, h5, h6⟩ := World.cells?_some h3
      refine ⟨ecs, h5, ?_, h4⟩
      rw [add_mk] at h6
      have : ∀ (l : List Value) (j : Nat), (∀ k, k < l.length → w.cell? ⟨b, o + i * P.cellsOf e + (j + k), none⟩ = l[k]?) → rowAt (abs w) ⟨b, o + i * P.cellsOf e, none⟩ j l := by
        intro l
        induction l with
        | nil => intro j _; trivial
        | cons v l ih =>
          intro j hj
          refine ⟨?_, ih (j + 1) fun k hk => ?_⟩
          · have := hj 0 (by simp)
            rw [← abs_cell, add_mk]
            simpa using this
          · have := hj (k + 1) (by simpa using hk)
            rw [List.getElem?_cons_succ] at this
            rw [← this]
            congr 2
            omega
      refine this ecs 0 fun k hk => ?_
      have := h6 k (by omega)
      rw [add_mk] at this
      rw [← this]
      congr 2
      omega

/-- Elements that are told one by one, told as a list. -/
theorem rows_list {α : Type} {h : Hp} {b o sz : Nat} {f : α → List Value} {p : α → Prop} (hf : ∀ x, (f x).length = sz) : ∀ {len : Nat}, (∀ i, i < len → ∃ x, p x ∧ rowAt h ⟨b, o + i * sz, none⟩ 0 (f x)) →
    ∃ l : List α, l.length = len ∧ (∀ x ∈ l, p x) ∧ ∀ i x, l[i]? = some x → rowAt h ⟨b, o + i * sz, none⟩ 0 (f x) := by
  intro len
  induction len with
  | zero => intro _; exact ⟨[], rfl, by simp, by simp⟩
  | succ len ih =>
    intro hh
    obtain ⟨l, h1, h2, h3⟩ := ih fun i hi => hh i (by omega)
    obtain ⟨x, h4, h5⟩ := hh len (by omega)
    refine ⟨l ++ [x], by simp [h1], fun y hy => ?_, fun i y hy => ?_⟩
    · rcases List.mem_append.1 hy with h6 | h6
      · exact h2 y h6
      · simp at h6; rw [h6]; exact h4
    · rcases Nat.lt_or_ge i l.length with h6 | h6
      · rw [List.getElem?_append_left h6] at hy
        exact h3 i y hy
      · rw [List.getElem?_append_right h6] at hy
        have hil : i - l.length = 0 := by
          have := (List.getElem?_eq_some_iff.1 hy).1
          simp at this; omega
        rw [hil] at hy
        simp at hy
        subst hy
        have : i = len := by omega
        subst this
        exact h5

/-- What the frame wants of a run. -/
theorem below_of {w w' : World} (ev : Ev w w') (l : Le (abs w) (abs w')) : RowKit.Below w.heap.size w w' := by
  refine ⟨ev.os, ev.tape, ev.output, ev.size, fun k hk => ?_⟩
  have h1 : abs w k = some w.heap[k] := by unfold abs; exact Array.getElem?_eq_getElem hk
  have h2 := l k _ h1
  unfold abs at h2
  rw [h2, Array.getElem?_eq_getElem hk]

end

end Go.Proofs.Ytckdkgphkjbbnaa.Hw

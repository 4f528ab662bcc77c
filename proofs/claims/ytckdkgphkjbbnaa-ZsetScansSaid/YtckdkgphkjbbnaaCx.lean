/- The heap logic at this seat's program: its tables. -/
import Derived.Test.YtckdkgphkjbbnaaWp
import Derived.Test.YtckdkgphkjbbnaaProg
import Derived.KernelRfl
set_option linter.unusedVariables false
namespace Go.Proofs.Ytckdkgphkjbbnaa.Hw
open Go.Proofs

def fbL : List Nat := [0, 1, 120, 147, 148, 149, 150, 151, 152, 153, 154, 155, 156, 157, 158, 159, 160, 161, 162]

def fb (f : FuncId) : Bool := match Nat.blt f 163 with
  | true => match memN f fbL with
    | true => false
    | false => true
  | false => false

noncomputable def fbChk (f : FuncId) : Bool := match fb f with
  | true => match Try.prog.funcs[f]? with
    | some fn => fn.body.isSome && !(fn.name == "runtime.NumGoroutine")
    | none => false
  | false => true

set_option maxRecDepth 1000000 in
theorem fb_all : (List.range 163).all fbChk = true := by kernel_rfl

theorem fb_ok (f : FuncId) (h : fb f = true) : ∃ fn, Try.prog.funcs[f]? = some fn ∧ fn.body.isSome = true ∧ (fn.name == "runtime.NumGoroutine") = false := by
  have hf : f < 163 := by
    unfold fb at h
    split at h
    · rename_i hb; exact Nat.le_of_ble_eq_true hb
    · cases h
  have h1 := List.all_eq_true.1 fb_all f (List.mem_range.2 hf)
  unfold fbChk at h1
  rw [h] at h1
  simp only [] at h1
  cases hx : Try.prog.funcs[f]? with
  | none => rw [hx] at h1; cases h1
  | some fn =>
    rw [hx] at h1
    simp only [Bool.and_eq_true, Bool.not_eq_true'] at h1
    exact ⟨fn, rfl, h1.1, h1.2⟩

/-- The context. -/
noncomputable def X : Cx Try.prog := ⟨tiOf Try.prog, fb, fun _ _ => rfl, fb_ok⟩

theorem mixed : Try.prog.follows .mixedOrders = true := by kernel_rfl

end Go.Proofs.Ytckdkgphkjbbnaa.Hw

/- The heap logic in use: blocks of cells, frames, slices that are owned. -/
import Derived.Test.YtckdkgphkjbbnaaCx
import Derived.IntWalk
set_option linter.unusedVariables false
set_option linter.unusedSimpArgs false
namespace Go.Proofs.Ytckdkgphkjbbnaa.Hw
open Go.Proofs

/-! ### Numbers -/

theorem w64 {n : Int} (h0 : -9223372036854775808 ≤ n) (h1 : n ≤ 9223372036854775807) : IntKind.wrap .i64 n = n := by rw [IntKind.wrap_i64]; omega

theorem u64_range (n : Int) : 0 ≤ IntKind.wrap .u64 n ∧ IntKind.wrap .u64 n < 18446744073709551616 := by
  unfold IntKind.wrap
  simp only [IntKind.signed, IntKind.bits, Bool.false_and, Bool.false_eq_true, if_false]
  omega

theorem wu64 {n : Int} (h0 : 0 ≤ n) (h1 : n < 18446744073709551616) : IntKind.wrap .u64 n = n := by
  unfold IntKind.wrap
  simp only [IntKind.signed, IntKind.bits, Bool.false_and, Bool.false_eq_true, if_false]
  omega

/-! ### Blocks -/

/-- A block of plain cells. -/
abbrev ob (cs : List Value) (t : TypeId) : Obj := .cells cs.toArray t (0, 0)

@[simp] theorem add_mk (b i n : Nat) : Addr.add ⟨b, i, none⟩ n = ⟨b, i + n, none⟩ := by
  unfold Addr.add
  split
  · rename_i h; subst h; rfl
  · rfl

theorem cell_mk {h : Hp} {b : Nat} {cs : List Value} {t : TypeId} (hb : h b = some (ob cs t)) (i : Nat) : cell h ⟨b, i, none⟩ = cs[i]? := by
  simp [cell, cellOf, hb]

@[simp] theorem NN_some (p : Addr) (K : Addr → Prop) : NN (some p) K = K p := rfl
@[simp] theorem NN_none (K : Addr → Prop) : NN none K = False := rfl

theorem st1_mk {h : Hp} {b i : Nat} {cs : List Value} {t : TypeId} {v : Value} {K : Hp → Prop} (hb : h b = some (ob cs t)) (hi : i < cs.length)
    (hK : K (upd h b (ob (cs.set i v) t))) : st1 h ⟨b, i, none⟩ v K := by
  refine ⟨⟨?_, ?_⟩, ?_⟩
  · rw [cell_mk hb]; simp [hi]
  · simp [frozenOf, hb]
  · simpa [wr, hb, putOf] using hK

theorem okW_mk {h : Hp} {b i : Nat} {cs : List Value} {t : TypeId} (hb : h b = some (ob cs t)) (hi : i < cs.length) : okW h ⟨b, i, none⟩ :=
  ⟨by rw [cell_mk hb]; simp [hi], by simp [frozenOf, hb]⟩

theorem wr_mk {h : Hp} {b i : Nat} {cs : List Value} {t : TypeId} {v : Value} (hb : h b = some (ob cs t)) : wr h ⟨b, i, none⟩ v = upd h b (ob (cs.set i v) t) := by
  simp [wr, hb, putOf]

/-- Cells put over others. -/
def over (cs : List Value) (i : Nat) : List Value → List Value
  | [] => cs
  | v :: vs => over (cs.set i v) (i + 1) vs

theorem over_len : ∀ (vs cs : List Value) (i : Nat), (over cs i vs).length = cs.length := by
  intro vs
  induction vs with
  | nil => intro cs i; rfl
  | cons v vs ih => intro cs i; simp [over, ih]

theorem upd_eq {h : Hp} {b : Nat} {o : Obj} (hb : h b = some o) : upd h b o = h := by
  funext c
  simp only [upd]
  split
  · rename_i e; rw [e, hb]
  · rfl

theorem okWs_mk : ∀ (vs : List Value) {h : Hp} {b i j : Nat} {cs : List Value} {t : TypeId}, h b = some (ob cs t) → i + j + vs.length ≤ cs.length → (∀ v ∈ vs, oneCell v = true) →
    okWs h ⟨b, i, none⟩ j vs ∧ wrs h ⟨b, i, none⟩ j vs = upd h b (ob (over cs (i + j) vs) t) := by
  intro vs
  induction vs with
  | nil => intro h b i j cs t hb _ _; exact ⟨trivial, (upd_eq hb).symm⟩
  | cons v vs ih =>
    intro h b i j cs t hb hl ho
    simp only [List.length_cons] at hl
    have hb' : upd h b (ob (cs.set (i + j) v) t) b = some (ob (cs.set (i + j) v) t) := upd_same _ _ _
    have := ih (i := i) (j := j + 1) hb' (by simp; omega) (fun w hw => ho w (by simp [hw]))
    simp only [okWs, wrs, add_mk, wr_mk hb, over]
    refine ⟨⟨ho v (by simp), okW_mk hb (by omega), this.1⟩, ?_⟩
    rw [this.2, upd_upd]
    rfl

theorem stN_mk {h : Hp} {b i : Nat} {cs : List Value} {t : TypeId} {vs : List Value} {K : Hp → Prop} (hb : h b = some (ob cs t)) (hi : i + vs.length ≤ cs.length) (ho : ∀ v ∈ vs, oneCell v = true)
    (hK : K (upd h b (ob (over cs i vs) t))) : stN h ⟨b, i, none⟩ vs K := by
  obtain ⟨h1, h2⟩ := okWs_mk vs (i := i) (j := 0) hb (by omega) ho
  refine ⟨h1, ?_⟩
  rw [h2]
  exact hK

theorem rowAt_mk {h : Hp} {b : Nat} {cs : List Value} {t : TypeId} (hb : h b = some (ob cs t)) : ∀ (vs : List Value) (i j : Nat), (∀ k, k < vs.length → cs[i + j + k]? = vs[k]?) → rowAt h ⟨b, i, none⟩ j vs := by
  intro vs
  induction vs with
  | nil => intro i j _; trivial
  | cons v vs ih =>
    intro i j hv
    refine ⟨?_, ih i (j + 1) fun k hk => ?_⟩
    · rw [add_mk, cell_mk hb]
      simpa using hv 0 (by simp)
    · have := hv (k + 1) (by simp; omega)
      simp only [List.getElem?_cons_succ] at this
      rw [← this]
      congr 1
      omega

/-! ### Frames -/

/-- What was there is there. -/
def Le (h h' : Hp) : Prop := ∀ b o, h b = some o → h' b = some o

/-- What was there and is not among these is there as it was; and nothing is gone. -/
structure Fr (S : List Nat) (h h' : Hp) : Prop where
  keep : ∀ b o, h b = some o → b ∉ S → h' b = some o
  dom : ∀ b, h' b = none → h b = none

instance {S : List Nat} {h h' : Hp} : CoeFun (Fr S h h') (fun _ => ∀ b o, h b = some o → b ∉ S → h' b = some o) := ⟨Fr.keep⟩

theorem Le.refl (h : Hp) : Le h h := fun _ _ e => e
theorem Le.trans {a b c : Hp} (h : Le a b) (k : Le b c) : Le a c := fun x o e => k x o (h x o e)
theorem Le.dom {h h' : Hp} (k : Le h h') (b : Nat) (hb : h' b = none) : h b = none := by
  cases e : h b with
  | none => rfl
  | some o => rw [k b o e] at hb; cases hb
theorem Le.new {h : Hp} {b : Nat} (o : Obj) (hb : h b = none) : Le h (upd h b o) := by
  intro c o' hc
  rw [upd_ne]
  · exact hc
  · intro e; rw [e, hb] at hc; cases hc
theorem Le.fr {h h' : Hp} (k : Le h h') (S : List Nat) : Fr S h h' := ⟨fun b o e _ => k b o e, k.dom⟩
theorem Fr.le {h h' : Hp} (k : Fr [] h h') : Le h h' := fun b o e => k.keep b o e (by simp)
theorem Fr.refl (S : List Nat) (h : Hp) : Fr S h h := ⟨fun _ _ e _ => e, fun _ e => e⟩
theorem Fr.trans {S : List Nat} {a b c : Hp} (h : Fr S a b) (k : Fr S b c) : Fr S a c := ⟨fun x o e hn => k.keep x o (h.keep x o e hn) hn, fun x e => h.dom x (k.dom x e)⟩
theorem Fr.mono {S S' : List Nat} {h h' : Hp} (k : Fr S h h') (hs : ∀ b ∈ S, b ∈ S' ∨ h b = none) : Fr S' h h' := by
  refine ⟨fun b o e hn => ?_, k.dom⟩
  refine k.keep b o e fun hb => ?_
  rcases hs b hb with h1 | h1
  · exact hn h1
  · rw [h1] at e; cases e
theorem Fr.then {S S' : List Nat} {a b c : Hp} (h : Fr S a b) (k : Fr S' b c) (hs : ∀ x ∈ S', x ∈ S ∨ a x = none) : Fr S a c := by
  refine ⟨fun x o e hn => ?_, fun x e => h.dom x (k.dom x e)⟩
  refine k.keep x o (h.keep x o e hn) fun hx => ?_
  rcases hs x hx with h1 | h1
  · exact hn h1
  · rw [h1] at e; cases e
theorem Fr.upd {S : List Nat} {h : Hp} {b : Nat} (o : Obj) (hb : b ∈ S) : Fr S h (upd h b o) := by
  refine ⟨fun c o' hc hn => ?_, fun c hc => ?_⟩
  · rw [upd_ne]
    · exact hc
    · intro e; rw [e] at hn; exact hn hb
  · by_cases e : c = b
    · subst e; rw [upd_same] at hc; cases hc
    · rw [upd_ne _ _ e] at hc; exact hc
theorem Fr.new {S : List Nat} {h : Hp} {b : Nat} (o : Obj) (hb : h b = none) : Fr S h (Hw.upd h b o) := (Le.new o hb).fr S
theorem Le.fr_then {S : List Nat} {a b c : Hp} (h : Le a b) (k : Fr S b c) (hs : ∀ x ∈ S, a x = none) : Le a c := by
  intro x o e
  refine k.keep x o (h x o e) fun hx => ?_
  rw [hs x hx] at e
  cases e

theorem new_mk {h : Hp} {o : Obj} {K : Nat → Hp → Prop} (hK : ∀ b g, h b = none → g b = some o → Le h g → (∀ c, c ≠ b → g c = h c) → K b g) : newE h o K :=
  fun b hb => hK b _ hb (upd_same _ _ _) (Le.new _ hb) fun c hc => upd_ne _ _ hc

theorem ne_of_some_none {h : Hp} {a b : Nat} {o : Obj} (ha : h a = some o) (hb : h b = none) : a ≠ b := by
  intro e; rw [e, hb] at ha; cases ha

end Go.Proofs.Ytckdkgphkjbbnaa.Hw

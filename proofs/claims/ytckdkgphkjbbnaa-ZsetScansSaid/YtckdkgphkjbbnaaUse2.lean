/- The heap logic in use: slices that a function owns. -/
import Derived.Test.YtckdkgphkjbbnaaUse
set_option linter.unusedVariables false
set_option linter.unusedSimpArgs false
namespace Go.Proofs.Ytckdkgphkjbbnaa.Hw
open Go.Proofs

/-- A slice that begins its block: nil, or so many elements' cells, with room behind. -/
inductive Own (h : Hp) (sz : Nat) (ty : TypeId) : Option Addr → Nat → Nat → List Value → Prop
  | nil : Own h sz ty none 0 0 []
  | at_ {b n c : Nat} {cs rest : List Value} (hb : h b = some (ob (cs ++ rest) ty)) (hl : cs.length = n * sz) (hr : rest.length = (c - n) * sz) (hn : n ≤ c) : Own h sz ty (some ⟨b, 0, none⟩) n c cs

def ownB : Option Addr → List Nat
  | none => []
  | some p => [p.block]

theorem Own.len {h : Hp} {sz : Nat} {ty : TypeId} {a : Option Addr} {n c : Nat} {cs : List Value} (o : Own h sz ty a n c cs) : cs.length = n * sz := by
  cases o with
  | nil => simp
  | at_ hb hl hr hn => exact hl

theorem Own.fr {h h' : Hp} {S : List Nat} {sz : Nat} {ty : TypeId} {a : Option Addr} {n c : Nat} {cs : List Value} (o : Own h sz ty a n c cs) (k : Fr S h h') (hn : ∀ b ∈ ownB a, b ∉ S) : Own h' sz ty a n c cs := by
  cases o with
  | nil => exact .nil
  | at_ hb hl hr hn' => exact .at_ (k _ _ hb (hn _ (by simp [ownB]))) hl hr hn'

theorem Own.le {h h' : Hp} {sz : Nat} {ty : TypeId} {a : Option Addr} {n c : Nat} {cs : List Value} (o : Own h sz ty a n c cs) (k : Le h h') : Own h' sz ty a n c cs := o.fr (k.fr []) (by simp)

theorem Own.dom {h : Hp} {sz : Nat} {ty : TypeId} {a : Option Addr} {n c : Nat} {cs : List Value} (o : Own h sz ty a n c cs) : ∀ b ∈ ownB a, ∃ x, h b = some x := by
  cases o with
  | nil => intro b hb; cases hb
  | at_ hb hl hr hn => intro b hm; simp [ownB] at hm; subst hm; exact ⟨_, hb⟩

theorem over_app : ∀ (xs A B : List Value), xs.length ≤ B.length → over (A ++ B) A.length xs = A ++ xs ++ B.drop xs.length := by
  intro xs
  induction xs with
  | nil => intro A B _; simp [over]
  | cons x xs ih =>
    intro A B hl
    cases B with
    | nil => simp at hl
    | cons b B =>
      simp only [over]
      have e : (A ++ b :: B).set A.length x = (A ++ [x]) ++ B := by simp
      rw [e]
      have := ih (A ++ [x]) B (by simpa using hl)
      simp only [List.length_append, List.length_singleton] at this
      rw [this]
      simp

/-- A whole block is written. -/
theorem stN_all {h : Hp} {b : Nat} {cs vs : List Value} {t : TypeId} {K : Hp → Prop} (hb : h b = some (ob cs t)) (hl : vs.length = cs.length) (h1 : ∀ v ∈ vs, oneCell v = true) (hK : K (upd h b (ob vs t))) : stN h ⟨b, 0, none⟩ vs K := by
  refine stN_mk hb (by omega) h1 ?_
  have := over_app vs [] cs (by omega)
  simp only [List.nil_append, List.length_nil] at this
  rw [this, hl, List.drop_length, List.append_nil]
  exact hK

theorem row_all {h : Hp} {b : Nat} {cs : List Value} {t : TypeId} (hb : h b = some (ob cs t)) : rowAt h ⟨b, 0, none⟩ 0 cs := rowAt_mk hb cs 0 0 fun k hk => by simp only [Nat.zero_add]

theorem row_of_own {h : Hp} {b : Nat} {cs rest : List Value} {ty : TypeId} (hb : h b = some (ob (cs ++ rest) ty)) : rowAt h ⟨b, 0, none⟩ 0 cs := by
  refine rowAt_mk hb cs 0 0 fun k hk => ?_
  simp only [Nat.zero_add]
  rw [List.getElem?_append_left hk]

theorem appE_own {h : Hp} {sz bytes : Nat} {ty : TypeId} {zero : List Value} {a : Option Addr} {n c m : Nat} {cs xs : List Value} {x : Value} {K : Option Addr → Nat → Nat → Hp → Prop}
    (o : Own h sz ty a n c cs) (hz : zero.length = sz) (hm : lenV x = m) (hs : srcAt sz h x m xs) (hx : xs.length = m * sz) (h1 : ∀ v ∈ xs, oneCell v = true)
    (hb1 : (n + m) * bytes ≤ 140737488355328) (hb2 : n + m ≤ 140737488355328)
    (hK : ∀ a' c' h', Own h' sz ty a' (n + m) c' (cs ++ xs) → Fr (ownB a) h h' → (∀ b ∈ ownB a', b ∈ ownB a ∨ h b = none) → K a' (n + m) c' h') :
    appE ty sz bytes zero a n c x h K := by
  subst hm
  refine ⟨xs, hs, ?_, ?_⟩
  · intro hle
    cases o with
    | nil =>
      have h0 : lenV x = 0 := by omega
      have hx0 : xs = [] := List.length_eq_zero_iff.1 (by rw [hx, h0]; simp)
      subst hx0
      refine hK none 0 h ?_ (Fr.refl _ _) (by simp [ownB])
      rw [h0]
      exact .nil
    | at_ hb hl hr hn =>
      rename_i b rest
      have hfit : xs.length ≤ rest.length := by
        rw [hx, hr]
        exact Nat.mul_le_mul_right _ (by omega)
      have hok := okWs_mk xs (i := n * sz) (j := 0) hb (by simp only [List.length_append, hl]; omega) h1
      simp only [add_mk, Nat.zero_add]
      refine ⟨hok.1, ?_⟩
      rw [hok.2]
      have e : over (cs ++ rest) (n * sz + 0) xs = (cs ++ xs) ++ rest.drop xs.length := by
        rw [Nat.add_zero, ← hl]; exact over_app xs cs rest hfit
      rw [e]
      refine hK (some ⟨b, 0, none⟩) c _ ?_ (Fr.upd _ (by simp [ownB])) (fun y hy => .inl hy)
      refine .at_ (rest := rest.drop xs.length) (upd_same _ _ _) ?_ ?_ hle
      · rw [List.length_append, hl, hx, Nat.add_mul]
      · rw [List.length_drop, hr, hx, ← Nat.sub_mul]
        congr 1
        omega
  · intro hlt
    refine ⟨hb1, hb2, cs, ?_, fun cap hcap b hb => ?_⟩
    · cases o with
      | nil => rfl
      | at_ hb hl hr hn => exact ⟨hl, row_of_own hb⟩
    · refine hK (some ⟨b, 0, none⟩) cap _ ?_ (Fr.new _ hb) (fun y hy => by simp [ownB] at hy; rw [hy]; exact .inr hb)
      refine .at_ (rest := repL (cap - (n + lenV x)) zero) (upd_same _ _ _) ?_ ?_ hcap
      · rw [List.length_append, o.len, hx, Nat.add_mul]
      · rw [repL_len, hz]

/-- A source of elements: a slice whose cells these are. -/
theorem src_own {h : Hp} {sz : Nat} {ty : TypeId} {a : Option Addr} {n c : Nat} {cs : List Value} (o : Own h sz ty a n c cs) : srcAt sz h (.slice a n c) n cs := by
  cases o with
  | nil => rfl
  | at_ hb hl hr hn => exact ⟨hl, row_of_own hb⟩

/-- One more element. -/
theorem app1 {h : Hp} {sz bytes : Nat} {ty : TypeId} {zero : List Value} {a : Option Addr} {n c b : Nat} {cs xs : List Value} {K : Option Addr → Nat → Nat → Hp → Prop}
    (o : Own h sz ty a n c cs) (hz : zero.length = sz) (hb : h b = some (ob xs ty)) (hx : xs.length = sz) (h1 : ∀ v ∈ xs, oneCell v = true)
    (hb1 : (n + 1) * bytes ≤ 140737488355328) (hb2 : n + 1 ≤ 140737488355328)
    (hK : ∀ a' c' h', Own h' sz ty a' (n + 1) c' (cs ++ xs) → Fr (ownB a) h h' → (∀ b ∈ ownB a', b ∈ ownB a ∨ h b = none) → K a' (n + 1) c' h') :
    appE ty sz bytes zero a n c (.slice (some ⟨b, 0, none⟩) 1 1) h K := by
  have hr : rowAt h ⟨b, 0, none⟩ 0 xs := row_of_own (rest := []) (by simpa using hb)
  exact appE_own o hz rfl ⟨by rw [hx]; simp [lenV], hr⟩ (by rw [hx]; simp [lenV]) h1 hb1 hb2 hK

end Go.Proofs.Ytckdkgphkjbbnaa.Hw

/- Contracts of package skip: to, has, height, New. -/
import Derived.Test.YtckdkgphkjbbnaaZSkip2
set_option linter.unusedVariables false
set_option linter.unusedSimpArgs false
namespace Go.Proofs.Ytckdkgphkjbbnaa.Hw
open Go.Proofs

theorem asks_to {x : Pr} {b : Nat} {h : Hp} (hb : h b = some (ob (prC x) 56)) : Asks (.func (.func 98) #[] #[.pointer (some ⟨b, 0, none⟩)]) (fun y => prLess y x) h := by
  intro y h' K l hK
  show CallH Try.prog 98 #[.agg #[.string ⟨y.m.toArray⟩, .int .i64 y.s], .pointer (some ⟨b, 0, none⟩)] h' K
  exact to1_ok (l _ _ hb) hK

theorem to_ok {h : Hp} {L : Nat} {s : Sk} {x : Pr} {m : Nat} {K : Value → Hp → Prop} (hS : SkH h L s) (ho : s.ok L) (hm : m < s.ns.length)
    (hp : ∀ p d, s.ns[p]? = some d → 0 < p → (prLess d.x x = true ↔ p ≤ m))
    (hK : ∀ h', Le h h' → K (.agg (trC (fun k => ptOf s.ns (some (posF (htOf s.ns) k m))) (fun k => (posF (htOf s.ns) k m : Int))).toArray) h') :
    CallH Try.prog 72 #[.pointer (some ⟨L, 0, none⟩), .agg #[.string ⟨x.m.toArray⟩, .int .i64 x.s]] h K := by
  apply F72_ok
  unfold F72
  refine new_mk fun b1 g1 hb1 e1 l1 _ => new_mk fun b2 g2 hb2 e2 l2 _ => ?_
  have l0 : Le h g2 := l1.trans l2
  have z1 : g2 b1 = some (ob (prC x) 56) := l2 _ _ e1
  have z2 : g2 b2 = some (ob (trC (fun _ => none) (fun _ => 0)) 157) := e2
  have hS2 : SkH g2 L s := ⟨l0 _ _ hS.1, fun p d hd => by
    obtain ⟨n1, cs, n2, n3, n4⟩ := hS.2 p d hd
    exact ⟨l0 _ _ n1, cs, l0 _ _ n2, n3, n4⟩⟩
  refine down_ok hS2 ho (asks_to z1) hm hp fun g3 l3 => ?_
  generalize (fun k => ptOf s.ns (some (posF (htOf s.ns) k m))) = f at *
  generalize (fun k => (posF (htOf s.ns) k m : Int)) = g at *
  refine ⟨f 0, f 1, f 2, f 3, f 4, f 5, f 6, f 7, f 8, f 9, f 10, f 11, f 12, f 13, f 14, f 15, g 0, g 1, g 2, g 3, g 4, g 5, g 6, g 7, g 8, g 9, g 10, g 11, g 12, g 13, g 14, g 15, rfl, ?_⟩
  show stN g3 ⟨b2, 0, none⟩ (trC f g) _
  refine stN_all (l3 _ _ z2) rfl (by simp [oneCell, trC]) ?_
  refine ⟨f 0, f 1, f 2, f 3, f 4, f 5, f 6, f 7, f 8, f 9, f 10, f 11, f 12, f 13, f 14, f 15, g 0, g 1, g 2, g 3, g 4, g 5, g 6, g 7, g 8, g 9, g 10, g 11, g 12, g 13, g 14, g 15, ?_, ?_⟩
  · exact row_all (upd_same g3 b2 (ob (trC f g) 157))
  · refine hK _ ((l0.trans l3).fr_then (Fr.upd (S := [b2]) _ (by simp)) fun b hb => ?_)
    simp at hb
    rw [hb]
    exact l1.dom _ hb2

/-- In how many levels a member stands: some number from 1 to 16. -/
theorem height_ok {h : Hp} {L : Nat} {s : Sk} {key : List UInt8} {K : Value → Hp → Prop} (hS : SkH h L s) (hkey : keyOk key)
    (hK : ∀ n : Nat, 1 ≤ n → n ≤ 16 → K (.int .i64 (n : Int)) h) : CallH Try.prog 74 #[.pointer (some ⟨L, 0, none⟩), .string ⟨key.toArray⟩] h K := by
  apply F74_ok
  unfold F74
  simp only [NN_some, add_mk]
  refine ⟨s.seed, by rw [cell_mk hS.1]; rfl, ?_⟩
  refine Of_ok hkey ⟨_, rfl, ?_⟩
  intro K1 hK1 W1 hW1
  have loop : ∀ (f : Nat) (a : Int) (n : Nat), 16 - n = f → 1 ≤ n → n ≤ 16 → W1 [.int .u64 a, .int .i64 (n : Int)] h := by
    intro f
    induction f with
    | zero =>
      intro a n hf h1 h2
      refine hW1 _ _ _ fun _ => ?_
      intro J1 hJ1
      refine ⟨fun hx => by have := of_decide_eq_true hx; omega, fun _ => ?_⟩
      refine hJ1 _ _ fun _ => ⟨(fun hx => by cases hx), fun _ => hK1 _ _ fun _ => hK n h1 h2⟩
    | succ f ih =>
      intro a n hf h1 h2
      refine hW1 _ _ _ fun _ => ?_
      intro J1 hJ1
      refine ⟨fun _ => ?_, fun hx => by have := of_decide_eq_false hx; omega⟩
      refine hJ1 _ _ fun _ => ⟨fun _ => ⟨by omega, ?_⟩, fun _ => hK1 _ _ fun _ => hK n h1 h2⟩
      rw [w64 (by omega) (by omega)]
      exact ih _ (n + 1) (by omega) (by omega) (by omega)
  exact loop 15 _ 1 rfl (by omega) (by omega)

end Go.Proofs.Ytckdkgphkjbbnaa.Hw

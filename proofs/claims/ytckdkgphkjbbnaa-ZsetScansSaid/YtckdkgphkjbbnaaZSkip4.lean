/- Contracts of package skip: has, New. -/
import Derived.Test.YtckdkgphkjbbnaaZSkip3
set_option linter.unusedVariables false
set_option linter.unusedSimpArgs false
namespace Go.Proofs.Ytckdkgphkjbbnaa.Hw
open Go.Proofs

/-- Is the pair behind a place this one? -/
def hasAt (ns : List Nd) (m : Nat) (x : Pr) : Bool := match ns[m + 1]? with | none => false | some d => (d.x.m == x.m) && (d.x.s == x.s)

theorem nx0 {s : Sk} {L m : Nat} {q : Option Nat} (ho : s.ok L) (h : Nx (htOf s.ns) 0 m q) : ptOf s.ns q = ptOf s.ns (some (m + 1)) := by
  cases q with
  | none =>
    have := h (m + 1) (by omega)
    unfold htOf at this
    cases hx : s.ns[m + 1]? with
    | none => simp [ptOf, hx]
    | some d =>
      rw [hx] at this
      have h2 := (ho.hts d (List.mem_of_getElem? hx)).1
      simp at this
      omega
  | some q =>
    obtain ⟨h1, h2, h3⟩ := h
    rcases Nat.lt_or_ge (m + 1) q with hlt | hge
    · have := h3 (m + 1) (by omega) hlt
      obtain ⟨d, hd, _⟩ := nd_get h2
      have hl : m + 1 < s.ns.length := Nat.lt_trans hlt (List.getElem?_eq_some_iff.1 hd).1
      have h4 := (ho.hts s.ns[m + 1] (List.getElem_mem hl)).1
      unfold htOf at this
      rw [List.getElem?_eq_getElem hl] at this
      simp at this
      omega
    · have : q = m + 1 := by omega
      rw [this]

theorem has_ok {h : Hp} {L tb : Nat} {s : Sk} {x : Pr} {m : Nat} {f : Nat → Option Addr} {g : Nat → Int} {K : Value → Hp → Prop} (hS : SkH h L s) (ho : s.ok L) (ht : h tb = some (ob (trC f g) 157))
    (hf : f 0 = ptOf s.ns (some m)) (hm : m < s.ns.length) (hK : ∀ h', Le h h' → K (.bool (hasAt s.ns m x)) h') :
    CallH Try.prog 73 #[.pointer (some ⟨tb, 0, none⟩), .agg #[.string ⟨x.m.toArray⟩, .int .i64 x.s]] h K := by
  apply F73_ok
  unfold F73
  refine new_mk fun b g1 hb e1 l1 _ => ?_
  have hd : s.ns[m]? = some s.ns[m] := List.getElem?_eq_getElem hm
  have hN := hS.2 m _ hd
  obtain ⟨cs, hcs, hcl, hlk⟩ := hN.2
  have hd1 := (ho.hts _ (List.getElem_mem hm)).1
  obtain ⟨q, by_, hq, hc0, hc1, hby⟩ := hlk 0 (by omega)
  simp only [NN_some, add_mk]
  refine ⟨by omega, by omega, f 0, by rw [cell_mk (l1 _ _ ht)]; rfl, ?_⟩
  have hpt : f 0 = some ⟨(s.ns[m]).b, 0, none⟩ := by rw [hf]; simp [ptOf, hd]
  rw [hpt]
  simp only [NN_some, add_mk]
  refine ⟨_, _, _, by rw [cell_mk (l1 _ _ hN.1)]; rfl, by omega, by omega, ?_⟩
  simp only [NN_some, add_mk]
  refine ⟨ptOf s.ns q, by rw [cell_mk (l1 _ _ hcs)]; exact hc0, ?_⟩
  rw [nx0 ho hq]
  intro J1 hJ1
  cases hx : s.ns[m + 1]? with
  | none =>
    refine ⟨fun hs => by simp [ptOf, hx] at hs, fun _ => hJ1 _ _ fun _ => ?_⟩
    have := hK _ l1
    unfold hasAt at this
    rw [hx] at this
    exact this
  | some d =>
    have hp2 : ptOf s.ns (some (m + 1)) = some ⟨d.b, 0, none⟩ := by simp [ptOf, hx]
    have z := l1 _ _ (hS.2 _ d hx).1
    rw [hp2]
    refine ⟨fun _ => ?_, fun hs => by simp at hs⟩
    simp only [NN_some, add_mk]
    refine ⟨d.x.m, d.x.s, ?_, x.m, x.s, row_all (cs := prC x) e1, ?_⟩
    · refine rowAt_mk z _ _ _ fun i hi => ?_
      have : i = 0 ∨ i = 1 := by simp at hi; omega
      rcases this with e | e <;> subst e <;> simp
    · have hk := hK _ l1
      unfold hasAt at hk
      rw [hx] at hk
      have hj := hJ1 _ _ fun _ => hk
      simpa [cellsEqE, cellEq] using hj

/-- A list without pairs. -/
def newSk (seed : Int) (b lb : Nat) : Sk := ⟨seed, [⟨b, lb, ⟨[], 0⟩, 16⟩]⟩

theorem newSk_ht (seed : Int) (b lb r : Nat) : htOf (newSk seed b lb).ns r = if r = 0 then 16 else 0 := by
  cases r <;> simp [htOf, newSk]

theorem newSk_ok {seed : Int} {L b lb : Nat} (h1 : L ≠ b) (h2 : L ≠ lb) (h3 : b ≠ lb) (hs : 0 ≤ seed ∧ seed < 18446744073709551616) : (newSk seed b lb).ok L := by
  refine ⟨by rw [newSk_ht]; rfl, fun d hd => ?_, ?_, by simp [newSk], fun d hd => ?_, hs⟩
  · simp [newSk] at hd; subst hd; simp
  · simp [Sk.bs, ndB, newSk, h1, h2, h3]
  · simp [newSk] at hd; subst hd; simp [keyOk]

theorem New_sk {seed : Int} {h : Hp} {K : Value → Hp → Prop}
    (hK : ∀ h' L b lb, h L = none → h b = none → h lb = none → L ≠ b → L ≠ lb → b ≠ lb → SkH h' L (newSk seed b lb) → Le h h' → K (.pointer (some ⟨L, 0, none⟩)) h') : CallH Try.prog 43 #[.int .u64 seed] h K := by
  apply F43_ok
  unfold F43
  refine ⟨by omega, by omega, by omega, by omega, new_mk fun lb g1 h1 e1 l1 _ => new_mk fun b g2 h2 e2 l2 _ => new_mk fun L g3 h3 e3 l3 _ => ?_⟩
  have n1 : lb ≠ b := ne_of_some_none e1 h2
  have n2 : b ≠ L := ne_of_some_none e2 h3
  have n3 : lb ≠ L := ne_of_some_none (l2 _ _ e1) h3
  refine hK g3 L b lb ((l1.trans l2).dom _ h3) (l1.dom _ h2) h1 n2.symm n3.symm n1.symm ⟨?_, fun p d hd => ?_⟩ ((l1.trans l2).trans l3)
  · rw [e3]; rfl
  · have hp : p = 0 := by
      cases p with
      | zero => rfl
      | succ p => simp [newSk] at hd
    subst hp
    have hdd : d = ⟨b, lb, ⟨[], 0⟩, 16⟩ := by simp [newSk] at hd; exact hd.symm
    subst hdd
    refine ⟨?_, repL 16 [.pointer none, .int .i64 0], ?_, by rw [repL_len]; rfl, fun k hk => ?_⟩
    · rw [l3 _ _ e2]; rfl
    · rw [l3 _ _ (l2 _ _ e1)]; rfl
    · refine ⟨none, 0, fun r hr => ?_, ?_, ?_, fun q hq => by cases hq⟩
      · rw [newSk_ht, if_neg (by omega)]; omega
      · have hk' : k < 16 := hk
        rw [repL_get 16 _ _ (by simp; omega)]
        simp [ptOf]
      · have hk' : k < 16 := hk
        rw [repL_get 16 _ _ (by simp; omega)]
        have : (2 * k + 1) % 2 = 1 := by omega
        simp [this]

end Go.Proofs.Ytckdkgphkjbbnaa.Hw

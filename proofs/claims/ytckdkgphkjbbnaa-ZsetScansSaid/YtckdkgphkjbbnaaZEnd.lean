/- The statement ZsetScans, proved: gone through from 0 on till 0 is told, each member is met once, with its score; a set that is none has nothing. No condition. -/
import Derived.Test.YtckdkgphkjbbnaaRows
import Derived.Test.YtckdkgphkjbbnaaUseOpen
import Derived.Test.YtckdkgphkjbbnaaZLaw
set_option linter.unusedVariables false
set_option linter.unusedSimpArgs false
namespace Go.Proofs.Ytckdkgphkjbbnaa.ZsetScansDone
open Go.ChangeShapes Go.WideShapes Go.ChangeAt Go.RowKit
open Go.ChangeMaps (open_string shut_string)
open Go.Proofs.Ytckdkgphkjbbnaa.Hw

/-- A pair's cells. -/
theorem rd_pr {P : Program} {w : World} {t t0 t1 : TypeId} {fs : Array Field} {f0 f1 : Field} {cs : List Value} (ht : P.underlying t = some (.struct fs)) (hf0 : fs[0]? = some f0) (hf1 : fs[1]? = some f1) (o0 : f0.offset = 0) (o1 : f1.offset = 1)
    (u0 : P.underlying f0.type = some .string) (u1 : P.underlying f1.type = some (.int .i64)) (c : P.cellsOf t = 2) (c0 : P.cellsOf f0.type = 1) (c1 : P.cellsOf f1.type = 1) (h : Rd P w t cs) : ∃ x : Pr, cs = prC x := by
  obtain ⟨h1, h2⟩ := rd_struct ht h
  rw [c] at h1
  obtain ⟨a, b, rfl⟩ : ∃ a b, cs = [a, b] := by
    match cs, h1 with
    | [a, b], _ => exact ⟨a, b, rfl⟩
  have h3 := h2 0 _ hf0
  have h4 := h2 1 _ hf1
  obtain ⟨s, h5, _⟩ := rd_string u0 h3
  obtain ⟨n, h6, _⟩ := rd_int u1 h4
  rw [c0, o0] at h5
  rw [c1, o1] at h6
  simp only [List.drop_zero, List.take_succ_cons, List.take_zero, List.drop_succ_cons, List.cons.injEq, and_true] at h5 h6
  exact ⟨⟨s, n⟩, by rw [h5, h6]⟩

theorem rd_prs {P : Program} {w : World} {t e : TypeId} {cs : List Value} (ht : P.underlying t = some (.slice e)) (hc : P.cellsOf e = 2) (he : ∀ cs, Rd P w e cs → ∃ x : Pr, cs = prC x) (h : Rd P w t cs) : ∃ a c l, cs = [.slice a (l : List Pr).length c] ∧ PrAt (abs w) a l := by
  obtain ⟨a, len, cap, h1, h2, h3, h4⟩ := rd_slice ht (by rw [hc]; omega) h
  rcases h4 with h4 | ⟨b, o, rfl, h4⟩
  · subst h4
    exact ⟨a, cap, [], h1, .inl rfl⟩
  · rw [hc] at h4
    obtain ⟨l, h5, _, h6⟩ := rows_list (f := prC) (p := fun _ => True) (sz := 2) (fun _ => rfl) (len := len) fun i hi => by
      obtain ⟨ecs, h7, h8, h9⟩ := h4 i hi
      obtain ⟨x, hx⟩ := he _ h9
      subst hx
      exact ⟨x, trivial, h8⟩
    refine ⟨some ⟨b, o, none⟩, cap, l, by rw [h5]; exact h1, .inr ⟨b, o, rfl, rowAt_iff.2 fun k hk => ?_⟩⟩
    rw [prsC_len] at hk
    obtain ⟨x, hx⟩ : ∃ x, l[k / 2]? = some x := ⟨l[k / 2]'(by omega), List.getElem?_eq_getElem _⟩
    have h10 := rowAt_iff.1 (h6 _ x hx) (k % 2) (by show k % 2 < 2; omega)
    rw [← prsC_at hx (k % 2) (by omega)] at h10
    have e : k / 2 * 2 + k % 2 = k := by omega
    rw [e] at h10
    rw [← h10]
    congr 2
    omega

theorem own : ownKnob Try.prog.godebug = none := by kernel_rfl
theorem laidOut : laidOutB Try.prog = true := by kernel_rfl
theorem cells56 : Try.prog.cellsOf 56 = 2 := by kernel_rfl
theorem cells9 : Try.prog.cellsOf 9 = 1 := by kernel_rfl
theorem cells2 : Try.prog.cellsOf 2 = 1 := by kernel_rfl

theorem rd52 {w : World} {cs : List Value} (h : Rd Try.prog w 52 cs) : ∃ a c l, cs = [.slice a (l : List Pr).length c] ∧ PrAt (abs w) a l :=
  rd_prs Try.underlying52 cells56 (fun _ => rd_pr Try.underlying56 rfl rfl rfl rfl Try.underlying9 Try.underlying2 cells56 cells9 cells2 (t0 := 0) (t1 := 0)) h

set_option maxRecDepth 100000 in
theorem lifted (os : Os) (started : os.Started) (H : Type) (enc : TypeId × Value → H) :
    ReturnsInHanded {} Try.checked os 4 .any (Rows.zsetScansSpec.pre6 enc Try.prog Try.f4 Rows.zsetScansRow.domain false) (Rows.zsetScansSpec.post enc Try.prog Try.f4 false true false false) := by
  refine returnsInHanded_of_change (C := Try.checked) own started (by kernel_rfl) Try.func4
    (ChangeSpec.witness6 (enc := enc) (C := Try.checked) false ⟨#[], #[.int .u64 0, .slice none 0 0, .int .i64 0], []⟩ 8 (by kernel_rfl) (by kernel_rfl) (by kernel_rfl) (by kernel_rfl)) ?_
  intro W base args ds gs before hval0 hW hcnd _
  have hval : ∀ (j : Nat) t v, Try.f4.params[j]? = some t → args[j]? = some v → Value.okWide Try.prog W .any base t v := hval0
  have hW' := hW
  obtain ⟨p, q, hA0, hV, rfl, hfz, hnd⟩ := hW
  have hA : DataW.TrodAll enc Try.prog W 0 (fun _ => true) true Try.f4.params.toList args.toList ds p := hA0
  rw [Try.params4] at hA hval
  obtain ⟨v0, vs0, d0, ds0, p0, q0, hargs, rfl, rfl, h0, r0⟩ := trodAll_cons hA
  obtain ⟨v1, vs1, d1, ds1, p1, q1, rfl, rfl, rfl, h1, r1⟩ := trodAll_cons r0
  obtain ⟨v2, vs2, d2, ds2, p2, q2, rfl, rfl, rfl, h2, r2⟩ := trodAll_cons r1
  obtain ⟨rfl, rfl, rfl⟩ := trodAll_nil r2
  obtain rfl : args = #[v0, v1, v2] := by cases args; simp_all
  obtain ⟨rfl, rfl⟩ := trodVars_none hV
  have lt0 : ∀ x ∈ p0, x.block < W.heap.size := by obtain ⟨m, hm⟩ := h0; exact DataW.trod_lt m _ _ _ hm
  have lt1 : ∀ x ∈ p1, x.block < W.heap.size := by obtain ⟨m, hm⟩ := h1; exact DataW.trod_lt m _ _ _ hm
  have lt2 : ∀ x ∈ p2, x.block < W.heap.size := by obtain ⟨m, hm⟩ := h2; exact DataW.trod_lt m _ _ _ hm
  have k0 := h0
  have k1 := h1
  have k2 := h2
  obtain ⟨n0, rfl⟩ := okWide_int Try.underlying51 (hval 0 51 v0 rfl rfl)
  obtain ⟨a1, l1, c1, rfl⟩ := okWide_slice Try.underlying52 (hval 1 52 v1 rfl rfl)
  obtain ⟨n2, rfl⟩ := okWide_int Try.underlying3 (hval 2 3 v2 rfl rfl)
  obtain ⟨fu0, g0⟩ := h0
  obtain ⟨fu1, g1⟩ := h1
  obtain ⟨n0', e0, lo0, hi0⟩ := rd_int Try.underlying51 ⟨_, _, _, _, _, _, _, g0⟩
  obtain ⟨a1', c1', l, e1, hp⟩ := rd52 ⟨_, _, _, _, _, _, _, g1⟩
  obtain rfl : n0 = n0' := by simpa [Value.cells] using e0
  obtain ⟨rfl, rfl, rfl⟩ : a1 = a1' ∧ l1 = l.length ∧ c1 = c1' := by simpa [Value.cells] using e1
  clear hA0 hval0
  refine (scans_ok (a1 := n0) (a := a1) (c := c1) (cnt := n2) (h := abs W) (K := fun v h' => v = .bool true ∧ Le (abs W) h') hp ⟨lo0, by have : n0 ≤ 18446744073709551615 := hi0; omega⟩ (fun h' l' => ⟨rfl, l'⟩) W rfl).mono fun e W' ⟨v, he, ev, hv, le⟩ => ?_
  subst he hv
  have bel := below_of ev le
  exact ⟨_, rfl, _, _, _, [], _, [], hW', trodAll_mk1 (shut_bool Try.underlying4 _), (trodAll_cons_mk (Below.trod laidOut (by kernel_rfl) (of_decide_eq_true (by kernel_rfl)) k0 bel lt0) (trodAll_cons_mk (Below.trod laidOut (by kernel_rfl) (of_decide_eq_true (by kernel_rfl)) k1 bel lt1) (trodAll_cons_mk (Below.trod laidOut (by kernel_rfl) (of_decide_eq_true (by kernel_rfl)) k2 bel lt2) trodAll_mk0))), rfl, bel.frame _, fun h => by cases h⟩

theorem over : Rows.zsetScansRow.holds Try.pinned (OpenSpec.ofChange Rows.zsetScansSpec) :=
  OpenClaim.holds_of_wide 4 Try.f4 rfl rfl rfl rfl rfl rfl rfl ⟨rfl, rfl, rfl, rfl, rfl⟩ rfl rfl rfl rfl rfl (by kernel_rfl) Try.func4 (by kernel_rfl)
    (of_decide_eq_true (by kernel_rfl)) (by unfold Func.isWrapper; first | (rw [if_pos (by decide +kernel)]; kernel_rfl) | (rw [if_neg (by decide +kernel)]; exact ⟨rfl, rfl⟩))
    (fun os started H enc _ => lifted os started H enc)

end Go.Proofs.Ytckdkgphkjbbnaa.ZsetScansDone
namespace Go.Proofs.Ytckdkgphkjbbnaa
/-- The statement. -/
theorem zsetScans_holds : Rows.ZsetScansSaid := ZsetScansDone.over
#print axioms zsetScans_holds
end Go.Proofs.Ytckdkgphkjbbnaa

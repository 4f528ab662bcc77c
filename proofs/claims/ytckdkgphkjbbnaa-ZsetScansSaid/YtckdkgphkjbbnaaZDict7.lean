/- Contracts of package dict: part, Put, Chain. -/
import Derived.Test.YtckdkgphkjbbnaaZDict6
import Derived.Test.YtckdkgphkjbbnaaUse2
set_option linter.unusedVariables false
set_option linter.unusedSimpArgs false
namespace Go.Proofs.Ytckdkgphkjbbnaa.Hw
open Go.Proofs

/-- A table that was not parted, parted. -/
def Tab.parted (t : Tab) (s a : Nat) : Tab := { t with h1 := some (noPlaces s a), moved := 0 }

theorem parted_ents {t : Tab} (h1 : t.h1 = none) (s a : Nat) : (t.parted s a).ents = t.ents := by
  simp [Tab.ents, Tab.parted, h1, en1, noPlaces_flat]

theorem parted_okk {t : Tab} {T s a : Nat} (ho : t.ok T) (h1 : t.h1 = none) (hs : 2 ≤ s) (hs2 : s ≤ 16) (hd : s = t.h0.sz + 1 ∨ t.h0.sz = s + 1) (ha : a ∉ t.bs T) : (t.parted s a).ok T := by
  have e := parted_ents h1 s a
  have eb : (t.parted s a).bs T = t.bs T ++ [a] := by simp [Tab.bs, Tab.parted, bs1, noPlaces_bs, h1]
  have hp := pow16 ho.k0.hi
  refine ⟨ho.k0, fun H hH => ?_, fun _ => ?_, fun hx => by simp [Tab.parted] at hx, fun i hi => by simp [Tab.parted] at hi, ?_, ?_, ?_, ho.bnd, ?_, ho.sd, fun H hH => ?_⟩
  · injection hH with hH; subst hH; exact noPlaces_ok _ hs hs2
  · show 0 < 2 ^ t.h0.sz; omega
  · rw [e]; exact ho.keys
  · rw [e]; exact ho.klen
  · rw [e]; exact ho.cnt
  · rw [eb]
    refine List.nodup_append.2 ⟨ho.bs, by simp, fun x hx y hy => ?_⟩
    simp at hy
    subst hy
    intro e
    exact ha (e ▸ hx)
  · injection hH with hH; subst hH; exact hd

theorem part_ok {h : Hp} {T : Nat} {t : Tab} {s : Nat} {K : Value → Hp → Prop} (hT : TabH h T t) (h1 : t.h1 = none) (hs : s ≤ 16) (hTn : T ∉ t.h0.bs)
    (hK : ∀ h' a, h a = none → TabH h' T (t.parted s a) → Fr [T] h h' → K (.tuple #[]) h') : CallH Try.prog 78 #[.pointer (some ⟨T, 0, none⟩), .int .i64 s] h K := by
  apply F78_ok
  unfold F78
  simp only [NN_some, add_mk]
  refine empty_ok hs fun g a ha hga lg => ⟨_, _, _, _, rfl, by omega, by omega, ?_⟩
  have hg := hT.le lg
  refine stN_mk hg.1 (by simp [tabCells]) (by simp [oneCell]) ?_
  refine st1_mk (upd_same _ _ _) (by simp [over_len, tabCells]) ?_
  refine st1_mk (upd_same _ _ _) (by simp [over_len, tabCells]) ?_
  rw [upd_upd, upd_upd]
  have hTa : T ≠ a := ne_of_some_none hT.1 ha
  refine hK _ a ha ⟨?_, ?_, fun H hH => ?_⟩ ((lg.fr _).trans (Fr.upd _ (by simp)))
  · rw [upd_same]
    simp [tabCells, over, Tab.parted, sz1, sl1, noPlaces]
  · refine hg.2.1.fr (Fr.upd (S := [T]) _ (by simp)) fun b hb => ?_
    simp only [List.mem_cons, List.not_mem_nil, or_false]
    exact fun x => hTn (x ▸ hb)
  · injection hH with hH
    subst hH
    exact noPlacesH (by rw [upd_ne _ _ hTa.symm]; exact hga)

theorem add_cells (t : Tab) (e : Ent) : tabCells (t.add e) = (tabCells t).set 7 (.int .i64 ((t.n : Int) + 1)) := by
  have := push_cells t t.kk e
  unfold Tab.add
  have e2 : tabCells { t.push t.kk e with n := t.n + 1 } = (tabCells (t.push t.kk e)).set 7 (.int .i64 ((t.n : Int) + 1)) := by simp [tabCells]
  rw [e2, this]

theorem Put_ok {h : Hp} {T : Nat} {t : Tab} {key : List UInt8} {v : Int} {K : Value → Hp → Prop} (hT : TabH h T t) (ho : t.ok T) (hkey : keyOk key) (hb : t.n + 1 < 4611686018427387904)
    (hK : ∀ h' t', TabH h' T t' → t'.ok T → t'.seed = t.seed → Fr (t.bs T) h h' → (∀ b ∈ t'.bs T, b ∈ t.bs T ∨ h b = none) → (∀ k', t'.look k' = if k' = key then some (.int .i64 v) else t.look k') →
      t'.n = (if (t.look key).isSome then t.n else t.n + 1) → K (.bool (t.look key).isNone) h') :
    CallH Try.prog 48 #[.pointer (some ⟨T, 0, none⟩), .string ⟨key.toArray⟩, .int .i64 v] h K := by
  apply F48_ok
  unfold F48
  refine ready_ok hT ⟨_, rfl, fun hx => by simp at hx, fun _ => ?_⟩
  refine step_ok hT ho fun g b1 hg hfg => ⟨_, rfl, ?_⟩
  have so := step_okk ho
  obtain ⟨ss, sn⟩ := step_seed t
  have sb := step_bs ho
  refine find_ok hg so hkey fun a ha => ⟨_, rfl, fun hs => ?_, fun hs => ?_⟩
  · -- it is there
    cases a with
    | none => simp at hs
    | some p =>
      obtain ⟨e, hm, he, hl, ⟨nx, hbk⟩, hc⟩ := ha.val hg so
      simp only [NN_some, add_mk]
      refine ⟨_, hc, ?_⟩
      simp only [NN_some, add_mk]
      refine st1_mk hbk (by simp) ?_
      subst he
      have hl' : t.look e.k = some e.v := by rw [← step_look ho]; exact hl
      have hf1 : Fr [e.b] g (upd g e.b (ob ([.string ⟨e.k.toArray⟩, e.v, .pointer nx].set (0 + 1) (.int .i64 v)) 152)) := Fr.upd _ (by simp)
      have heb := ents_bs (T := T) hm
      have hT2 := TabH.setv (v := .int .i64 v) hg so hm hf1 (fun nx' hx => by
        rw [hbk] at hx
        simp at hx
        rw [upd_same]
        simp [hx])
      have := hK _ (t.step.setv e.k (.int .i64 v)) hT2 (setv_okk so _ _) (by show t.step.seed = _; exact ss)
        (hfg.then hf1 fun b hb => .inl (by simp at hb; rw [hb]; exact sb.2 _ heb)) (fun b hb => .inl (sb.2 b (by rw [setv_bs] at hb; exact hb)))
        (fun k' => by rw [setv_look so (by rw [hl]; simp), step_look ho]) (by rw [hl']; show t.step.n = _; simp [sn])
      rw [hl'] at this
      exact this
  · -- it is new
    have hln : t.look key = none := by
      rcases ha.look so with ⟨_, hl⟩ | ⟨e, _, _, hs', _⟩
      · rw [← step_look ho]; exact hl
      · cases a <;> simp at hs hs'
    have hln2 : t.step.look key = none := by rw [step_look ho]; exact hln
    intro K1 hK1
    simp only [NN_some, add_mk]
    have main : K1 [.int .i64 (t.step.kk : Int)] g := by
      refine hK1 _ _ fun _ => ?_
      intro x hx
      obtain ⟨H, hH⟩ := kk_half t.step
      have hxg : x ∉ t.step.bs T := hg.fresh hx
      have hx0 : h x = none := hfg.dom x hx
      let e : Ent := ⟨x, key, .int .i64 v⟩
      have hg1 : TabH (upd g x (.cells #[.string ⟨key.toArray⟩, .int .i64 v, .pointer none] 152)) T t.step := hg.le (Le.new _ hx)
      refine front_ok (e := e) (nx := none) hg1 hH (half_ok so hH) (upd_same _ _ _) (List.nodup_cons.2 ⟨hxg, so.bs⟩) hkey fun g2 hg2 hf2 => ⟨rfl, ?_⟩
      simp only [NN_some, add_mk]
      obtain ⟨q1, q2, q3, q4, q5⟩ := push_rest t.step t.step.kk e
      have hbd : t.step.n + 1 < 4611686018427387904 := by omega
      refine ⟨(t.step.n : Int), by rw [cell_mk hg2.1, push_cells]; simp [tabCells], ?_⟩
      rw [w64 (by omega) (by omega)]
      refine st1_mk hg2.1 (by simp [tabCells]) ?_
      generalize hy : upd g2 T (ob ((tabCells (t.step.push t.step.kk e)).set (0 + 7) (.int .i64 ((t.step.n : Int) + 1))) 141) = y
      have hfy : Fr [T] g2 y := by rw [← hy]; exact Fr.upd _ (by simp)
      have ao : (t.step.add e).ok T := add_okk so hxg hln2 hkey hbd
      obtain ⟨nT0, nT1, nn0, nn1, nd⟩ := bs_nodup ao.bs
      have hyT : TabH y T (t.step.add e) := by
        refine ⟨?_, hg2.2.1.fr hfy fun b hb => ?_, fun H' hH' => (hg2.2.2 H' hH').fr hfy fun b hb => ?_⟩
        · rw [← hy, upd_same, add_cells, push_cells]
        · simp only [List.mem_cons, List.not_mem_nil, or_false]; exact fun z => nT0 (z ▸ hb)
        · simp only [List.mem_cons, List.not_mem_nil, or_false]
          have : (t.step.add e).h1 = some H' := hH'
          rw [this] at nT1
          exact fun z => nT1 (z ▸ hb)
      have hTin : T ∈ t.bs T := by simp [Tab.bs]
      have hHa : H.a ∈ t.bs T := by
        refine sb.2 _ ?_
        unfold Tab.bs
        rcases Tab.push_half hH e with ⟨_, z, _⟩ | ⟨_, z, _⟩
        · rw [z]; simp [Half.bs]
        · rw [z]; simp [bs1, Half.bs]
      have hfhy : Fr (t.bs T) h y := by
        refine (hfg.then ((Le.new (.cells #[.string ⟨key.toArray⟩, .int .i64 v, .pointer none] 152) hx).fr []) (by simp)).then hf2 (fun b hb => ?_) |>.then hfy fun b hb => ?_
        · simp only [List.mem_cons, List.not_mem_nil, or_false] at hb
          rcases hb with z | z
          · rw [z]; exact .inr hx0
          · rw [z]; exact .inl hHa
        · simp only [List.mem_cons, List.not_mem_nil, or_false] at hb
          rw [hb]; exact .inl hTin
      have hbsub : ∀ b ∈ (t.step.add e).bs T, b ∈ t.bs T ∨ h b = none := by
        intro b hb
        rcases List.mem_cons.1 ((push_bs so hH e).mem_iff.1 hb) with z | z
        · rw [z]; exact .inr hx0
        · exact .inl (sb.2 _ z)
      have hlook : ∀ k', (t.step.add e).look k' = if k' = key then some (.int .i64 v) else t.look k' := by
        intro k'
        rw [add_look so hln2, step_look ho]
      have hseed : (t.step.add e).seed = t.seed := by rw [← ss]; exact q1
      have hcnt : (t.step.add e).n = (if (t.look key).isSome then t.n else t.n + 1) := by
        rw [hln]; show t.step.n + 1 = _; rw [sn]; rfl
      have fin : ∀ z t', TabH z T t' → t'.ok T → t'.seed = t.seed → Fr (t.bs T) h z → (∀ b ∈ t'.bs T, b ∈ t.bs T ∨ h b = none) → t'.ents = (t.step.add e).ents → t'.n = (t.step.add e).n → K (.bool true) z := by
        intro z t' h1 h2 h3 h4 h5 h6 h7
        have := hK z t' h1 h2 h3 h4 h5 (fun k' => by rw [← hlook]; unfold Tab.look; rw [h6]) (by rw [h7, hcnt])
        rw [hln] at this
        exact this
      intro K2 hK2
      -- the copy of the half
      have rw0 : rowAt y ⟨T, 0 + 1 + Int.toNat (0 : Int) * 2, none⟩ 0 [.int .i64 ((t.step.add e).h0.sz : Int), .slice (some ⟨(t.step.add e).h0.a, 0, none⟩) (2 ^ (t.step.add e).h0.sz) (2 ^ (t.step.add e).h0.sz)] := by
        refine rowAt_mk hyT.1 _ _ _ fun k hk => ?_
        have : k = 0 ∨ k = 1 := by simp at hk; omega
        rcases this with z | z <;> subst z <;> simp [tabCells]
      refine ⟨by omega, by omega, _, _, _, _, rw0, ?_⟩
      intro c hc
      refine stN_mk (upd_same _ _ _) (by simp) (by simp [oneCell]) ?_
      rw [upd_upd]
      generalize hz : upd y c (ob (over [.int .i64 0, .slice none 0 0] 0 [.int .i64 ((t.step.add e).h0.sz : Int), .slice (some ⟨(t.step.add e).h0.a, 0, none⟩) (2 ^ (t.step.add e).h0.sz) (2 ^ (t.step.add e).h0.sz)]) 137) = z
      have lz : Le y z := by rw [← hz]; exact Le.new _ hc
      have hzc : z c = some (ob [.int .i64 ((t.step.add e).h0.sz : Int), .slice (some ⟨(t.step.add e).h0.a, 0, none⟩) (2 ^ (t.step.add e).h0.sz) (2 ^ (t.step.add e).h0.sz)] 137) := by rw [← hz, upd_same]; rfl
      have hzT : TabH z T (t.step.add e) := hyT.le lz
      have hfz : Fr (t.bs T) h z := hfhy.trans (lz.fr _)
      have done : K2 [] z := hK2 _ fun _ => fin z _ hzT ao hseed hfz hbsub rfl rfl
      refine ⟨(t.step.add e).h1.isSome, by rw [cell_mk hzT.1]; simp [tabCells], ?_⟩
      intro J1 hJ1
      refine ⟨fun hx => ?_, fun hx => hJ1 _ _ fun _ => ?_⟩
      · refine ⟨((t.step.add e).n : Int), by rw [cell_mk hzT.1]; simp [tabCells], some ⟨(t.step.add e).h0.a, 0, none⟩, 2 ^ (t.step.add e).h0.sz, 2 ^ (t.step.add e).h0.sz, by rw [cell_mk hzc]; rfl, ?_⟩
        refine hJ1 _ _ fun _ => ?_
        intro J2 hJ2
        refine ⟨fun _ => ⟨((t.step.add e).h0.sz : Int), by rw [cell_mk hzc]; rfl, hJ2 _ _ fun _ => ⟨fun hlt => ?_, fun _ => done⟩⟩, fun _ => hJ2 _ _ fun _ => ⟨(fun hlt => by cases hlt), fun _ => done⟩⟩
        have hlt' : (t.step.add e).h0.sz < 16 := by
          have := of_decide_eq_true hlt
          omega
        have hn1 : (t.step.add e).h1 = none := by
          cases hh : (t.step.add e).h1 with
          | none => rfl
          | some H' => rw [hh] at hx; simp at hx
        refine ⟨((t.step.add e).h0.sz : Int), by rw [cell_mk hzc]; rfl, ?_⟩
        rw [w64 (by omega) (by omega)]
        refine part_ok (s := (t.step.add e).h0.sz + 1) hzT hn1 (by omega) nT0 fun z2 a2 ha2 hz2 hf2 => ⟨rfl, ?_⟩
        have hlo := ao.k0.lo
        have ha2' : a2 ∉ (t.step.add e).bs T := hzT.fresh ha2
        refine hK2 _ fun _ => fin z2 _ hz2 (parted_okk ao hn1 (by omega) (by omega) (.inl rfl) ha2') hseed (hfz.then hf2 fun b hb => by simp at hb; rw [hb]; exact .inl hTin) ?_ (parted_ents hn1 _ _) rfl
        intro b hb
        have eb : ((t.step.add e).parted ((t.step.add e).h0.sz + 1) a2).bs T = (t.step.add e).bs T ++ [a2] := by simp [Tab.bs, Tab.parted, bs1, noPlaces_bs, hn1]
        rw [eb] at hb
        rcases List.mem_append.1 hb with w | w
        · exact hbsub b w
        · simp at w; rw [w]; exact .inr (hfz.dom _ ha2)
      · intro J2 hJ2
        refine ⟨(fun hx => by cases hx), fun _ => hJ2 _ _ fun _ => ⟨(fun hx => by cases hx), fun _ => done⟩⟩
    refine ⟨t.step.h1.isSome, by rw [cell_mk hg.1]; simp [tabCells], fun hx => ?_, fun hx => ?_⟩
    · have : t.step.kk = 1 := by unfold Tab.kk; rw [hx]; rfl
      rw [this] at main; exact main
    · have : t.step.kk = 0 := by unfold Tab.kk; rw [hx]; rfl
      rw [this] at main; exact main

end Go.Proofs.Ytckdkgphkjbbnaa.Hw

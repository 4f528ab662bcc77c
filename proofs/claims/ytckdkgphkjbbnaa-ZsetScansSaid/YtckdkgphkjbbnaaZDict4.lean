/- Contracts of package dict: moving a place. -/
import Derived.Test.YtckdkgphkjbbnaaZDict3
set_option linter.unusedVariables false
set_option linter.unusedSimpArgs false
namespace Go.Proofs.Ytckdkgphkjbbnaa.Hw
open Go.Proofs

def Half.clear (H : Half) (i : Nat) : Half := { H with ch := H.ch.set i [] }

noncomputable def pushAll (seed : Int) (H : Half) (M : List Ent) : Half := M.foldl (fun H e => H.push seed e) H

noncomputable def Tab.step (t : Tab) : Tab :=
  match t.h1 with
  | none => t
  | some H1 =>
    if t.moved + 1 = 2 ^ t.h0.sz then { t with h0 := pushAll t.seed H1 ((t.h0.ch[t.moved]?).getD []), h1 := none, moved := 0 }
    else { t with h0 := t.h0.clear t.moved, h1 := some (pushAll t.seed H1 ((t.h0.ch[t.moved]?).getD [])), moved := t.moved + 1 }

theorem pushAll_ok {seed : Int} : ∀ {M : List Ent} {H : Half}, H.ok seed → (pushAll seed H M).ok seed := by
  intro M
  induction M with
  | nil => intro H hH; exact hH
  | cons e M ih => intro H hH; exact ih (H.push_ok hH e)

theorem pushAll_bs {seed : Int} : ∀ {M : List Ent} {H : Half}, H.ok seed → ((pushAll seed H M).bs).Perm (M.map (·.b) ++ H.bs) := by
  intro M
  induction M with
  | nil => intro H hH; exact List.Perm.refl _
  | cons e M ih =>
    intro H hH
    refine (ih (H.push_ok hH e)).trans ?_
    refine (List.Perm.append_left _ (Half.push_bs hH e)).trans ?_
    simp only [List.map_cons, List.cons_append]
    exact List.perm_middle

theorem pushAll_ents {seed : Int} : ∀ {M : List Ent} {H : Half}, H.ok seed → ((pushAll seed H M).ch.flatten).Perm (M ++ H.ch.flatten) := by
  intro M
  induction M with
  | nil => intro H hH; exact List.Perm.refl _
  | cons e M ih =>
    intro H hH
    refine (ih (H.push_ok hH e)).trans ?_
    refine (List.Perm.append_left _ (Half.push_ents hH e)).trans ?_
    simp only [List.cons_append]
    exact List.perm_middle

theorem pushAll_sz {seed : Int} : ∀ {M : List Ent} {H : Half}, (pushAll seed H M).sz = H.sz ∧ (pushAll seed H M).a = H.a := by
  intro M
  induction M with
  | nil => intro H; exact ⟨rfl, rfl⟩
  | cons e M ih => intro H; exact ih (H := H.push seed e)

theorem Half.clear_bs {H : Half} {i : Nat} {L : List Ent} (hL : H.ch[i]? = some L) : (H.bs).Perm (L.map (·.b) ++ (H.clear i).bs) := by
  unfold Half.bs Half.clear
  have := (flat_clear_perm hL).map (·.b)
  simp only [List.map_append] at this
  exact (List.Perm.cons _ this).trans List.perm_middle.symm

theorem Half.clear_ok {seed : Int} {H : Half} (hH : H.ok seed) (i : Nat) : (H.clear i).ok seed := by
  refine ⟨hH.lo, hH.hi, by simp [Half.clear, hH.len], fun j L hj e he => ?_⟩
  simp only [Half.clear, List.getElem?_set] at hj
  split at hj
  · split at hj
    · injection hj with hj; subst hj; cases he
    · cases hj
  · exact hH.at_ j L hj e he

theorem HalfH.clear {h h' : Hp} {H : Half} {i : Nat} {L : List Ent} (hH : HalfH h H) (hL : H.ch[i]? = some L) (hn : H.bs.Nodup) (hf : Fr [H.a] h h')
    (h2 : h' H.a = some (ob ((H.ch.map fun L => Value.pointer (hd L)).set i (.pointer none)) 150)) : HalfH h' (H.clear i) ∧ ChainH h' L := by
  have old : ∀ M ∈ H.ch, ChainH h' M := by
    intro M hM
    refine (hH.2 M hM).fr hf fun d hd => ?_
    have hm := mem_flat_b hM hd
    unfold Half.bs at hn
    simp only [List.nodup_cons] at hn
    simp only [List.mem_cons, List.not_mem_nil, or_false]
    exact fun x => hn.1 (x ▸ hm)
  refine ⟨⟨?_, fun M hM => ?_⟩, old L (List.mem_of_getElem? hL)⟩
  · show h' H.a = _
    rw [h2]
    simp only [Half.clear, List.map_set]
    rfl
  · rcases mem_set_iff hL hM with e1 | e1
    · subst e1; trivial
    · exact old M e1

theorem bs_nodup {t : Tab} {T : Nat} (h : (t.bs T).Nodup) : T ∉ t.h0.bs ∧ T ∉ bs1 t.h1 ∧ t.h0.bs.Nodup ∧ (bs1 t.h1).Nodup ∧ ∀ a ∈ t.h0.bs, ∀ b ∈ bs1 t.h1, a ≠ b := by
  unfold Tab.bs at h
  simp only [List.nodup_cons, List.mem_append, not_or, List.nodup_append] at h
  exact ⟨h.1.1, h.1.2, h.2.1, h.2.2.1, h.2.2.2⟩

theorem step_none {h : Hp} {T : Nat} {t : Tab} {K : Value → Hp → Prop} (hT : TabH h T t) (h1 : t.h1 = none) (hK : K (.bool false) h) : CallH Try.prog 76 #[.pointer (some ⟨T, 0, none⟩)] h K := by
  apply F76_ok
  unfold F76
  simp only [NN_some, add_mk]
  refine ⟨false, by rw [cell_mk hT.1]; simp [tabCells, h1], fun _ => hK, fun hx => by simp at hx⟩

theorem step_ok {h : Hp} {T : Nat} {t : Tab} {K : Value → Hp → Prop} (hT : TabH h T t) (ho : t.ok T)
    (hK : ∀ h' b, TabH h' T t.step → Fr (t.bs T) h h' → K (.bool b) h') : CallH Try.prog 76 #[.pointer (some ⟨T, 0, none⟩)] h K := by
  cases h1 : t.h1 with
  | none =>
    refine step_none hT h1 (hK h false ?_ (Fr.refl _ _))
    unfold Tab.step
    rw [h1]
    exact hT
  | some H1 =>
    apply F76_ok
    unfold F76
    have hmv := ho.mv (by rw [h1]; rfl)
    have hlen := ho.k0.len
    obtain ⟨L, hL⟩ : ∃ L, t.h0.ch[t.moved]? = some L := ⟨_, List.getElem?_eq_getElem (by rw [hlen]; exact hmv)⟩
    have hp := pow16 ho.k0.hi
    obtain ⟨nT0, nT1, nn0, nn1, nd⟩ := bs_nodup ho.bs
    have c0 := tab_sl (k := 0) hT.1 (rfl : t.half 0 = some t.h0)
    have cm : cell h ⟨T, 0 + 5, none⟩ = some (.int .i64 t.moved) := by rw [cell_mk hT.1]; simp [tabCells]
    have hHT := hT.2.1
    have hTA : T ≠ t.h0.a := fun x => nT0 (by rw [x]; simp [Half.bs])
    simp only [NN_some, add_mk]
    refine ⟨true, by rw [cell_mk hT.1]; simp [tabCells, h1], fun hx => by simp at hx, fun _ => ?_⟩
    refine ⟨by omega, by omega, _, _, _, c0, _, cm, by omega, Int.ofNat_lt.2 hmv, ?_⟩
    simp only [NN_some, add_mk, Int.toNat_natCast]
    have cL : cell h ⟨t.h0.a, 0 + t.moved * 1, none⟩ = some (.pointer (hd L)) := by
      rw [cell_mk hHT.1, Nat.zero_add, Nat.mul_one, List.getElem?_map, hL]; rfl
    refine ⟨_, cL, by omega, by omega, _, _, _, c0, _, cm, by omega, Int.ofNat_lt.2 hmv, ?_⟩
    simp only [NN_some, add_mk, Int.toNat_natCast]
    refine st1_mk hHT.1 (by simp only [List.length_map, Nat.zero_add, Nat.mul_one]; rw [hlen]; exact hmv) ?_
    simp only [Nat.zero_add, Nat.mul_one]
    intro K1 hK1 W1 hW1
    -- the table behind the clearing
    generalize hh1 : upd h t.h0.a (ob ((t.h0.ch.map fun L => Value.pointer (hd L)).set t.moved (.pointer none)) 150) = g
    have hfg : Fr [t.h0.a] h g := by rw [← hh1]; exact Fr.upd _ (by simp)
    have hga : g t.h0.a = some (ob ((t.h0.ch.map fun L => Value.pointer (hd L)).set t.moved (.pointer none)) 150) := by rw [← hh1]; exact upd_same _ _ _
    obtain ⟨hc0, hcL⟩ := hHT.clear hL nn0 hfg hga
    have clb := Half.clear_bs hL
    have hsub0 : ∀ b ∈ (t.h0.clear t.moved).bs, b ∈ t.h0.bs := fun b hb => clb.mem_iff.2 (List.mem_append.2 (.inr hb))
    have hsubL : ∀ e ∈ L, e.b ∈ t.h0.bs := fun e he => clb.mem_iff.2 (List.mem_append.2 (.inl (List.mem_map.2 ⟨e, he, rfl⟩)))
    have ndL : (L.map (·.b) ++ (t.h0.clear t.moved).bs).Nodup := clb.nodup_iff.1 nn0
    have hb1 : bs1 t.h1 = H1.bs := by rw [h1]; rfl
    rw [hb1] at nT1 nn1 nd
    let tc (H : Half) : Tab := { t with h0 := t.h0.clear t.moved, h1 := some H }
    have tcells : ∀ H : Half, H.sz = H1.sz → H.a = H1.a → tabCells (tc H) = tabCells t := by
      intro H e1 e2
      simp [tc, tabCells, h1, sz1, sl1, Half.clear, e1, e2]
    have hT1 : TabH g T (tc H1) := by
      refine ⟨?_, hc0, fun H hH => ?_⟩
      · rw [tcells H1 rfl rfl]
        exact hfg _ _ hT.1 (by simp [hTA])
      · injection hH with hH
        subst hH
        refine (hT.2.2 H1 h1).fr hfg fun b hb => ?_
        simp only [List.mem_cons, List.not_mem_nil, or_false]
        exact fun x => nd t.h0.a (by simp [Half.bs]) b hb x.symm
    have hS : ∀ b, b ∈ t.h0.bs ∨ b ∈ H1.bs → b ∈ t.bs T := by
      intro b hb
      unfold Tab.bs
      rw [hb1]
      exact List.mem_cons_of_mem _ (List.mem_append.2 hb)
    have kl : ∀ e ∈ L, keyOk e.k := fun e he => ho.klen e (mem_ents (k := 0) rfl (List.mem_of_getElem? hL) he)
    -- the loop
    have loop : ∀ (M : List Ent) (H : Half) (x : Hp), TabH x T (tc H) → ChainH x M → H.ok t.seed → H.sz = H1.sz → H.a = H1.a → (∀ b ∈ H.bs, b ∈ t.bs T) → (∀ e ∈ M, keyOk e.k ∧ e.b ∈ t.bs T) →
        (M.map (·.b) ++ (tc H).bs T).Nodup → Fr (t.bs T) h x →
        (∀ x', TabH x' T (tc (pushAll t.seed H M)) → Fr (t.bs T) h x' → K1 [] x') → W1 [.pointer (hd M)] x := by
      intro M
      induction M with
      | nil =>
        intro H x hx _ _ _ _ _ _ _ hf hk
        exact hW1 _ _ fun _ => ⟨fun e => by simp [hd] at e, fun _ => hk x hx hf⟩
      | cons e M ih =>
        intro H x hx hc hHok es ea hHb hM hnd hf hk
        refine hW1 _ _ fun _ => ⟨fun _ => ?_, fun e => by simp [hd] at e⟩
        simp only [hd, NN_some, add_mk]
        refine ⟨hd M, by rw [cell_mk hc.1]; rfl, ?_⟩
        have hkh : (tc H).half 1 = some H := rfl
        have hnd2 : (e.b :: (tc H).bs T).Nodup := by
          simp only [List.map_cons, List.cons_append, List.nodup_cons, List.mem_append, not_or] at hnd
          refine List.nodup_cons.2 ⟨hnd.1.2, (List.nodup_append.1 hnd.2).2.1⟩
        refine front_ok (k := 1) (t := tc H) hx hkh hHok hc.1 hnd2 (hM e (by simp)).1 fun x' hx' hf' => ⟨rfl, ?_⟩
        have hpush : (tc H).push 1 e = tc (H.push t.seed e) := by simp [tc, Tab.push]
        rw [hpush] at hx'
        have hHa : H.a ∈ (tc H).bs T := by simp [Tab.bs, tc, bs1, Half.bs]
        have hcM : ChainH x' M := by
          refine hc.2.fr hf' fun d hd' => ?_
          simp only [List.map_cons, List.cons_append, List.nodup_cons] at hnd
          have hdm : d.b ∈ M.map (·.b) := List.mem_map.2 ⟨d, hd', rfl⟩
          simp only [List.mem_cons, List.not_mem_nil, or_false, not_or]
          refine ⟨fun y => hnd.1 (List.mem_append.2 (.inl (y ▸ hdm))), fun y => ?_⟩
          exact (List.nodup_append.1 hnd.2).2.2 _ hdm _ hHa y
        have hbp := Half.push_bs hHok e
        refine ih (H.push t.seed e) x' hx' hcM (H.push_ok hHok e) (by simpa [Half.push] using es) (by simpa [Half.push] using ea) ?_ (fun d hd' => hM d (by simp [hd'])) ?_ ?_ hk
        · intro b hb
          rcases List.mem_cons.1 (hbp.mem_iff.1 hb) with h2 | h2
          · rw [h2]; exact (hM e (by simp)).2
          · exact hHb b h2
        · have hp2 : ((tc (H.push t.seed e)).bs T).Perm (e.b :: (tc H).bs T) := by
            unfold Tab.bs
            have : ((tc (H.push t.seed e)).h0.bs ++ bs1 (tc (H.push t.seed e)).h1).Perm (e.b :: ((tc H).h0.bs ++ bs1 (tc H).h1)) := by
              refine (List.Perm.append_left _ hbp).trans ?_
              exact List.perm_middle
            exact (List.Perm.cons _ this).trans (List.Perm.swap _ _ _)
          have hp3 : (M.map (·.b) ++ (tc (H.push t.seed e)).bs T).Perm ((e :: M).map (·.b) ++ (tc H).bs T) := by
            refine (List.Perm.append_left _ hp2).trans ?_
            simp only [List.map_cons, List.cons_append]
            exact List.perm_middle
          exact hp3.nodup_iff.2 hnd
        · refine hf.then hf' fun b hb => .inl ?_
          simp only [List.mem_cons, List.not_mem_nil, or_false] at hb
          rcases hb with h2 | h2
          · rw [h2]; exact (hM e (by simp)).2
          · rw [h2]; exact hHb _ (by simp [Half.bs])
    refine loop L H1 g hT1 hcL (ho.k1 _ h1) rfl rfl (fun b hb => hS b (.inr hb)) (fun e he => ⟨kl e he, hS _ (.inl (hsubL e he))⟩) ?_ (hfg.mono fun b hb => .inl (by simp at hb; rw [hb]; exact hS _ (.inl (by simp [Half.bs])))) ?_
    · show (L.map (·.b) ++ (T :: ((t.h0.clear t.moved).bs ++ H1.bs))).Nodup
      have : (L.map (·.b) ++ (T :: ((t.h0.clear t.moved).bs ++ H1.bs))).Perm (T :: ((L.map (·.b) ++ (t.h0.clear t.moved).bs) ++ H1.bs)) := by
        rw [List.append_assoc]
        exact List.perm_middle
      refine this.nodup_iff.2 ?_
      have p2 : ((L.map (·.b) ++ (t.h0.clear t.moved).bs) ++ H1.bs).Perm (t.h0.bs ++ H1.bs) := clb.symm.append_right _
      have := ho.bs
      unfold Tab.bs at this
      rw [hb1] at this
      exact (List.Perm.cons T p2).nodup_iff.2 this
    · -- behind the loop
      intro x hx hfx
      obtain ⟨ps, pa⟩ := pushAll_sz (seed := t.seed) (M := L) (H := H1)
      refine hK1 _ fun _ => ?_
      intro K2 hK2
      have hcx : x T = some (ob (tabCells t) 141) := by rw [← tcells _ ps pa]; exact hx.1
      have cm2 : cell x ⟨T, 0 + 5, none⟩ = some (.int .i64 t.moved) := by rw [cell_mk hcx]; simp [tabCells]
      refine ⟨_, cm2, ?_⟩
      rw [w64 (by omega) (by omega)]
      refine st1_mk hcx (by simp [tabCells]) ?_
      generalize hy : upd x T (ob ((tabCells t).set (0 + 5) (.int .i64 ((t.moved : Int) + 1))) 141) = y
      have hyT : y T = some (ob ((tabCells t).set (0 + 5) (.int .i64 ((t.moved : Int) + 1))) 141) := by rw [← hy]; exact upd_same _ _ _
      have hfy : Fr [T] x y := by rw [← hy]; exact Fr.upd _ (by simp)
      have hTin : T ∈ t.bs T := by simp [Tab.bs]
      have hfhy : Fr (t.bs T) h y := hfx.then hfy fun b hb => .inl (by simp at hb; rw [hb]; exact hTin)
      have hstep : t.step = if t.moved + 1 = 2 ^ t.h0.sz then { t with h0 := pushAll t.seed H1 L, h1 := none, moved := 0 } else { t with h0 := t.h0.clear t.moved, h1 := some (pushAll t.seed H1 L), moved := t.moved + 1 } := by
        unfold Tab.step
        rw [h1, hL]
        rfl
      -- the halves stand
      have tn : T ∉ (t.h0.clear t.moved).bs ∧ T ∉ (pushAll t.seed H1 L).bs := by
        refine ⟨fun x => nT0 (hsub0 _ x), fun x => ?_⟩
        rcases List.mem_append.1 ((pushAll_bs (ho.k1 _ h1)).mem_iff.1 x) with h2 | h2
        · obtain ⟨e, he, e2⟩ := List.mem_map.1 h2
          exact nT0 (e2 ▸ hsubL e he)
        · exact nT1 h2
      have half0 : ∀ z, Fr [T] x z → HalfH z (t.h0.clear t.moved) ∧ HalfH z (pushAll t.seed H1 L) := by
        intro z hz
        refine ⟨hx.2.1.fr hz fun b hb => ?_, (hx.2.2 _ rfl).fr hz fun b hb => ?_⟩
        · simp only [List.mem_cons, List.not_mem_nil, or_false]; exact fun e => tn.1 (e ▸ hb)
        · simp only [List.mem_cons, List.not_mem_nil, or_false]; exact fun e => tn.2 (e ▸ hb)
      refine ⟨by omega, by omega, (t.moved : Int) + 1, by rw [cell_mk hyT]; simp [tabCells], some ⟨t.h0.a, 0, none⟩, 2 ^ t.h0.sz, 2 ^ t.h0.sz, by rw [cell_mk hyT]; simp [tabCells], ?_, ?_⟩
      · intro he
        have he2 : t.moved + 1 = 2 ^ t.h0.sz := by
          have := of_decide_eq_true he
          have h3 : ((t.moved + 1 : Nat) : Int) = ((2 ^ t.h0.sz : Nat) : Int) := by rw [← this]; rfl
          exact Int.ofNat.inj h3
        rw [if_pos he2] at hstep
        refine ⟨by omega, by omega, (H1.sz : Int), some ⟨H1.a, 0, none⟩, 2 ^ H1.sz, 2 ^ H1.sz, ?_, ?_⟩
        · refine rowAt_mk hyT _ _ _ fun k hk => ?_
          have : k = 0 ∨ k = 1 := by simp at hk; omega
          rcases this with e | e <;> subst e <;> simp [tabCells, h1, sz1, sl1]
        · refine stN_mk hyT (by simp [tabCells]) (by simp [oneCell]) ?_
          refine st1_mk (upd_same _ _ _) (by simp [over_len, tabCells]) ?_
          refine st1_mk (upd_same _ _ _) (by simp [over_len, tabCells]) ?_
          rw [upd_upd, upd_upd]
          refine hK2 _ fun _ => hK _ _ ?_ ?_
          · rw [hstep]
            have hz : Fr [T] x (upd y T (ob (((over ((tabCells t).set (0 + 5) (.int .i64 ((t.moved : Int) + 1))) (0 + 1) [.int .i64 H1.sz, .slice (some ⟨H1.a, 0, none⟩) (2 ^ H1.sz) (2 ^ H1.sz), .int .i64 0, .slice none 0 0]).set (0 + 6) (.bool false)).set (0 + 5) (.int .i64 0)) 141)) := hfy.trans (Fr.upd _ (by simp))
            refine ⟨?_, (half0 _ hz).2, fun H hH => by cases hH⟩
            rw [upd_same]
            simp [tabCells, over, sz1, sl1, ps, pa]
          · exact hfhy.then (Fr.upd (S := [T]) _ (by simp)) fun b hb => .inl (by simp at hb; rw [hb]; exact hTin)
      · intro he
        have he2 : ¬ t.moved + 1 = 2 ^ t.h0.sz := by
          have := of_decide_eq_false he
          intro h3
          apply this
          rw [← h3]; rfl
        rw [if_neg he2] at hstep
        refine hK2 _ fun _ => hK _ _ ?_ hfhy
        rw [hstep]
        refine ⟨?_, (half0 _ hfy).1, fun H hH => ?_⟩
        · rw [hyT]
          simp [tabCells, h1, sz1, sl1, Half.clear, ps, pa]
        · injection hH with hH
          subst hH
          exact (half0 _ hfy).2

end Go.Proofs.Ytckdkgphkjbbnaa.Hw

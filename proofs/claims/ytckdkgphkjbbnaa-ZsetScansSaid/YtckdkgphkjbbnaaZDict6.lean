/- Contracts of package dict: new tables, parting, Put. -/
import Derived.Test.YtckdkgphkjbbnaaZDict5
set_option linter.unusedVariables false
set_option linter.unusedSimpArgs false
namespace Go.Proofs.Ytckdkgphkjbbnaa.Hw
open Go.Proofs

theorem nodup_inj {α β : Type} {f : α → β} : ∀ {L : List α}, (L.map f).Nodup → ∀ {x y : α}, x ∈ L → y ∈ L → f x = f y → x = y := by
  intro L
  induction L with
  | nil => intro _ x y hx; cases hx
  | cons a L ih =>
    intro hn x y hx hy he
    simp only [List.map_cons, List.nodup_cons] at hn
    rcases List.mem_cons.1 hx with h1 | h1 <;> rcases List.mem_cons.1 hy with h2 | h2
    · rw [h1, h2]
    · subst h1; exact (hn.1 (List.mem_map.2 ⟨y, h2, he.symm⟩)).elim
    · subst h2; exact (hn.1 (List.mem_map.2 ⟨x, h1, he⟩)).elim
    · exact ih hn.2 h1 h2 he

theorem ents_sub (t : Tab) (T : Nat) : List.Sublist (t.ents.map (·.b)) (t.bs T) := by
  unfold Tab.ents Tab.bs Half.bs
  refine List.Sublist.cons _ ?_
  rw [List.map_append]
  refine List.Sublist.append (List.Sublist.cons _ (List.Sublist.refl _)) ?_
  cases t.h1 with
  | none => exact List.Sublist.refl _
  | some H => exact List.Sublist.cons _ (List.Sublist.refl _)

theorem ents_nodup {t : Tab} {T : Nat} (ho : t.ok T) : (t.ents.map (·.b)).Nodup := ho.bs.sublist (ents_sub t T)

theorem ents_bs {t : Tab} {T : Nat} {e : Ent} (he : e ∈ t.ents) : e.b ∈ t.bs T := (ents_sub t T).subset (List.mem_map.2 ⟨e, he, rfl⟩)

theorem HalfH.setv {h h' : Hp} {t : Tab} {T : Nat} {H : Half} {e : Ent} {v : Value} (ho : t.ok T) (hH : HalfH h H) (hsub : ∀ L ∈ H.ch, ∀ d ∈ L, d ∈ t.ents) (he : e ∈ t.ents) (ha : H.a ≠ e.b)
    (hf : Fr [e.b] h h') (hw : ∀ nx, h e.b = some (entOb e nx) → h' e.b = some (entOb { e with v := v } nx)) : HalfH h' (H.setv e.k v) := by
  refine ⟨?_, fun L hL => ?_⟩
  · show h' H.a = _
    rw [hf _ _ hH.1 (by simpa using ha)]
    simp only [Half.setv, List.map_map]
    congr 2
    congr 1
    congr 1
    funext L
    simp [hd_map]
  · simp only [Half.setv, List.mem_map] at hL
    obtain ⟨M, hM, rfl⟩ := hL
    refine ChainH.setv hf rfl (hH.2 M hM) (fun d hd hb => ?_) (fun d hd hb hk => ?_)
    · have : d = e := nodup_inj (ents_nodup ho) (hsub M hM d hd) he hb
      subst this
      exact ⟨rfl, fun nx hx => hw nx hx⟩
    · have : d = e := nodup_inj ho.keys (hsub M hM d hd) he hk
      exact hb (by rw [this])

theorem TabH.setv {h h' : Hp} {t : Tab} {T : Nat} {e : Ent} {v : Value} (hT : TabH h T t) (ho : t.ok T) (he : e ∈ t.ents) (hf : Fr [e.b] h h')
    (hw : ∀ nx, h e.b = some (entOb e nx) → h' e.b = some (entOb { e with v := v } nx)) : TabH h' T (t.setv e.k v) := by
  obtain ⟨nT0, nT1, nn0, nn1, nd⟩ := bs_nodup ho.bs
  have hmem : e.b ∈ t.h0.ch.flatten.map (·.b) ∨ e.b ∈ (en1 t.h1).map (·.b) := by
    rcases List.mem_append.1 he with h | h
    · exact .inl (List.mem_map.2 ⟨e, h, rfl⟩)
    · exact .inr (List.mem_map.2 ⟨e, h, rfl⟩)
  have hTe : T ≠ e.b := by
    intro x
    rcases hmem with h | h
    · exact nT0 (x ▸ by simp only [Half.bs]; exact List.mem_cons_of_mem _ h)
    · apply nT1
      rw [x]
      cases h1 : t.h1 with
      | none => rw [h1] at h; simp [en1] at h
      | some H => rw [h1] at h; simp only [bs1, Half.bs]; exact List.mem_cons_of_mem _ h
  have ha0 : t.h0.a ≠ e.b := by
    intro x
    rcases hmem with h | h
    · unfold Half.bs at nn0
      exact (List.nodup_cons.1 nn0).1 (x ▸ h)
    · cases h1 : t.h1 with
      | none => rw [h1] at h; simp [en1] at h
      | some H =>
        rw [h1] at h nd
        exact nd t.h0.a (by simp [Half.bs]) e.b (by simp only [bs1, Half.bs]; exact List.mem_cons_of_mem _ h) x
  refine ⟨?_, ?_, fun H hH => ?_⟩
  · rw [hf _ _ hT.1 (by simpa using hTe)]
    congr 2
    unfold Tab.setv
    cases h1 : t.h1 with
    | none => simp [tabCells, h1, sz1, sl1, Half.setv]
    | some H => simp [tabCells, h1, sz1, sl1, Half.setv]
  · exact HalfH.setv ho hT.2.1 (fun L hL d hd => mem_ents (k := 0) rfl hL hd) he ha0 hf hw
  · simp only [Tab.setv, Option.map_eq_some_iff] at hH
    obtain ⟨H', hH', rfl⟩ := hH
    refine HalfH.setv ho (hT.2.2 _ hH') (fun L hL d hd => mem_ents (k := 1) hH' hL hd) he (fun x => ?_) hf hw
    rw [hH'] at nn1 nd hmem
    rcases hmem with h | h
    · exact nd e.b (by simp only [Half.bs]; exact List.mem_cons_of_mem _ h) H'.a (by simp [bs1, Half.bs]) x.symm
    · simp only [bs1, Half.bs] at nn1
      exact (List.nodup_cons.1 nn1).1 (x ▸ h)

/-! ### A new key -/

noncomputable def Tab.kk (t : Tab) : Nat := if t.h1.isSome then 1 else 0

theorem kk_half (t : Tab) : ∃ H, t.half t.kk = some H := by
  unfold Tab.kk Tab.half
  cases h : t.h1 with
  | none => exact ⟨_, rfl⟩
  | some H => exact ⟨H, rfl⟩

theorem push_ents {t : Tab} {T : Nat} (ho : t.ok T) {k : Nat} {H : Half} (hk : t.half k = some H) (e : Ent) : ((t.push k e).ents).Perm (e :: t.ents) := by
  have := Half.push_ents (half_ok ho hk) e
  rcases Tab.push_half hk e with ⟨rfl, rfl, he⟩ | ⟨rfl, h1, he⟩
  · rw [he]
    unfold Tab.ents
    exact this.append_right _
  · rw [he]
    unfold Tab.ents
    rw [h1]
    simp only [en1]
    exact (List.Perm.append_left _ this).trans List.perm_middle

theorem push_bs {t : Tab} {T : Nat} (ho : t.ok T) {k : Nat} {H : Half} (hk : t.half k = some H) (e : Ent) : ((t.push k e).bs T).Perm (e.b :: t.bs T) := by
  have := Half.push_bs (half_ok ho hk) e
  rcases Tab.push_half hk e with ⟨rfl, rfl, he⟩ | ⟨rfl, h1, he⟩
  · rw [he]
    unfold Tab.bs
    exact (List.Perm.cons _ (this.append_right _)).trans (List.Perm.swap _ _ _)
  · rw [he]
    unfold Tab.bs
    rw [h1]
    simp only [bs1]
    exact (List.Perm.cons _ ((List.Perm.append_left _ this).trans List.perm_middle)).trans (List.Perm.swap _ _ _)

noncomputable def Tab.add (t : Tab) (e : Ent) : Tab := { t.push t.kk e with n := t.n + 1 }

theorem push_rest (t : Tab) (k : Nat) (e : Ent) : (t.push k e).seed = t.seed ∧ (t.push k e).moved = t.moved ∧ (t.push k e).n = t.n ∧ (t.push k e).h1.isSome = t.h1.isSome ∧ (t.push k e).h0.sz = t.h0.sz := by
  unfold Tab.push
  split
  · exact ⟨rfl, rfl, rfl, rfl, rfl⟩
  · refine ⟨rfl, rfl, rfl, ?_, rfl⟩
    simp

theorem add_okk {t : Tab} {T : Nat} (ho : t.ok T) {e : Ent} (hb : e.b ∉ t.bs T) (hk : t.look e.k = none) (hl : keyOk e.k) (hn : t.n + 1 < 4611686018427387904) : (t.add e).ok T := by
  obtain ⟨H, hH⟩ := kk_half t
  have pe := push_ents ho hH e
  have pb := push_bs ho hH e
  have hnk : e.k ∉ t.ents.map (·.k) := by
    intro hm
    obtain ⟨d, hd, hdk⟩ := List.mem_map.1 hm
    have := lookL_some hd hdk ho.keys
    unfold Tab.look at hk
    rw [hk] at this
    cases this
  obtain ⟨r1, r2, r3, r4, r5⟩ := push_rest t t.kk e
  refine ⟨?_, ?_, ?_, ?_, ?_, ?_, ?_, ?_, hn, ?_, ?_, ?_⟩
  · show (t.push t.kk e).h0.ok (t.push t.kk e).seed
    rw [r1]
    rcases Tab.push_half hH e with ⟨_, rfl, he⟩ | ⟨_, _, he⟩
    · rw [he]; exact Half.push_ok ho.k0 e
    · rw [he]; exact ho.k0
  · show ∀ H', (t.push t.kk e).h1 = some H' → H'.ok (t.push t.kk e).seed
    rw [r1]
    intro H' hH'
    rcases Tab.push_half hH e with ⟨_, rfl, he⟩ | ⟨_, h1, he⟩
    · rw [he] at hH'; exact ho.k1 _ hH'
    · rw [he] at hH'; injection hH' with hH'; subst hH'; exact Half.push_ok (ho.k1 _ h1) e
  · show (t.push t.kk e).h1.isSome = true → (t.push t.kk e).moved < 2 ^ (t.push t.kk e).h0.sz
    rw [r2, r4, r5]; exact ho.mv
  · show (t.push t.kk e).h1 = none → (t.push t.kk e).moved = 0
    intro hx
    rw [r2]
    apply ho.mv0
    rw [hx] at r4
    simpa using r4.symm
  · show ∀ i, i < (t.push t.kk e).moved → (t.push t.kk e).h0.ch[i]? = some []
    rw [r2]
    intro i hi
    rcases Tab.push_half hH e with ⟨hk0, rfl, he⟩ | ⟨_, _, he⟩
    · have : t.h1 = none := by
        unfold Tab.kk at hk0
        split at hk0
        · cases hk0
        · rename_i hx; simpa using hx
      rw [ho.mv0 this] at hi
      cases hi
    · rw [he]; exact ho.gone i hi
  · show ((t.push t.kk e).ents.map (·.k)).Nodup
    refine (pe.map _).nodup_iff.2 ?_
    simp only [List.map_cons, List.nodup_cons]
    exact ⟨hnk, ho.keys⟩
  · show ∀ d ∈ (t.push t.kk e).ents, keyOk d.k
    intro d hd
    rcases List.mem_cons.1 (pe.mem_iff.1 hd) with h | h
    · rw [h]; exact hl
    · exact ho.klen d h
  · show t.n + 1 = (t.push t.kk e).ents.length
    rw [pe.length_eq, ho.cnt]; rfl
  · show ((t.push t.kk e).bs T).Nodup
    exact pb.nodup_iff.2 (List.nodup_cons.2 ⟨hb, ho.bs⟩)
  · show 0 ≤ (t.push t.kk e).seed ∧ (t.push t.kk e).seed < 18446744073709551616
    rw [r1]; exact ho.sd
  · show ∀ H', (t.push t.kk e).h1 = some H' → H'.sz = (t.push t.kk e).h0.sz + 1 ∨ (t.push t.kk e).h0.sz = H'.sz + 1
    intro H' hH'
    rcases Tab.push_half hH e with ⟨_, rfl, he⟩ | ⟨_, h1, he⟩
    · rw [he] at hH' ⊢; exact ho.df _ hH'
    · rw [he] at hH' ⊢; injection hH' with hH'; subst hH'; exact ho.df H h1

theorem add_look {t : Tab} {T : Nat} (ho : t.ok T) {e : Ent} (hk : t.look e.k = none) (k' : List UInt8) : (t.add e).look k' = if k' = e.k then some e.v else t.look k' := by
  obtain ⟨H, hH⟩ := kk_half t
  have pe := push_ents ho hH e
  have hnk : e.k ∉ t.ents.map (·.k) := by
    intro hm
    obtain ⟨d, hd, hdk⟩ := List.mem_map.1 hm
    have := lookL_some hd hdk ho.keys
    unfold Tab.look at hk
    rw [hk] at this
    cases this
  have hn : ((t.push t.kk e).ents.map (·.k)).Nodup := (pe.map _).nodup_iff.2 (List.nodup_cons.2 ⟨hnk, ho.keys⟩)
  show lookL k' (t.push t.kk e).ents = _
  rw [lookL_perm hn pe]
  simp only [lookL]
  by_cases h : k' = e.k
  · subst h; simp
  · have : e.k ≠ k' := fun x => h x.symm
    simp [h, this, Tab.look]

/-! ### New places -/

def noPlaces (s a : Nat) : Half := ⟨s, a, List.replicate (2 ^ s) []⟩

theorem noPlaces_ok (seed : Int) {s a : Nat} (h1 : 2 ≤ s) (h2 : s ≤ 16) : (noPlaces s a).ok seed := by
  refine ⟨h1, h2, by simp [noPlaces], fun i L hL e he => ?_⟩
  simp only [noPlaces, List.getElem?_replicate] at hL
  split at hL
  · injection hL with hL; subst hL; cases he
  · cases hL

theorem noPlaces_flat (s a : Nat) : (noPlaces s a).ch.flatten = [] := by
  apply flat_nil
  intro i hi
  simp only [noPlaces, List.length_replicate] at hi
  simp [noPlaces, List.getElem?_replicate, hi]

theorem noPlaces_bs (s a : Nat) : (noPlaces s a).bs = [a] := by unfold Half.bs; rw [noPlaces_flat]; rfl

theorem noPlacesH {h : Hp} {s a : Nat} (ha : h a = some (ob (List.replicate (2 ^ s) (.pointer none)) 150)) : HalfH h (noPlaces s a) := by
  refine ⟨?_, fun L hL => ?_⟩
  · show h a = _
    rw [ha]
    simp [noPlaces, List.map_replicate, hd]
  · simp only [noPlaces] at hL
    have := List.eq_of_mem_replicate hL
    subst this
    trivial

theorem repL_one (n : Nat) (z : Value) : repL n [z] = List.replicate n z := by
  induction n with
  | zero => rfl
  | succ n ih => simp [repL, ih, List.replicate_succ]

theorem empty_ok {s : Nat} (hs : s ≤ 16) {h : Hp} {K : Value → Hp → Prop}
    (hK : ∀ h' a, h a = none → h' a = some (ob (List.replicate (2 ^ s) (.pointer none)) 150) → Le h h' → K (.agg #[.int .i64 s, .slice (some ⟨a, 0, none⟩) (2 ^ s) (2 ^ s)]) h') :
    CallH Try.prog 69 #[.int .i64 s] h K := by
  apply F69_ok
  unfold F69
  have hp := pow16 hs
  have e : IntKind.wrap .i64 ((1 : Int) * 2 ^ (min (Int.toNat (s : Int)) (IntKind.bits .i64))) = ((2 ^ s : Nat) : Int) := by
    have : min (Int.toNat (s : Int)) (IntKind.bits .i64) = s := by
      have : IntKind.bits .i64 = 64 := rfl
      omega
    rw [this, Int.one_mul, pow_int]
    exact w64 (by omega) (by omega)
  intro b hb
  refine ⟨by omega, ?_⟩
  rw [e]
  refine ⟨by omega, by omega, by omega, by omega, ?_⟩
  intro a ha
  simp only [Int.toNat_natCast]
  have hab : a ≠ b := by
    intro x; subst x; rw [upd_same] at ha; cases ha
  have ha0 : h a = none := by rw [upd_ne _ _ hab] at ha; exact ha
  have hb2 : upd (upd h b (.cells #[.int .i64 0, .slice none 0 0] 137)) a (.cells (repL (2 ^ s) [.pointer none]).toArray 150) b = some (ob [.int .i64 0, .slice none 0 0] 137) := by
    rw [upd_ne _ _ (Ne.symm hab), upd_same]
  refine stN_mk hb2 (by simp) (by simp [oneCell]) ?_
  refine ⟨(s : Int), some ⟨a, 0, none⟩, 2 ^ s, 2 ^ s, ?_, ?_⟩
  · refine rowAt_mk (upd_same _ _ _) _ _ _ fun k hk => ?_
    have : k = 0 ∨ k = 1 := by simp at hk; omega
    rcases this with e | e <;> subst e <;> simp [over]
  · refine hK _ a ha0 ?_ ?_
    · rw [upd_ne _ _ hab, upd_same, repL_one]
    · have l1 := Le.new (.cells #[.int .i64 0, .slice none 0 0] 137) hb
      have l2 := Le.new (.cells (repL (2 ^ s) [.pointer none]).toArray 150) ha
      intro c o hc
      have hcb : c ≠ b := ne_of_some_none hc hb
      rw [upd_ne _ _ hcb]
      exact l2 _ _ (l1 _ _ hc)

def newTab (seed : Int) (a : Nat) : Tab := ⟨seed, noPlaces 2 a, none, 0, 0⟩

theorem newTab_ok {seed : Int} {T a : Nat} (h : T ≠ a) (hs : 0 ≤ seed ∧ seed < 18446744073709551616) : (newTab seed a).ok T := by
  have e : (newTab seed a).ents = [] := by simp [Tab.ents, newTab, noPlaces_flat, en1]
  have e2 : (newTab seed a).bs T = [T, a] := by simp [Tab.bs, newTab, noPlaces_bs, bs1]
  exact ⟨noPlaces_ok _ (by omega) (by omega), (fun H hH => by cases hH), (fun hx => by simp [newTab] at hx), fun _ => rfl, (fun i hi => by simp [newTab] at hi), by rw [e]; simp, by rw [e]; simp, by rw [e]; rfl, by simp [newTab], by rw [e2]; simp [h], hs, (fun H hH => by cases hH)⟩

theorem newTab_look (seed : Int) (a : Nat) (key : List UInt8) : (newTab seed a).look key = none := by
  simp [Tab.look, Tab.ents, newTab, noPlaces_flat, en1, lookL]

theorem New_ok {seed : Int} {h : Hp} {K : Value → Hp → Prop}
    (hK : ∀ h' T a, h T = none → h a = none → T ≠ a → TabH h' T (newTab seed a) → Le h h' → K (.pointer (some ⟨T, 0, none⟩)) h') : CallH Try.prog 42 #[.int .u64 seed] h K := by
  apply F42_ok
  unfold F42
  refine empty_ok (s := 2) (by omega) fun h1 a ha hh1 l1 => ⟨_, _, _, _, rfl, ?_⟩
  intro T hT
  have hTa : T ≠ a := (ne_of_some_none hh1 hT).symm
  have hT0 : h T = none := by
    cases hx : h T with
    | none => rfl
    | some o => rw [l1 _ _ hx] at hT; cases hT
  refine hK _ T a hT0 ha hTa ⟨?_, ?_, fun H hH => by cases hH⟩ (l1.trans (Le.new _ hT))
  · rw [upd_same]; rfl
  · exact noPlacesH (by rw [upd_ne _ _ hTa.symm]; exact hh1)

end Go.Proofs.Ytckdkgphkjbbnaa.Hw

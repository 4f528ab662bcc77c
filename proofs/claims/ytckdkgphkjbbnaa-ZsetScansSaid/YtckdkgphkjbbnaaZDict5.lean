/- Tables: what a step, a new key, a new value leave. -/
import Derived.Test.YtckdkgphkjbbnaaZDict4
set_option linter.unusedVariables false
set_option linter.unusedSimpArgs false
namespace Go.Proofs.Ytckdkgphkjbbnaa.Hw
open Go.Proofs

theorem lookL_iff {key : List UInt8} {v : Value} {L : List Ent} (hn : (L.map (·.k)).Nodup) : lookL key L = some v ↔ ∃ e ∈ L, e.k = key ∧ e.v = v := by
  constructor
  · intro h
    induction L with
    | nil => cases h
    | cons e L ih =>
      simp only [List.map_cons, List.nodup_cons] at hn
      unfold lookL at h
      split at h
      · rename_i hk; injection h with h; exact ⟨e, by simp, hk, h⟩
      · obtain ⟨d, hd, h1⟩ := ih hn.2 h; exact ⟨d, by simp [hd], h1⟩
  · rintro ⟨e, he, hk, rfl⟩
    exact lookL_some he hk hn

theorem lookL_perm {key : List UInt8} {L M : List Ent} (hn : (L.map (·.k)).Nodup) (hp : L.Perm M) : lookL key L = lookL key M := by
  have hn' : (M.map (·.k)).Nodup := (hp.map _).nodup_iff.1 hn
  cases h : lookL key M with
  | none =>
    cases h2 : lookL key L with
    | none => rfl
    | some v =>
      obtain ⟨e, he, hk, hv⟩ := (lookL_iff hn).1 h2
      have := (lookL_iff hn').2 ⟨e, hp.mem_iff.1 he, hk, hv⟩
      rw [h] at this; cases this
  | some v =>
    obtain ⟨e, he, hk, hv⟩ := (lookL_iff hn').1 h
    exact (lookL_iff hn).2 ⟨e, hp.mem_iff.2 he, hk, hv⟩

theorem ok_L {t : Tab} {T : Nat} (ho : t.ok T) (h1 : t.h1.isSome = true) : ∃ L, t.h0.ch[t.moved]? = some L :=
  ⟨_, List.getElem?_eq_getElem (by rw [ho.k0.len]; exact ho.mv h1)⟩

theorem flat_nil {α : Type} {l : List (List α)} (h : ∀ i, i < l.length → l[i]? = some []) : l.flatten = [] := by
  rw [List.flatten_eq_nil_iff]
  intro x hx
  obtain ⟨i, hi⟩ := List.getElem?_of_mem hx
  have := h i (List.getElem?_eq_some_iff.1 hi).1
  rw [hi] at this
  injection this

theorem clear_nil {t : Tab} {T : Nat} (ho : t.ok T) (he : t.moved + 1 = 2 ^ t.h0.sz) : (t.h0.ch.set t.moved []).flatten = [] := by
  apply flat_nil
  intro i hi
  rw [List.getElem?_set]
  split
  · rename_i e; subst e
    rw [if_pos (by simpa using hi)]
  · simp only [List.length_set] at hi
    rw [ho.k0.len] at hi
    exact ho.gone i (by omega)

theorem step_ents {t : Tab} {T : Nat} (ho : t.ok T) : (t.step.ents).Perm t.ents := by
  cases h1 : t.h1 with
  | none => unfold Tab.step; rw [h1]
  | some H1 =>
    obtain ⟨L, hL⟩ := ok_L ho (by rw [h1]; rfl)
    have p1 := pushAll_ents (seed := t.seed) (M := L) (ho.k1 _ h1)
    have p0 := flat_clear_perm hL
    unfold Tab.step
    rw [h1, hL]
    simp only [Option.getD_some]
    split
    · rename_i he
      rw [clear_nil ho he, List.append_nil] at p0
      simp only [Tab.ents, h1, en1, List.append_nil]
      exact p1.trans (p0.symm.append_right _)
    · simp only [Tab.ents, h1, en1, Half.clear]
      refine (List.Perm.append_left _ p1).trans ?_
      rw [← List.append_assoc]
      refine List.Perm.append_right _ ?_
      exact List.perm_append_comm.trans p0.symm

theorem step_bs {t : Tab} {T : Nat} (ho : t.ok T) : (t.step.bs T).Nodup ∧ ∀ b ∈ t.step.bs T, b ∈ t.bs T := by
  cases h1 : t.h1 with
  | none => unfold Tab.step; rw [h1]; exact ⟨ho.bs, fun _ h => h⟩
  | some H1 =>
    obtain ⟨L, hL⟩ := ok_L ho (by rw [h1]; rfl)
    have p1 := pushAll_bs (seed := t.seed) (M := L) (ho.k1 _ h1)
    have p0 := Half.clear_bs hL
    have hbs := ho.bs
    unfold Tab.bs at hbs
    rw [h1] at hbs
    simp only [bs1] at hbs
    have p2 : (T :: (t.h0.bs ++ H1.bs)).Perm (T :: ((t.h0.clear t.moved).bs ++ (pushAll t.seed H1 L).bs)) := by
      refine List.Perm.cons _ ?_
      refine (List.Perm.append_right _ p0).trans ?_
      refine List.Perm.trans ?_ (List.Perm.append_left _ p1.symm)
      rw [← List.append_assoc]
      exact List.Perm.append_right _ List.perm_append_comm
    have hn2 := p2.nodup_iff.1 hbs
    have hm2 : ∀ b ∈ (T :: ((t.h0.clear t.moved).bs ++ (pushAll t.seed H1 L).bs)), b ∈ t.bs T := by
      intro b hb
      have := p2.mem_iff.2 hb
      unfold Tab.bs
      rw [h1]
      exact this
    unfold Tab.step
    rw [h1, hL]
    simp only [Option.getD_some]
    split
    · simp only [Tab.bs, bs1, List.append_nil]
      refine ⟨?_, fun b hb => hm2 b ?_⟩
      · simp only [List.nodup_cons, List.mem_append, not_or, List.nodup_append] at hn2 ⊢
        exact ⟨hn2.1.2, hn2.2.2.1⟩
      · rcases List.mem_cons.1 hb with h | h
        · simp [h]
        · simp [h]
    · exact ⟨hn2, hm2⟩

theorem step_seed (t : Tab) : t.step.seed = t.seed ∧ t.step.n = t.n := by
  unfold Tab.step
  split
  · exact ⟨rfl, rfl⟩
  · split <;> exact ⟨rfl, rfl⟩

theorem step_okk {t : Tab} {T : Nat} (ho : t.ok T) : t.step.ok T := by
  have pe := step_ents ho
  obtain ⟨b1, b2⟩ := step_bs ho
  obtain ⟨s1, s2⟩ := step_seed t
  have hk : (t.step.ents.map (·.k)).Nodup := (pe.map _).nodup_iff.2 ho.keys
  have hkl : ∀ e ∈ t.step.ents, keyOk e.k := fun e he => ho.klen e (pe.mem_iff.1 he)
  have hc : t.step.n = t.step.ents.length := by rw [s2, pe.length_eq, ho.cnt]
  have hb : t.step.n < 4611686018427387904 := by rw [s2]; exact ho.bnd
  cases h1 : t.h1 with
  | none =>
    have e : t.step = t := by unfold Tab.step; rw [h1]
    rw [e]; exact ho
  | some H1 =>
    obtain ⟨L, hL⟩ := ok_L ho (by rw [h1]; rfl)
    have q1 := pushAll_ok (seed := t.seed) (M := L) (ho.k1 _ h1)
    have e : t.step = if t.moved + 1 = 2 ^ t.h0.sz then { t with h0 := pushAll t.seed H1 L, h1 := none, moved := 0 } else { t with h0 := t.h0.clear t.moved, h1 := some (pushAll t.seed H1 L), moved := t.moved + 1 } := by
      unfold Tab.step; rw [h1, hL]; rfl
    have hmv := ho.mv (by rw [h1]; rfl)
    by_cases he : t.moved + 1 = 2 ^ t.h0.sz
    · rw [if_pos he] at e
      rw [e] at hk hkl hc hb b1 ⊢
      exact ⟨q1, (fun H hH => by cases hH), (fun hx => by simp at hx), fun _ => rfl, (fun i hi => by simp at hi), hk, hkl, hc, hb, b1, ho.sd, (fun H hH => by cases hH)⟩
    · rw [if_neg he] at e
      rw [e] at hk hkl hc hb b1 ⊢
      refine ⟨Half.clear_ok ho.k0 _, fun H hH => ?_, fun _ => ?_, (fun hx => by simp at hx), fun i hi => ?_, hk, hkl, hc, hb, b1, ho.sd, fun H hH => ?_⟩
      · injection hH with hH; subst hH; exact q1
      · show t.moved + 1 < 2 ^ t.h0.sz; omega
      · show (t.h0.ch.set t.moved [])[i]? = some []
        rw [List.getElem?_set]
        split
        · rename_i e; subst e; rw [if_pos (by rw [ho.k0.len]; exact hmv)]
        · have : i < t.moved + 1 := hi
          exact ho.gone i (by omega)
      · injection hH with hH
        subst hH
        obtain ⟨p1, p2⟩ := pushAll_sz (seed := t.seed) (M := L) (H := H1)
        rw [p1]
        exact ho.df _ h1

theorem step_look {t : Tab} {T : Nat} (ho : t.ok T) (key : List UInt8) : t.step.look key = t.look key :=
  lookL_perm ((step_ents ho |>.map _).nodup_iff.2 ho.keys) (step_ents ho)

/-! ### A value put over another -/

def setE (key : List UInt8) (v : Value) (e : Ent) : Ent := if e.k = key then { e with v := v } else e
def Half.setv (H : Half) (key : List UInt8) (v : Value) : Half := { H with ch := H.ch.map (·.map (setE key v)) }
def Tab.setv (t : Tab) (key : List UInt8) (v : Value) : Tab := { t with h0 := t.h0.setv key v, h1 := t.h1.map (·.setv key v) }

theorem setE_b (key : List UInt8) (v : Value) (e : Ent) : (setE key v e).b = e.b ∧ (setE key v e).k = e.k := by
  unfold setE; split <;> exact ⟨rfl, rfl⟩

theorem flatten_mm {α β : Type} (f : α → β) (l : List (List α)) : (l.map (·.map f)).flatten = l.flatten.map f := by simp [List.map_flatten]

theorem setv_flat (H : Half) (key : List UInt8) (v : Value) : (H.setv key v).ch.flatten = H.ch.flatten.map (setE key v) := by
  unfold Half.setv
  exact flatten_mm _ _

theorem setv_hbs (H : Half) (key : List UInt8) (v : Value) : (H.setv key v).bs = H.bs := by
  unfold Half.bs
  rw [setv_flat, List.map_map]
  show H.a :: _ = _
  congr 1
  apply List.map_congr_left
  intro e _
  exact (setE_b key v e).1

theorem setv_ents (t : Tab) (key : List UInt8) (v : Value) : (t.setv key v).ents = t.ents.map (setE key v) := by
  unfold Tab.ents Tab.setv
  rw [List.map_append]
  cases h : t.h1 with
  | none => simp [en1, setv_flat]
  | some H => simp [en1, setv_flat]

theorem setv_bs (t : Tab) (T : Nat) (key : List UInt8) (v : Value) : (t.setv key v).bs T = t.bs T := by
  unfold Tab.bs Tab.setv
  cases h : t.h1 with
  | none => simp [bs1, setv_hbs]
  | some H => simp [bs1, setv_hbs]

theorem setv_half_ok {seed : Int} {H : Half} (hH : H.ok seed) (key : List UInt8) (v : Value) : (H.setv key v).ok seed := by
  refine ⟨hH.lo, hH.hi, by simp [Half.setv, hH.len], fun i L hL e he => ?_⟩
  simp only [Half.setv, List.getElem?_map, Option.map_eq_some_iff] at hL
  obtain ⟨M, hM, rfl⟩ := hL
  obtain ⟨d, hd, rfl⟩ := List.mem_map.1 he
  rw [(setE_b key v d).2]
  exact hH.at_ i M hM d hd

theorem setv_okk {t : Tab} {T : Nat} (ho : t.ok T) (key : List UInt8) (v : Value) : (t.setv key v).ok T := by
  have ek : ((t.setv key v).ents.map (·.k)) = t.ents.map (·.k) := by
    rw [setv_ents, List.map_map]
    apply List.map_congr_left
    intro e _
    exact (setE_b key v e).2
  refine ⟨setv_half_ok ho.k0 key v, fun H hH => ?_, fun hx => ?_, fun hx => ?_, fun i hi => ?_, ?_, fun e he => ?_, ?_, ho.bnd, ?_, ho.sd, fun H hH => ?_⟩
  · simp only [Tab.setv, Option.map_eq_some_iff] at hH
    obtain ⟨H', hH', rfl⟩ := hH
    exact setv_half_ok (ho.k1 _ hH') key v
  · exact ho.mv (by simpa [Tab.setv] using hx)
  · exact ho.mv0 (by simpa [Tab.setv] using hx)
  · have := ho.gone i hi
    simp [Tab.setv, Half.setv, this]
  · rw [ek]; exact ho.keys
  · rw [setv_ents] at he
    obtain ⟨d, hd, rfl⟩ := List.mem_map.1 he
    rw [(setE_b key v d).2]
    exact ho.klen d hd
  · rw [setv_ents, List.length_map]; exact ho.cnt
  · rw [setv_bs]; exact ho.bs
  · simp only [Tab.setv, Option.map_eq_some_iff] at hH
    obtain ⟨H', hH', rfl⟩ := hH
    exact ho.df H' hH'

theorem setv_look {t : Tab} {T : Nat} (ho : t.ok T) {key : List UInt8} {v : Value} (hin : t.look key ≠ none) (k' : List UInt8) :
    (t.setv key v).look k' = if k' = key then some v else t.look k' := by
  unfold Tab.look
  rw [setv_ents]
  have gen : ∀ L : List Ent, lookL k' (L.map (setE key v)) = if k' = key then (lookL key L).map (fun _ => v) else lookL k' L := by
    intro L
    induction L with
    | nil => simp [lookL]
    | cons e L ih =>
      simp only [List.map_cons, lookL, (setE_b key v e).2, ih]
      by_cases hk : k' = key
      · subst hk
        by_cases he : e.k = k'
        · simp [he, setE]
        · simp [he]
      · by_cases he : e.k = k'
        · have : e.k ≠ key := fun x => hk (he ▸ x)
          simp [he, hk, setE, this]
        · simp [he, hk]
  rw [gen]
  split
  · unfold Tab.look at hin
    cases h : lookL key t.ents with
    | none => exact (hin h).elim
    | some u => rfl
  · rfl

theorem hd_map (key : List UInt8) (v : Value) (L : List Ent) : hd (L.map (setE key v)) = hd L := by
  cases L with
  | nil => rfl
  | cons e L => simp [hd, (setE_b key v e).1]

theorem ChainH.setv {h h' : Hp} {e0 : Ent} {v : Value} (hf : Fr [e0.b] h h') (he : h' e0.b = h' e0.b) : ∀ {L : List Ent}, ChainH h L →
    (∀ d ∈ L, d.b = e0.b → d.k = e0.k ∧ ∀ nx, h d.b = some (entOb d nx) → h' d.b = some (entOb { d with v := v } nx)) → (∀ d ∈ L, d.b ≠ e0.b → d.k ≠ e0.k) → ChainH h' (L.map (setE e0.k v)) := by
  intro L
  induction L with
  | nil => intro _ _ _; trivial
  | cons d L ih =>
    intro hc h1 h2
    refine ⟨?_, ih hc.2 (fun x hx => h1 x (by simp [hx])) (fun x hx => h2 x (by simp [hx]))⟩
    rw [(setE_b _ _ d).1, hd_map]
    by_cases hb : d.b = e0.b
    · obtain ⟨k1, k2⟩ := h1 d (by simp) hb
      rw [k2 _ hc.1]
      simp [setE, k1]
    · have := h2 d (by simp) hb
      rw [hf _ _ hc.1 (by simpa using hb)]
      simp [setE, this]

end Go.Proofs.Ytckdkgphkjbbnaa.Hw

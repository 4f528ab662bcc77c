/- Contracts of package dict: putting in front, moving a place. -/
import Derived.Test.YtckdkgphkjbbnaaZDict2
set_option linter.unusedVariables false
set_option linter.unusedSimpArgs false
namespace Go.Proofs.Ytckdkgphkjbbnaa.Hw
open Go.Proofs

/-! ### Lists -/

theorem set_split {α : Type} {l : List α} {i : Nat} {x : α} (h : l[i]? = some x) (y : α) : ∃ A B, l = A ++ x :: B ∧ A.length = i ∧ l.set i y = A ++ y :: B := by
  have hi : i < l.length := (List.getElem?_eq_some_iff.1 h).1
  have hx : l[i] = x := (List.getElem?_eq_some_iff.1 h).2
  refine ⟨l.take i, l.drop (i + 1), ?_, by simp; omega, ?_⟩
  · rw [← hx]; simp
  · rw [List.set_eq_take_append_cons_drop]
    simp [hi]

theorem flat_set_perm {α : Type} {l : List (List α)} {i : Nat} {L : List α} (h : l[i]? = some L) (e : α) : ((l.set i (e :: L)).flatten).Perm (e :: l.flatten) := by
  obtain ⟨A, B, h1, _, h2⟩ := set_split h (e :: L)
  rw [h2, h1]
  simp only [List.flatten_append, List.flatten_cons, List.cons_append]
  exact List.perm_middle

theorem flat_clear_perm {α : Type} {l : List (List α)} {i : Nat} {L : List α} (h : l[i]? = some L) : (l.flatten).Perm (L ++ (l.set i []).flatten) := by
  obtain ⟨A, B, h1, _, h2⟩ := set_split h []
  rw [h2, h1]
  simp only [List.flatten_append, List.flatten_cons, List.nil_append]
  rw [← List.append_assoc, ← List.append_assoc]
  exact List.Perm.append_right _ List.perm_append_comm

theorem mem_set_iff {α : Type} {l : List α} {i : Nat} {x y z : α} (h : l[i]? = some x) (hz : z ∈ l.set i y) : z = y ∨ z ∈ l := by
  rcases List.mem_or_eq_of_mem_set hz with h1 | h1
  · exact .inr h1
  · exact .inl h1

/-! ### Putting in front -/

noncomputable def Half.push (seed : Int) (H : Half) (e : Ent) : Half := { H with ch := H.ch.set (pl seed e.k H.sz) (e :: (H.ch[pl seed e.k H.sz]?.getD [])) }

noncomputable def Tab.push (t : Tab) (k : Nat) (e : Ent) : Tab := if k = 0 then { t with h0 := t.h0.push t.seed e } else { t with h1 := t.h1.map (·.push t.seed e) }

theorem Half.ok.get {seed : Int} {H : Half} (hH : H.ok seed) (key : List UInt8) : ∃ L, H.ch[pl seed key H.sz]? = some L :=
  ⟨_, List.getElem?_eq_getElem (by rw [hH.len]; exact pl_lt seed key hH.hi)⟩

theorem Half.push_eq {seed : Int} {H : Half} {e : Ent} {L : List Ent} (h : H.ch[pl seed e.k H.sz]? = some L) : H.push seed e = { H with ch := H.ch.set (pl seed e.k H.sz) (e :: L) } := by
  unfold Half.push; rw [h]; rfl

theorem Half.push_ok {seed : Int} {H : Half} (hH : H.ok seed) (e : Ent) : (H.push seed e).ok seed := by
  obtain ⟨L, hL⟩ := hH.get e.k
  rw [Half.push_eq hL]
  refine ⟨hH.lo, hH.hi, by simp [hH.len], fun i M hM d hd => ?_⟩
  simp only [List.getElem?_set] at hM
  split at hM
  · rename_i e1
    split at hM
    · injection hM with hM
      subst hM
      rcases List.mem_cons.1 hd with h1 | h1
      · rw [h1]; exact e1
      · rw [← e1]; exact hH.at_ _ L hL d h1
    · cases hM
  · exact hH.at_ i M hM d hd

theorem Half.push_bs {seed : Int} {H : Half} (hH : H.ok seed) (e : Ent) : ((H.push seed e).bs).Perm (e.b :: H.bs) := by
  obtain ⟨L, hL⟩ := hH.get e.k
  rw [Half.push_eq hL]
  unfold Half.bs
  have := (flat_set_perm hL e).map (·.b)
  simp only [List.map_cons] at this
  exact (List.Perm.cons _ this).trans (List.Perm.swap _ _ _)

theorem Half.push_ents {seed : Int} {H : Half} (hH : H.ok seed) (e : Ent) : ((H.push seed e).ch.flatten).Perm (e :: H.ch.flatten) := by
  obtain ⟨L, hL⟩ := hH.get e.k
  rw [Half.push_eq hL]
  exact flat_set_perm hL e

theorem Half.push_sz (seed : Int) (H : Half) (e : Ent) : (H.push seed e).sz = H.sz ∧ (H.push seed e).a = H.a := ⟨rfl, rfl⟩

theorem HalfH.push {h h' : Hp} {seed : Int} {H : Half} {e : Ent} {L : List Ent} (hH : HalfH h H) (hL : H.ch[pl seed e.k H.sz]? = some L) (hn : (e.b :: H.bs).Nodup)
    (hf : Fr [e.b, H.a] h h') (h1 : h' e.b = some (entOb e (hd L))) (h2 : h' H.a = some (ob ((H.ch.map fun L => Value.pointer (hd L)).set (pl seed e.k H.sz) (.pointer (some ⟨e.b, 0, none⟩))) 150)) :
    HalfH h' (H.push seed e) := by
  rw [Half.push_eq hL]
  have old : ∀ M ∈ H.ch, ChainH h' M := by
    intro M hM
    refine (hH.2 M hM).fr hf fun d hd => ?_
    have hm := mem_flat_b hM hd
    unfold Half.bs at hn
    simp only [List.nodup_cons, List.mem_cons, not_or] at hn
    simp only [List.mem_cons, List.not_mem_nil, or_false, not_or]
    exact ⟨fun x => hn.1.2 (x ▸ hm), fun x => hn.2.1 (x ▸ hm)⟩
  refine ⟨?_, fun M hM => ?_⟩
  · rw [h2]
    simp only [List.map_set]
    rfl
  · rcases mem_set_iff hL hM with e1 | e1
    · subst e1
      exact ⟨h1, old L (List.mem_of_getElem? hL)⟩
    · exact old M e1

theorem push_cells (t : Tab) (k : Nat) (e : Ent) : tabCells (t.push k e) = tabCells t := by
  unfold Tab.push
  split
  · rfl
  · cases h : t.h1 with
    | none => simp [tabCells, h, sz1, sl1]
    | some H => simp [tabCells, h, sz1, sl1, Half.push]

theorem Tab.push_half {t : Tab} {k : Nat} {H : Half} (hk : t.half k = some H) (e : Ent) :
    (k = 0 ∧ H = t.h0 ∧ t.push k e = { t with h0 := t.h0.push t.seed e }) ∨ (k = 1 ∧ t.h1 = some H ∧ t.push k e = { t with h1 := some (H.push t.seed e) }) := by
  unfold Tab.half at hk
  split at hk
  · rename_i h0; subst h0; injection hk with hk; exact .inl ⟨rfl, hk.symm, rfl⟩
  · split at hk
    · rename_i h1; subst h1; exact .inr ⟨rfl, hk, by simp [Tab.push, hk]⟩
    · cases hk

theorem TabH.push {h h' : Hp} {T : Nat} {t : Tab} {k : Nat} {H : Half} {e : Ent} {L : List Ent} (hT : TabH h T t) (hk : t.half k = some H) (hL : H.ch[pl t.seed e.k H.sz]? = some L) (hn : (e.b :: t.bs T).Nodup)
    (hf : Fr [e.b, H.a] h h') (h1 : h' e.b = some (entOb e (hd L))) (h2 : h' H.a = some (ob ((H.ch.map fun L => Value.pointer (hd L)).set (pl t.seed e.k H.sz) (.pointer (some ⟨e.b, 0, none⟩))) 150)) :
    TabH h' T (t.push k e) := by
  have hn0 := hn
  unfold Tab.bs at hn
  simp only [List.nodup_cons, List.mem_cons, List.mem_append, not_or, List.nodup_append] at hn
  obtain ⟨⟨n1, n2, n3⟩, ⟨n4, n5⟩, n6, n7, n8⟩ := hn
  rcases Tab.push_half hk e with ⟨rfl, rfl, he⟩ | ⟨rfl, h1s, he⟩
  · have ha : t.h0.a ∈ t.h0.bs := by simp [Half.bs]
    have hTn : T ∉ [e.b, t.h0.a] := by
      simp only [List.mem_cons, List.not_mem_nil, or_false, not_or]
      exact ⟨fun x => n1 x.symm, fun x => n4 (x ▸ ha)⟩
    refine ⟨?_, ?_, ?_⟩
    · rw [push_cells]; exact hf _ _ hT.1 hTn
    · rw [he]
      exact hT.2.1.push hL (by simp only [List.nodup_cons]; exact ⟨n2, n6⟩) hf h1 h2
    · rw [he]
      intro H1 hH1
      refine (hT.2.2 H1 hH1).fr hf fun b hb => ?_
      have hb1 : b ∈ bs1 t.h1 := by
        have : t.h1 = some H1 := hH1
        rw [this]; exact hb
      simp only [List.mem_cons, List.not_mem_nil, or_false, not_or]
      exact ⟨fun x => n3 (x ▸ hb1), fun x => n8 _ ha _ hb1 x.symm⟩
  · have ha : H.a ∈ bs1 t.h1 := by rw [h1s]; simp [bs1, Half.bs]
    have hTn : T ∉ [e.b, H.a] := by
      simp only [List.mem_cons, List.not_mem_nil, or_false, not_or]
      exact ⟨fun x => n1 x.symm, fun x => n5 (x ▸ ha)⟩
    refine ⟨?_, ?_, ?_⟩
    · rw [push_cells]; exact hf _ _ hT.1 hTn
    · rw [he]
      refine hT.2.1.fr hf fun b hb => ?_
      simp only [List.mem_cons, List.not_mem_nil, or_false, not_or]
      exact ⟨fun x => n2 (x ▸ hb), fun x => n8 _ hb _ ha x⟩
    · rw [he]
      intro H1 hH1
      injection hH1 with hH1
      subst hH1
      have n7' : H.bs.Nodup := by rw [h1s] at n7; exact n7
      have n3' : e.b ∉ H.bs := by rw [h1s] at n3; exact n3
      exact (hT.2.2 H h1s).push hL (by simp only [List.nodup_cons]; exact ⟨n3', n7'⟩) hf h1 h2

theorem front_ok {h : Hp} {T : Nat} {t : Tab} {k : Nat} {H : Half} {e : Ent} {nx : Option Addr} {K : Value → Hp → Prop} (hT : TabH h T t) (hk : t.half k = some H) (hH : H.ok t.seed)
    (hx : h e.b = some (entOb e nx)) (hn : (e.b :: t.bs T).Nodup) (hkey : keyOk e.k)
    (hK : ∀ h', TabH h' T (t.push k e) → Fr [e.b, H.a] h h' → K (.tuple #[]) h') : CallH Try.prog 77 #[.pointer (some ⟨T, 0, none⟩), .int .i64 k, .pointer (some ⟨e.b, 0, none⟩)] h K := by
  apply F77_ok
  unfold F77
  simp only [NN_some, add_mk]
  refine ⟨e.k, by rw [cell_mk hx]; rfl, ?_⟩
  refine slot_ok hT hk hH hkey ⟨_, rfl, ?_⟩
  obtain ⟨L, hL⟩ := hH.get e.k
  have hA := half_mem hT hk
  have hlt : pl t.seed e.k H.sz < H.ch.length := by rw [hH.len]; exact pl_lt _ _ hH.hi
  have hbA : e.b ≠ H.a := by
    have hm : H.a ∈ t.bs T := by
      unfold Tab.bs
      rcases Tab.push_half hk e with ⟨_, h0, _⟩ | ⟨_, h1s, _⟩
      · rw [h0]; simp [Half.bs]
      · rw [h1s]; simp [Half.bs, bs1]
    intro x
    simp only [List.nodup_cons] at hn
    exact hn.1 (x ▸ hm)
  simp only [NN_some, add_mk]
  refine ⟨hd L, by rw [cell_mk hA.1, List.getElem?_map, hL]; rfl, ?_⟩
  refine st1_mk hx (by simp) ?_
  have hA' : upd h e.b (ob ([.string ⟨e.k.toArray⟩, e.v, .pointer nx].set (0 + 2) (.pointer (hd L))) 152) H.a = some (ob (H.ch.map fun L => .pointer (hd L)) 150) := by
    rw [upd_ne _ _ hbA.symm]; exact hA.1
  refine st1_mk hA' (by simpa using hlt) ?_
  refine hK _ ?_ ?_
  · refine TabH.push hT hk hL hn ?_ ?_ (upd_same _ _ _)
    · exact (Fr.upd _ (by simp)).trans (Fr.upd _ (by simp))
    · rw [upd_ne _ _ hbA]
      exact upd_same _ _ _
  · exact (Fr.upd _ (by simp)).trans (Fr.upd _ (by simp))

end Go.Proofs.Ytckdkgphkjbbnaa.Hw

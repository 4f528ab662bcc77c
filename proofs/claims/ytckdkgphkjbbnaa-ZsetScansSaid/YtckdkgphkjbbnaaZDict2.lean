/- Contracts of package dict: reading, new tables, putting in front. -/
import Derived.Test.YtckdkgphkjbbnaaZDict
set_option linter.unusedVariables false
set_option linter.unusedSimpArgs false
namespace Go.Proofs.Ytckdkgphkjbbnaa.Hw
open Go.Proofs

/-! ### Frames -/

theorem ChainH.fr {h h' : Hp} {S : List Nat} (k : Fr S h h') : ∀ {L : List Ent}, ChainH h L → (∀ e ∈ L, e.b ∉ S) → ChainH h' L := by
  intro L
  induction L with
  | nil => intro _ _; trivial
  | cons e L ih => intro hc hn; exact ⟨k _ _ hc.1 (hn e (by simp)), ih hc.2 fun d hd => hn d (by simp [hd])⟩

theorem mem_flat_b {ch : List (List Ent)} {L : List Ent} {e : Ent} (hL : L ∈ ch) (he : e ∈ L) : e.b ∈ ch.flatten.map (·.b) :=
  List.mem_map.2 ⟨e, List.mem_flatten.2 ⟨L, hL, he⟩, rfl⟩

theorem HalfH.fr {h h' : Hp} {S : List Nat} {H : Half} (k : Fr S h h') (hH : HalfH h H) (hn : ∀ b ∈ H.bs, b ∉ S) : HalfH h' H := by
  refine ⟨k _ _ hH.1 (hn _ (by simp [Half.bs])), fun L hL => (hH.2 L hL).fr k fun e he => hn _ ?_⟩
  unfold Half.bs
  exact List.mem_cons_of_mem _ (mem_flat_b hL he)

theorem TabH.fr {h h' : Hp} {S : List Nat} {T : Nat} {t : Tab} (k : Fr S h h') (hT : TabH h T t) (hn : ∀ b ∈ t.bs T, b ∉ S) : TabH h' T t := by
  refine ⟨k _ _ hT.1 (hn _ (by simp [Tab.bs])), hT.2.1.fr k fun b hb => hn b (by simp [Tab.bs, hb]), fun H hH => (hT.2.2 H hH).fr k fun b hb => hn b ?_⟩
  simp [Tab.bs, hH, bs1, hb]

theorem TabH.le {h h' : Hp} {T : Nat} {t : Tab} (k : Le h h') (hT : TabH h T t) : TabH h' T t := hT.fr (k.fr []) (by simp)

theorem ChainH.dom {h : Hp} : ∀ {L : List Ent}, ChainH h L → ∀ e ∈ L, ∃ o, h e.b = some o := by
  intro L
  induction L with
  | nil => intro _ e he; cases he
  | cons d L ih =>
    intro hc e he
    rcases List.mem_cons.1 he with h1 | h1
    · subst h1; exact ⟨_, hc.1⟩
    · exact ih hc.2 e h1

theorem HalfH.dom {h : Hp} {H : Half} (hH : HalfH h H) : ∀ b ∈ H.bs, ∃ o, h b = some o := by
  intro b hb
  unfold Half.bs at hb
  rcases List.mem_cons.1 hb with h1 | h1
  · subst h1; exact ⟨_, hH.1⟩
  · obtain ⟨e, he, rfl⟩ := List.mem_map.1 h1
    obtain ⟨L, hL, he⟩ := List.mem_flatten.1 he
    exact (hH.2 L hL).dom e he

theorem TabH.dom {h : Hp} {T : Nat} {t : Tab} (hT : TabH h T t) : ∀ b ∈ t.bs T, ∃ o, h b = some o := by
  intro b hb
  unfold Tab.bs at hb
  rcases List.mem_cons.1 hb with h1 | h1
  · subst h1; exact ⟨_, hT.1⟩
  · rcases List.mem_append.1 h1 with h2 | h2
    · exact hT.2.1.dom b h2
    · cases h3 : t.h1 with
      | none => rw [h3] at h2; cases h2
      | some H => rw [h3] at h2; exact (hT.2.2 H h3).dom b h2

theorem TabH.fresh {h : Hp} {T : Nat} {t : Tab} (hT : TabH h T t) {b : Nat} (hb : h b = none) : b ∉ t.bs T := by
  intro hm
  obtain ⟨o, ho⟩ := hT.dom b hm
  rw [hb] at ho
  cases ho

/-! ### Reading -/

theorem ready_ok {h : Hp} {T : Nat} {t : Tab} {K : Value → Hp → Prop} (hT : TabH h T t) (hK : K (.bool true) h) : CallH Try.prog 75 #[.pointer (some ⟨T, 0, none⟩)] h K := by
  apply F75_ok
  unfold F75
  intro K1 hK1 J1 hJ1
  refine ⟨fun _ => ?_, fun hx => by simp at hx⟩
  have c := tab_sl (k := 0) hT.1 rfl
  simp only [NN_some, add_mk]
  refine ⟨by omega, by omega, _, _, _, c, ?_⟩
  refine hJ1 _ _ fun _ => ⟨fun hx => by simp at hx, fun _ => ?_⟩
  exact hK1 _ fun _ => hK

theorem ready_nil {h : Hp} {K : Value → Hp → Prop} (hK : K (.bool false) h) : CallH Try.prog 75 #[.pointer none] h K := by
  apply F75_ok
  unfold F75
  intro K1 hK1 J1 hJ1
  refine ⟨fun hx => by simp at hx, fun _ => ?_⟩
  refine hJ1 _ _ fun _ => ⟨fun hx => by simp at hx, fun _ => ?_⟩
  exact hK1 _ fun _ => hK

theorem Size_ok {h : Hp} {T : Nat} {t : Tab} {K : Value → Hp → Prop} (hT : TabH h T t) (hK : K (.int .i64 t.h0.sz) h) : CallH Try.prog 101 #[.pointer (some ⟨T, 0, none⟩)] h K := by
  apply F101_ok
  unfold F101
  refine ready_ok hT ⟨_, rfl, fun hx => by simp at hx, fun _ => ?_⟩
  have c := tab_sz (k := 0) hT.1 rfl
  simp only [NN_some, add_mk]
  exact ⟨by omega, by omega, _, c, hK⟩

theorem Toward_ok {h : Hp} {T : Nat} {t : Tab} {K : Value → Hp → Prop} (hT : TabH h T t) (hK : K (.int .i64 (match t.h1 with | none => -1 | some H => H.sz)) h) : CallH Try.prog 102 #[.pointer (some ⟨T, 0, none⟩)] h K := by
  apply F102_ok
  unfold F102
  intro J1 hJ1
  refine ⟨fun hx => by simp at hx, fun _ => ?_⟩
  simp only [NN_some, add_mk]
  refine ⟨t.h1.isSome, by rw [cell_mk hT.1]; simp [tabCells], ?_⟩
  refine hJ1 _ _ fun _ => ⟨fun hx => ?_, fun hx => ?_⟩
  · cases h1 : t.h1 with
    | none => rw [h1] at hK; exact hK
    | some H => rw [h1] at hx; simp at hx
  · cases h1 : t.h1 with
    | none => rw [h1] at hx; simp at hx
    | some H =>
      rw [h1] at hK
      have c := tab_sz (k := 1) hT.1 h1
      simp only [NN_some, add_mk]
      exact ⟨by omega, by omega, _, c, hK⟩

theorem Len_ok {h : Hp} {T : Nat} {t : Tab} {K : Value → Hp → Prop} (hT : TabH h T t) (hK : K (.int .i64 t.n) h) : CallH Try.prog 52 #[.pointer (some ⟨T, 0, none⟩)] h K := by
  apply F52_ok
  unfold F52
  refine ⟨fun hx => by simp at hx, fun _ => ?_⟩
  simp only [NN_some, add_mk]
  exact ⟨(t.n : Int), by rw [cell_mk hT.1]; simp [tabCells], hK⟩

/-- A key's value. -/
def lookL (key : List UInt8) : List Ent → Option Value
  | [] => none
  | e :: L => if e.k = key then some e.v else lookL key L

def Tab.look (t : Tab) (key : List UInt8) : Option Value := lookL key t.ents

theorem lookL_none {key : List UInt8} : ∀ {L : List Ent}, (∀ d ∈ L, d.k ≠ key) → lookL key L = none := by
  intro L
  induction L with
  | nil => intro _; rfl
  | cons e L ih => intro hn; simp [lookL, hn e (by simp), ih fun d hd => hn d (by simp [hd])]

theorem lookL_some {key : List UInt8} {e : Ent} : ∀ {L : List Ent}, e ∈ L → e.k = key → (L.map (·.k)).Nodup → lookL key L = some e.v := by
  intro L
  induction L with
  | nil => intro h; cases h
  | cons d L ih =>
    intro he hk hn
    simp only [List.map_cons, List.nodup_cons] at hn
    rcases List.mem_cons.1 he with h1 | h1
    · subst h1; simp [lookL, hk]
    · have : d.k ≠ key := by
        intro h2
        exact hn.1 (List.mem_map.2 ⟨e, h1, by rw [hk, h2]⟩)
      simp [lookL, this, ih h1 hk hn.2]

theorem mem_ents {t : Tab} {k : Nat} {H : Half} (hk : t.half k = some H) {L : List Ent} (hL : L ∈ H.ch) {e : Ent} (he : e ∈ L) : e ∈ t.ents := by
  unfold Tab.ents
  unfold Tab.half at hk
  split at hk
  · injection hk with hk; subst hk
    exact List.mem_append.2 (.inl (List.mem_flatten.2 ⟨L, hL, he⟩))
  · split at hk
    · rw [hk]; exact List.mem_append.2 (.inr (List.mem_flatten.2 ⟨L, hL, he⟩))
    · cases hk

theorem ents_mem {t : Tab} {e : Ent} (he : e ∈ t.ents) : ∃ k H L, t.half k = some H ∧ L ∈ H.ch ∧ e ∈ L := by
  unfold Tab.ents at he
  rcases List.mem_append.1 he with h1 | h1
  · obtain ⟨L, hL, h2⟩ := List.mem_flatten.1 h1
    exact ⟨0, _, L, rfl, hL, h2⟩
  · cases h3 : t.h1 with
    | none => rw [h3] at h1; cases h1
    | some H =>
      rw [h3] at h1
      obtain ⟨L, hL, h2⟩ := List.mem_flatten.1 h1
      exact ⟨1, H, L, h3, hL, h2⟩

theorem Found.look {t : Tab} {T : Nat} {key : List UInt8} {a : Option Addr} (ho : t.ok T) (hf : Found t key a) :
    (a = none ∧ t.look key = none) ∨ ∃ e ∈ t.ents, e.k = key ∧ a.isSome = true ∧ t.look key = some e.v := by
  cases hf with
  | at_ k H L e M hk hi he hL =>
    have hm : e ∈ t.ents := mem_ents hk (List.mem_of_getElem? hi) (by simp)
    exact .inr ⟨e, hm, he, rfl, lookL_some hm he ho.keys⟩
  | no hn =>
    refine .inl ⟨rfl, lookL_none fun d hd hdk => ?_⟩
    obtain ⟨k, H, L, hk, hL, he⟩ := ents_mem hd
    obtain ⟨i, hi⟩ := List.getElem?_of_mem hL
    have := (half_ok ho hk).at_ i L hi d he
    rw [hdk] at this
    rw [← this] at hi
    exact hn k H hk L hi d he hdk

theorem Found.val {h : Hp} {T : Nat} {t : Tab} {key : List UInt8} {p : Addr} (hT : TabH h T t) (ho : t.ok T) (hf : Found t key (some p)) :
    ∃ e ∈ t.ents, e.k = key ∧ t.look key = some e.v ∧ (∃ nx, h e.b = some (entOb e nx)) ∧ cell h p = some (.pointer (some ⟨e.b, 0, none⟩)) := by
  cases hf with
  | at_ k H L e M hk hi he hL =>
    have hm : e ∈ t.ents := mem_ents hk (List.mem_of_getElem? hi) (by simp)
    exact ⟨e, hm, he, lookL_some hm he ho.keys, ⟨_, ChainH.at_ ((half_mem hT hk).2 _ (List.mem_of_getElem? hi))⟩, atOf_cell (half_mem hT hk) hi⟩

theorem look_zero {t : Tab} {T : Nat} (ho : t.ok T) (hn : t.n = 0) (key : List UInt8) : t.look key = none := by
  have := ho.cnt
  rw [hn] at this
  have : t.ents = [] := List.length_eq_zero_iff.1 this.symm
  unfold Tab.look
  rw [this]
  rfl

/-- What is told of a key: its value, or the zero one. -/
theorem Get_ok {h : Hp} {T : Nat} {t : Tab} {key : List UInt8} {K : Value → Hp → Prop} (hT : TabH h T t) (ho : t.ok T) (hkey : keyOk key)
    (hv : ∀ e ∈ t.ents, ∃ n : Int, e.v = .int .i64 n)
    (hK : ∀ h', Le h h' → K (match t.look key with | some v => .tuple #[v, .bool true] | none => .tuple #[.int .i64 0, .bool false]) h') :
    CallH Try.prog 45 #[.pointer (some ⟨T, 0, none⟩), .string ⟨key.toArray⟩] h K := by
  apply F45_ok
  unfold F45
  intro K1 hK1 J1 hJ1
  have none_ : t.look key = none → K1 [] h := by
    intro hn
    refine hK1 _ fun _ => ?_
    intro b hb
    refine ⟨0, by rw [cell_mk (cs := [.int .i64 0]) (upd_same _ _ _)]; rfl, ?_⟩
    have := hK _ (Le.new (ob [.int .i64 0] 2) hb)
    rw [hn] at this
    exact this
  refine ⟨fun _ => ?_, fun hx => by simp at hx⟩
  simp only [NN_some, add_mk]
  refine ⟨(t.n : Int), by rw [cell_mk hT.1]; simp [tabCells], ?_⟩
  refine hJ1 _ _ fun _ => ⟨fun _ => ?_, fun hx => ?_⟩
  · refine find_ok hT ho hkey fun a ha => ⟨_, rfl, fun hs => ?_, fun hs => ?_⟩
    · cases a with
      | none => simp at hs
      | some p =>
        obtain ⟨e, hm, he, hl, ⟨nx, hb⟩, hc⟩ := ha.val hT ho
        obtain ⟨n, hn⟩ := hv e hm
        simp only [NN_some, add_mk]
        refine ⟨_, hc, ?_⟩
        simp only [NN_some, add_mk]
        refine ⟨n, by rw [cell_mk hb]; simp [hn], ?_⟩
        have := hK _ (Le.refl h)
        rw [hl, hn] at this
        exact this
    · rcases ha.look ho with ⟨_, hl⟩ | ⟨e, _, _, hs', _⟩
      · exact none_ hl
      · cases a <;> simp at hs hs'
  · have : t.n = 0 := by
      simp at hx
      omega
    exact none_ (look_zero ho this key)

end Go.Proofs.Ytckdkgphkjbbnaa.Hw

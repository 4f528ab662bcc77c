/- Contracts of package zset: what a set is in memory; New, ready, Len, Score, Put. -/
import Derived.Test.YtckdkgphkjbbnaaZPr
set_option linter.unusedVariables false
set_option linter.unusedSimpArgs false
namespace Go.Proofs.Ytckdkgphkjbbnaa.Hw
open Go.Proofs

theorem SkH.fr {h h' : Hp} {S : List Nat} {L : Nat} {s : Sk} (hS : SkH h L s) (k : Fr S h h') (hn : ∀ b ∈ s.bs L, b ∉ S) : SkH h' L s :=
  ⟨k _ _ hS.1 (hn _ (by simp [Sk.bs])), fun p d hd => by
    obtain ⟨n1, cs, n2, n3, n4⟩ := hS.2 p d hd
    have := mem_bs (s := s) (L := L) hd
    exact ⟨k _ _ n1 (hn _ this.1), cs, k _ _ n2 (hn _ this.2), n3, n4⟩⟩

theorem ok_len {s : Sk} {L : Nat} (ho : s.ok L) : s.ns.length = s.n + 1 := by
  have : s.ns.length ≠ 0 := by
    intro h0
    have := ho.head
    rw [List.length_eq_zero_iff.1 h0] at this
    simp [htOf] at this
  unfold Sk.n; omega

theorem prs_get (s : Sk) (i : Nat) : s.prs[i]? = (s.ns[i + 1]?).map (·.x) := by
  simp only [Sk.prs, List.getElem?_map, List.getElem?_drop]
  rw [Nat.add_comm]

theorem prs_ins {seed : Int} {ns : List Nd} {m : Nat} {nd : Nd} (hm : m < ns.length) : Sk.prs ⟨seed, insN ns m nd⟩ = (Sk.prs ⟨seed, ns⟩).take m ++ nd.x :: (Sk.prs ⟨seed, ns⟩).drop m := by
  unfold Sk.prs insN
  cases ns with
  | nil => simp at hm
  | cons a ns => simp [List.map_take, List.map_drop]

theorem ahead_pos {s : Sk} (hs : Srt s.prs) (x : Pr) : ∀ p d, s.ns[p]? = some d → 0 < p → (prLess d.x x = true ↔ p ≤ nAhead x s.prs) := by
  intro p d hd hp
  obtain ⟨q, rfl⟩ : ∃ q, p = q + 1 := ⟨p - 1, by omega⟩
  rw [nAhead_at hs (prs_at hd)]
  omega

theorem hasAt_prs (s : Sk) (m : Nat) (x : Pr) : hasAt s.ns m x = true ↔ s.prs[m]? = some x := by
  unfold hasAt
  rw [prs_get]
  cases s.ns[m + 1]? with
  | none => simp
  | some d =>
    simp only [Option.map_some, Option.some.injEq, Bool.and_eq_true, beq_iff_eq]
    constructor
    · rintro ⟨h1, h2⟩; cases hx : d.x; cases x; simp_all
    · intro h; rw [h]; exact ⟨rfl, rfl⟩

theorem hasAt_mem {s : Sk} {x : Pr} (hs : Srt s.prs) : hasAt s.ns (nAhead x s.prs) x = true ↔ x ∈ s.prs := by
  rw [hasAt_prs]
  exact ⟨mem_at, srt_at hs⟩

theorem ins_ok {L : Nat} {seed : Int} {ns : List Nd} {m : Nat} {nd : Nd} (hm : m < ns.length) (ho : Sk.ok ⟨seed, ns⟩ L) (h1 : 1 ≤ nd.ht) (h2 : nd.ht ≤ 16) (hk : keyOk nd.x.m) (hb : ns.length + 1 < 4611686018427387904)
    (n1 : nd.b ∉ Sk.bs ⟨seed, ns⟩ L) (n2 : nd.lb ∉ Sk.bs ⟨seed, ns⟩ L) (n3 : nd.b ≠ nd.lb) : Sk.ok ⟨seed, insN ns m nd⟩ L := by
  have hperm : List.Perm (insN ns m nd) (nd :: ns) := by
    unfold insN
    refine List.perm_middle.trans ?_
    rw [List.take_append_drop]
  have hp : List.Perm (ndB (insN ns m nd)) ([nd.b, nd.lb] ++ ndB ns) := List.Perm.flatMap_right _ hperm
  refine ⟨?_, fun d hd => ?_, ?_, ?_, fun d hd => ?_, ho.sd⟩
  · rw [htI_lo hm (Nat.zero_le m)]; exact ho.head
  · rcases List.mem_cons.1 (hperm.mem_iff.1 hd) with h | h
    · rw [h]; exact ⟨h1, h2⟩
    · exact ho.hts d h
  · unfold Sk.bs
    rw [(List.Perm.cons L hp).nodup_iff]
    have hb := ho.bs
    unfold Sk.bs at hb n1 n2
    simp only [List.nodup_cons, List.mem_append, List.mem_cons, List.not_mem_nil, or_false, List.cons_append, List.nil_append, not_or] at *
    exact ⟨⟨fun e => n1.1 e.symm, fun e => n2.1 e.symm, hb.1⟩, ⟨n3, n1.2⟩, n2.2, hb.2⟩
  · rw [hperm.length_eq]; simpa using hb
  · rcases List.mem_cons.1 (hperm.mem_iff.1 hd) with h | h
    · rw [h]; exact hk
    · exact ho.keys d h

theorem ins_bs {L : Nat} {seed : Int} {ns : List Nd} {m : Nat} {nd : Nd} : ∀ b ∈ Sk.bs ⟨seed, insN ns m nd⟩ L, b ∈ Sk.bs ⟨seed, ns⟩ L ∨ b = nd.b ∨ b = nd.lb := by
  intro b hb
  have hperm : List.Perm (insN ns m nd) (nd :: ns) := by
    unfold insN
    refine List.perm_middle.trans ?_
    rw [List.take_append_drop]
  have hp : List.Perm (ndB (insN ns m nd)) ([nd.b, nd.lb] ++ ndB ns) := List.Perm.flatMap_right _ hperm
  unfold Sk.bs at *
  rcases List.mem_cons.1 hb with h | h
  · exact .inl (by rw [h]; exact List.mem_cons_self)
  · have := hp.mem_iff.1 h
    simp only [List.mem_append, List.mem_cons, List.not_mem_nil, or_false] at this ⊢
    rcases this with (h1 | h1) | h1
    · exact .inr (.inl h1)
    · exact .inr (.inr h1)
    · exact .inl (.inr h1)

theorem del_bs {L : Nat} {seed : Int} {ns : List Nd} {m : Nat} {nd : Nd} : ∀ b ∈ Sk.bs ⟨seed, ns⟩ L, b ∈ Sk.bs ⟨seed, insN ns m nd⟩ L := by
  intro b hb
  have hperm : List.Perm (insN ns m nd) (nd :: ns) := by
    unfold insN
    refine List.perm_middle.trans ?_
    rw [List.take_append_drop]
  have hp : List.Perm (ndB (insN ns m nd)) ([nd.b, nd.lb] ++ ndB ns) := List.Perm.flatMap_right _ hperm
  unfold Sk.bs at *
  rcases List.mem_cons.1 hb with h | h
  · rw [h]; exact List.mem_cons_self
  · exact List.mem_cons_of_mem _ (hp.mem_iff.2 (List.mem_append_right _ h))

/-- A list's put, whatever was there; the pair is not. -/
theorem SPut_ok {h : Hp} {L : Nat} {s : Sk} {x : Pr} {K : Value → Hp → Prop} (hS : SkH h L s) (ho : s.ok L) (hs : Srt s.prs) (hx : keyOk x.m) (hb : s.n + 2 < 4611686018427387904) (hno : x ∉ s.prs)
    (hK : ∀ h' s', SkH h' L s' → s'.ok L → s'.seed = s.seed → s'.prs = insP x s.prs → Fr (s.bs L) h h' → (∀ b ∈ s'.bs L, b ∈ s.bs L ∨ h b = none) → K (.bool true) h') :
    CallH Try.prog 47 #[.pointer (some ⟨L, 0, none⟩), .agg #[.string ⟨x.m.toArray⟩, .int .i64 x.s]] h K := by
  have hl := ok_len ho
  have hle := nAhead_le x s.prs
  rw [prs_len] at hle
  have hm : nAhead x s.prs < s.ns.length := by omega
  refine Put_sk hS ho hm hx (by omega) (ahead_pos hs x) (fun hh => (hno ((hasAt_mem hs).1 hh)).elim) fun _ h' nd n1 n2 n3 n4 n5 n6 hS' f => ?_
  refine hK h' _ hS' ?_ rfl ?_ f fun b hb => ?_
  · exact ins_ok (seed := s.seed) hm ho n2 n3 (by rw [n1]; exact hx) (by omega) (hS.fresh n4) (hS.fresh n5) n6
  · rw [prs_ins (seed := s.seed) hm, n1, insP_eq]
  · rcases ins_bs b hb with h1 | h1 | h1
    · exact .inl h1
    · rw [h1]; exact .inr n4
    · rw [h1]; exact .inr n5

/-- A list's drop of a pair that is there. -/
theorem SDrop_ok {h : Hp} {L : Nat} {s : Sk} {k : List UInt8} {sc : Int} {K : Value → Hp → Prop} (hS : SkH h L s) (ho : s.ok L) (hs : Srt s.prs) (hn : Nm s.prs) (hl : lookP k s.prs = some sc)
    (hK : ∀ h' s', SkH h' L s' → s'.ok L → s'.seed = s.seed → s'.prs = outP k s.prs → Fr (s.bs L) h h' → (∀ b ∈ s'.bs L, b ∈ s.bs L) → K (.bool true) h') :
    CallH Try.prog 46 #[.pointer (some ⟨L, 0, none⟩), .agg #[.string ⟨k.toArray⟩, .int .i64 sc]] h K := by
  have hlen := ok_len ho
  have hat := srt_at hs (lookP_some hl)
  have hcut := outP_cut hs hn hl
  have hp := ahead_pos hs (⟨k, sc⟩ : Pr)
  generalize nAhead ⟨k, sc⟩ s.prs = m at *
  have hmn : m < s.prs.length := (List.getElem?_eq_some_iff.1 hat).1
  rw [prs_len] at hmn
  rw [prs_get, Option.map_eq_some_iff] at hat
  obtain ⟨nd, hnd, hx⟩ := hat
  obtain ⟨ns, hns⟩ : ∃ ns, ns = s.ns.take (m + 1) ++ s.ns.drop (m + 2) := ⟨_, rfl⟩
  have hnl : m < ns.length := by rw [hns]; simp; omega
  have hins : s.ns = insN ns m nd := by
    have e1 : ns.take (m + 1) = s.ns.take (m + 1) := by
      rw [hns, List.take_append_of_le_length (by simp; omega), List.take_take, Nat.min_self]
    have e2 : ns.drop (m + 1) = s.ns.drop (m + 2) := by
      rw [hns]
      rw [List.drop_append, List.drop_eq_nil_of_le (by simp; omega)]
      have : m + 1 - (s.ns.take (m + 1)).length = 0 := by simp; omega
      rw [this]; simp
    unfold insN
    rw [e1, e2]
    obtain ⟨hlt, e⟩ := List.getElem?_eq_some_iff.1 hnd
    conv => lhs; rw [← List.take_append_drop (m + 1) s.ns, List.drop_eq_getElem_cons hlt, e]
  obtain ⟨seed, ns0⟩ := s
  simp only at hins
  subst hins
  have hprs : Sk.prs ⟨seed, ns⟩ = outP k (Sk.prs ⟨seed, insN ns m nd⟩) := by
    rw [hcut.2, prs_ins hnl]
    have hlp : m ≤ (Sk.prs ⟨seed, ns⟩).length := by simp [Sk.prs]; omega
    rw [List.take_append_of_le_length (by simp; omega), List.take_take, Nat.min_self]
    rw [List.drop_append, List.drop_eq_nil_of_le (by simp; omega)]
    have : m + 1 - (List.take m (Sk.prs ⟨seed, ns⟩)).length = 1 := by simp; omega
    rw [this]
    simp
  have hd := del_ok hnl ho
  exact Drop_sk (x := ⟨k, sc⟩) hnl hS ho hx hp fun h' hS' f => hK h' ⟨seed, ns⟩ hS' hd.1 rfl hprs (f.mono fun b hb => .inl (del_bs b hb)) fun b hb => del_bs b hb

/-! ### Sets -/

structure Zs where
  T : Nat
  t : Tab
  L : Nat
  s : Sk

def Zs.l (z : Zs) : List Pr := z.s.prs
def Zs.bs (z : Zs) (S : Nat) : List Nat := S :: (z.t.bs z.T ++ z.s.bs z.L)

structure ZH (h : Hp) (S : Nat) (z : Zs) : Prop where
  top : h S = some (ob [.pointer (some ⟨z.T, 0, none⟩), .pointer (some ⟨z.L, 0, none⟩)] 102)
  tab : TabH h z.T z.t
  sk : SkH h z.L z.s

structure Zs.ok (z : Zs) (S : Nat) : Prop where
  t : z.t.ok z.T
  s : z.s.ok z.L
  bs : (z.bs S).Nodup
  srt : Srt z.l
  nm : Nm z.l
  look : ∀ k, z.t.look k = (lookP k z.l).map (.int .i64 ·)
  cnt : z.t.n = z.l.length

theorem ZH.fr {h h' : Hp} {F : List Nat} {S : Nat} {z : Zs} (hz : ZH h S z) (k : Fr F h h') (hn : ∀ b ∈ z.bs S, b ∉ F) : ZH h' S z := by
  unfold Zs.bs at hn
  refine ⟨k _ _ hz.top (hn _ (by simp)), hz.tab.fr k fun b hb => hn _ (by simp [hb]), hz.sk.fr k fun b hb => hn _ (by simp [hb])⟩

theorem ZH.le {h h' : Hp} {S : Nat} {z : Zs} (hz : ZH h S z) (k : Le h h') : ZH h' S z := hz.fr (k.fr []) (by simp)

theorem ZH.dom {h : Hp} {S : Nat} {z : Zs} (hz : ZH h S z) : ∀ b ∈ z.bs S, ∃ o, h b = some o := by
  intro b hb
  unfold Zs.bs at hb
  simp only [List.mem_cons, List.mem_append] at hb
  rcases hb with h1 | h1 | h1
  · subst h1; exact ⟨_, hz.top⟩
  · exact hz.tab.dom b h1
  · exact hz.sk.dom b h1

theorem ZH.fresh {h : Hp} {S : Nat} {z : Zs} (hz : ZH h S z) {b : Nat} (hb : h b = none) : b ∉ z.bs S := by
  intro hm
  obtain ⟨o, ho⟩ := hz.dom b hm
  rw [hb] at ho; cases ho

theorem Zs.disj {z : Zs} {S : Nat} (ho : z.ok S) : S ∉ z.t.bs z.T ∧ S ∉ z.s.bs z.L ∧ ∀ b ∈ z.t.bs z.T, b ∉ z.s.bs z.L := by
  have hb := ho.bs
  unfold Zs.bs at hb
  simp only [List.nodup_cons, List.mem_append, not_or, List.nodup_append] at hb
  exact ⟨hb.1.1, hb.1.2, fun b h1 h2 => hb.2.2.2 b h1 b h2 rfl⟩

theorem Zs.ok.vals {z : Zs} {S : Nat} (ho : z.ok S) : ∀ e ∈ z.t.ents, ∃ n : Int, e.v = .int .i64 n := by
  intro e he
  have h1 : z.t.look e.k = some e.v := lookL_some he rfl ho.t.keys
  rw [ho.look, Option.map_eq_some_iff] at h1
  obtain ⟨n, _, hn⟩ := h1
  exact ⟨n, hn.symm⟩

theorem zready_ok {h : Hp} {S : Nat} {z : Zs} {K : Value → Hp → Prop} (hz : ZH h S z) (hK : K (.bool true) h) : CallH Try.prog 44 #[.pointer (some ⟨S, 0, none⟩)] h K := by
  apply F44_ok
  unfold F44
  intro K1 hK1 J1 hJ1
  refine ⟨fun _ => ?_, fun hx => by simp at hx⟩
  simp only [NN_some, add_mk]
  refine ⟨_, by rw [cell_mk hz.top]; rfl, hJ1 _ _ fun _ => ⟨(fun hx => by simp at hx), fun _ => hK1 _ fun _ => hK⟩⟩

theorem zready_nil {h : Hp} {K : Value → Hp → Prop} (hK : K (.bool false) h) : CallH Try.prog 44 #[.pointer none] h K := by
  apply F44_ok
  unfold F44
  intro K1 hK1 J1 hJ1
  refine ⟨fun hx => by simp at hx, fun _ => ?_⟩
  refine hJ1 _ _ fun _ => ⟨(fun hx => by cases hx), fun _ => hK1 _ fun _ => hK⟩

def newZs (seed : Int) (T a L b lb : Nat) : Zs := ⟨T, newTab seed a, L, newSk seed b lb⟩

theorem zNew_ok {seed : Int} {h : Hp} {K : Value → Hp → Prop} (hs : 0 ≤ seed ∧ seed < 18446744073709551616)
    (hK : ∀ h' S z, ZH h' S z → z.ok S → z.l = [] → Le h h' → (∀ b ∈ z.bs S, h b = none) → K (.pointer (some ⟨S, 0, none⟩)) h') : CallH Try.prog 23 #[.int .u64 seed] h K := by
  apply F23_ok
  unfold F23
  refine New_ok fun h1 T a hT ha hTa hTab l1 => ⟨_, rfl, New_sk fun h2 L b lb hL hb hlb c1 c2 c3 hSk l2 => ⟨_, rfl, new_mk fun S h3 hS e3 l3 _ => ?_⟩⟩
  have tabb : (newTab seed a).bs T = [T, a] := by simp [Tab.bs, newTab, noPlaces_bs, bs1]
  have skb : (newSk seed b lb).bs L = [L, b, lb] := by simp [Sk.bs, newSk, ndB]
  have d1 : ∀ x ∈ [T, a], ∃ o, h1 x = some o := by rw [← tabb]; exact hTab.dom
  have d2 : ∀ x ∈ [L, b, lb], ∃ o, h2 x = some o := by rw [← skb]; exact hSk.dom
  obtain ⟨o1, q1⟩ := d1 T (by simp)
  obtain ⟨o2, q2⟩ := d1 a (by simp)
  obtain ⟨o3, q3⟩ := d2 L (by simp)
  obtain ⟨o4, q4⟩ := d2 b (by simp)
  obtain ⟨o5, q5⟩ := d2 lb (by simp)
  have n1 := ne_of_some_none q1 hL
  have n2 := ne_of_some_none q1 hb
  have n3 := ne_of_some_none q1 hlb
  have n4 := ne_of_some_none q2 hL
  have n5 := ne_of_some_none q2 hb
  have n6 := ne_of_some_none q2 hlb
  have m1 := ne_of_some_none (l2 _ _ q1) hS
  have m2 := ne_of_some_none (l2 _ _ q2) hS
  have m3 := ne_of_some_none q3 hS
  have m4 := ne_of_some_none q4 hS
  have m5 := ne_of_some_none q5 hS
  have hS0 : h S = none := (l1.trans l2).dom _ hS
  refine hK h3 S (newZs seed T a L b lb) ⟨e3, hTab.le (l2.trans l3), hSk.le l3⟩ ⟨newTab_ok hTa hs, newSk_ok c1 c2 c3 hs, ?_, ?_, ?_, fun k => ?_, ?_⟩ rfl ((l1.trans l2).trans l3) ?_
  · unfold Zs.bs newZs
    rw [tabb, skb]
    simp [hTa, c1, c2, c3, n1, n2, n3, n4, n5, n6, m1.symm, m2.symm, m3.symm, m4.symm, m5.symm]
  · exact List.Pairwise.nil
  · exact List.nodup_nil
  · exact newTab_look seed a k
  · rfl
  · unfold Zs.bs newZs
    rw [tabb, skb]
    simp only [List.cons_append, List.nil_append, List.mem_cons, List.not_mem_nil, or_false]
    rintro x (h | h | h | h | h | h) <;> subst h
    · exact hS0
    · exact hT
    · exact ha
    · exact l1.dom _ hL
    · exact l1.dom _ hb
    · exact l1.dom _ hlb

theorem zLen_ok {h : Hp} {S : Nat} {z : Zs} {K : Value → Hp → Prop} (hz : ZH h S z) (ho : z.ok S) (hK : K (.int .i64 (z.l.length : Int)) h) : CallH Try.prog 29 #[.pointer (some ⟨S, 0, none⟩)] h K := by
  apply F29_ok
  unfold F29
  refine zready_ok hz ⟨_, rfl, fun hx => by simp at hx, fun _ => ?_⟩
  simp only [NN_some, add_mk]
  refine ⟨_, by rw [cell_mk hz.top]; rfl, Len_ok hz.tab ⟨_, rfl, ?_⟩⟩
  rw [ho.cnt]
  exact hK

theorem zLen_nil {h : Hp} {K : Value → Hp → Prop} (hK : K (.int .i64 0) h) : CallH Try.prog 29 #[.pointer none] h K := by
  apply F29_ok
  unfold F29
  exact zready_nil ⟨_, rfl, fun _ => hK, fun hx => by simp at hx⟩

/-- What is told of a member's score. -/
def scV : Option Int → Value
  | none => .tuple #[.int .i64 0, .bool false]
  | some n => .tuple #[.int .i64 n, .bool true]

theorem zGet_ok {h : Hp} {S : Nat} {z : Zs} {key : List UInt8} {K : Value → Hp → Prop} (hz : ZH h S z) (ho : z.ok S) (hkey : keyOk key) (hK : ∀ h', Le h h' → K (scV (lookP key z.l)) h') :
    CallH Try.prog 45 #[.pointer (some ⟨z.T, 0, none⟩), .string ⟨key.toArray⟩] h K := by
  refine Get_ok hz.tab ho.t hkey ho.vals fun h' l => ?_
  have := hK h' l
  rw [ho.look]
  cases hx : lookP key z.l with
  | none => rw [hx] at this; exact this
  | some n => rw [hx] at this; exact this

theorem zScore_ok {h : Hp} {S : Nat} {z : Zs} {key : List UInt8} {K : Value → Hp → Prop} (hz : ZH h S z) (ho : z.ok S) (hkey : keyOk key) (hK : ∀ h', Le h h' → K (scV (lookP key z.l)) h') :
    CallH Try.prog 53 #[.pointer (some ⟨S, 0, none⟩), .string ⟨key.toArray⟩] h K := by
  apply F53_ok
  unfold F53
  refine zLen_ok hz ho ⟨_, rfl, fun hx => ?_, fun _ => ?_⟩
  · have h0 : z.l = [] := by
      have : (z.l.length : Int) = 0 := by simpa using hx
      exact List.length_eq_zero_iff.1 (by omega)
    have := hK h (Le.refl h)
    rw [h0] at this
    exact this
  · simp only [NN_some, add_mk]
    refine ⟨_, by rw [cell_mk hz.top]; rfl, zGet_ok hz ho hkey fun h' l => ?_⟩
    have := hK h' l
    cases hx : lookP key z.l with
    | none => rw [hx] at this; exact ⟨_, _, rfl, this⟩
    | some n => rw [hx] at this; exact ⟨_, _, rfl, this⟩

theorem zScore_nil {h : Hp} {key : List UInt8} {K : Value → Hp → Prop} (hK : K (scV none) h) : CallH Try.prog 53 #[.pointer none, .string ⟨key.toArray⟩] h K := by
  apply F53_ok
  unfold F53
  exact zLen_nil ⟨_, rfl, fun _ => hK, fun hx => by simp at hx⟩

theorem zPut_ok {h : Hp} {S : Nat} {z : Zs} {key : List UInt8} {sc : Int} {K : Value → Hp → Prop} (hz : ZH h S z) (ho : z.ok S) (hkey : keyOk key) (hb : z.l.length + 2 < 4611686018427387904)
    (hK : ∀ h' z', ZH h' S z' → z'.ok S → z'.l = putP ⟨key, sc⟩ z.l → Fr (z.bs S) h h' → (∀ b ∈ z'.bs S, b ∈ z.bs S ∨ h b = none) → K (.bool (lookP key z.l).isNone) h') :
    CallH Try.prog 24 #[.pointer (some ⟨S, 0, none⟩), .string ⟨key.toArray⟩, .int .i64 sc] h K := by
  apply F24_ok
  unfold F24
  refine zready_ok hz ⟨_, rfl, fun hx => by simp at hx, fun _ => ?_⟩
  intro K1 hK1
  obtain ⟨dj1, dj2, dj3⟩ := Zs.disj ho
  -- behind the drop
  have rest : ∀ (h2 : Hp) (s1 : Sk), SkH h2 z.L s1 → s1.ok z.L → s1.prs = outP key z.l → Fr (z.s.bs z.L) h h2 → (∀ b ∈ s1.bs z.L, b ∈ z.s.bs z.L ∨ h b = none) → K1 [] h2 := by
    intro h2 s1 sk1 so1 p1 f1 b1
    refine hK1 _ fun _ => ?_
    have top2 := f1 _ _ hz.top dj2
    have tab2 := hz.tab.fr f1 dj3
    simp only [NN_some, add_mk]
    refine ⟨_, by rw [cell_mk top2]; rfl, ?_⟩
    have hlen : s1.n ≤ z.l.length := by rw [← prs_len, p1]; exact List.length_filter_le _ _
    refine SPut_ok (x := ⟨key, sc⟩) sk1 so1 (by rw [p1]; exact outP_srt ho.srt) hkey (by omega) (by rw [p1]; exact fun hm => (outP_mem.1 hm).2 rfl) fun h3 s2 sk2 so2 _ p2 f2 b2 => ?_
    refine ⟨_, rfl, ?_⟩
    have b1' : ∀ b, b ∈ s1.bs z.L → ∀ o, h b = some o → b ∈ z.s.bs z.L := by
      intro b hb o ho'
      rcases b1 b hb with h1 | h1
      · exact h1
      · rw [h1] at ho'; cases ho'
    have hdS : S ∉ s1.bs z.L := fun hm => dj2 (b1' _ hm _ hz.top)
    have hdT : ∀ b ∈ z.t.bs z.T, b ∉ s1.bs z.L := fun b hb hm => by
      obtain ⟨o, hob⟩ := hz.tab.dom b hb
      exact dj3 b hb (b1' _ hm _ hob)
    have top3 := f2 _ _ top2 hdS
    have tab3 := tab2.fr f2 hdT
    have f12 : Fr (z.s.bs z.L) h h3 := f1.then f2 b1
    have b12 : ∀ b ∈ s2.bs z.L, b ∈ z.s.bs z.L ∨ h b = none := by
      intro b hb
      rcases b2 b hb with h1 | h1
      · exact b1 b h1
      · exact .inr (f1.dom _ h1)
    refine ⟨_, by rw [cell_mk top3]; rfl, Put_ok tab3 ho.t hkey (by rw [ho.cnt]; omega) fun h4 t' tab4 tok _ f4 b4 look4 n4 => ⟨_, rfl, ?_⟩⟩
    have hT4 : ∀ b, b ∈ t'.bs z.T → b ∈ z.t.bs z.T ∨ h3 b = none := b4
    have s2T : ∀ b ∈ s2.bs z.L, b ∉ z.t.bs z.T := by
      intro b hb hm
      rcases b12 b hb with h1 | h1
      · exact dj3 b hm h1
      · obtain ⟨o, hob⟩ := hz.tab.dom b hm
        rw [h1] at hob; cases hob
    have sk4 := sk2.fr f4 s2T
    have top4 := f4 _ _ top3 dj1
    have hT0 : ∀ b ∈ t'.bs z.T, b ∈ z.t.bs z.T ∨ h b = none := by
      intro b hb
      rcases b4 b hb with h1 | h1
      · exact .inl h1
      · exact .inr (f12.dom _ h1)
    have hnone : (z.t.look key).isNone = (lookP key z.l).isNone := by rw [ho.look]; cases lookP key z.l <;> rfl
    rw [hnone]
    have hl : s2.prs = putP ⟨key, sc⟩ z.l := by rw [p2, p1]; rfl
    refine hK h4 ⟨z.T, t', z.L, s2⟩ ⟨top4, tab4, sk4⟩ ⟨tok, so2, ?_, ?_, ?_, fun k => ?_, ?_⟩ hl ?_ fun b hb => ?_
    · unfold Zs.bs
      simp only [List.nodup_cons, List.mem_append, not_or, List.nodup_append]
      refine ⟨⟨fun hm => ?_, fun hm => ?_⟩, tok.bs, so2.bs, fun a ha b hb e => ?_⟩
      · rcases hT0 _ hm with h1 | h1
        · exact dj1 h1
        · rw [hz.top] at h1; cases h1
      · rcases b12 _ hm with h1 | h1
        · exact dj2 h1
        · rw [hz.top] at h1; cases h1
      · subst e
        rcases b4 a ha with h1 | h1
        · exact s2T a hb h1
        · obtain ⟨o, hob⟩ := sk2.dom a hb
          rw [h1] at hob; cases hob
    · show Srt s2.prs
      rw [hl]; exact putP_srt ho.srt
    · show Nm s2.prs
      rw [hl]; exact putP_nm ho.nm
    · show t'.look k = (lookP k s2.prs).map _
      rw [hl, putP_look ho.nm, look4]
      split
      · rfl
      · exact ho.look k
    · show t'.n = s2.prs.length
      rw [n4, p2, insP_len, p1, ho.look]
      cases hx : lookP key z.l with
      | none => rw [outP_none hx, ho.cnt]; rfl
      | some w =>
        obtain ⟨e1, e2⟩ := outP_cut ho.srt ho.nm hx
        have : z.l.length = (outP key z.l).length + 1 := by
          rw [e2]
          conv => lhs; rw [e1]
          simp only [List.length_append, List.length_cons]
          omega
        simp only [Option.map_some, Option.isSome_some, if_true]
        rw [ho.cnt, this]
    · refine (f12.mono fun b hb => ?_).then (f4.mono fun b hb => ?_) (S' := z.bs S) (fun b hb => .inl hb)
      · exact .inl (by unfold Zs.bs; simp [hb])
      · exact .inl (by unfold Zs.bs; simp [hb])
    · unfold Zs.bs at hb ⊢
      simp only [List.mem_cons, List.mem_append] at hb ⊢
      rcases hb with h1 | h1 | h1
      · exact .inl (.inl h1)
      · rcases hT0 b h1 with h2 | h2
        · exact .inl (.inr (.inl h2))
        · exact .inr h2
      · rcases b12 b h1 with h2 | h2
        · exact .inl (.inr (.inr h2))
        · exact .inr h2
  simp only [NN_some, add_mk]
  refine ⟨_, by rw [cell_mk hz.top]; rfl, zGet_ok hz ho hkey fun h1 l1 => ?_⟩
  have hz1 := hz.le l1
  cases hx : lookP key z.l with
  | none =>
    refine ⟨_, _, rfl, (fun h => by cases h), fun _ => ?_⟩
    exact rest h1 z.s hz1.sk ho.s (outP_none hx).symm (l1.fr _) fun b hb => .inl hb
  | some was =>
    refine ⟨_, _, rfl, fun _ => ?_, (fun h => by cases h)⟩
    refine ⟨_, by rw [cell_mk hz1.top]; rfl, ?_⟩
    refine SDrop_ok hz1.sk ho.s ho.srt ho.nm hx fun h2 s1 sk1 so1 _ p1 f1 b1 => ⟨_, rfl, ?_⟩
    exact rest h2 s1 sk1 so1 p1 ((l1.fr _).trans f1) fun b hb => .inl (b1 b hb)

theorem zPut_nil {h : Hp} {key : List UInt8} {sc : Int} {K : Value → Hp → Prop} (hK : K (.bool false) h) : CallH Try.prog 24 #[.pointer none, .string ⟨key.toArray⟩, .int .i64 sc] h K := by
  apply F24_ok
  unfold F24
  exact zready_nil ⟨_, rfl, fun _ => hK, fun hx => by simp at hx⟩

end Go.Proofs.Ytckdkgphkjbbnaa.Hw

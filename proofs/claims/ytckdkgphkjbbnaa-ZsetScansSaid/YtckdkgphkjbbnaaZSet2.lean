/- Contracts of package zset: Scan, Reverse, cut, All. -/
import Derived.Test.YtckdkgphkjbbnaaZSet
set_option linter.unusedVariables false
set_option linter.unusedSimpArgs false
namespace Go.Proofs.Ytckdkgphkjbbnaa.Hw
open Go.Proofs

/-- An entry's pair. -/
def entPr (e : Ent) : Pr := ⟨e.k, match e.v with | .int _ n => n | _ => 0⟩

theorem turnE_mem {t : Tab} {T c : Nat} (ho : t.ok T) (hc : c < 2 ^ scS t) {e : Ent} (he : e ∈ turnE t c) : e ∈ t.ents := by
  refine (turns_perm ho).mem_iff.1 (List.mem_flatten.2 ⟨turnE t c, List.mem_map.2 ⟨c, List.mem_range.2 hc, rfl⟩, he⟩)

theorem segE_mem {t : Tab} {T : Nat} (ho : t.ok T) {i d : Nat} (h : i + d ≤ 2 ^ scS t) {e : Ent} (he : e ∈ segE t i d) : e ∈ t.ents := by
  rw [segE_flat] at he
  obtain ⟨l, hl, hm⟩ := List.mem_flatten.1 he
  obtain ⟨j, hj, e2⟩ := List.mem_map.1 hl
  subst e2
  have := List.mem_range.1 hj
  exact turnE_mem ho (rv_lt _ _) hm

theorem ent_look {z : Zs} {S : Nat} (ho : z.ok S) {e : Ent} (he : e ∈ z.t.ents) : lookP e.k z.l = some (entPr e).s ∧ e.v = .int .i64 (entPr e).s := by
  have h1 : z.t.look e.k = some e.v := lookL_some he rfl ho.t.keys
  rw [ho.look, Option.map_eq_some_iff] at h1
  obtain ⟨n, h2, hn⟩ := h1
  have h3 : (entPr e).s = n := by unfold entPr; rw [← hn]
  rw [h3]
  exact ⟨h2, hn.symm⟩

/-- A slice that begins its block, at a place. -/
theorem own_row {h : Hp} {sz n c : Nat} {ty : TypeId} {b : Nat} {cs vs : List Value} (o : Own h sz ty (some ⟨b, 0, none⟩) n c cs) {i : Nat} (hv : ∀ k, k < vs.length → cs[i + k]? = vs[k]?) (hi : i + vs.length ≤ cs.length) : rowAt h ⟨b, i, none⟩ 0 vs := by
  cases o with
  | at_ hb hl hr hn =>
    refine rowAt_mk hb vs i 0 fun k hk => ?_
    rw [Nat.add_zero, List.getElem?_append_left (by omega)]
    exact hv k hk

theorem own_cell {h : Hp} {sz n c : Nat} {ty : TypeId} {b : Nat} {cs : List Value} {v : Value} (o : Own h sz ty (some ⟨b, 0, none⟩) n c cs) {i : Nat} (hv : cs[i]? = some v) : cell h ⟨b, i, none⟩ = some v := by
  cases o with
  | at_ hb hl hr hn =>
    rw [cell_mk hb, List.getElem?_append_left (List.getElem?_eq_some_iff.1 hv).1]
    exact hv

theorem own_some {h : Hp} {sz n c : Nat} {ty : TypeId} {a : Option Addr} {cs : List Value} (o : Own h sz ty a n c cs) (hn : 0 < n) : ∃ b, a = some ⟨b, 0, none⟩ := by
  cases o with
  | nil => omega
  | at_ hb hl hr hn => exact ⟨_, rfl⟩

theorem prsC_at {l : List Pr} : ∀ {i : Nat} {x : Pr}, l[i]? = some x → ∀ k, k < 2 → (prsC l)[i * 2 + k]? = (prC x)[k]? := by
  induction l with
  | nil => intro i x h; simp at h
  | cons y l ih =>
    intro i x h k hk
    cases i with
    | zero =>
      simp at h
      subst h
      have : k = 0 ∨ k = 1 := by omega
      rcases this with e | e <;> subst e <;> simp [prsC]
    | succ i =>
      simp at h
      have := ih h k hk
      rw [← this]
      have e : (i + 1) * 2 + k = (i * 2 + k) + 2 := by omega
      rw [e]
      simp [prsC]

theorem strs_at {l : List (List UInt8)} {i : Nat} {s : List UInt8} (h : l[i]? = some s) : (strs l)[i]? = some (.string ⟨s.toArray⟩) := by
  unfold strs
  rw [List.getElem?_map, h]; rfl

theorem zScan_ok {h : Hp} {S : Nat} {z : Zs} {i : Nat} {count : Int} {K : Value → Hp → Prop} (hz : ZH h S z) (ho : z.ok S) (hi : i < 2 ^ scS z.t) (hn : z.l.length ≤ 1048576)
    (hK : ∀ h' a m d, 0 < d → i + d ≤ 2 ^ scS z.t → Le h h' → Own h' 2 56 a ((segE z.t i d).map entPr).length m (prsC ((segE z.t i d).map entPr)) → (∀ b ∈ ownB a, h b = none) → K (.tuple #[.int .u64 (rv (scS z.t) (i + d) : Nat), .slice a ((segE z.t i d).map entPr).length m]) h') :
    CallH Try.prog 25 #[.pointer (some ⟨S, 0, none⟩), .int .u64 (rv (scS z.t) i : Nat), .int .i64 count] h K := by
  apply F25_ok
  unfold F25
  refine zready_ok hz ⟨_, rfl, fun hx => by simp at hx, fun _ => ?_⟩
  simp only [NN_some, add_mk]
  refine ⟨_, by rw [cell_mk hz.top]; rfl, Scan_ok hz.tab ho.t hi (by rw [ho.cnt]; exact hn) fun g a m d hd hid l1 own fr => ⟨_, _, _, _, rfl, ?_⟩⟩
  intro K1 hK1 W1 hW1
  have hmem : ∀ e ∈ segE z.t i d, e ∈ z.t.ents := fun e he => segE_mem ho.t hid he
  have hlen := segE_len ho.t i d
  have hsc := scS_le ho.t
  have hpw := pow16 hsc.2
  have hbig : (segE z.t i d).length ≤ 300000000000 := by
    have h1 : d ≤ 65536 := by omega
    have h2 : 3 * z.t.n ≤ 3145728 := by rw [ho.cnt]; omega
    have := Nat.mul_le_mul h1 h2
    omega
  have hz1 := hz.le l1
  obtain ⟨E, hE⟩ : ∃ E, E = segE z.t i d := ⟨_, rfl⟩
  rw [← hE] at own hmem hbig hW1
  have loop : ∀ (r j : Nat) (y : Hp) (a2 : Option Addr) (c2 : Nat), E.length - j = r → j ≤ E.length → Own y 2 56 a2 j c2 (prsC ((E.map entPr).take j)) → (∀ b ∈ ownB a2, g b = none) → Le g y → W1 [.slice a2 j c2, .int .i64 (j : Int)] y := by
    intro r
    induction r with
    | zero =>
      intro j y a2 c2 hr hj oy fy ly
      have : j = E.length := by omega
      subst this
      refine hW1 _ _ _ _ _ fun _ => ⟨fun hx => by have := of_decide_eq_true hx; omega, fun _ => hK1 _ _ _ _ fun _ => ?_⟩
      have e : (E.map entPr).length = E.length := by simp
      rw [← e] at oy ⊢
      rw [List.take_length] at oy
      have := hK y a2 c2 d hd hid (l1.trans ly)
      rw [← hE] at this
      exact this oy fun b hb => l1.dom _ (fy b hb)
    | succ r ih =>
      intro j y a2 c2 hr hj oy fy ly
      refine hW1 _ _ _ _ _ fun _ => ⟨fun _ => ?_, fun hx => by have := of_decide_eq_false hx; omega⟩
      obtain ⟨e, he⟩ : ∃ e, E[j]? = some e := ⟨E[j]'(by omega), List.getElem?_eq_getElem _⟩
      have hem := hmem e (List.mem_of_getElem? he)
      obtain ⟨b0, hb0⟩ := own_some own (by omega)
      subst hb0
      obtain ⟨lk, hv⟩ := ent_look ho hem
      have hzy := hz1.le ly
      simp only [NN_some, add_mk, Int.toNat_natCast]
      refine ⟨by omega, by omega, e.k, ?_, ?_⟩
      · rw [Nat.zero_add, Nat.mul_one]
        exact own_cell (own.le ly) (strs_at (by rw [List.getElem?_map, he]; rfl))
      · refine ⟨_, by rw [cell_mk hzy.top]; rfl, zGet_ok hzy ho (ho.t.klen e hem) fun y2 l2 => ?_⟩
        rw [lk]
        refine ⟨_, _, rfl, new_mk fun b1 y3 hb1 e3 l3 _ => ?_⟩
        refine app1 (xs := prC (entPr e)) (oy.le (l2.trans l3)) (by simp) e3 (by simp) (by simp [oneCell]) (by omega) (by omega) fun a' c' y4 o4 f4 n4 => ?_
        have fy4 : Fr (ownB a2) y y4 := ((l2.trans l3).fr _).trans f4
        have ly4 : Le g y4 := ly.fr_then fy4 fy
        have e1 : IntKind.wrap .i64 ((j : Int) + 1) = ((j + 1 : Nat) : Int) := by rw [w64 (by omega) (by omega)]; omega
        rw [e1]
        refine ih (j + 1) y4 a' c' (by omega) (by omega) ?_ (fun b hb => ?_) ly4
        · rw [take_next (x := entPr e) (by rw [List.getElem?_map, he]; rfl), prsC_app, prsC_one]; exact o4
        · rcases n4 b hb with h1 | h1
          · exact fy b h1
          · exact ((ly.trans l2).trans l3).dom _ h1
  exact loop E.length 0 g none 0 rfl (by omega) .nil (by simp [ownB]) (Le.refl g)

theorem zScan_nil {c n : Int} {h : Hp} {K : Value → Hp → Prop} (hK : K (.tuple #[.int .u64 0, .slice none 0 0]) h) : CallH Try.prog 25 #[.pointer none, .int .u64 c, .int .i64 n] h K := by
  apply F25_ok
  unfold F25
  exact zready_nil ⟨_, rfl, fun _ => hK, fun hx => by simp at hx⟩

/-! ### Reverse -/

theorem over_prs {l : List Pr} {rest : List Value} : ∀ {i : Nat} {x : Pr}, i < l.length → over (prsC l ++ rest) (i * 2) (prC x) = prsC (l.set i x) ++ rest := by
  induction l with
  | nil => intro i x h; simp at h
  | cons y l ih =>
    intro i x h
    cases i with
    | zero => simp [over, prsC]
    | succ i =>
      have := ih (i := i) (x := x) (by simpa using h)
      have e : (i + 1) * 2 = i * 2 + 1 + 1 := by omega
      simp only [over, prsC, List.flatMap_cons, List.cons_append, List.nil_append, List.set_cons_succ, e] at *
      rw [this]

theorem own_put {h : Hp} {n c b : Nat} {l : List Pr} {i : Nat} {x : Pr} {K : Hp → Prop} (o : Own h 2 56 (some ⟨b, 0, none⟩) n c (prsC l)) (hi : i < l.length)
    (hK : ∀ h', Own h' 2 56 (some ⟨b, 0, none⟩) n c (prsC (l.set i x)) → Fr [b] h h' → K h') : stN h ⟨b, i * 2, none⟩ [.string ⟨x.m.toArray⟩, .int .i64 x.s] K := by
  cases o with
  | at_ hb hl hr hn =>
    rename_i rest
    have hlen := prsC_len l
    refine stN_mk hb (by simp; omega) (by simp [oneCell]) ?_
    have := over_prs (l := l) (rest := rest) (i := i) (x := x) hi
    rw [this]
    refine hK _ (.at_ (rest := rest) (upd_same _ _ _) ?_ hr hn) (Fr.upd _ (by simp))
    rw [prsC_len, List.length_set, ← prsC_len]; exact hl

theorem rev_ok {h : Hp} {a : Option Addr} {c : Nat} {l : List Pr} {K : Value → Hp → Prop} (o : Own h 2 56 a l.length c (prsC l)) (hl : l.length < 4611686018427387904)
    (hK : ∀ h', Own h' 2 56 a l.length c (prsC l.reverse) → Fr (ownB a) h h' → K (.tuple #[]) h') : CallH Try.prog 82 #[.slice a l.length c] h K := by
  apply F82_ok
  unfold F82
  intro W1 hW1
  obtain ⟨n, hn⟩ : ∃ n, n = l.length := ⟨_, rfl⟩
  rw [← hn] at o hK hW1 ⊢
  have loop : ∀ (r i : Nat) (cur : List Pr) (y : Hp), n - 2 * i = r → cur.length = n → Own y 2 56 a n c (prsC cur) → Fr (ownB a) h y → i ≤ n →
      (∀ k, k < n → cur[k]? = if k < i ∨ n < k + i + 1 then l[n - 1 - k]? else l[k]?) → W1 [.int .i64 (i : Int), .int .i64 ((n : Int) - 1 - i)] y := by
    intro r
    induction r using Nat.strongRecOn with
    | ind r ih =>
    intro i cur y hr hc oy fy hi hcur
    refine hW1 _ _ _ fun _ => ⟨fun hx => ?_, fun hx => ?_⟩
    · have hlt := of_decide_eq_true hx
      obtain ⟨b, hb⟩ := own_some oy (by omega)
      subst hb
      have ei : ((n : Int) - 1 - i).toNat = n - 1 - i := by omega
      obtain ⟨x, hxj⟩ : ∃ x, cur[n - 1 - i]? = some x := ⟨cur[n - 1 - i]'(by omega), List.getElem?_eq_getElem _⟩
      obtain ⟨w, hwi⟩ : ∃ w, cur[i]? = some w := ⟨cur[i]'(by omega), List.getElem?_eq_getElem _⟩
      have hlen := prsC_len cur
      simp only [NN_some, add_mk, Int.toNat_natCast, ei, Nat.zero_add]
      refine ⟨by omega, by omega, by omega, by omega, x.m, x.s, ?_, w.m, w.s, ?_, by omega, by omega, ?_⟩
      · exact own_row oy (fun k hk => prsC_at hxj k hk) (by simp only [List.length_cons, List.length_nil]; omega)
      · exact own_row oy (fun k hk => prsC_at hwi k hk) (by simp only [List.length_cons, List.length_nil]; omega)
      · refine own_put oy (by omega) fun y2 o2 f2 => ⟨by omega, by omega, own_put o2 (by simp; omega) fun y3 o3 f3 => ?_⟩
        have e1 : IntKind.wrap .i64 ((i : Int) + 1) = ((i + 1 : Nat) : Int) := by rw [w64 (by omega) (by omega)]; omega
        have e2 : IntKind.wrap .i64 ((n : Int) - 1 - i - 1) = (n : Int) - 1 - ((i + 1 : Nat) : Int) := by rw [w64 (by omega) (by omega)]; omega
        rw [e1, e2]
        refine ih (n - 2 * (i + 1)) (by omega) (i + 1) _ y3 rfl (by simp [hc]) o3 ((fy.trans f2).trans f3) (by omega) fun k hk => ?_
        rw [List.getElem?_set, List.getElem?_set]
        have hj : n - 1 - i < cur.length := by omega
        have hil : i < cur.length := by omega
        by_cases h1 : n - 1 - i = k
        · rw [if_pos h1, if_pos (by simp; omega), if_pos (by omega)]
          rw [hcur i (by omega), if_neg (by omega)] at hwi
          rw [← hwi]; congr 1; omega
        · rw [if_neg h1]
          by_cases h2 : i = k
          · rw [if_pos h2, if_pos (by omega), if_pos (by omega)]
            rw [hcur (n - 1 - i) (by omega), if_neg (by omega)] at hxj
            rw [← hxj]; congr 1; omega
          · rw [if_neg h2, hcur k hk]
            by_cases h3 : k < i ∨ n < k + i + 1
            · rw [if_pos h3, if_pos (by omega)]
            · rw [if_neg h3, if_neg (by omega)]
    · have hge := of_decide_eq_false hx
      have : cur = l.reverse := by
        apply List.ext_getElem?
        intro k
        by_cases hk : k < n
        · rw [hcur k hk, List.getElem?_reverse (by omega)]
          split
          · rw [hn]
          · have : k = n - 1 - k := by omega
            rw [← hn, ← this]
        · rw [List.getElem?_eq_none (by omega), List.getElem?_eq_none (by rw [List.length_reverse]; omega)]
      subst this
      exact hK y oy fy
  have e : IntKind.wrap .i64 ((n : Int) - 1) = (n : Int) - 1 - (0 : Nat) := by rw [w64 (by omega) (by omega)]; omega
  rw [e]
  refine loop _ 0 l h rfl hn.symm o (Fr.refl _ _) (by omega) fun k hk => ?_
  rw [if_neg (by omega)]

/-! ### Ranks -/

def cutP (f t : Int) (l : List Pr) : List Pr := (l.drop f.toNat).take (min t (l.length - 1 : Int) + 1 - max f 0).toNat

def zcutP (f t : Int) (back : Bool) (l : List Pr) : List Pr :=
  if l.length = 0 ∨ f > t then [] else match back with
  | true => (cutP (l.length - 1 - t) (l.length - 1 - f) l).reverse
  | false => cutP f t l

theorem zcut_ok {h : Hp} {S : Nat} {z : Zs} {f t : Int} {back : Bool} {K : Value → Hp → Prop} (hz : ZH h S z) (ho : z.ok S) (hn : z.l.length ≤ 5000000000000) (hf : -2305843009213693952 ≤ f) (hf2 : f ≤ 2305843009213693952) (ht : -2305843009213693952 ≤ t) (ht2 : t ≤ 2305843009213693952)
    (hK : ∀ h' a c r, r = zcutP f t back z.l → Own h' 2 56 a r.length c (prsC r) → (∀ b ∈ ownB a, h b = none) → Le h h' → K (.slice a r.length c) h') :
    CallH Try.prog 51 #[.pointer (some ⟨S, 0, none⟩), .int .i64 f, .int .i64 t, .bool back] h K := by
  apply F51_ok
  unfold F51
  have hsn : z.s.n = z.l.length := (prs_len z.s).symm
  refine zLen_ok hz ho ⟨_, rfl, ?_⟩
  intro J1 hJ1
  have no : (z.l.length = 0 ∨ f > t) → J1 [.bool true] h := fun hc => hJ1 _ _ fun _ => ⟨fun _ => hK h none 0 [] (by unfold zcutP; rw [if_pos hc]) .nil (by simp [ownB]) (Le.refl h), (fun hx => by cases hx)⟩
  refine ⟨fun hx => no (.inl ?_), fun hx => ?_⟩
  · have : (z.l.length : Int) = 0 := by simpa using hx
    omega
  have hne : z.l.length ≠ 0 := by
    intro h0; rw [h0] at hx; simp at hx
  by_cases hft : f > t
  · have := no (.inr hft)
    rw [show decide (f > t) = true from decide_eq_true hft]
    exact this
  rw [show decide (f > t) = false from decide_eq_false hft]
  refine hJ1 _ _ fun _ => ⟨(fun hx => by cases hx), fun _ => ?_⟩
  intro K1 hK1
  have hzc : zcutP f t back z.l = match back with | true => (cutP (z.l.length - 1 - t) (z.l.length - 1 - f) z.l).reverse | false => cutP f t z.l := by
    unfold zcutP; rw [if_neg (by omega)]; cases back <;> rfl
  have body : ∀ f2 t2 : Int, -4611686018427387904 ≤ f2 → f2 ≤ 4611686018427387904 → -4611686018427387904 ≤ t2 → (zcutP f t back z.l = match back with | true => (cutP f2 t2 z.l).reverse | false => cutP f2 t2 z.l) → K1 [.int .i64 f2, .int .i64 t2] h := by
    intro f2 t2 b1 b2 b3 heq
    refine hK1 _ _ _ fun _ => ?_
    simp only [NN_some, add_mk]
    refine ⟨_, by rw [cell_mk hz.top]; rfl, Cut_ok hz.sk ho.s (by omega) b1 b2 b3 fun l a c h' hl own fr le => ⟨_, _, _, rfl, ?_⟩⟩
    have hlc : l = cutP f2 t2 z.l := by rw [hl]; unfold cutP Zs.l; rw [← prs_len]
    intro K2 hK2
    have hll : l.length ≤ z.l.length := by rw [hlc]; unfold cutP; rw [List.length_take, List.length_drop]; omega
    refine ⟨fun hb => ?_, fun hb => ?_⟩
    · subst hb
      refine rev_ok own (by omega) fun h2 o2 f2 => ⟨rfl, hK2 _ fun _ => ?_⟩
      have := hK h2 a c l.reverse (by rw [heq, ← hlc])
      rw [List.length_reverse] at this
      exact this o2 fr (le.fr_then f2 fr)
    · subst hb
      exact hK2 _ fun _ => hK h' a c l (by rw [heq, ← hlc]) own fr le
  refine ⟨fun hb => ?_, fun hb => ?_⟩
  · subst hb
    refine zLen_ok hz ho ⟨_, rfl, zLen_ok hz ho ⟨_, rfl, ?_⟩⟩
    rw [w64 (n := (z.l.length : Int) - 1) (by omega) (by omega), w64 (by omega) (by omega), w64 (by omega) (by omega)]
    exact body _ _ (by omega) (by omega) (by omega) hzc
  · subst hb
    exact body _ _ (by omega) (by omega) (by omega) hzc

theorem zcut_nil {f t : Int} {back : Bool} {h : Hp} {K : Value → Hp → Prop} (hK : K (.slice none 0 0) h) : CallH Try.prog 51 #[.pointer none, .int .i64 f, .int .i64 t, .bool back] h K := by
  apply F51_ok
  unfold F51
  refine zLen_nil ⟨_, rfl, ?_⟩
  intro J1 hJ1
  refine ⟨fun _ => hJ1 _ _ fun _ => ⟨fun _ => hK, (fun hx => by cases hx)⟩, fun hx => by simp at hx⟩

theorem cutP_all (l : List Pr) : cutP 0 ((l.length : Int) - 1) l = l := by
  unfold cutP
  rw [Int.toNat_zero, List.drop_zero]
  refine List.take_of_length_le ?_
  omega

theorem zAll_ok {h : Hp} {S : Nat} {z : Zs} {K : Value → Hp → Prop} (hz : ZH h S z) (ho : z.ok S) (hn : z.l.length ≤ 5000000000000)
    (hK : ∀ h' a c, Own h' 2 56 a z.l.length c (prsC z.l) → (∀ b ∈ ownB a, h b = none) → Le h h' → K (.slice a z.l.length c) h') :
    CallH Try.prog 28 #[.pointer (some ⟨S, 0, none⟩)] h K := by
  apply F28_ok
  unfold F28
  refine zLen_ok hz ho ⟨_, rfl, ?_⟩
  rw [w64 (by omega) (by omega)]
  refine zcut_ok hz ho hn (by omega) (by omega) (by omega) (by omega) fun h' a c r hr own fr le => ⟨_, _, _, rfl, ?_⟩
  have : r = z.l := by
    rw [hr]
    unfold zcutP
    split
    · rename_i hc
      have : z.l.length = 0 := by omega
      exact (List.length_eq_zero_iff.1 this).symm
    · exact cutP_all z.l
  subst this
  exact hK h' a c own fr le

theorem zAll_nil {h : Hp} {K : Value → Hp → Prop} (hK : K (.slice none 0 0) h) : CallH Try.prog 28 #[.pointer none] h K := by
  apply F28_ok
  unfold F28
  exact zLen_nil ⟨_, rfl, zcut_nil ⟨_, _, _, rfl, hK⟩⟩

end Go.Proofs.Ytckdkgphkjbbnaa.Hw

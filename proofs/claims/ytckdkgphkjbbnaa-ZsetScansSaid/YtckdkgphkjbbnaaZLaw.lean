/- The statement ZsetScans: its life sign, and the law. -/
import Derived.Test.YtckdkgphkjbbnaaZRef2
set_option linter.unusedVariables false
set_option linter.unusedSimpArgs false
namespace Go.Proofs.Ytckdkgphkjbbnaa.Hw
open Go.Proofs

def pA : Pr := ⟨[97], 1⟩
def pB : Pr := ⟨[98], 2⟩
def pC : Pr := ⟨[99], 2⟩

theorem alive_ok {h : Hp} {K : Value → Hp → Prop} (hK : ∀ h', Le h h' → K (.bool true) h') : CallH Try.prog 22 #[] h K := by
  apply F22_ok
  unfold F22
  have ka : keyOk [97] := by unfold keyOk; decide
  have kb : keyOk [98] := by unfold keyOk; decide
  have kc : keyOk [99] := by unfold keyOk; decide
  refine zNew_ok (by omega) fun h1 S z hz ho hl l1 fr => ⟨_, rfl, ?_⟩
  refine zPut_ok hz ho ka (by rw [hl]; simp) fun h2 z2 hz2 ho2 hl2 f2 b2 => ⟨_, rfl, ?_⟩
  have e2 : z2.l = [pA] := by rw [hl2, hl]; rfl
  have n2 : (lookP [97] z.l).isNone = true := by rw [hl]; rfl
  have lk2 : Le h h2 := l1.fr_then f2 fr
  have fr2 : ∀ b ∈ z2.bs S, h b = none := fun b hb => by
    rcases b2 b hb with h1 | h1
    · exact fr b h1
    · exact l1.dom _ h1
  rw [n2]
  intro J1 hJ1
  refine ⟨(fun hx => by cases hx), fun _ => ?_⟩
  refine zPut_ok hz2 ho2 kb (by rw [e2]; simp) fun h3 z3 hz3 ho3 hl3 f3 b3 => ⟨_, rfl, ?_⟩
  have e3 : z3.l = [pA, pB] := by rw [hl3, e2]; rfl
  have n3 : (lookP [98] z2.l).isNone = true := by rw [e2]; rfl
  have lk3 : Le h h3 := lk2.fr_then f3 fr2
  have fr3 : ∀ b ∈ z3.bs S, h b = none := fun b hb => by
    rcases b3 b hb with h1 | h1
    · exact fr2 b h1
    · exact lk2.dom _ h1
  rw [n3]
  refine hJ1 _ _ fun _ => ?_
  intro J2 hJ2
  refine ⟨(fun hx => by cases hx), fun _ => ?_⟩
  refine zPut_ok hz3 ho3 kc (by rw [e3]; simp) fun h4 z4 hz4 ho4 hl4 f4 b4 => ⟨_, rfl, ?_⟩
  have e4 : z4.l = [pA, pB, pC] := by rw [hl4, e3]; rfl
  have n4 : (lookP [99] z3.l).isNone = true := by rw [e3]; rfl
  have lk4 : Le h h4 := lk3.fr_then f4 fr3
  have fr4 : ∀ b ∈ z4.bs S, h b = none := fun b hb => by
    rcases b4 b hb with h1 | h1
    · exact fr3 b h1
    · exact lk3.dom _ h1
  rw [n4]
  refine hJ2 _ _ fun _ => ?_
  intro J3 hJ3
  refine ⟨(fun hx => by cases hx), fun _ => ?_⟩
  refine zPut_ok hz4 ho4 kc (by rw [e4]; simp) fun h5 z5 hz5 ho5 hl5 f5 b5 => ⟨_, rfl, ?_⟩
  have e5 : z5.l = [pA, pB, pC] := by rw [hl5, e4]; rfl
  have n5 : (lookP [99] z4.l).isNone = false := by rw [e4]; rfl
  have lk5 : Le h h5 := lk4.fr_then f5 fr4
  have fr5 : ∀ b ∈ z5.bs S, h b = none := fun b hb => by
    rcases b5 b hb with h1 | h1
    · exact fr4 b h1
    · exact lk4.dom _ h1
  rw [n5]
  refine hJ3 _ _ fun _ => ⟨(fun hx => by cases hx), fun _ => ?_⟩
  refine zRange_ok (lo := ⟨0, 1, true⟩) (hi := ⟨1, 0, false⟩) hz5 ho5 (by rw [e5]; simp) fun h6 a c r hr own fra l6 => ⟨_, _, _, rfl, ?_⟩
  have er : r = [pB] := by rw [hr, e5]; rfl
  refine new_mk fun b1 h7 hb1 z7 l7 _ => ?_
  have pr : PrAt h7 a r := (own.le l7).prAt
  have pq : PrAt h7 (some ⟨b1, 0, none⟩) [pB] := .inr ⟨b1, 0, rfl, row_all (cs := prC pB) z7⟩
  refine rSame_ok (m := [pB]) pr pq (by rw [er]; simp) fun r8 hr8 => ⟨_, rfl, ?_⟩
  have : r8 = true := hr8.2 er
  subst this
  have hz7 := hz5.le (l6.trans l7)
  have lk7 : Le h h7 := lk5.trans (l6.trans l7)
  intro J4 hJ4
  refine ⟨fun _ => ?_, (fun hx => by cases hx)⟩
  refine zRank_ok hz7 ho5 kc (by rw [e5]; simp) fun h8 l8 => ⟨_, rfl, ?_⟩
  have rk : rankP [99] true z5.l = 0 := by rw [e5]; rfl
  rw [rk]
  refine hJ4 _ _ fun _ => ?_
  intro J5 hJ5
  refine ⟨fun _ => ?_, (fun hx => by cases hx)⟩
  refine zLen_ok (hz7.le l8) ho5 ⟨_, rfl, hJ5 _ _ fun _ => ?_⟩
  rw [e5]
  exact hK h8 (lk7.trans l8)

theorem nm_perm {l m : List Pr} (hp : l.Perm m) : Nm l ↔ Nm m := by
  unfold Nm
  exact (hp.map _).nodup_iff

/-- What a table tells, entry by entry, are the pairs. -/
theorem ents_pr {z : Zs} {S : Nat} (ho : z.ok S) : Nm (z.t.ents.map entPr) ∧ (∀ x, x ∈ z.t.ents.map entPr ↔ x ∈ z.l) ∧ (z.t.ents.map entPr).length = z.l.length := by
  refine ⟨?_, fun x => ?_, ?_⟩
  · unfold Nm
    rw [List.map_map]
    exact ho.t.keys
  · constructor
    · intro h
      obtain ⟨e, he, h2⟩ := List.mem_map.1 h
      have := (ent_look ho he).1
      have h3 := lookP_some this
      rw [← h2]; exact h3
    · intro h
      have h2 : lookP x.m z.l = some x.s := (lookP_iff ho.nm).2 h
      have h3 := ho.look x.m
      rw [h2] at h3
      obtain ⟨e, he, hk, hv⟩ := (lookL_iff ho.t.keys).1 h3
      refine List.mem_map.2 ⟨e, he, ?_⟩
      unfold entPr
      have hv2 : e.v = .int .i64 x.s := hv
      rw [hk, hv2]
  · rw [List.length_map, ← ho.t.cnt, ho.cnt]

theorem scans_ok {a1 : Int} {a : Option Addr} {c : Nat} {l : List Pr} {cnt : Int} {h : Hp} {K : Value → Hp → Prop} (hp : PrAt h a l) (ha : 0 ≤ a1 ∧ a1 < 18446744073709551616) (hK : ∀ h', Le h h' → K (.bool true) h') :
    CallH Try.prog 4 #[.int .u64 a1, .slice a l.length c, .int .i64 cnt] h K := by
  apply F4_ok
  unfold F4
  refine ⟨fun _ => alive_ok fun h' l' => ⟨_, rfl, hK h' l'⟩, fun hx => ?_⟩
  have hl : l.length ≤ 200 := by have := of_decide_eq_false hx; omega
  refine zNew_ok ha fun h1 S z0 hz0 ho0 hl0 l1 fr0 => ⟨_, rfl, ?_⟩
  intro K1 hK1 W2 hW2
  obtain ⟨n, hn⟩ : ∃ n, n = l.length := ⟨_, rfl⟩
  rw [← hn] at hW2 hl
  have puts : ∀ (r i : Nat) (y : Hp) (z : Zs), n - i = r → i ≤ n → ZH y S z → z.ok S → z.l.length ≤ i → (∀ b ∈ z.bs S, h b = none) → Le h y → W2 [.int .i64 (i : Int)] y := by
    intro r
    induction r with
    | zero =>
      intro i y z hr hi hz ho hzl frz ly
      have : i = n := by omega
      subst this
      refine hW2 _ _ fun _ => ⟨fun hx => by have := of_decide_eq_true hx; omega, fun _ => hK1 _ fun _ => ⟨by omega, ?_⟩⟩
      intro K2 hK2 W1 hW1
      have hsc := scS_le ho.t
      have hpw := pow16 hsc.2
      obtain ⟨en1, en2, en3⟩ := ents_pr ho
      have hall := (segE_all ho.t).map entPr
      -- behind the turns
      have done : ∀ (w : Hp) (a2 : Option Addr) (c2 : Nat) (met : List Pr), met = (segE z.t 0 (2 ^ scS z.t)).map entPr → Own w 2 56 a2 met.length c2 (prsC met) → Le y w → K2 [.slice a2 met.length c2, .int .u64 0] w := by
        intro w a2 c2 met hmet own lw
        refine hK2 _ _ _ _ _ fun _ => ?_
        rw [← hmet] at hall
        have mnm : Nm met := (nm_perm hall).2 en1
        have mmem : ∀ x, x ∈ met ↔ x ∈ z.l := fun x => (hall.mem_iff).trans (en2 x)
        have mlen : met.length = z.l.length := by rw [hall.length_eq, en3]
        obtain ⟨sp1, sp2, sp3⟩ := setP_ok met
        have hset : setP met = z.l := srt_unique sp1 ho.srt fun x => (setP_mem mnm x).trans (mmem x)
        have hzw := hz.le lw
        intro J1 hJ1
        refine ⟨fun hx => by simp at hx, fun _ => ?_⟩
        refine rZSet_ok own.prAt (by omega) fun w2 a3 c3 kind r3 hr3 own3 fr3 l2 => ⟨_, _, _, _, _, _, _, _, _, _, _, rfl, ?_⟩
        refine zAll_ok (hzw.le l2) ho (by omega) fun w3 a4 c4 own4 fr4 l3 => ⟨_, _, _, rfl, ?_⟩
        refine rSame_ok (own3.le l3).prAt own4.prAt (by rw [hr3]; omega) fun r5 h5 => ⟨_, rfl, hJ1 _ _ fun _ => ?_⟩
        have : r5 = true := h5.2 (by rw [hr3, hset])
        subst this
        have hz3 := hzw.le (l2.trans l3)
        have lfin : Le h w3 := ly.trans (lw.trans (l2.trans l3))
        intro J2 hJ2
        refine ⟨(fun hx => by cases hx), fun _ => zLen_ok hz3 ho ⟨_, rfl, ?_⟩⟩
        have hne : ((met.length : Int) != (z.l.length : Int)) = false := by rw [mlen]; simp
        rw [hne]
        refine hJ2 _ _ fun _ => ⟨(fun hx => by cases hx), fun _ => ?_⟩
        refine zScan_nil ⟨_, _, _, _, rfl, zAdd_nil ⟨_, _, rfl, ?_⟩⟩
        intro J3 hJ3
        refine ⟨fun _ => ?_, (fun hx => by cases hx)⟩
        refine hJ3 _ _ fun _ => ?_
        intro J4 hJ4
        refine ⟨fun _ => zPut_nil ⟨_, rfl, hJ4 _ _ fun _ => ?_⟩, (fun hx => by cases hx)⟩
        intro J5 hJ5
        refine ⟨fun _ => ?_, (fun hx => by cases hx)⟩
        refine new_mk fun b1 w4 hb1 z4 l4 _ => ?_
        have odr : Own w4 1 9 (some ⟨b1, 0, none⟩) 1 1 (strs [[97]]) := .at_ (rest := []) (by rw [z4]; rfl) rfl rfl (by omega)
        refine zDrop_nil odr (by omega) ⟨_, rfl, hJ5 _ _ fun _ => ?_⟩
        intro J6 hJ6
        refine ⟨fun _ => zLen_nil ⟨_, rfl, hJ6 _ _ fun _ => ?_⟩, (fun hx => by cases hx)⟩
        intro J7 hJ7
        refine ⟨fun _ => zRank_nil ⟨_, rfl, hJ7 _ _ fun _ => ?_⟩, (fun hx => by cases hx)⟩
        intro J8 hJ8
        refine ⟨fun _ => zAll_nil ⟨_, _, _, rfl, zPop_nil ⟨_, _, _, rfl, zSpan_nil ⟨_, _, _, rfl, hJ8 _ _ fun _ => ?_⟩⟩⟩, (fun hx => by cases hx)⟩
        intro J9 hJ9
        refine ⟨fun _ => zCount_nil (lo := ⟨-1, 0, false⟩) (hi := ⟨1, 0, false⟩) fun w5 l5 => ⟨_, rfl, hJ9 _ _ fun _ => ?_⟩, (fun hx => by cases hx)⟩
        intro J10 hJ10
        refine ⟨fun _ => alive_ok fun w6 l6 => ⟨_, rfl, hJ10 _ _ fun _ => hK w6 (lfin.trans (l4.trans (l5.trans l6)))⟩, (fun hx => by cases hx)⟩
      have turns : ∀ (r i k : Nat) (w : Hp) (a2 : Option Addr) (c2 : Nat) (met : List Pr), 2 ^ scS z.t - i = r → i < 2 ^ scS z.t → k ≤ i → met = (segE z.t 0 i).map entPr → Own w 2 56 a2 met.length c2 (prsC met) → (∀ b ∈ ownB a2, y b = none) → Le y w →
          W1 [.slice a2 met.length c2, .int .u64 (rv (scS z.t) i : Nat), .int .i64 (k : Int)] w := by
        intro r
        induction r using Nat.strongRecOn with
        | ind r ih =>
        intro i k w a2 c2 met hr hi hk hmet own fro lw
        refine hW1 _ _ _ _ _ _ fun _ => ⟨fun _ => ?_, fun hx => by have := of_decide_eq_false hx; omega⟩
        refine zScan_ok (hz.le lw) ho hi (by omega) fun w2 a3 m3 d hd hid l2 own3 fr3 => ⟨_, _, _, _, rfl, ?_⟩
        have hpr := own3.prAt
        have hlen1 : met.length ≤ 100000000000 := by
          rw [hmet, List.length_map]
          have h1 := segE_len ho.t 0 i
          have h2 : i * (3 * z.t.n) ≤ 65536 * 600 := Nat.mul_le_mul (by omega) (by rw [ho.cnt]; omega)
          omega
        have hlen2 : ((segE z.t i d).map entPr).length ≤ 100000000000 := by
          rw [List.length_map]
          have h1 := segE_len ho.t i d
          have h2 : d * (3 * z.t.n) ≤ 65536 * 600 := Nat.mul_le_mul (by omega) (by rw [ho.cnt]; omega)
          omega
        have happ : met ++ (segE z.t i d).map entPr = (segE z.t 0 (i + d)).map entPr := by
          rw [hmet, segE_app, Nat.zero_add, List.map_append]
        refine appE_own (sz := 2) (m := ((segE z.t i d).map entPr).length) (xs := prsC ((segE z.t i d).map entPr)) (own.le l2) rfl rfl hpr.src (prsC_len _) ?_ (by omega) (by omega) fun a4 c4 w3 own4 f3 n3 => ?_
        · intro v hv
          simp only [prsC, List.mem_flatMap] at hv
          obtain ⟨x, _, hx⟩ := hv
          simp at hx
          rcases hx with e | e <;> subst e <;> rfl
        · have fall : Fr (ownB a2) w w3 := (l2.fr _).trans f3
          have lw3 : Le y w3 := lw.fr_then fall fro
          have hle : met.length + ((segE z.t i d).map entPr).length = (met ++ (segE z.t i d).map entPr).length := by rw [List.length_append]
          rw [← prsC_app, hle] at own4
          rw [hle]
          have hrz : rv (scS z.t) (i + d) = 0 ↔ i + d = 2 ^ scS z.t := by
            constructor
            · intro h0
              rcases Nat.lt_or_ge (i + d) (2 ^ scS z.t) with h2 | h2
              · have := rv_zero h2 h0; omega
              · omega
            · intro h0; rw [h0]; exact rv_pow _
          refine ⟨fun h0 => ?_, fun h0 => ?_⟩
          · have h1 : rv (scS z.t) (i + d) = 0 := by
              have : ((rv (scS z.t) (i + d) : Nat) : Int) = 0 := by simpa using h0
              omega
            rw [h1]
            exact done w3 a4 c4 _ (by rw [happ, hrz.1 h1]) own4 lw3
          · have h1 : rv (scS z.t) (i + d) ≠ 0 := by
              intro h2; rw [h2] at h0; simp at h0
            have h2 : i + d < 2 ^ scS z.t := by
              rcases Nat.lt_or_ge (i + d) (2 ^ scS z.t) with h3 | h3
              · exact h3
              · exact (h1 (hrz.2 (by omega))).elim
            have e1 : IntKind.wrap .i64 ((k : Int) + 1) = ((k + 1 : Nat) : Int) := by rw [w64 (by omega) (by omega)]; omega
            rw [e1]
            refine ih (2 ^ scS z.t - (i + d)) (by omega) (i + d) (k + 1) w3 a4 c4 _ rfl h2 (by omega) happ own4 (fun b hb => ?_) lw3
            rcases n3 b hb with h3 | h3
            · exact fro b h3
            · exact (lw.trans l2).dom _ h3
      have := turns (2 ^ scS z.t) 0 0 y none 0 [] (by omega) (by omega) (by omega) rfl .nil (by simp [ownB]) (Le.refl y)
      have e0 : rv (scS z.t) 0 = 0 := by
        have h1 := rv_mod (scS z.t) (2 ^ scS z.t)
        rw [Nat.mod_self, rv_pow] at h1
        exact h1
      rw [e0] at this
      exact this
    | succ r ih =>
      intro i y z hr hi hz ho hzl frz ly
      refine hW2 _ _ fun _ => ⟨fun _ => ?_, fun hx => by have := of_decide_eq_false hx; omega⟩
      obtain ⟨w, hw⟩ : ∃ w, l[i]? = some w := ⟨l[i]'(by omega), List.getElem?_eq_getElem _⟩
      obtain ⟨b, o, ha2, hrow⟩ := (hp.le ly).at_ hw
      subst ha2
      simp only [NN_some, add_mk, Int.toNat_natCast]
      refine ⟨by omega, by omega, w.m, w.s, hrow, new_mk fun b2 g2 hb2 e2 l2 _ => ?_⟩
      show stN g2 ⟨b2, 0, none⟩ (prC w) _
      refine stN_all (cs := [.string ⟨#[]⟩, .int .i64 0]) e2 rfl (by simp [oneCell]) ?_
      generalize hg3 : upd g2 b2 (ob (prC w) 56) = g3
      have e3 : g3 b2 = some (ob (prC w) 56) := by rw [← hg3]; exact upd_same _ _ _
      have l3 : Le y g3 := l2.fr_then (S := [b2]) (by rw [← hg3]; exact Fr.upd _ (by simp)) fun b hb => by simp at hb; rw [hb]; exact hb2
      refine ⟨w.m, by rw [cell_mk e3]; rfl, fun _ => alive_ok fun h' l' => ⟨_, rfl, hK h' (ly.trans (l3.trans l'))⟩, fun hx => ?_⟩
      have hlen : w.m.length ≤ 200 := by have := of_decide_eq_false hx; omega
      have e1 : IntKind.wrap .i64 ((i : Int) + 1) = ((i + 1 : Nat) : Int) := by rw [w64 (by omega) (by omega)]; omega
      refine ⟨w.m, by rw [cell_mk e3]; rfl, w.s, by rw [cell_mk e3]; rfl, ?_⟩
      refine zPut_ok (hz.le l3) ho (by unfold keyOk; omega) (by omega) fun g4 z4 hz4 ho4 hl4 f4 b4 => ⟨_, rfl, ?_⟩
      rw [e1]
      refine ih (i + 1) g4 z4 (by omega) (by omega) hz4 ho4 ?_ (fun b hb => ?_) ((ly.trans l3).fr_then f4 frz)
      · rw [hl4]
        unfold putP
        rw [insP_len]
        have := List.length_filter_le (fun y : Pr => !(y.m == w.m)) z.l
        unfold outP
        show (List.filter (fun y : Pr => !(y.m == w.m)) z.l).length + 1 ≤ i + 1
        omega
      · rcases b4 b hb with h3 | h3
        · exact frz b h3
        · exact (ly.trans l3).dom _ h3
  exact puts n 0 h1 z0 rfl (by omega) hz0 ho0 (by rw [hl0]; simp) fr0 l1

end Go.Proofs.Ytckdkgphkjbbnaa.Hw

/- Contracts of package dict: what a table is in memory, and its reading functions. -/
import Derived.Test.YtckdkgphkjbbnaaZRev
set_option linter.unusedVariables false
set_option linter.unusedSimpArgs false
namespace Go.Proofs.Ytckdkgphkjbbnaa.Hw
open Go.Proofs

/-- An entry: its block, its key, its value's cell. -/
structure Ent where
  b : Nat
  k : List UInt8
  v : Value

def hd : List Ent → Option Addr
  | [] => none
  | e :: _ => some ⟨e.b, 0, none⟩

abbrev entOb (e : Ent) (nx : Option Addr) : Obj := ob [.string ⟨e.k.toArray⟩, e.v, .pointer nx] 152

def ChainH (h : Hp) : List Ent → Prop
  | [] => True
  | e :: L => h e.b = some (entOb e (hd L)) ∧ ChainH h L

/-- The places of a size. -/
structure Half where
  sz : Nat
  a : Nat
  ch : List (List Ent)

def HalfH (h : Hp) (H : Half) : Prop := h H.a = some (ob (H.ch.map fun L => .pointer (hd L)) 150) ∧ ∀ L ∈ H.ch, ChainH h L
def Half.bs (H : Half) : List Nat := H.a :: H.ch.flatten.map (·.b)

structure Tab where
  seed : Int
  h0 : Half
  h1 : Option Half
  moved : Nat
  n : Nat

def sz1 : Option Half → Int
  | none => 0
  | some H => H.sz
def sl1 : Option Half → Value
  | none => .slice none 0 0
  | some H => .slice (some ⟨H.a, 0, none⟩) (2 ^ H.sz) (2 ^ H.sz)

def tabCells (t : Tab) : List Value :=
  [.int .u64 t.seed, .int .i64 t.h0.sz, .slice (some ⟨t.h0.a, 0, none⟩) (2 ^ t.h0.sz) (2 ^ t.h0.sz), .int .i64 (sz1 t.h1), sl1 t.h1, .int .i64 t.moved, .bool t.h1.isSome, .int .i64 t.n]

def TabH (h : Hp) (T : Nat) (t : Tab) : Prop := h T = some (ob (tabCells t) 141) ∧ HalfH h t.h0 ∧ ∀ H, t.h1 = some H → HalfH h H

def Tab.half (t : Tab) (k : Nat) : Option Half := if k = 0 then some t.h0 else if k = 1 then t.h1 else none

def bs1 : Option Half → List Nat
  | none => []
  | some H => H.bs
def Tab.bs (t : Tab) (T : Nat) : List Nat := T :: (t.h0.bs ++ bs1 t.h1)

def en1 : Option Half → List Ent
  | none => []
  | some H => H.ch.flatten
def Tab.ents (t : Tab) : List Ent := t.h0.ch.flatten ++ en1 t.h1

/-- Where a key stands (sealed). -/
theorem pl_ex : ∃ f : Int → List UInt8 → Nat → Nat, f = fun (seed : Int) (key : List UInt8) (sz : Nat) => (hLow (hOf seed key) (sz : Int)).toNat := ⟨_, rfl⟩
noncomputable def pl : Int → List UInt8 → Nat → Nat := pl_ex.choose
theorem pl_def (seed : Int) (key : List UInt8) (sz : Nat) : pl seed key sz = (hLow (hOf seed key) sz).toNat := by
  have := pl_ex.choose_spec
  exact congrFun (congrFun (congrFun this seed) key) sz

def keyOk (k : List UInt8) : Prop := (k.length : Int) ≤ 9223372036854775806

structure Half.ok (seed : Int) (H : Half) : Prop where
  lo : 2 ≤ H.sz
  hi : H.sz ≤ 16
  len : H.ch.length = 2 ^ H.sz
  at_ : ∀ i L, H.ch[i]? = some L → ∀ e ∈ L, pl seed e.k H.sz = i

structure Tab.ok (t : Tab) (T : Nat) : Prop where
  k0 : t.h0.ok t.seed
  k1 : ∀ H, t.h1 = some H → H.ok t.seed
  mv : t.h1.isSome = true → t.moved < 2 ^ t.h0.sz
  mv0 : t.h1 = none → t.moved = 0
  gone : ∀ i, i < t.moved → t.h0.ch[i]? = some []
  keys : (t.ents.map (·.k)).Nodup
  klen : ∀ e ∈ t.ents, keyOk e.k
  cnt : t.n = t.ents.length
  bnd : t.n < 4611686018427387904
  bs : (t.bs T).Nodup
  sd : 0 ≤ t.seed ∧ t.seed < 18446744073709551616
  df : ∀ H, t.h1 = some H → H.sz = t.h0.sz + 1 ∨ t.h0.sz = H.sz + 1

theorem hSize_nat {n : Nat} (h : n ≤ 16) : hSize (n : Int) = n := hSize_le (by omega) (by omega)

theorem pl_lt (seed : Int) (key : List UInt8) {sz : Nat} (h : sz ≤ 16) : pl seed key sz < 2 ^ sz := by
  have := hLow_range (hOf seed key) sz
  rw [hSize_nat h, pow_int] at this
  rw [pl_def]
  simp only [Int.toNat_natCast] at this
  omega

theorem pl_low (seed : Int) (key : List UInt8) (sz : Nat) : hLow (hOf seed key) sz = (pl seed key sz : Int) := by
  have := hLow_range (hOf seed key) sz
  rw [pl_def]
  omega

theorem pow16 {k : Nat} (hk : k ≤ 16) : 1 ≤ 2 ^ k ∧ 2 ^ k ≤ 65536 := pow_le16 hk

theorem tab_sl {h : Hp} {T : Nat} {t : Tab} {k : Nat} {H : Half} (hT : h T = some (ob (tabCells t) 141)) (hk : t.half k = some H) :
    cell h ⟨T, 0 + 1 + Int.toNat (k : Int) * 2 + 1, none⟩ = some (.slice (some ⟨H.a, 0, none⟩) (2 ^ H.sz) (2 ^ H.sz)) := by
  rw [cell_mk hT]
  unfold Tab.half at hk
  split at hk
  · rename_i e; subst e; injection hk with hk; subst hk; simp [tabCells]
  · split at hk
    · rename_i e; subst e; simp [tabCells, hk, sl1]
    · cases hk

theorem tab_sz {h : Hp} {T : Nat} {t : Tab} {k : Nat} {H : Half} (hT : h T = some (ob (tabCells t) 141)) (hk : t.half k = some H) :
    cell h ⟨T, 0 + 1 + Int.toNat (k : Int) * 2 + 0, none⟩ = some (.int .i64 H.sz) := by
  rw [cell_mk hT]
  unfold Tab.half at hk
  split at hk
  · rename_i e; subst e; injection hk with hk; subst hk; simp [tabCells]
  · split at hk
    · rename_i e; subst e; simp [tabCells, hk, sz1]
    · cases hk

theorem tab_seed {h : Hp} {T : Nat} {t : Tab} (hT : h T = some (ob (tabCells t) 141)) : cell h ⟨T, 0 + 0, none⟩ = some (.int .u64 t.seed) := by
  rw [cell_mk hT]; simp [tabCells]

theorem half_lt {t : Tab} {k : Nat} {H : Half} (hk : t.half k = some H) : (k : Int) < 2 := by
  unfold Tab.half at hk
  split at hk
  · omega
  · split at hk
    · omega
    · cases hk

theorem slot_ok {h : Hp} {T : Nat} {t : Tab} {k : Nat} {H : Half} {key : List UInt8} {K : Value → Hp → Prop} (hT : TabH h T t) (hk : t.half k = some H) (hH : H.ok t.seed) (hkey : keyOk key)
    (hK : K (.pointer (some ⟨H.a, pl t.seed key H.sz, none⟩)) h) : CallH Try.prog 96 #[.pointer (some ⟨T, 0, none⟩), .int .i64 k, .string ⟨key.toArray⟩] h K := by
  apply F96_ok
  unfold F96
  have hlt := pl_lt t.seed key hH.hi
  have hr := hOf_range t.seed key
  have c1 := tab_sl hT.1 hk
  have c0 := tab_sz hT.1 hk
  have cs := tab_seed hT.1
  simp only [NN_some, add_mk]
  refine ⟨by omega, half_lt hk, _, _, _, c1, _, cs, _, c0, ?_⟩
  refine Of_ok hkey ⟨_, rfl, ⟨⟨_, _, _, c1, rfl⟩, ⟨_, c0, rfl⟩, trivial⟩, ?_⟩
  refine Place_ok hr.1 hr.2 ⟨_, rfl, ⟨⟨_, _, _, c1, rfl⟩, trivial⟩, ?_⟩
  rw [pl_low]
  refine ⟨by omega, Int.ofNat_lt.2 hlt, ?_⟩
  simp only [NN_some, add_mk, Int.toNat_natCast, Nat.mul_one, Nat.zero_add]
  exact hK

/-! ### Looking for a key -/

/-- The cell that points at what stands behind these entries of a place. -/
def atOf (H : Half) (i : Nat) (L : List Ent) : Addr :=
  match L.getLast? with
  | none => ⟨H.a, i, none⟩
  | some e => ⟨e.b, 2, none⟩

theorem ChainH.app {h : Hp} : ∀ {L M : List Ent}, ChainH h (L ++ M) → ChainH h M := by
  intro L
  induction L with
  | nil => intro M hc; exact hc
  | cons e L ih => intro M hc; exact ih hc.2

theorem ChainH.at_ {h : Hp} {M : List Ent} : ∀ {L : List Ent} {e : Ent}, ChainH h (L ++ e :: M) → h e.b = some (entOb e (hd M)) := by
  intro L
  induction L with
  | nil => intro e hc; exact hc.1
  | cons d L ih => intro e hc; exact ih hc.2

theorem atOf_cell {h : Hp} {H : Half} {i : Nat} {L M : List Ent} (hH : HalfH h H) (hi : H.ch[i]? = some (L ++ M)) : cell h (atOf H i L) = some (.pointer (hd M)) := by
  unfold atOf
  cases hl : L.getLast? with
  | none =>
    have : L = [] := List.getLast?_eq_none_iff.1 hl
    subst this
    simp only []
    rw [cell_mk hH.1, List.getElem?_map, hi]
    rfl
  | some e =>
    have hL : L = L.dropLast ++ [e] := by
      obtain ⟨ys, hy⟩ := List.getLast?_eq_some_iff.1 hl
      rw [hy]; simp
    have hc := hH.2 _ (List.mem_of_getElem? hi)
    rw [hL, List.append_assoc] at hc
    have := ChainH.at_ (L := L.dropLast) (e := e) (M := M) (by simpa using hc)
    simp only []
    rw [cell_mk this]
    rfl

def findIn (key : List UInt8) : List Ent → Option Ent
  | [] => none
  | e :: L => if e.k == key then some e else findIn key L

/-- What 'find' tells: a cell that points at the entry of the key; or nil, and there is none. -/
inductive Found (t : Tab) (key : List UInt8) : Option Addr → Prop
  | at_ (k : Nat) (H : Half) (L : List Ent) (e : Ent) (M : List Ent) (hk : t.half k = some H) (hi : H.ch[pl t.seed key H.sz]? = some (L ++ e :: M)) (he : e.k = key) (hL : ∀ d ∈ L, d.k ≠ key) : Found t key (some (atOf H (pl t.seed key H.sz) L))
  | no (hn : ∀ k H, t.half k = some H → ∀ L, H.ch[pl t.seed key H.sz]? = some L → ∀ d ∈ L, d.k ≠ key) : Found t key none

theorem atOf_snoc (H : Half) (i : Nat) (L : List Ent) (e : Ent) : atOf H i (L ++ [e]) = ⟨e.b, 2, none⟩ := by simp [atOf]

theorem half_ok {t : Tab} {T k : Nat} {H : Half} (ho : t.ok T) (hk : t.half k = some H) : H.ok t.seed := by
  unfold Tab.half at hk
  split at hk
  · injection hk with hk; subst hk; exact ho.k0
  · split at hk
    · exact ho.k1 _ hk
    · cases hk

theorem half_mem {h : Hp} {T : Nat} {t : Tab} {k : Nat} {H : Half} (hT : TabH h T t) (hk : t.half k = some H) : HalfH h H := by
  unfold Tab.half at hk
  split at hk
  · injection hk with hk; subst hk; exact hT.2.1
  · split at hk
    · exact hT.2.2 _ hk
    · cases hk

theorem find_ok {h : Hp} {T : Nat} {t : Tab} {key : List UInt8} {K : Value → Hp → Prop} (hT : TabH h T t) (ho : t.ok T) (hkey : keyOk key)
    (hK : ∀ a, Found t key a → K (.pointer a) h) : CallH Try.prog 70 #[.pointer (some ⟨T, 0, none⟩), .string ⟨key.toArray⟩] h K := by
  apply F70_ok
  unfold F70
  intro K1 hK1 W1 hW1
  -- a half's place, from an entry on
  have walk : ∀ (k : Nat) (H : Half), t.half k = some H → ∀ (K2 : List Value → Hp → Prop) (W2 : List Value → Hp → Prop),
      (∀ (at1 : Option Addr), ∀ h6 : Hp, (∀ _j5 : Nat → Value, (NN at1 fun p1 => (∃ (v1 : Option Addr), cell h6 p1 = some (.pointer v1) ∧ (((!(Option.isNone v1)) = true → (NN at1 fun p2 => (∃ (v2 : Option Addr), cell h6 p2 = some (.pointer v2) ∧ (NN v2 fun p3 => (∃ (key2 : List UInt8), cell h6 (Addr.add p3 0) = some (.string ⟨(key2 : List UInt8).toArray⟩) ∧ (((key2 == key) = true → K (.pointer at1) h6) ∧ ((key2 == key) = false → (NN at1 fun p4 => (∃ (v3 : Option Addr), cell h6 p4 = some (.pointer v3) ∧ (NN v3 fun p5 => W2 [.pointer (some (Addr.add p5 2))] h6)))))))))) ∧ ((!(Option.isNone v1)) = false → K2 [] h6))))) → W2 [.pointer at1] h6) →
      ((∀ L, H.ch[pl t.seed key H.sz]? = some L → ∀ d ∈ L, d.k ≠ key) → K2 [] h) →
      ∀ (M L : List Ent), H.ch[pl t.seed key H.sz]? = some (L ++ M) → (∀ d ∈ L, d.k ≠ key) → W2 [.pointer (some (atOf H (pl t.seed key H.sz) L))] h := by
    intro k H hk K2 W2 hW2 hK2 M
    induction M with
    | nil =>
      intro L hi hL
      refine hW2 _ _ fun _ => ?_
      simp only [NN_some]
      refine ⟨_, atOf_cell (half_mem hT hk) hi, ?_, fun _ => ?_⟩
      · intro hx; simp [hd] at hx
      · refine hK2 fun L' hL' d hd' => ?_
        rw [hi] at hL'
        injection hL' with e
        subst e
        exact hL d (by simpa using hd')
    | cons e M ih =>
      intro L hi hL
      refine hW2 _ _ fun _ => ?_
      have hc := atOf_cell (half_mem hT hk) hi
      have he := ChainH.at_ (half_mem hT hk |>.2 _ (List.mem_of_getElem? hi))
      simp only [NN_some, add_mk]
      refine ⟨_, hc, fun _ => ⟨_, hc, ?_⟩, fun hx => by simp [hd] at hx⟩
      simp only [hd, NN_some, add_mk]
      refine ⟨e.k, by rw [cell_mk he]; rfl, fun hx => ?_, fun hx => ⟨_, hc, ?_⟩⟩
      · exact hK _ (.at_ k H L e M hk hi (by simpa using hx) hL)
      · simp only [hd, NN_some, add_mk]
        have := ih (L ++ [e]) (by simpa using hi) (by
          intro d hd'
          rcases List.mem_append.1 hd' with h1 | h1
          · exact hL d h1
          · simp at h1; subst h1; simpa using hx)
        rw [atOf_snoc] at this
        exact this
  have get : ∀ (H : Half), H.ok t.seed → ∃ L, H.ch[pl t.seed key H.sz]? = some L := by
    intro H hH
    have := pl_lt t.seed key hH.hi
    exact ⟨_, List.getElem?_eq_getElem (by rw [hH.len]; exact this)⟩
  have end2 : (∀ H, t.half 0 = some H → ∀ L, H.ch[pl t.seed key H.sz]? = some L → ∀ d ∈ L, d.k ≠ key) → (∀ H, t.half 1 = some H → ∀ L, H.ch[pl t.seed key H.sz]? = some L → ∀ d ∈ L, d.k ≠ key) → K1 [] h := by
    intro g0 g1
    refine hK1 _ fun _ => hK _ (.no fun k H hk => ?_)
    unfold Tab.half at hk
    split at hk
    · injection hk with hk; subst hk; exact g0 _ rfl
    · split at hk
      · exact g1 _ (by simpa [Tab.half] using hk)
      · cases hk
  refine hW1 _ _ fun _ => ⟨fun _ => ?_, fun hx => by simp at hx⟩
  intro K2 hK2 J1 hJ1
  refine ⟨fun hx => by simp at hx, fun _ => ?_⟩
  refine hJ1 _ _ fun _ => ⟨fun hx => by simp at hx, fun _ => ?_⟩
  have hk0 : t.half 0 = some t.h0 := rfl
  refine slot_ok (k := 0) hT hk0 ho.k0 hkey ⟨_, rfl, ?_⟩
  intro W2 hW2
  obtain ⟨L0, hL0⟩ := get _ ho.k0
  refine walk 0 _ hk0 K2 W2 hW2 (fun g0 => ?_) L0 [] hL0 (by simp)
  refine hK2 _ fun _ => ?_
  rw [w64 (by omega) (by omega)]
  refine hW1 _ _ fun _ => ⟨fun _ => ?_, fun hx => by simp at hx⟩
  intro K3 hK3 J2 hJ2
  refine ⟨fun _ => ?_, fun hx => by simp at hx⟩
  simp only [NN_some, add_mk]
  refine ⟨_, by rw [cell_mk hT.1]; rfl, ?_⟩
  refine hJ2 _ _ fun _ => ⟨fun hx => ?_, fun hx => ?_⟩
  · refine end2 (fun H hH => by injection hH with e; subst e; exact g0) fun H hH => ?_
    have : t.h1 = some H := hH
    rw [this] at hx
    simp at hx
  · cases h1 : t.h1 with
    | none => rw [h1] at hx; simp at hx
    | some H =>
      have hk1 : t.half 1 = some H := h1
      refine slot_ok (k := 1) hT hk1 (ho.k1 _ h1) hkey ⟨_, rfl, ?_⟩
      intro W3 hW3
      obtain ⟨L1, hL1⟩ := get _ (ho.k1 _ h1)
      refine walk 1 _ hk1 K3 W3 hW3 (fun g1 => ?_) L1 [] hL1 (by simp)
      refine hK3 _ fun _ => ?_
      rw [w64 (by omega) (by omega)]
      refine hW1 _ _ fun _ => ⟨fun hx => by simp at hx, fun _ => ?_⟩
      exact end2 (fun H' hH => by injection hH with e; subst e; exact g0) (fun H' hH => by
        have : some H = some H' := by rw [← hk1]; exact hH
        injection this with e; subst e; exact g1)

end Go.Proofs.Ytckdkgphkjbbnaa.Hw

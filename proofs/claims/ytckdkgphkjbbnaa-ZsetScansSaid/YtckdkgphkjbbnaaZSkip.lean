/- Contracts of package skip: what a list is in memory; less, height, Len, New. -/
import Derived.Test.YtckdkgphkjbbnaaZScan2
set_option linter.unusedVariables false
set_option linter.unusedSimpArgs false
namespace Go.Proofs.Ytckdkgphkjbbnaa.Hw
open Go.Proofs

/-- A pair: a member, its score. -/
structure Pr where
  m : List UInt8
  s : Int

/-- A node: its block, its links' block, its pair, in how many levels it stands. -/
structure Nd where
  b : Nat
  lb : Nat
  x : Pr
  ht : Nat

def htOf (ns : List Nd) (r : Nat) : Nat := ((ns[r]?).map (·.ht)).getD 0
def ptOf (ns : List Nd) (q : Option Nat) : Option Addr := q.bind fun q => (ns[q]?).map fun d => ⟨d.b, 0, none⟩

/-- The next place behind p in level k. -/
def Nx (ht : Nat → Nat) (k p : Nat) : Option Nat → Prop
  | none => ∀ r, p < r → ht r ≤ k
  | some q => p < q ∧ k < ht q ∧ ∀ r, p < r → r < q → ht r ≤ k

/-- A link's two cells. -/
def LinkC (ns : List Nd) (k p : Nat) (c0 c1 : Option Value) : Prop :=
  ∃ q by_, Nx (htOf ns) k p q ∧ c0 = some (.pointer (ptOf ns q)) ∧ c1 = some (.int .i64 by_) ∧ ∀ q', q = some q' → by_ = (q' : Int) - p

def LinksH (h : Hp) (ns : List Nd) (p : Nat) (d : Nd) : Prop :=
  ∃ cs, h d.lb = some (ob cs 160) ∧ cs.length = 2 * d.ht ∧ ∀ k, k < d.ht → LinkC ns k p cs[2 * k]? cs[2 * k + 1]?

def NodeH (h : Hp) (ns : List Nd) (p : Nat) (d : Nd) : Prop :=
  h d.b = some (ob [.string ⟨d.x.m.toArray⟩, .int .i64 d.x.s, .slice (some ⟨d.lb, 0, none⟩) d.ht d.ht] 145) ∧ LinksH h ns p d

/-- A list: its seed, its nodes, the first one of no pair. -/
structure Sk where
  seed : Int
  ns : List Nd

def Sk.n (s : Sk) : Nat := s.ns.length - 1
def Sk.hd (s : Sk) : Option Addr := ptOf s.ns (some 0)

def SkH (h : Hp) (L : Nat) (s : Sk) : Prop :=
  h L = some (ob [.int .u64 s.seed, .pointer s.hd, .int .i64 (s.n : Int)] 147) ∧ ∀ p d, s.ns[p]? = some d → NodeH h s.ns p d

def ndB (ns : List Nd) : List Nat := ns.flatMap fun d => [d.b, d.lb]
def Sk.bs (s : Sk) (L : Nat) : List Nat := L :: ndB s.ns

structure Sk.ok (s : Sk) (L : Nat) : Prop where
  head : htOf s.ns 0 = 16
  hts : ∀ d ∈ s.ns, 1 ≤ d.ht ∧ d.ht ≤ 16
  bs : (s.bs L).Nodup
  bnd : s.ns.length < 4611686018427387904
  keys : ∀ d ∈ s.ns, keyOk d.x.m
  sd : 0 ≤ s.seed ∧ s.seed < 18446744073709551616

theorem Len_sk {h : Hp} {L : Nat} {s : Sk} {K : Value → Hp → Prop} (hS : SkH h L s) (hK : K (.int .i64 (s.n : Int)) h) : CallH Try.prog 83 #[.pointer (some ⟨L, 0, none⟩)] h K := by
  apply F83_ok
  unfold F83
  refine ⟨fun hx => by simp at hx, fun _ => ?_⟩
  simp only [NN_some, add_mk]
  exact ⟨_, by rw [cell_mk hS.1]; rfl, hK⟩

theorem ready_sk {h : Hp} {L : Nat} {s : Sk} {K : Value → Hp → Prop} (hS : SkH h L s) (ho : s.ok L) (hK : K (.bool true) h) : CallH Try.prog 71 #[.pointer (some ⟨L, 0, none⟩)] h K := by
  apply F71_ok
  unfold F71
  have h0 : ∃ d, s.ns[0]? = some d := by
    have := ho.head
    unfold htOf at this
    cases hx : s.ns[0]? with
    | none => rw [hx] at this; simp at this
    | some d => exact ⟨d, rfl⟩
  obtain ⟨d, hd⟩ := h0
  have hhd : s.hd = some ⟨d.b, 0, none⟩ := by simp [Sk.hd, ptOf, hd]
  intro K1 hK1 J1 hJ1
  refine ⟨fun _ => ?_, fun hx => by simp at hx⟩
  simp only [NN_some, add_mk]
  refine ⟨_, by rw [cell_mk hS.1]; rfl, ?_⟩
  refine hJ1 _ _ fun _ => ⟨fun hx => by rw [hhd] at hx; simp at hx, fun _ => ?_⟩
  exact hK1 _ fun _ => hK

/-- One pair is ahead of another one. -/
def prLess (a b : Pr) : Bool := decide (a.s < b.s) || (a.s == b.s && Op.bytesLess a.m b.m)

abbrev prC (x : Pr) : List Value := [.string ⟨x.m.toArray⟩, .int .i64 x.s]

theorem less_ok {a b : Pr} {h : Hp} {K : Value → Hp → Prop} (hK : ∀ h', Le h h' → K (.bool (prLess a b)) h') :
    CallH Try.prog 99 #[.agg #[.string ⟨a.m.toArray⟩, .int .i64 a.s], .agg #[.string ⟨b.m.toArray⟩, .int .i64 b.s]] h K := by
  apply F99_ok
  unfold F99
  intro x hx y hy
  have hxy : y ≠ x := fun e => by rw [e, upd_same] at hy; cases hy
  have l : Le h (upd (upd h x (.cells #[.string ⟨a.m.toArray⟩, .int .i64 a.s] 56)) y (.cells #[.string ⟨b.m.toArray⟩, .int .i64 b.s] 56)) := (Le.new _ hx).trans (Le.new _ hy)
  have cx : upd (upd h x (.cells #[.string ⟨a.m.toArray⟩, .int .i64 a.s] 56)) y (.cells #[.string ⟨b.m.toArray⟩, .int .i64 b.s] 56) x = some (ob (prC a) 56) := by
    rw [upd_ne _ _ hxy.symm, upd_same]
  have cy : upd (upd h x (.cells #[.string ⟨a.m.toArray⟩, .int .i64 a.s] 56)) y (.cells #[.string ⟨b.m.toArray⟩, .int .i64 b.s] 56) y = some (ob (prC b) 56) := upd_same _ _ _
  simp only [add_mk]
  refine ⟨a.s, by rw [cell_mk cx]; rfl, b.s, by rw [cell_mk cy]; rfl, ?_⟩
  intro J1 hJ1
  have hk := hK _ l
  unfold prLess at hk
  refine ⟨fun h1 => hJ1 _ _ fun _ => ?_, fun h1 => ⟨a.s, by rw [cell_mk cx]; rfl, b.s, by rw [cell_mk cy]; rfl, ?_⟩⟩
  · rw [h1] at hk; exact hk
  · intro J2 hJ2
    rw [h1] at hk
    refine ⟨fun h2 => ⟨a.m, by rw [cell_mk cx]; rfl, b.m, by rw [cell_mk cy]; rfl, hJ2 _ _ fun _ => hJ1 _ _ fun _ => ?_⟩, fun h2 => hJ2 _ _ fun _ => hJ1 _ _ fun _ => ?_⟩
    · rw [h2] at hk; exact hk
    · rw [h2] at hk; exact hk

/-- What 'to' asks: is a pair ahead of the one in a box? -/
theorem to1_ok {y x : Pr} {b : Nat} {h : Hp} {K : Value → Hp → Prop} (hb : h b = some (ob (prC x) 56)) (hK : ∀ h', Le h h' → K (.bool (prLess y x)) h') :
    CallH Try.prog 98 #[.agg #[.string ⟨y.m.toArray⟩, .int .i64 y.s], .pointer (some ⟨b, 0, none⟩)] h K := by
  apply F98_ok
  unfold F98
  intro z hz
  have hzb : b ≠ z := ne_of_some_none hb hz
  have l := Le.new (.cells #[.string ⟨y.m.toArray⟩, .int .i64 y.s] 56) hz
  refine ⟨y.m, y.s, ?_, x.m, x.s, ?_, ?_⟩
  · refine rowAt_mk (cs := prC y) (upd_same _ _ _) _ _ _ fun k hk => by simp
  · refine rowAt_mk (cs := prC x) (by rw [upd_ne _ _ hzb]; exact hb) _ _ _ fun k hk => by simp
  · exact less_ok fun h' l' => ⟨_, rfl, hK h' (l.trans l')⟩

end Go.Proofs.Ytckdkgphkjbbnaa.Hw

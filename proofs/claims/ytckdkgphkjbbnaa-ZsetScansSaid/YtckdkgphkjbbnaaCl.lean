/- The heap logic: the clause of each operation, and that it is sound. -/
import Derived.Test.YtckdkgphkjbbnaaOps
set_option linter.unusedVariables false
set_option linter.unusedSimpArgs false
namespace Go.Proofs.Ytckdkgphkjbbnaa.Hw

section hpl
variable {P : Program} {h : Hp}
theorem hp_program {K : Program → Hp → Prop} : hp P program h K ↔ K P h := Iff.rfl
theorem hp_load {a : Addr} {m : Mode} {K : Value → Hp → Prop} : hp P (load a m) h K ↔ ∃ v, cell h a = some v ∧ K v h := Iff.rfl
theorem hp_newObj {o : Obj} {K : Nat → Hp → Prop} : hp P (newObj o) h K ↔ newE h o K := Iff.rfl
theorem hp_shape {r : Nat} {K : Option (TypeId × Nat) → Hp → Prop} : hp P (shape r) h K ↔ ∃ o, h r = some o ∧ K (shapeOf o) h := Iff.rfl
theorem hp_frozen {a : Addr} {K : Bool → Hp → Prop} : hp P (frozen a) h K ↔ ∃ o, h a.block = some o ∧ K (frozenOf (some o) a) h := Iff.rfl
theorem hp_getObj {r : Nat} {K : Obj → Hp → Prop} : hp P (getObj r) h K ↔ ∃ o, h r = some o ∧ isCells o = false ∧ K o h := Iff.rfl
theorem hp_setObj {r : Nat} {o : Obj} {K : Unit → Hp → Prop} : hp P (setObj r o) h K ↔ ∃ o', h r = some o' ∧ isCells o' = false ∧ K () (upd h r o) := Iff.rfl
theorem hp_choose {q : Question} {K : Nat → Hp → Prop} : hp P (choose q) h K ↔ ∀ n, adm q n → K n h := Iff.rfl
theorem hp_mark {m : Mark} {K : Unit → Hp → Prop} : hp P (mark m) h K ↔ K () h := Iff.rfl
theorem hp_pure' {α : Type} {a : α} {K : α → Hp → Prop} : hp P (pure a) h K ↔ K a h := Iff.rfl
theorem hp_pureC {α : Type} {a : α} {K : α → Hp → Prop} : hp P (Sem.pure a) h K ↔ K a h := Iff.rfl
theorem hp_stuck {α : Type} {s : String} {K : α → Hp → Prop} : hp P (stuck s) h K ↔ False := Iff.rfl
theorem hp_freeze {a : Addr} {n : Nat} {K : Unit → Hp → Prop} : hp P (freeze a n) h K ↔ ∃ o, h a.block = some o ∧ K () (if n = 0 then h else upd h a.block (freezeOf o a.off n)) := Iff.rfl

theorem hp_info {t : TypeId} {i : TypeInfo} (hi : P.info? t = some i) {K : TypeInfo → Hp → Prop} : hp P (typeInfo t) h K ↔ K i h := by
  simp [typeInfo, hp_bind, hp_program, hi, hp_pure']
theorem hp_und {t : TypeId} {d : TypeDesc} (hd : P.underlying t = some d) {K : TypeDesc → Hp → Prop} : hp P (underlying t) h K ↔ K d h := by
  simp [underlying, hp_bind, hp_program, hd, hp_pure']
theorem hp_zero {t : TypeId} {i : TypeInfo} {z : Value} (hi : P.info? t = some i) (hz : i.zero = some z) {K : Value → Hp → Prop} : hp P (zeroValue t) h K ↔ K z h := by
  simp [zeroValue, hp_bind, hp_info hi, hz, hp_pure']
theorem hp_size {t : TypeId} {i : TypeInfo} (hi : P.info? t = some i) {K : Nat → Hp → Prop} : hp P (sizeOf t) h K ↔ K i.size h := by
  unfold sizeOf
  first
    | rw [hp_bind, hp_info hi]; exact Iff.rfl
    | exact (hp_bind (typeInfo t) (fun i => pure i.size) h K).trans (hp_info hi)
theorem hp_isAgg {t : TypeId} {d : TypeDesc} (hd : P.underlying t = some d) {K : Bool → Hp → Prop} : hp P (isAgg t) h K ↔ K (isAggD (some d)) h := by
  unfold isAgg
  rw [hp_bind, hp_und hd]
  cases d <;> simp [isAggD, hp_pure']
theorem hp_map {α β : Type} (f : α → β) (s : Sem α) {K : β → Hp → Prop} : hp P (f <$> s) h K ↔ hp P s h fun a h' => K (f a) h' := by
  show hp P (s.bind fun a => pure (f a)) h K ↔ _
  exact hp_bind s _ h K
end hpl

/-- What is next, behind an operation. -/
def nextE (P : Program) (K : Value → Hp → Prop) : Next → Hp → Prop
  | .value v, h => K v h
  | .skip, h => K undef h
  | .enter f args, h => CallH P f args h K
  | _, _ => False

theorem nextE_mono {P : Program} {K K' : Value → Hp → Prop} (hk : ∀ v h, K v h → K' v h) (n : Next) (h : Hp) (hh : nextE P K n h) : nextE P K' n h := by
  cases n with
  | value v => exact hk _ _ hh
  | skip => exact hk _ _ hh
  | enter f args => exact CallH.mono hh hk
  | _ => exact hh.elim

def opHp (P : Program) (o : Oper) (e : Env) (h : Hp) (K : Value → Hp → Prop) : Prop :=
  hp P (execOp (ev e) o) h fun n h' => nextE P K n h'

theorem hp_val {P : Program} {h : Hp} {K : Value → Hp → Prop} {s : Sem Value} (hh : hp P s h K) :
    hp P (do pure (Next.value (← s))) h (fun n h' => nextE P K n h') := by
  rw [hp_bind]
  exact hh

theorem hp_uni {P : Program} {h : Hp} {K : Value → Hp → Prop} {s : Sem Unit} (hh : hp P s h fun _ h' => K undef h') :
    hp P (do s; pure Next.skip) h (fun n h' => nextE P K n h') := by
  rw [hp_bind]
  exact hh

/-! ### Numbers, bools, strings -/

def pickE (c a b : Value) (K : Value → Prop) : Prop :=
  match c with
  | .bool t => K (match t with | true => a | false => b)
  | _ => False

def intBin (op : BinOp) (k : IntKind) (x y : Int) (K : Value → Prop) : Prop :=
  match op with
  | .add => K (.int k (k.wrap (x + y)))
  | .sub => K (.int k (k.wrap (x - y)))
  | .mul => K (.int k (k.wrap (x * y)))
  | .quo => y ≠ 0 ∧ K (.int k (k.wrap (x.tdiv y)))
  | .rem => y ≠ 0 ∧ K (.int k (x.tmod y))
  | .and => K (.int k (k.wrap (BitVec.ofInt k.bits x &&& BitVec.ofInt k.bits y).toNat))
  | .or => K (.int k (k.wrap (BitVec.ofInt k.bits x ||| BitVec.ofInt k.bits y).toNat))
  | .xor => K (.int k (k.wrap (BitVec.ofInt k.bits x ^^^ BitVec.ofInt k.bits y).toNat))
  | .eql => K (.bool (x == y))
  | .neq => K (.bool (x != y))
  | .lss => K (.bool (decide (x < y)))
  | .leq => K (.bool (decide (x ≤ y)))
  | .gtr => K (.bool (decide (x > y)))
  | .geq => K (.bool (decide (x ≥ y)))
  | .shl => 0 ≤ y ∧ K (.int k (k.wrap (x * 2 ^ (min y.toNat k.bits))))
  | .shr => 0 ≤ y ∧ K (.int k (x.fdiv (2 ^ (min y.toNat k.bits))))
  | _ => False

def strBin (op : BinOp) (x y : List UInt8) (K : Value → Prop) : Prop :=
  match op with
  | .add => ((x.length + y.length : Nat) : Int) ≤ 9223372036854775807 ∧ K (.string ⟨(x ++ y).toArray⟩)
  | .eql => K (.bool (x == y))
  | .neq => K (.bool (!(x == y)))
  | .lss => K (.bool (Op.bytesLess x y))
  | .leq => K (.bool (Op.bytesLess x y || x == y))
  | .gtr => K (.bool (!(Op.bytesLess x y || x == y)))
  | .geq => K (.bool (!Op.bytesLess x y))
  | _ => False

/-- A block that is plain cells of which none is marked. -/
def plainB (h : Hp) (b : Nat) : Prop := ∃ c e, h b = some (.cells c e (0, 0))

def ptrEq2 (h : Hp) (p q : Addr) (K : Bool → Prop) : Prop :=
  (p.block = q.block → K (decide (p = q))) ∧ (p.block ≠ q.block → plainB h p.block ∧ plainB h q.block ∧ K false)

def ptrEqE (h : Hp) (a b : Option Addr) (K : Bool → Prop) : Prop :=
  match b with
  | none => K a.isNone
  | some q => match a with
    | none => K false
    | some p => ptrEq2 h p q K

def cellEq : Value → Value → Option Bool
  | .int k a, .int k' b => if k = k' then some (a == b) else none
  | .string a, .string b => some (a.data.toList == b.data.toList)
  | .bool a, .bool b => some (a == b)
  | _, _ => none

/-- Structs whose cells are numbers, strings and bools, one against the other. -/
def cellsEqE : List Value → List Value → (Bool → Prop) → Prop
  | [], [], K => K true
  | v :: vs, w :: ws, K => match cellEq v w with
    | some b => cellsEqE vs ws fun r => K (b && r)
    | none => False
  | _, _, _ => False

def okF : TD → Value → Value → Bool
  | .int _, .int _ _, .int _ _ => true
  | .str, .string _, .string _ => true
  | .bool, .bool _, .bool _ => true
  | _, _, _ => false

/-- The fields are numbers, strings and bools, and so are the cells. -/
def flatF {P : Program} (X : Cx P) : List (Nat × TypeId) → Nat → List Value → List Value → Bool
  | [], _, [], [] => true
  | (off, ft) :: fs, n, x :: xs, y :: ys => match Nat.beq off n, (X.tb ft).known, (X.tb ft).ck, okF (X.tb ft).desc x y with
    | true, true, .one _, true => flatF X fs (n + 1) xs ys
    | _, _, _, _ => false
  | _, _, _, _ => false

def eqE {P : Program} (X : Cx P) (h : Hp) (t : TypeId) (a b : Value) (K : Bool → Prop) : Prop :=
  match (X.tb t).known, (X.tb t).desc with
  | true, .bool => match a, b with
    | .bool x, .bool y => K (x == y)
    | _, _ => False
  | true, .ptr e => match (X.tb e).known, (X.tb e).size with
    | true, _ + 1 => match a, b with
      | .pointer x, .pointer y => ptrEqE h x y K
      | _, _ => False
    | _, _ => False
  | true, .slice _ => match b with
    | .slice none _ _ => match a with
      | .slice x _ _ => K x.isNone
      | _ => False
    | .slice y _ _ => match a with
      | .slice none _ _ => K y.isNone
      | _ => False
    | _ => False
  | true, .map _ _ => match b with
    | .map none => match a with
      | .map x => K x.isNone
      | _ => False
    | _ => False
  | true, .struct fs => match a, b with
    | .agg xs, .agg ys => match (X.tb t).eqOk, flatF X fs 0 xs.toList ys.toList with
      | true, true => cellsEqE xs.toList ys.toList K
      | _, _ => False
    | _, _ => False
  | _, _ => False

def binE {P : Program} (X : Cx P) (op : BinOp) (h : Hp) (t : TypeId) (a b : Value) (K : Value → Prop) : Prop :=
  match a, b with
  | .int k x, .int k' y => match op with
    | .shl | .shr => intBin op k x y K
    | _ => match decide (k = k') with
      | true => intBin op k x y K
      | false => False
  | .string x, .string y => strBin op x.data.toList y.data.toList K
  | a, b => match op with
    | .eql => eqE X h t a b fun r => K (.bool r)
    | .neq => eqE X h t a b fun r => K (.bool (!r))
    | _ => False

theorem hp_eqGuard {P : Program} {h : Hp} {op : BinOp} {t : TypeId} {x y : Operand} {a b : Value} {K : Unit → Hp → Prop} (hn : ∀ c d, (a = .agg c ∧ b = .agg d) → P.eqGuardType P.depth t = false) (hi : ¬(a = .nilIface ∧ b = .nilIface)) (hk : K () h) :
    hp P (eqGuard op t x y a b) h K := by
  unfold eqGuard
  split
  all_goals
    first
      | exact hk
      | (simp only [Bool.not_true, Bool.false_eq_true, if_false]
         split
         · exact (hi ⟨rfl, rfl⟩).elim
         · have he := hn _ _ ⟨rfl, rfl⟩
           rw [hp_bind]
           show hp P program h _
           simp only [hp_program]
           rw [hp_bind]
           simp [hp_program, he, hk, hp_pure']
         · exact hk)

theorem toList_data (x : ByteArray) : x.toList = x.data.toList := ByteArray.toList_eq x

end Go.Proofs.Ytckdkgphkjbbnaa.Hw

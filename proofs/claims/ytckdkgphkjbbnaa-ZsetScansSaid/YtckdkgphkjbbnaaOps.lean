/- The heap logic: kinds of values, and a clause for each operation. -/
import Derived.Test.YtckdkgphkjbbnaaBase
set_option linter.unusedVariables false
set_option linter.unusedSimpArgs false
namespace Go.Proofs.Ytckdkgphkjbbnaa.Hw

/-- The kind of a value of one cell. -/
inductive SK where
  | int (k : IntKind) | bool | str | ptr | slice | map | raw

def SK.all : SK → (Value → Prop) → Prop
  | .int k, F => ∀ n : Int, F (.int k n)
  | .bool, F => ∀ b : Bool, F (.bool b)
  | .str, F => ∀ s : List UInt8, F (.string ⟨s.toArray⟩)
  | .ptr, F => ∀ a : Option Addr, F (.pointer a)
  | .slice, F => ∀ (a : Option Addr) (n c : Nat), F (.slice a n c)
  | .map, F => ∀ r : Option Nat, F (.map r)
  | .raw, F => ∀ v : Value, F v

def SK.ex : SK → (Value → Prop) → Prop
  | .int k, F => ∃ n : Int, F (.int k n)
  | .bool, F => ∃ b : Bool, F (.bool b)
  | .str, F => ∃ s : List UInt8, F (.string ⟨s.toArray⟩)
  | .ptr, F => ∃ a : Option Addr, F (.pointer a)
  | .slice, F => ∃ (a : Option Addr) (n c : Nat), F (.slice a n c)
  | .map, F => ∃ r : Option Nat, F (.map r)
  | .raw, F => ∃ v : Value, F v

def exL : List SK → (List Value → Prop) → Prop
  | [], F => F []
  | k :: ks, F => k.ex fun v => exL ks fun vs => F (v :: vs)

def allL : List SK → (List Value → Prop) → Prop
  | [], F => F []
  | k :: ks, F => k.all fun v => allL ks fun vs => F (v :: vs)

/-- The kind of a value: one cell, or several. -/
inductive CK where
  | one (s : SK) | agg (ks : List SK)

def CK.ex : CK → (Value → Prop) → Prop
  | .one s, F => s.ex F
  | .agg ks, F => exL ks fun vs => F (.agg vs.toArray)

def CK.all : CK → (Value → Prop) → Prop
  | .one s, F => s.all F
  | .agg ks, F => allL ks fun vs => F (.agg vs.toArray)

def exC : List CK → (List Value → Prop) → Prop
  | [], F => F []
  | k :: ks, F => k.ex fun v => exC ks fun vs => F (v :: vs)

def allC : List CK → (List Value → Prop) → Prop
  | [], F => F []
  | k :: ks, F => k.all fun v => allC ks fun vs => F (v :: vs)

theorem SK.ex_elim {s : SK} {F : Value → Prop} (h : s.ex F) : ∃ v, F v := by
  cases s with
  | slice => obtain ⟨a, n, c, h⟩ := h; exact ⟨_, h⟩
  | _ => obtain ⟨n, h⟩ := h; exact ⟨_, h⟩

theorem SK.all_intro {s : SK} {F : Value → Prop} (h : ∀ v, F v) : s.all F := by
  cases s with
  | slice => exact fun a n c => h _
  | _ => exact fun n => h _

theorem ex_split {s : SK} {F : Value → Prop} : s.ex F ↔ ∃ v, s.ex (fun w => w = v) ∧ F v := by
  cases s with
  | slice =>
    constructor
    · rintro ⟨a, n, c, h⟩; exact ⟨_, ⟨a, n, c, rfl⟩, h⟩
    · rintro ⟨v, ⟨a, n, c, rfl⟩, h⟩; exact ⟨a, n, c, h⟩
  | _ =>
    constructor
    · rintro ⟨n, h⟩; exact ⟨_, ⟨n, rfl⟩, h⟩
    · rintro ⟨v, ⟨n, rfl⟩, h⟩; exact ⟨n, h⟩

theorem ex_mono {s : SK} {F G : Value → Prop} (hfg : ∀ v, F v → G v) (h : s.ex F) : s.ex G := by
  obtain ⟨v, h1, h2⟩ := ex_split.1 h
  exact ex_split.2 ⟨v, h1, hfg _ h2⟩

theorem exL_elim {ks : List SK} : ∀ {F : List Value → Prop}, exL ks F → ∃ vs, vs.length = ks.length ∧ F vs := by
  induction ks with
  | nil => exact fun h => ⟨[], rfl, h⟩
  | cons k ks ih =>
    intro F h
    obtain ⟨v, h⟩ := SK.ex_elim h
    obtain ⟨vs, hl, h⟩ := ih h
    exact ⟨v :: vs, by simp [hl], h⟩

theorem CK.ex_elim {c : CK} {F : Value → Prop} (h : c.ex F) : ∃ v, F v := by
  cases c with
  | one s => exact SK.ex_elim h
  | agg ks => obtain ⟨vs, _, h⟩ := exL_elim h; exact ⟨_, h⟩

theorem exC_elim {ks : List CK} : ∀ {F : List Value → Prop}, exC ks F → ∃ vs, F vs := by
  induction ks with
  | nil => exact fun h => ⟨[], h⟩
  | cons k ks ih =>
    intro F h
    obtain ⟨v, h⟩ := CK.ex_elim h
    obtain ⟨vs, h⟩ := ih h
    exact ⟨v :: vs, h⟩

theorem allL_intro {ks : List SK} : ∀ {F : List Value → Prop}, (∀ vs, F vs) → allL ks F := by
  induction ks with
  | nil => exact fun h => h []
  | cons k ks ih => exact fun h => SK.all_intro fun v => ih fun vs => h _

theorem CK.all_intro {c : CK} {F : Value → Prop} (h : ∀ v, F v) : c.all F := by
  cases c with
  | one s => exact SK.all_intro h
  | agg ks => exact allL_intro fun vs => h _

theorem allC_intro {ks : List CK} : ∀ {F : List Value → Prop}, (∀ vs, F vs) → allC ks F := by
  induction ks with
  | nil => exact fun h => h []
  | cons k ks ih => exact fun h => CK.all_intro fun v => ih fun vs => h _

/-- What is known of a type. -/
inductive TD where
  | int (k : IntKind) | bool | str | ptr (e : TypeId) | slice (e : TypeId) | arr (n : Nat) (e : TypeId)
  | map (k e : TypeId) | struct (fs : List (Nat × TypeId)) | tuple (ts : List TypeId) | other

structure TI where
  desc : TD
  ck : CK
  size : Nat
  bytes : Nat
  zero : List Value
  zval : Value
  eqOk : Bool
  known : Bool

def skOf : Value → SK
  | .int k _ => .int k
  | .bool _ => .bool
  | .string _ => .str
  | .pointer _ => .ptr
  | .slice _ _ _ => .slice
  | .map _ => .map
  | _ => .raw

def tdOf : Option TypeDesc → TD
  | some (.int k) => .int k
  | some .bool => .bool
  | some .string => .str
  | some (.pointer e) => .ptr e
  | some (.slice e) => .slice e
  | some (.array n e) => .arr n e
  | some (.map k e) => .map k e
  | some (.struct fs) => .struct (fs.toList.map fun f => (f.offset, f.type))
  | some (.tuple ts) => .tuple ts.toList
  | _ => .other

def isAggD : Option TypeDesc → Bool
  | some (.struct _) => true
  | some (.array _ _) => true
  | _ => false

def zeroOf (P : Program) (t : TypeId) : List Value :=
  match P.info? t with
  | some i => match i.zero with
    | some z => z.cells.toList
    | none => []
  | none => []

/-- No field without a name. -/
def namesOk : Option TypeDesc → Bool
  | some (.struct fs) => fs.toList.all fun f => f.name != "_"
  | _ => true

def tiOf (P : Program) (t : TypeId) : TI :=
  let z := zeroOf P t
  { desc := tdOf (P.underlying t), ck := if isAggD (P.underlying t) then .agg (z.map skOf) else .one (skOf (z.headD undef)),
    size := P.cellsOf t, bytes := P.bytesOf t, zero := z, zval := ((P.info? t).bind (·.zero)).getD undef, eqOk := (!P.stoodInHeld t && !P.eqGuardType P.depth t) && namesOk (P.underlying t), known := (P.info? t).isSome && (P.underlying t).isSome && ((P.info? t).bind (·.zero)).isSome && (z.length == P.cellsOf t) }

/-- The tables that the clauses read, and that they are the program's. -/
structure Cx (P : Program) where
  tb : TypeId → TI
  fb : FuncId → Bool
  tbOk : ∀ t, (tb t).known = true → tb t = tiOf P t
  fbOk : ∀ f, fb f = true → ∃ fn, P.funcs[f]? = some fn ∧ fn.body.isSome = true ∧ (fn.name == "runtime.NumGoroutine") = false

abbrev Env := Nat → Value

def Env.put (e : Env) (d : Nat) (v : Value) : Env := fun t => match Nat.beq t d with | true => v | false => e t

def putO (e : Env) (d : Option Nat) (v : Value) : Env :=
  match d with
  | some d => e.put d v
  | none => e

def ev (e : Env) : Operand → Value
  | .tmp t => e t
  | .const v => v
  | .global g => .pointer (some ⟨g, 0, none⟩)
  | .func f => .func (.func f) #[] #[]

/-- A pointer that must not be nil. -/
def NN (a : Option Addr) (K : Addr → Prop) : Prop :=
  match a with
  | some p => K p
  | none => False

/-- The address in a value. -/
def atP (v : Value) (K : Addr → Prop) : Prop :=
  match v with
  | .pointer a => NN a K
  | _ => False

/-- Cells in a row, from a place on. -/
def rowAt (h : Hp) (p : Addr) : Nat → List Value → Prop
  | _, [] => True
  | i, v :: vs => cell h (p.add i) = some v ∧ rowAt h p (i + 1) vs

def okW (h : Hp) (p : Addr) : Prop := (cell h p).isSome = true ∧ frozenOf (h p.block) p = false

def wr (h : Hp) (p : Addr) (v : Value) : Hp :=
  match h p.block with
  | some o => upd h p.block (putOf o p v)
  | none => h

def okWs (h : Hp) (p : Addr) : Nat → List Value → Prop
  | _, [] => True
  | i, v :: vs => oneCell v = true ∧ okW h (p.add i) ∧ okWs (wr h (p.add i) v) p (i + 1) vs

def wrs (h : Hp) (p : Addr) : Nat → List Value → Hp
  | _, [] => h
  | i, v :: vs => wrs (wr h (p.add i) v) p (i + 1) vs

/-- A load of a variable of this kind. -/
def ldE (c : CK) (h : Hp) (p : Addr) (K : Value → Prop) : Prop :=
  match c with
  | .one s => s.ex fun v => cell h p = some v ∧ K v
  | .agg ks => exL ks fun vs => rowAt h p 0 vs ∧ K (.agg vs.toArray)

/-- A store of a value. -/
def stE (c : CK) (h : Hp) (p : Addr) (v : Value) (K : Hp → Prop) : Prop :=
  match c with
  | .one _ => okW h p ∧ K (wr h p v)
  | .agg _ => match v with
    | .agg cs => okWs h p 0 cs.toList ∧ K (wrs h p 0 cs.toList)
    | _ => False

/-- A new block, at whatever fresh number. -/
def newE (h : Hp) (o : Obj) (K : Nat → Hp → Prop) : Prop := ∀ b, h b = none → K b (upd h b o)

theorem hp_new {P : Program} {α : Type} (o : Obj) (f : Nat → Sem α) (h : Hp) (K : α → Hp → Prop) (hh : newE h o fun b h' => hp P (f b) h' K) : hp P (newObj o >>= f) h K :=
  (hp_bind _ _ _ _).2 hh

/-! ### The table's word, and the program's -/

section table
variable {P : Program} (X : Cx P)

structure Known (P : Program) (t : TypeId) (T : TI) (i : TypeInfo) (d : TypeDesc) (z : Value) : Prop where
  info : P.info? t = some i
  und : P.underlying t = some d
  desc : tdOf (some d) = T.desc
  size : i.size = T.size
  bytes : i.bytes = T.bytes
  zero : i.zero = some z
  zval : z = T.zval
  zcells : z.cells = T.zero.toArray
  zlen : T.zero.length = T.size
  ck : T.ck = if isAggD (some d) then .agg (T.zero.map skOf) else .one (skOf (T.zero.headD undef))
  eqOk : T.eqOk = true → (P.stoodInHeld t = false ∧ P.eqGuardType P.depth t = false) ∧ namesOk (some d) = true

theorem Cx.known {t : TypeId} (h : (X.tb t).known = true) : ∃ i d z, Known P t (X.tb t) i d z := by
  have e := X.tbOk t h
  generalize X.tb t = T at *
  subst e
  simp only [tiOf, Bool.and_eq_true, beq_iff_eq] at h
  obtain ⟨⟨⟨h1, h2⟩, h3⟩, h4⟩ := h
  obtain ⟨i, hi⟩ := Option.isSome_iff_exists.1 h1
  obtain ⟨d, hd⟩ := Option.isSome_iff_exists.1 h2
  rw [hi, Option.bind_some] at h3
  obtain ⟨z, hz⟩ := Option.isSome_iff_exists.1 h3
  exact ⟨i, d, z, hi, hd, by simp [tiOf, hd], by simp [tiOf, Program.cellsOf, hi], by simp [tiOf, Program.bytesOf, hi], hz, by simp [tiOf, hi, hz], by simp [tiOf, zeroOf, hi, hz], h4, by simp [tiOf, hd], by intro he; simpa [tiOf, hd] using he⟩

end table

end Go.Proofs.Ytckdkgphkjbbnaa.Hw

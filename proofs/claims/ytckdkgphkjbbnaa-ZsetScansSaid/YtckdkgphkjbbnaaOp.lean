/- The heap logic: one operation. -/
import Derived.Test.YtckdkgphkjbbnaaCl8
set_option linter.unusedVariables false
set_option linter.unusedSimpArgs false
namespace Go.Proofs.Ytckdkgphkjbbnaa.Hw

variable {P : Program} (X : Cx P)

/-! ### Calls -/

/-- A call of a function without a body. -/
def ExtH (P : Program) (g : FuncId) (args : Array Value) (h : Hp) (K : Value → Hp → Prop) : Prop :=
  hp P (callFunc g args) h fun n h' => nextE P K n h'

/-- A call of a function value. -/
def CallV (P : Program) (f : Value) (args : Array Value) (h : Hp) (K : Value → Hp → Prop) : Prop :=
  hp P (do let d ← Deferred.ofValue f args; invoke d.target d.args) h fun n h' => nextE P K n h'

def BuiltinH (P : Program) (b : Builtin) (ats : Array TypeId) (ty : TypeId) (cs : Array Bool) (args : Array Value) (h : Hp) (K : Value → Hp → Prop) : Prop :=
  hp P (builtin b ats ty cs args) h fun n h' => nextE P K n h'

def RangeH (P : Program) (t : TypeId) (v : Value) (h : Hp) (K : Value → Hp → Prop) : Prop := hp P (Instr.range t v) h K
def NextH (P : Program) (v : Value) (s : Bool) (t : TypeId) (h : Hp) (K : Value → Hp → Prop) : Prop := hp P (Instr.next v s t) h K

def callG (g : FuncId) (args : List Value) (h : Hp) (K : Value → Hp → Prop) : Prop :=
  match X.fb g with
  | true => CallH P g args.toArray h K
  | false => ExtH P g args.toArray h K

theorem hp_callFunc {g : FuncId} {args : Array Value} {h : Hp} {K : Value → Hp → Prop} (hg : X.fb g = true) (hh : CallH P g args h K) : hp P (callFunc g args) h fun n h' => nextE P K n h' := by
  obtain ⟨fn, h1, h2, h3⟩ := X.fbOk g hg
  unfold callFunc
  rw [hp_bind, hp_program]
  simp only [h1, h3, Bool.false_eq_true, if_false]
  obtain ⟨c, hc⟩ := Option.isSome_iff_exists.1 h2
  simp only [hc, Option.isNone_some, Bool.false_eq_true, if_false]
  exact hh

theorem callG_ok {g : FuncId} {args : List Value} {h : Hp} {K : Value → Hp → Prop} (hh : callG X g args h K) : hp P (callFunc g args.toArray) h fun n h' => nextE P K n h' := by
  unfold callG at hh
  split at hh
  · rename_i hg; exact hp_callFunc X hg hh
  · exact hh

def callVE (f : Value) (args : List Value) (h : Hp) (K : Value → Hp → Prop) : Prop :=
  match f with
  | .func (.func g) first cap => callG X g (first.toList ++ args ++ cap.toList) h K
  | f => CallV P f args.toArray h K

theorem callVE_ok {f : Value} {args : List Value} {h : Hp} {K : Value → Hp → Prop} (hh : callVE X f args h K) : CallV P f args.toArray h K := by
  unfold callVE at hh
  split at hh
  · rename_i g first cap
    unfold CallV Deferred.ofValue
    rw [hp_bind]
    simp only [hp_pure', invoke]
    have e : first ++ args.toArray ++ cap = (first.toList ++ args ++ cap.toList).toArray := by simp
    rw [e]
    exact callG_ok X hh
  · exact hh

def builtinE (b : Builtin) (ats : List TypeId) (ty : TypeId) (cs : Array Bool) (args : List Value) (h : Hp) (K : Value → Hp → Prop) : Prop :=
  match b with
  | .len => match ats, args with
    | [t], [v] => lenE X t v h fun v => K v h
    | _, _ => False
  | .cap => match ats, args with
    | [t], [v] => capE X t v fun v => K v h
    | _, _ => False
  | .min => match args with
    | v :: ws => mnE v ws fun v => K v h
    | [] => False
  | .max => match args with
    | v :: ws => mxE v ws fun v => K v h
    | [] => False
  | .append => match ats, args with
    | [t, t2], [v, x] => appendE X t t2 v x h K
    | _, _ => False
  | .copy => match ats, args with
    | [t, _], [v, x] => copyE X t v x h K
    | _, _ => False
  | .delete => match ats, args with
    | [t, _], [m, k] => delE X t m k h fun h' => K (.tuple #[]) h'
    | _, _ => False
  | b => BuiltinH P b ats.toArray ty cs args.toArray h K

theorem builtinE_ok {b : Builtin} {ats : List TypeId} {ty : TypeId} {cs : Array Bool} {args : List Value} {h : Hp} {K : Value → Hp → Prop} (hh : builtinE X b ats ty cs args h K) :
    BuiltinH P b ats.toArray ty cs args.toArray h K := by
  unfold BuiltinH
  unfold builtinE at hh
  split at hh
  · split at hh
    · exact hp_val (hp_len X (t := _) rfl rfl hh)
    · exact hh.elim
  · split at hh
    · exact hp_val (hp_cap X rfl rfl hh)
    · exact hh.elim
  · split at hh
    · exact hp_val (by unfold Builtin.min_; exact hp_min _ _ hh)
    · exact hh.elim
  · split at hh
    · exact hp_val (by unfold Builtin.max_; exact hp_max _ _ hh)
    · exact hh.elim
  · split at hh
    · exact hp_val (hp_append X hh)
    · exact hh.elim
  · split at hh
    · exact hp_val (hp_copy X hh)
    · exact hh.elim
  · split at hh
    · exact hp_val (hp_delete X hh)
    · exact hh.elim
  · exact hh

def callE (c : Call) (ty : TypeId) (e : Env) (h : Hp) (K : Value → Hp → Prop) : Prop :=
  match c.callee with
  | .builtin b => builtinE X b c.argTypes.toList ty (c.args.map fun | .const _ => true | _ => false) (c.args.toList.map (ev e)) h K
  | .value f => callVE X (ev e f) (c.args.toList.map (ev e)) h fun v h' => castR (X.tb ty) X.tb v fun v => K v h'
  | .invoke _ _ => False

theorem callE_ok {c : Call} {ty : TypeId} {e : Env} {h : Hp} {K : Value → Hp → Prop} (hh : callE X c ty e h K) :
    hp P (do let d ← resolve (ev e) c ty; invoke d.target d.args) h fun n h' => nextE P K n h' := by
  unfold callE at hh
  rw [hp_bind]
  unfold resolve
  have ea : c.args.map (ev e) = (c.args.toList.map (ev e)).toArray := by simp [← Array.toList_map]
  split at hh
  · rename_i b hb
    simp only [hb]
    rw [hp_pure', ea]
    have := builtinE_ok X hh
    unfold BuiltinH at this
    unfold invoke
    exact this
  · rename_i f hf
    simp only [hf]
    have h1 := callVE_ok X hh
    unfold CallV at h1
    rw [hp_bind] at h1
    rw [ea]
    refine hp_mono _ _ _ _ ?_ h1
    intro d h' hd
    refine hp_mono _ _ _ _ ?_ hd
    intro n h'' hn
    exact nextE_mono (fun v h hc => castR_out hc) n h'' hn
  · exact hh.elim

def partsE (e : Env) (ps : Array (Nat × Operand)) : List (Nat × Value) := ps.toList.map fun p => (p.1, ev e p.2)

/-- One operation. -/
def opE (o : Oper) (e : Env) (h : Hp) (K : Value → Hp → Prop) : Prop :=
  match o.op with
  | .move x => K (ev e x) h
  | .assign x => K (ev e x) h
  | .pick c a b => pickE (ev e c) (ev e a) (ev e b) fun v => K v h
  | .alloc t => match (X.tb t).known with
    | true => newE h (.cells (X.tb t).zero.toArray t) fun b h' => K (.pointer (some ⟨b, 0, none⟩)) h'
    | false => False
  | .box t x => newE h (.cells (cellsL (ev e x)).toArray t) fun b h' => K (.pointer (some ⟨b, 0, none⟩)) h'
  | .build t ps => buildE X t (partsE e ps) fun v => K v h
  | .buildSlice t n ps => buildSlE X t n (partsE e ps) h K
  | .load t a => match (X.tb t).known, ev e a with
    | true, .pointer (some p) => ldE (X.tb t).ck h p fun v => K v h
    | _, _ => False
  | .store t a v => match ev e a with
    | .pointer (some p) => stVE (X.tb t) h p (ev e v) fun h' => K undef h'
    | _ => False
  | .nilCheck x => nilE (ev e x) fun v => K v h
  | .binOp op t x y _ => binE X op h t (ev e x) (ev e y) fun v => K v h
  | .unOp op _ x => unE op (ev e x) fun v => K v h
  | .convert s d x => convE X s d (ev e x) h K
  | .makeFunc fn first cap => K (.func fn (first.toList.map (ev e)).toArray (cap.toList.map (ev e)).toArray) h
  | .makeMap t r => match r with
    | none => newE h (.map #[] 0) fun b h' => K (.map (some b)) h'
    | some _ => False
  | .makeSlice t l c => makeSlE X t (ev e l) (ev e c) h K
  | .slice t x lo hi mx => sliceE X t (ev e x) (lo.map (ev e)) (hi.map (ev e)) (mx.map (ev e)) fun v => K v h
  | .fieldAddr t x f => fieldAE X t (ev e x) f fun v => K v h
  | .field t x f => fieldE X t (ev e x) f fun v => K v h
  | .indexAddr t x i => indexAE X t (ev e x) (ev e i) fun v => K v h
  | .index t x i => indexE X t (ev e x) (ev e i) fun v => K v h
  | .lookup t m k ok => lookE X t (ev e m) (ev e k) ok h fun v => K v h
  | .mapUpdate t m k v => updE X t (ev e m) (ev e k) (ev e v) h fun h' => K undef h'
  | .insert t m k v => updE X t (ev e m) (ev e k) (ev e v) h fun h' => K undef h'
  | .extract x i => extractE (ev e x) i fun v => K v h
  | .call c => callE X c o.type e h K
  | .range t x => RangeH P t (ev e x) h K
  | .next x s => NextH P (ev e x) s o.type h K
  | _ => opHp P o e h K

theorem opE_ok {o : Oper} {e : Env} {h : Hp} {K : Value → Hp → Prop} (hh : opE X o e h K) : opHp P o e h K := by
  unfold opE at hh
  unfold opHp
  split at hh
  · rename_i x ho; simp only [execOp, ho]; exact hh
  · rename_i x ho; simp only [execOp, ho]; exact hh
  · rename_i c a b ho
    simp only [execOp, ho]
    unfold pickE at hh
    split at hh
    · rename_i t hc
      rw [hc, hp_bind]
      cases t <;> exact hh
    · exact hh.elim
  · rename_i t ho
    simp only [execOp, ho]
    split at hh
    · rename_i hk; exact hp_val (hp_alloc X hk hh)
    · exact hh.elim
  · rename_i t x ho
    simp only [execOp, ho]
    refine hp_val (hp_box ?_)
    rw [← cellsL_eq] at hh
    exact hh
  · rename_i t ps ho
    simp only [execOp, ho]
    refine hp_val (hp_build X ?_)
    have e1 : (ps.map fun (i, x) => (i, ev e x)).toList = partsE e ps := by simp [partsE]
    rw [e1]
    exact hh
  · rename_i t n ps ho
    simp only [execOp, ho]
    refine hp_val (hp_buildSl X ?_)
    have e1 : (ps.map fun (i, x) => (i, ev e x)).toList = partsE e ps := by simp [partsE]
    rw [e1]
    exact hh
  · rename_i t a ho
    simp only [execOp, ho]
    split at hh
    · rename_i p hk ha
      refine hp_val ?_
      unfold Instr.loadAt
      rw [ha, hp_bind]
      exact hp_loadVar X hk hh
    · exact hh.elim
  · rename_i t a v ho
    simp only [execOp, ho]
    split at hh
    · rename_i p ha
      refine hp_uni ?_
      unfold Instr.storeAt
      rw [ha, hp_bind]
      exact hp_storeVar X hh
    · exact hh.elim
  · rename_i x ho; exact nilE_ok ho rfl hh
  · rename_i op t x y yt ho
    simp only [execOp, ho]
    exact hp_val (binE_ok X hh)
  · rename_i op t x ho
    simp only [execOp, ho]
    exact hp_val (hp_un hh)
  · rename_i s d x ho
    simp only [execOp, ho]
    exact hp_val (hp_conv X hh)
  · rename_i fn first cap ho
    simp only [execOp, ho]
    have e1 : first.map (ev e) = (first.toList.map (ev e)).toArray := by simp [← Array.toList_map]
    have e2 : cap.map (ev e) = (cap.toList.map (ev e)).toArray := by simp [← Array.toList_map]
    refine hp_val ?_
    unfold Instr.makeFunc
    rw [e1, e2]
    exact hh
  · rename_i t r ho
    simp only [execOp, ho]
    split at hh
    · refine hp_val ?_
      simp only [Option.map_none, Instr.makeMap]
      rw [hp_bind]
      exact hh
    · exact hh.elim
  · rename_i t l c ho
    simp only [execOp, ho]
    exact hp_val (hp_makeSl X hh)
  · rename_i t x lo hi mx ho
    simp only [execOp, ho]
    exact hp_val (hp_slice X hh)
  · rename_i t x f ho
    simp only [execOp, ho]
    exact hp_val (hp_fieldA X hh)
  · rename_i t x f ho
    simp only [execOp, ho]
    exact hp_val (hp_field X hh)
  · rename_i t x f ho
    simp only [execOp, ho]
    exact hp_val (hp_indexA X hh)
  · rename_i t x f ho
    simp only [execOp, ho]
    exact hp_val (hp_index X hh)
  · rename_i t m k ok ho
    simp only [execOp, ho]
    exact hp_val (hp_lookup X hh)
  · rename_i t m k v ho
    simp only [execOp, ho]
    exact hp_uni (hp_update X hh)
  · rename_i t m k v ho
    simp only [execOp, ho]
    exact hp_uni (hp_update X hh)
  · rename_i x i ho
    simp only [execOp, ho]
    exact hp_val (hp_extract hh)
  · rename_i c ho
    simp only [execOp, ho]
    exact callE_ok X hh
  · rename_i t x ho
    simp only [execOp, ho]
    exact hp_val hh
  · rename_i x s ho
    simp only [execOp, ho]
    exact hp_val hh
  · exact hh

end Go.Proofs.Ytckdkgphkjbbnaa.Hw

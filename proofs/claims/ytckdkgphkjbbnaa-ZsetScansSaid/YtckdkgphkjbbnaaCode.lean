/- The heap logic: a list of operations, without and with joins behind guarded parts. -/
import Derived.Test.YtckdkgphkjbbnaaOp
set_option linter.unusedVariables false
set_option linter.unusedSimpArgs false
namespace Go.Proofs.Ytckdkgphkjbbnaa.Hw

variable {P : Program} (X : Cx P)

def envOf (a : Act) : Env := fun t => a.tmps.getD t undef

theorem ev_envOf (a : Act) (x : Operand) : ev (envOf a) x = a.eval x := by cases x <;> rfl

theorem ev_fun (a : Act) : ev (envOf a) = a.eval := funext (ev_envOf a)

theorem put_eq (e : Env) (d t : Nat) (v : Value) : e.put d v t = if t = d then v else e t := by
  unfold Env.put
  cases h : Nat.beq t d with
  | true => rw [if_pos (Nat.eq_of_beq_eq_true h)]
  | false => rw [if_neg (Nat.ne_of_beq_eq_false h)]

def dstOk (n : Nat) : Option Nat → Bool
  | none => true
  | some d => Nat.blt d n

theorem envOf_put (a : Act) (d : Option Nat) (v : Value) (h : dstOk a.tmps.size d = true) : envOf (a.put d v) = putO (envOf a) d v := by
  cases d with
  | none => rfl
  | some d =>
    have hd : d < a.tmps.size := by
      have : Nat.blt d a.tmps.size = true := h
      exact Nat.le_of_ble_eq_true this
    funext t
    simp only [putO, put_eq]
    unfold envOf Act.put
    simp only [Array.getD_eq_getD_getElem?, Array.getElem?_setIfInBounds]
    by_cases e : t = d
    · subst e; simp [hd]
    · simp [e, Ne.symm e]

/-- Is an operation to be carried out? Its guard's slot tells. -/
def wantE (ops : List Oper) (o : Oper) (e : Env) (yes no : Prop) : Prop :=
  match o.guard with
  | none => yes
  | some (j, w) => match ops[j]? with
    | some oj => match oj.dst with
      | some d => match e d with
        | .bool b => match b, w with
          | true, true => yes
          | false, false => yes
          | true, false => no
          | false, true => no
        | _ => no
      | none => no
    | none => no

theorem wantE_ok {ops : Array Oper} {o : Oper} {a : Act} {yes no : Prop} (h : wantE ops.toList o (envOf a) yes no) (hd : ∀ (j d : Nat), (ops[j]?).bind (·.dst) = some d → d < a.tmps.size) :
    if Region.wanted o (yielded ops a.tmps) = true then yes else no := by
  unfold wantE at h
  unfold Region.wanted
  cases hg : o.guard with
  | none => simp [hg] at h ⊢; exact h
  | some g =>
    obtain ⟨j, w⟩ := g
    rw [hg] at h
    simp only [Array.getElem?_toList] at h
    unfold yielded
    cases hj : ops[j]? with
    | none => rw [hj] at h; simp only [] at h; simp [hj, h]
    | some oj =>
      rw [hj] at h
      simp only [] at h
      cases hdd : oj.dst with
      | none => rw [hdd] at h; simp only [] at h; simp [hj, hdd, h]
      | some d =>
        rw [hdd] at h
        simp only [] at h
        have hlt := hd j d (by simp [hj, hdd])
        have he : envOf a d = a.tmps[d] := by simp [envOf, Array.getD_eq_getD_getElem?, hlt]
        have he' : a.tmps[d]? = some (envOf a d) := by rw [he]; exact Array.getElem?_eq_getElem hlt
        simp only [hj, hdd, Option.bind_some, he']
        cases hv : envOf a d <;> rw [hv] at h <;> simp only [] at h <;> try (simp [h]; done)
        rename_i b
        cases b <;> cases w <;> simp at h ⊢ <;> exact h

/-- How an operation of a list is told. -/
inductive Md where
  | pl | pu | rd | qt | al
  | st (js : List Nat)

/-- What a value's kind is, with several results. -/
def exR (T : TI) (tb : TypeId → TI) (F : Value → Prop) : Prop :=
  match T.known, T.desc with
  | true, .tuple ts => exC (ts.map fun t => (tb t).ck) fun vs => F (.tuple vs.toArray)
  | true, _ => T.ck.ex F
  | false, _ => False

theorem exR_out {T : TI} {tb : TypeId → TI} {F : Value → Prop} (h : exR T tb F) : ∃ v, F v := by
  unfold exR at h
  split at h
  · obtain ⟨vs, h⟩ := exC_elim h; exact ⟨_, h⟩
  · exact CK.ex_elim h
  · exact h.elim

/-- A call that leaves the heap as it is. -/
def quietE (o : Oper) (e : Env) (h : Hp) (K : Value → Hp → Prop) : Prop :=
  match o.op with
  | .call c => match c.callee with
    | .value f => match ev e f with
      | .func (.func g) first cap => match X.fb g with
        | true => exR (X.tb o.type) X.tb fun v => CallH P g (first.toList ++ c.args.toList.map (ev e) ++ cap.toList).toArray h (fun r h' => r = v ∧ h' = h) ∧ K v h
        | false => False
      | _ => False
    | _ => False
  | _ => False

def isPure {P : Program} (X : Cx P) (o : Oper) : Bool :=
  match o.op with
  | .move _ | .assign _ | .pick .. | .build .. | .nilCheck _ | .unOp .. | .makeFunc .. | .slice .. | .fieldAddr .. | .field .. | .indexAddr .. | .index .. | .extract .. => true
  | .binOp op t _ _ _ => match op with
    | .eql | .neq => match (X.tb t).desc with
      | .int _ | .str | .bool | .slice _ | .map .. => true
      | _ => false
    | _ => true
  | .convert s d _ => match (X.tb s).desc, (X.tb d).desc with
    | .int _, .int _ => true
    | .str, .str => true
    | _, _ => false
  | .call c => match c.callee with
    | .builtin .len => match c.argTypes.toList with
      | [t] => match (X.tb t).desc with
        | .map .. => false
        | _ => true
      | _ => false
    | .builtin .cap | .builtin .min | .builtin .max => true
    | _ => false
  | _ => false

def isRead {P : Program} (X : Cx P) (o : Oper) : Bool :=
  match o.op with
  | .load .. | .lookup .. => true
  | .binOp op t _ _ _ => match op with
    | .eql | .neq => match (X.tb t).desc with
      | .ptr _ => true
      | _ => false
    | _ => false
  | _ => false

def isAlloc (o : Oper) : Bool :=
  match o.op with
  | .alloc _ | .box .. | .buildSlice .. | .makeMap .. | .makeSlice .. => true
  | _ => false

/-- What was told by these operations is told again. -/
def stabE (ops : List Oper) (e : Env) (h : Hp) : List Nat → Prop
  | [] => True
  | j :: js => (match ops[j]? with
    | some o => match o.dst, isRead X o with
      | some d, true => wantE ops o e (opE X o e h fun v h' => v = e d) True
      | _, _ => False
    | none => False) ∧ stabE ops e h js

def opF (ops : List Oper) (m : Md) (o : Oper) (e : Env) (h : Hp) (K : Value → Hp → Prop) : Prop :=
  match m with
  | .pl => opE X o e h K
  | .pu => match isPure X o with
    | true => opE X o e h K
    | false => False
  | .rd => match isRead X o with
    | true => opE X o e h K
    | false => False
  | .qt => quietE X o e h K
  | .al => match isAlloc o with
    | true => opE X o e h K
    | false => False
  | .st js => opE X o e h fun v h' => stabE X ops e h' js ∧ K v h'

inductive Tok where
  | op (i : Nat)
  | fork (g : Nat) (outs : List (Nat × CK)) (mod : List Nat) (n : Nat)

def memN (t : Nat) : List Nat → Bool
  | [] => false
  | x :: l => match Nat.beq t x with
    | true => true
    | false => memN t l

def subN (l m : List Nat) : Bool := l.all fun t => memN t m

theorem memN_iff {t : Nat} {l : List Nat} : memN t l = true ↔ t ∈ l := by
  induction l with
  | nil => simp [memN]
  | cons x l ih =>
    unfold memN
    cases h : Nat.beq t x with
    | true => have := Nat.eq_of_beq_eq_true h; simp [this]
    | false => have := Nat.ne_of_beq_eq_false h; simp [this, ih]

theorem subN_iff {l m : List Nat} : subN l m = true ↔ ∀ t ∈ l, t ∈ m := by
  unfold subN
  rw [List.all_eq_true]
  exact ⟨fun h t ht => memN_iff.1 (h t ht), fun h t ht => memN_iff.2 (h t ht)⟩

/-- An environment with some slots known anew, and others forgotten. -/
def mix : List Nat → List Value → List Nat → Env → Env → Env
  | s :: ss, v :: vs, mod, junk, e => fun t => match Nat.beq t s with
    | true => v
    | false => mix ss vs mod junk e t
  | _, _, mod, junk, e => fun t => match memN t mod with
    | true => junk t
    | false => e t

theorem mix_same (e' e : Env) (mod : List Nat) : ∀ (ss : List Nat), (∀ t, t ∉ ss → t ∉ mod → e' t = e t) → mix ss (ss.map e') mod e' e = e' := by
  intro ss h
  funext t
  have key : ∀ ss' : List Nat, (∀ s ∈ ss', s ∈ ss) → (t ∈ ss → t ∈ ss' ∨ mix ss' (ss'.map e') mod e' e t = e' t) → mix ss' (ss'.map e') mod e' e t = e' t := by
    intro ss'
    induction ss' with
    | nil =>
      intro _ hc
      simp only [mix, List.map_nil]
      cases hm : memN t mod with
      | true => rfl
      | false =>
        by_cases hts : t ∈ ss
        · rcases hc hts with h1 | h1
          · simp at h1
          · simpa [mix, hm] using h1
        · exact (h t hts (fun hx => by rw [memN_iff.2 hx] at hm; cases hm)).symm
    | cons s ss' ih =>
      intro hsub hc
      simp only [mix, List.map_cons]
      cases hb : Nat.beq t s with
      | true => simp [Nat.eq_of_beq_eq_true hb]
      | false =>
        simp only []
        refine ih (fun x hx => hsub x (by simp [hx])) ?_
        intro hts
        rcases hc hts with h1 | h1
        · rcases List.mem_cons.1 h1 with h2 | h2
          · exact (Nat.ne_of_beq_eq_false hb h2).elim
          · exact .inl h2
        · right; simpa [mix, hb] using h1
  exact key ss (fun _ h => h) (fun h => .inl h)

def idxs : List Tok → List Nat
  | [] => []
  | .op i :: ts => i :: idxs ts
  | .fork .. :: ts => idxs ts

def dstsOf (ops : List Oper) (l : List Nat) : List Nat := l.filterMap fun i => (ops[i]?).bind (·.dst)

/-- The formula of a region. -/
def wpS (n : Nat) (ops : List Oper) (md : Nat → Md) : Nat → List Tok → Env → Hp → (Env → Hp → Prop) → Prop
  | _, [], e, h, K => K e h
  | 0, _ :: _, _, _, _ => False
  | f + 1, .op i :: ts, e, h, K => match ops[i]? with
    | some o => match dstOk n o.dst with
      | true => wantE ops o e (opF X ops (md i) o e h fun v h' => wpS n ops md f ts (putO e o.dst v) h' K) (wpS n ops md f ts (putO e o.dst undef) h K)
      | false => False
    | none => False
  | f + 1, .fork g outs mod m :: ts, e, h, K => match e g with
    | .bool b => match subN (dstsOf ops (idxs (ts.take m))) (outs.map (·.1) ++ mod) with
      | true => ∀ J : List Value → Hp → Prop,
        (allC (outs.map (·.2)) fun vs => ∀ h', (∀ junk, wpS n ops md f (ts.drop m) (mix (outs.map (·.1)) vs mod junk e) h' K) → J vs h') →
        (b = true → wpS n ops md f (ts.take m) (e.put g (.bool true)) h fun e' h' => J ((outs.map (·.1)).map e') h') ∧
        (b = false → wpS n ops md f (ts.take m) (e.put g (.bool false)) h fun e' h' => J ((outs.map (·.1)).map e') h')
      | false => False
    | _ => wpS n ops md f ts e h K

/-- An operation that tells v, and leaves the heap. -/
def QV (P : Program) (o : Oper) (e : Env) (h : Hp) (v : Value) : Prop := opHp P o e h fun v' h' => v' = v ∧ h' = h

/-- An operation that lays a new block, and no more. -/
def AV (P : Program) (o : Oper) (e : Env) (ob : Obj) (vf : Nat → Value) : Prop := ∀ h K, (newE h ob fun b h' => K (vf b) h') → opHp P o e h K

def stabS {P : Program} (X : Cx P) (ops : List Oper) (e : Env) (h : Hp) (js : List Nat) : Prop :=
  ∀ j ∈ js, ∃ o d, ops[j]? = some o ∧ o.dst = some d ∧ wantE ops o e (QV P o e h (e d) ∧ opE X o e h fun v' _ => v' = e d) True

def opS {P : Program} (X : Cx P) (ops : List Oper) (m : Md) (o : Oper) (e : Env) (h : Hp) (K : Value → Hp → Prop) : Prop :=
  match m with
  | .pl => opHp P o e h K
  | .pu => isPure X o = true ∧ ∃ v, (∀ h', QV P o e h' v) ∧ K v h
  | .rd => isRead X o = true ∧ ∃ v, QV P o e h v ∧ (opE X o e h fun v' _ => v' = v) ∧ K v h
  | .qt => ∃ v, QV P o e h v ∧ K v h
  | .al => isAlloc o = true ∧ ∃ ob vf, AV P o e ob vf ∧ (∀ h K, opE X o e h K ↔ newE h ob fun b h' => K (vf b) h') ∧ newE h ob fun b h' => K (vf b) h'
  | .st js => opHp P o e h fun v h' => stabS X ops e h' js ∧ K v h'

theorem opHp_mono {o : Oper} {e : Env} {h : Hp} {K K' : Value → Hp → Prop} (hh : opHp P o e h K) (hk : ∀ v h', K v h' → K' v h') : opHp P o e h K' :=
  hp_mono _ _ _ _ (fun n h' hn => nextE_mono hk n h' hn) hh

theorem opS_mono {ops : List Oper} {m : Md} {o : Oper} {e : Env} {h : Hp} {K K' : Value → Hp → Prop} (hh : opS X ops m o e h K) (hk : ∀ v h', K v h' → K' v h') : opS X ops m o e h K' := by
  cases m with
  | pl => exact opHp_mono hh hk
  | pu => obtain ⟨h1, v, h2, h3⟩ := hh; exact ⟨h1, v, h2, hk _ _ h3⟩
  | rd => obtain ⟨h1, v, h2, h4, h3⟩ := hh; exact ⟨h1, v, h2, h4, hk _ _ h3⟩
  | qt => obtain ⟨v, h2, h3⟩ := hh; exact ⟨v, h2, hk _ _ h3⟩
  | al => obtain ⟨h1, ob, vf, h2, h4, h3⟩ := hh; exact ⟨h1, ob, vf, h2, h4, fun b hb => hk _ _ (h3 b hb)⟩
  | st js => exact opHp_mono hh fun v h' hc => ⟨hc.1, hk _ _ hc.2⟩

theorem opS_hp {ops : List Oper} {m : Md} {o : Oper} {e : Env} {h : Hp} {K : Value → Hp → Prop} (hh : opS X ops m o e h K) : opHp P o e h K := by
  cases m with
  | pl => exact hh
  | pu => obtain ⟨h1, v, h2, h3⟩ := hh; exact opHp_mono (h2 h) (by rintro _ _ ⟨rfl, rfl⟩; exact h3)
  | rd => obtain ⟨h1, v, h2, h4, h3⟩ := hh; exact opHp_mono h2 (by rintro _ _ ⟨rfl, rfl⟩; exact h3)
  | qt => obtain ⟨v, h2, h3⟩ := hh; exact opHp_mono h2 (by rintro _ _ ⟨rfl, rfl⟩; exact h3)
  | al => obtain ⟨h1, ob, vf, h2, h4, h3⟩ := hh; exact h2 h K h3
  | st js => exact opHp_mono hh fun v h' hc => hc.2

/-- The operations of a region, in an order. -/
def wpP (n : Nat) (ops : List Oper) (md : Nat → Md) : List Nat → Env → Hp → (Env → Hp → Prop) → Prop
  | [], e, h, K => K e h
  | i :: is, e, h, K => ∃ o, ops[i]? = some o ∧ dstOk n o.dst = true ∧
    wantE ops o e (opS X ops (md i) o e h fun v h' => wpP n ops md is (putO e o.dst v) h' K) (wpP n ops md is (putO e o.dst undef) h K)

theorem wantE_mono {ops : List Oper} {o : Oper} {e : Env} {yes no yes' no' : Prop} (hh : wantE ops o e yes no) (hy : yes → yes') (hn : no → no') : wantE ops o e yes' no' := by
  unfold wantE at *
  split at hh
  · exact hy hh
  · split at hh
    · split at hh
      · split at hh
        · split at hh <;> first | exact hy hh | exact hn hh
        · exact hn hh
      · exact hn hh
    · exact hn hh

theorem wpP_mono {n : Nat} {ops : List Oper} {md : Nat → Md} : ∀ (l : List Nat) (e : Env) (h : Hp) (K K' : Env → Hp → Prop), (∀ e h, K e h → K' e h) → wpP X n ops md l e h K → wpP X n ops md l e h K' := by
  intro l
  induction l with
  | nil => intro e h K K' hk hh; exact hk _ _ hh
  | cons i l ih =>
    intro e h K K' hk hh
    obtain ⟨o, ho, hd, hw⟩ := hh
    exact ⟨o, ho, hd, wantE_mono hw (fun hy => opS_mono X hy fun v h' => ih _ _ _ _ hk) (fun hn => ih _ _ _ _ hk hn)⟩

theorem wpP_append {n : Nat} {ops : List Oper} {md : Nat → Md} : ∀ (l m : List Nat) (e : Env) (h : Hp) (K : Env → Hp → Prop), wpP X n ops md l e h (fun e' h' => wpP X n ops md m e' h' K) → wpP X n ops md (l ++ m) e h K := by
  intro l
  induction l with
  | nil => intro m e h K hh; exact hh
  | cons i l ih =>
    intro m e h K hh
    obtain ⟨o, ho, hd, hw⟩ := hh
    exact ⟨o, ho, hd, wantE_mono hw (fun hy => opS_mono X hy fun v h' => ih _ _ _ _) (fun hn => ih _ _ _ _ hn)⟩

theorem putO_other {e : Env} {d : Option Nat} {v : Value} {t : Nat} (h : ∀ x, d = some x → x ≠ t) : putO e d v t = e t := by
  cases d with
  | none => rfl
  | some d => simp only [putO, put_eq]; rw [if_neg (fun hx => h d rfl hx.symm)]

theorem wpP_frame {n : Nat} {ops : List Oper} {md : Nat → Md} : ∀ (l : List Nat) (e : Env) (h : Hp) (K : Env → Hp → Prop), wpP X n ops md l e h K → wpP X n ops md l e h (fun e' h' => (∀ t, t ∉ dstsOf ops l → e' t = e t) ∧ K e' h') := by
  intro l
  induction l with
  | nil => intro e h K hh; exact ⟨fun _ _ => rfl, hh⟩
  | cons i l ih =>
    intro e h K hh
    obtain ⟨o, ho, hd, hw⟩ := hh
    have step : ∀ v h', wpP X n ops md l (putO e o.dst v) h' K → wpP X n ops md l (putO e o.dst v) h' (fun e' h' => (∀ t, t ∉ dstsOf ops (i :: l) → e' t = e t) ∧ K e' h') := by
      intro v h' hx
      refine wpP_mono X _ _ _ _ _ ?_ (ih _ _ _ hx)
      rintro e' h'' ⟨h1, h2⟩
      refine ⟨fun t ht => ?_, h2⟩
      have ht' : t ∉ dstsOf ops l := fun hx => ht (by
        unfold dstsOf at hx ⊢
        rw [List.filterMap_cons]
        split
        · exact hx
        · exact List.mem_cons_of_mem _ hx)
      rw [h1 t ht']
      refine putO_other ?_
      intro x hx e1
      subst e1
      apply ht
      unfold dstsOf
      rw [List.filterMap_cons]
      simp [ho, hx]
    exact ⟨o, ho, hd, wantE_mono hw (fun hy => opS_mono X hy step) (fun hn => step _ _ hn)⟩

/-- At the world. -/
theorem opHp_world {o : Oper} {a : Act} {w : World} {K : Value → Hp → Prop} {next : Act → World → Prop} {Q : Exit → Act → World → Prop} (h1 : opHp P o (envOf a) (abs w) K)
    (hk : ∀ v w', Ev w w' → K v (abs w') → next (a.put o.dst v) w') : o.wp P a w next Q := by
  unfold opHp at h1
  rw [ev_fun] at h1
  obtain ⟨nx, w1, hr, hev, hn⟩ := hp_run _ w _ h1
  unfold Oper.wp Oper.upon
  rw [hr]
  cases nx <;> simp only [nextE] at hn <;> first | exact hn.elim | skip
  · exact hk _ _ hev hn
  · exact hk _ _ hev hn
  · rename_i f args
    refine (hn w1 rfl).mono ?_
    rintro e w2 ⟨v, rfl, hev2, hK⟩
    exact hk _ _ (hev.trans hev2) hK

/-- What holds at an exit, at the world. -/
def LQ (n : Nat) (w0 : World) (Q : Exit → Env → Hp → Prop) (x : Exit) (a : Act) (w : World) : Prop :=
  a.tmps.size = n ∧ a.defers = [] ∧ Ev w0 w ∧ Q x (envOf a) (abs w)

theorem put_size (a : Act) (d : Option Nat) (v : Value) : (a.put d v).tmps.size = a.tmps.size := by
  cases d <;> simp [Act.put]

theorem put_defers (a : Act) (d : Option Nat) (v : Value) : (a.put d v).defers = a.defers := by
  cases d <;> simp [Act.put]

def allDst (n : Nat) (ops : List Oper) : Bool := ops.all fun o => dstOk n o.dst

theorem allDst_ok {n : Nat} {ops : Array Oper} (h : allDst n ops.toList = true) : ∀ (j d : Nat), (ops[j]?).bind (·.dst) = some d → d < n := by
  intro j d hj
  cases hx : ops[j]? with
  | none => simp [hx] at hj
  | some o =>
    rw [hx, Option.bind_some] at hj
    have hm : o ∈ ops.toList := by
      have := Array.mem_of_getElem? hx
      simpa using this
    have := List.all_eq_true.1 h o hm
    rw [hj] at this
    exact Nat.le_of_ble_eq_true this

theorem wpP_world {n : Nat} {ops : Array Oper} {md : Nat → Md} (hall : allDst n ops.toList = true) {K : Env → Hp → Prop} {Q : Exit → Act → World → Prop} (l : List Nat) : ∀ (a : Act) (w : World), a.tmps.size = n → a.defers = [] →
    wpP X n ops.toList md l (envOf a) (abs w) K → (∀ a' w', a'.tmps.size = n → a'.defers = [] → Ev w w' → K (envOf a') (abs w') → Q .normal a' w') → wpOps P ops Q l a w := by
  induction l with
  | nil =>
    intro a w hs hd hh hq
    exact hq a w hs hd (Ev.refl w) hh
  | cons i l ih =>
    intro a w hs hd hh hq
    obtain ⟨o, ho, hdst, hh⟩ := hh
    rw [Array.getElem?_toList] at ho
    simp only [wpOps, ho]
    have hw := wantE_ok hh (by rw [hs]; exact allDst_ok hall)
    split
    · rename_i hwant
      rw [if_pos hwant] at hw
      refine .inl (opHp_world (opS_hp X hw) ?_)
      intro v w' hev hK
      refine ih _ _ (by rw [put_size]; exact hs) (by rw [put_defers]; exact hd) ?_ ?_
      · rw [envOf_put _ _ _ (by rw [hs]; exact hdst)]; exact hK
      · intro a' w'' h1 h2 h3 h4; exact hq a' w'' h1 h2 (hev.trans h3) h4
    · rename_i hwant
      rw [if_neg hwant] at hw
      refine ih _ _ (by rw [put_size]; exact hs) (by rw [put_defers]; exact hd) ?_ hq
      rw [envOf_put _ _ _ (by rw [hs]; exact hdst)]; exact hw

end Go.Proofs.Ytckdkgphkjbbnaa.Hw

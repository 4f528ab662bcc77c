/- The heap logic: the formula of a function's code. -/
import Derived.Test.YtckdkgphkjbbnaaAny
set_option linter.unusedVariables false
set_option linter.unusedSimpArgs false
namespace Go.Proofs.Ytckdkgphkjbbnaa.Hw

variable {P : Program} (X : Cx P)

/-- How a code is told. -/
inductive An where
  | r0
  | r (ts : List Tok)
  | d (ts : List Tok) (mds : List (Nat × Md)) (pre : List Nat)
  | s (a b : An)
  | k (live : List (Nat × CK)) (mod : List Nat) (a b : An)
  | c (a b : An)
  | b (a : An)
  | l (carr : List (Nat × CK)) (mod : List Nat) (a : An)
  | z

def mdF : List (Nat × Md) → Nat → Md
  | [], _ => .pl
  | (j, m) :: l, i => match Nat.beq i j with
    | true => m
    | false => mdF l i

def toksTo (n : Nat) : List Tok := (List.range n).map Tok.op

def natsEq : List Nat → List Nat → Bool
  | [], [] => true
  | x :: l, y :: m => match Nat.beq x y with
    | true => natsEq l m
    | false => false
  | _, _ => false

theorem natsEq_iff : ∀ {l m : List Nat}, natsEq l m = true → l = m := by
  intro l
  induction l with
  | nil => intro m h; cases m with | nil => rfl | cons _ _ => cases h
  | cons x l ih =>
    intro m h
    cases m with
    | nil => cases h
    | cons y m =>
      unfold natsEq at h
      cases hb : Nat.beq x y with
      | true => rw [hb] at h; rw [Nat.eq_of_beq_eq_true hb, ih h]
      | false => rw [hb] at h; cases h

def dstsC : Code → List Nat
  | .region _ ops _ => ops.toList.filterMap (·.dst)
  | .seq x y => dstsC x ++ dstsC y
  | .cond _ x y => dstsC x ++ dstsC y
  | .block _ x => dstsC x
  | .loop x => dstsC x
  | .scope x => dstsC x
  | .rangeFunc _ ps x y => ps.toList ++ (dstsC x ++ dstsC y)
  | _ => []

def thenE (K : Env → Hp → Prop) (Q : Exit → Env → Hp → Prop) : Exit → Env → Hp → Prop
  | .normal, e, h => K e h
  | .exit id, e, h => Q (.exit id) e h
  | .goto l, e, h => Q (.goto l) e h
  | .ret, e, h => Q .ret e h
  | .panic c, e, h => Q (.panic c) e h
  | .outgrown, e, h => Q .outgrown e h

def blockE (id : Nat) (Q : Exit → Env → Hp → Prop) : Exit → Env → Hp → Prop
  | .normal, e, h => Q .normal e h
  | .exit j, e, h => match Nat.beq j id with
    | true => Q .normal e h
    | false => Q (.exit j) e h
  | .goto l, e, h => Q (.goto l) e h
  | .ret, e, h => Q .ret e h
  | .panic c, e, h => Q (.panic c) e h
  | .outgrown, e, h => Q .outgrown e h

/-- The formula of a code. -/
def wpE (n : Nat) : Code → An → (Exit → Env → Hp → Prop) → Env → Hp → Prop
  | .skip, _, Q, e, h => Q .normal e h
  | .label _, _, Q, e, h => Q .normal e h
  | .exit id, _, Q, e, h => Q (.exit id) e h
  | .ret, _, Q, e, h => Q .ret e h
  | .region _ ops dr, an, Q, e, h => match dr, an with
    | false, .r0 => match allDst n ops.toList with
      | true => wpS X n ops.toList (fun _ => .pl) (ops.toList.length + 1) (toksTo ops.toList.length) e h (Q .normal)
      | false => False
    | false, .r ts => match allDst n ops.toList, natsEq (idxs ts) (List.range ops.toList.length) with
      | true, true => wpS X n ops.toList (fun _ => .pl) (ts.length + 1) ts e h (Q .normal)
      | _, _ => False
    | true, .d ts mds pre => match orderOk n ops.toList (mdF mds) pre (idxs ts) with
      | true => wpS X n ops.toList (mdF mds) (ts.length + 1) ts e h (Q .normal)
      | false => False
    | _, _ => False
  | .seq x y, an, Q, e, h => match an with
    | .s a b => wpE n x a (thenE (fun e' h' => wpE n y b Q e' h') Q) e h
    | .k live mod a b => match subN (dstsC x) (live.map (·.1) ++ mod) with
      | true => ∀ K : List Value → Hp → Prop, (allC (live.map (·.2)) fun vs => ∀ h', (∀ junk, wpE n y b Q (mix (live.map (·.1)) vs mod junk e) h') → K vs h') →
          wpE n x a (thenE (fun e' h' => K ((live.map (·.1)).map e') h') Q) e h
      | false => False
    | _ => False
  | .cond c x y, an, Q, e, h => match an, ev e c with
    | .c a b, .bool t => (t = true → wpE n x a Q e h) ∧ (t = false → wpE n y b Q e h)
    | _, _ => False
  | .block id x, an, Q, e, h => match an with
    | .b a => wpE n x a (blockE id Q) e h
    | _ => False
  | .loop x, an, Q, e, h => match an with
    | .l carr mod a => match subN (dstsC x) (carr.map (·.1) ++ mod) with
      | true => ∀ W : List Value → Hp → Prop, (allC (carr.map (·.2)) fun vs => ∀ h', (∀ junk, wpE n x a (thenE (fun e' h' => W ((carr.map (·.1)).map e') h') Q) (mix (carr.map (·.1)) vs mod junk e) h') → W vs h') →
          W ((carr.map (·.1)).map e) h
      | false => False
    | _ => False
  | _, _, _, _, _ => False

/-- What holds at an exit, at the world, with the slots that stay. -/
def LQ' (n : Nat) (a0 : Act) (w0 : World) (S : List Nat) (Q : Exit → Env → Hp → Prop) (x : Exit) (a : Act) (w : World) : Prop :=
  a.tmps.size = n ∧ a.defers = [] ∧ Ev w0 w ∧ (∀ t, t ∉ S → envOf a t = envOf a0 t) ∧ Q x (envOf a) (abs w)

theorem LQ'.trans {n : Nat} {a0 a1 a : Act} {w0 w1 w : World} {S T U : List Nat} {Q : Exit → Env → Hp → Prop} {x : Exit} (he : Ev w0 w1) (hf : ∀ t, t ∉ S → envOf a1 t = envOf a0 t) (hS : ∀ t ∈ S, t ∈ U) (hT : ∀ t ∈ T, t ∈ U)
    (h : LQ' n a1 w1 T Q x a w) : LQ' n a0 w0 U Q x a w :=
  ⟨h.1, h.2.1, he.trans h.2.2.1, fun t ht => (h.2.2.2.1 t fun hx => ht (hT t hx)).trans (hf t fun hx => ht (hS t hx)), h.2.2.2.2⟩

/-- Within a loop: the body is ahead, and the loop behind it. -/
def Lp (P : Program) (c : Code) (Q : Exit → Act → World → Prop) (a : Act) (w : World) : Prop :=
  ∀ (b : Frame) (k : List Item) (cs : List Frame), ∃ e a' w', Q e a' w' ∧ Arrives P (lone (b.at a (.code c :: .inLoop c :: k)) cs w) b k cs e a' w'

theorem Lp.loop {c : Code} {Q : Exit → Act → World → Prop} {a : Act} {w : World} (h : Lp P c Q a w) : (Code.loop c).wp P Q a w :=
  fun b k cs => let ⟨e, a', w', q, r⟩ := h b k cs; ⟨e, a', w', q, .of_steps (.one step_loop) r⟩

theorem Lp.mono {c : Code} {Q Q' : Exit → Act → World → Prop} {a : Act} {w : World} (h : Lp P c Q a w) (hq : ∀ e a w, Q e a w → Q' e a w) : Lp P c Q' a w :=
  fun b k cs => let ⟨e, a', w', q, r⟩ := h b k cs; ⟨e, a', w', hq _ _ _ q, r⟩

theorem Lp.unroll {c : Code} {Q : Exit → Act → World → Prop} {a : Act} {w : World} (h : c.wp P (Exit.then (fun a' w' => Lp P c Q a' w') Q) a w) : Lp P c Q a w := by
  intro b k cs
  obtain ⟨e, a₁, w₁, hq, harr⟩ := h b (.inLoop c :: k) cs
  cases e with
  | normal =>
    obtain ⟨e₂, a₂, w₂, hq₂, harr₂⟩ := hq b k cs
    exact ⟨e₂, a₂, w₂, hq₂, .of_steps (Steps.trans harr (.one step_inLoop)) harr₂⟩
  | exit id => exact ⟨_, a₁, w₁, hq, .pass (x := .inLoop c) rfl (fun _ _ => .inl (by simp)) harr⟩
  | goto l => exact ⟨_, a₁, w₁, hq, .pass (x := .inLoop c) rfl (fun _ _ => .inl (by simp)) harr⟩
  | ret => exact ⟨_, a₁, w₁, hq, .pass (x := .inLoop c) rfl (fun _ _ => .inl (by simp)) harr⟩
  | panic ch => exact ⟨_, a₁, w₁, hq, .pass (x := .inLoop c) rfl (fun _ _ => .inl (by simp)) harr⟩
  | outgrown => exact ⟨_, a₁, w₁, hq, .pass (x := .inLoop c) rfl (fun _ _ => .inl (by simp)) harr⟩

theorem idxs_toks (n : Nat) : idxs (toksTo n) = List.range n := by
  unfold toksTo
  generalize List.range n = l
  induction l with
  | nil => rfl
  | cons x l ih => simp [idxs, ih]

theorem dsts_region {ops : Array Oper} {l : List Nat} : ∀ t, t ∈ dstsOf ops.toList l → t ∈ ops.toList.filterMap (·.dst) := by
  intro t ht
  unfold dstsOf at ht
  rw [List.mem_filterMap] at ht ⊢
  obtain ⟨i, hi, hd⟩ := ht
  cases ho : ops.toList[i]? with
  | none => rw [ho] at hd; cases hd
  | some o => rw [ho] at hd; exact ⟨o, List.mem_of_getElem? ho, hd⟩

theorem wpE_ok (hm : P.follows .mixedOrders = true) {n : Nat} (c : Code) : ∀ (an : An) (Q : Exit → Env → Hp → Prop) (a : Act) (w : World), a.tmps.size = n → a.defers = [] → wpE X n c an Q (envOf a) (abs w) →
    c.wp P (LQ' n a w (dstsC c) Q) a w := by
  induction c with
  | skip => intro an Q a w hs hd hh; exact wp_skip ⟨hs, hd, Ev.refl w, fun _ _ => rfl, hh⟩
  | label l => intro an Q a w hs hd hh; exact wp_label ⟨hs, hd, Ev.refl w, fun _ _ => rfl, hh⟩
  | exit id => intro an Q a w hs hd hh; exact wp_exit ⟨hs, hd, Ev.refl w, fun _ _ => rfl, hh⟩
  | ret => intro an Q a w hs hd hh; exact wp_ret ⟨hs, hd, Ev.refl w, fun _ _ => rfl, hh⟩
  | goto l => intro an Q a w hs hd hh; exact hh.elim
  | refuse s => intro an Q a w hs hd hh; exact hh.elim
  | scope x ih => intro an Q a w hs hd hh; exact hh.elim
  | rangeFunc f ps x y ihx ihy => intro an Q a w hs hd hh; exact hh.elim
  | region id ops dr =>
    intro an Q a w hs hd hh
    have fin : ∀ {md : Nat → Md} {l : List Nat}, wpP X n ops.toList md l (envOf a) (abs w) (Q .normal) → wpP X n ops.toList md l (envOf a) (abs w) (fun e' h' => (∀ t, t ∉ dstsC (.region id ops dr) → e' t = envOf a t) ∧ Q .normal e' h') := by
      intro md l hx
      refine wpP_mono X _ _ _ _ _ ?_ (wpP_frame X _ _ _ _ hx)
      rintro e' h' ⟨h1, h2⟩
      exact ⟨fun t ht => h1 t fun hx => ht (dsts_region t hx), h2⟩
    have post : ∀ a' w', a'.tmps.size = n → a'.defers = [] → Ev w w' → ((∀ t, t ∉ dstsC (.region id ops dr) → envOf a' t = envOf a t) ∧ Q .normal (envOf a') (abs w')) → LQ' n a w (dstsC (.region id ops dr)) Q .normal a' w' :=
      fun a' w' h1 h2 h3 h4 => ⟨h1, h2, h3, h4.1, h4.2⟩
    unfold wpE at hh
    split at hh
    · split at hh
      · rename_i hall
        have h1 := fin (wpS_ok X _ _ _ _ _ hh)
        rw [idxs_toks] at h1
        refine wp_region ?_
        have h2 := wpP_world X (ops := ops) hall (List.range ops.size) a w hs hd (by simpa using h1) (Q := LQ' n a w (dstsC (.region id ops false)) Q) post
        exact h2
      · exact hh.elim
    · split at hh
      · rename_i hall hnat
        have h1 := fin (wpS_ok X _ _ _ _ _ hh)
        rw [natsEq_iff hnat] at h1
        refine wp_region ?_
        have h2 := wpP_world X (ops := ops) hall (List.range ops.size) a w hs hd (by simpa using h1) (Q := LQ' n a w (dstsC (.region id ops false)) Q) post
        exact h2
      · exact hh.elim
    · split at hh
      · rename_i hord
        exact draw_ok X hord hm hs hd (fin (wpS_ok X _ _ _ _ _ hh)) post
      · exact hh.elim
    · exact hh.elim
  | seq x y ihx ihy =>
    intro an Q a w hs hd hh
    unfold wpE at hh
    split at hh
    · rename_i aa bb
      refine wp_seq ?_
      refine wp_mono (ihx _ _ _ _ hs hd hh) ?_
      intro ex a1 w1 h1
      obtain ⟨g1, g2, g3, g4, g5⟩ := h1
      cases ex with
      | normal =>
        refine wp_mono (ihy _ _ _ _ g1 g2 g5) ?_
        intro ex a2 w2 h2
        exact LQ'.trans g3 g4 (fun t ht => List.mem_append_left _ ht) (fun t ht => List.mem_append_right _ ht) h2
      | _ => exact ⟨g1, g2, g3, fun t ht => g4 t fun hx => ht (List.mem_append_left _ hx), g5⟩
    · rename_i live mod aa bb
      split at hh
      · rename_i hsub
        refine wp_seq ?_
        have hx := hh (fun vs h' => ∀ junk, wpE X n y bb Q (mix (live.map (·.1)) vs mod junk (envOf a)) h') (allC_intro fun vs h' hx => hx)
        refine wp_mono (ihx _ _ _ _ hs hd hx) ?_
        intro ex a1 w1 h1
        obtain ⟨g1, g2, g3, g4, g5⟩ := h1
        cases ex with
        | normal =>
          have g6 := g5 (envOf a1)
          rw [mix_same (envOf a1) (envOf a) mod (live.map (·.1)) ?_] at g6
          · refine wp_mono (ihy _ _ _ _ g1 g2 g6) ?_
            intro ex a2 w2 h2
            exact LQ'.trans g3 g4 (fun t ht => List.mem_append_left _ ht) (fun t ht => List.mem_append_right _ ht) h2
          · intro t ht1 ht2
            refine g4 t fun ht => ?_
            rcases List.mem_append.1 (subN_iff.1 hsub t ht) with h4 | h4
            · exact ht1 h4
            · exact ht2 h4
        | _ => exact ⟨g1, g2, g3, fun t ht => g4 t fun hx => ht (List.mem_append_left _ hx), g5⟩
      · exact hh.elim
    · exact hh.elim
  | cond c x y ihx ihy =>
    intro an Q a w hs hd hh
    unfold wpE at hh
    split at hh
    · rename_i aa bb t hev
      rw [ev_envOf] at hev
      refine wp_cond_split hev (fun ht => ?_) (fun ht => ?_)
      · refine wp_mono (ihx _ _ _ _ hs hd (hh.1 ht)) ?_
        intro ex a1 w1 h1
        exact LQ'.trans (Ev.refl w) (S := []) (fun _ _ => rfl) (by simp) (fun t ht => List.mem_append_left _ ht) h1
      · refine wp_mono (ihy _ _ _ _ hs hd (hh.2 ht)) ?_
        intro ex a1 w1 h1
        exact LQ'.trans (Ev.refl w) (S := []) (fun _ _ => rfl) (by simp) (fun t ht => List.mem_append_right _ ht) h1
    · exact hh.elim
  | block id x ih =>
    intro an Q a w hs hd hh
    unfold wpE at hh
    split at hh
    · refine wp_block ?_
      refine wp_mono (ih _ _ _ _ hs hd hh) ?_
      intro ex a1 w1 h1
      obtain ⟨g1, g2, g3, g4, g5⟩ := h1
      cases ex with
      | exit j =>
        simp only [Exit.inBlock]
        simp only [blockE] at g5
        split at g5
        · rename_i hb
          rw [if_pos (Nat.eq_of_beq_eq_true hb)]
          exact ⟨g1, g2, g3, g4, g5⟩
        · rename_i hb
          rw [if_neg (Nat.ne_of_beq_eq_false hb)]
          exact ⟨g1, g2, g3, g4, g5⟩
      | _ => exact ⟨g1, g2, g3, g4, g5⟩
    · exact hh.elim
  | loop x ih =>
    intro an Q a w hs hd hh
    unfold wpE at hh
    split at hh
    · rename_i carr mod aa
      split at hh
      · rename_i hsub
        have hW := hh (fun vs h' => ∀ a' w', a'.tmps.size = n → a'.defers = [] → abs w' = h' → (carr.map (·.1)).map (envOf a') = vs → (∀ t, t ∉ carr.map (·.1) → t ∉ mod → envOf a' t = envOf a t) → Lp P x (LQ' n a' w' (dstsC x) Q) a' w') ?_
        · exact (hW a w hs hd rfl rfl (fun _ _ _ => rfl)).loop
        · refine allC_intro fun vs h' hbody a' w' k1 k2 k3 k4 k5 => ?_
          subst k3 k4
          have hb := hbody (envOf a')
          rw [mix_same (envOf a') (envOf a) mod (carr.map (·.1)) k5] at hb
          refine Lp.unroll ?_
          refine wp_mono (ih _ _ _ _ k1 k2 hb) ?_
          intro ex a1 w1 h1
          obtain ⟨g1, g2, g3, g4, g5⟩ := h1
          cases ex with
          | normal =>
            have hl := g5 a1 w1 g1 g2 rfl rfl (fun t ht1 ht2 => by
              rw [g4 t fun ht => ?_, k5 t ht1 ht2]
              rcases List.mem_append.1 (subN_iff.1 hsub t ht) with h4 | h4
              · exact ht1 h4
              · exact ht2 h4)
            refine hl.mono ?_
            intro ex a2 w2 h2
            exact LQ'.trans g3 g4 (fun t ht => ht) (fun t ht => ht) h2
          | _ => exact ⟨g1, g2, g3, g4, g5⟩
      · exact hh.elim
    · exact hh.elim

/-! ### A function -/

def argEnv : List Value → Env
  | [], _ => undef
  | v :: vs, t => match t with
    | 0 => v
    | t + 1 => argEnv vs t

theorem argEnv_eq : ∀ (vs : List Value) (t : Nat), argEnv vs t = vs.getD t undef := by
  intro vs
  induction vs with
  | nil => intro t; simp [argEnv]
  | cons v vs ih => intro t; cases t <;> simp [argEnv, ih]

/-- Instructions that only read. -/
def Ro (P : Program) {α : Type} : Sem α → Prop
  | .pure _ => True
  | .load _ _ k => ∀ v, Ro P (k v)
  | .program k => Ro P (k P)
  | .halt _ => True
  | _ => False

theorem Ro.run {α : Type} : ∀ (s : Sem α) {w w' : World} {v : α}, Ro P s → s.run P w = .ok v w' → w' = w := by
  intro s
  induction s with
  | pure a => intro w w' v _ hr; simp only [Sem.run] at hr; injection hr with _ h; exact h.symm
  | load m a k ih =>
    intro w w' v hro hr
    simp only [Sem.run] at hr
    split at hr
    · exact ih _ (hro _) hr
    · split at hr
      · exact ih _ (hro _) hr
      · cases hr
  | program k ih => intro w w' v hro hr; simp only [Sem.run] at hr; exact ih _ hro hr
  | halt _ => intro w w' v hro hr; simp only [Sem.run] at hr; cases hr
  | _ => intro w w' v hro; exact hro.elim

theorem Ro.bind {α β : Type} : ∀ (s : Sem α) (f : α → Sem β), Ro P s → (∀ a, Ro P (f a)) → Ro P (s >>= f) := by
  intro s f
  induction s with
  | pure a => intro _ hf; exact hf a
  | load m a k ih => intro hs hf; exact fun v => ih v (hs v) hf
  | program k ih => intro hs hf; exact ih P hs hf
  | halt _ => intro _ _; trivial
  | _ => intro hs; exact hs.elim

theorem Ro.und (t : TypeId) : Ro P (underlying t) := by
  unfold underlying
  refine Ro.bind _ _ trivial fun p => ?_
  split <;> trivial

theorem Ro.size (t : TypeId) : Ro P (sizeOf t) := by
  unfold sizeOf typeInfo
  refine Ro.bind _ _ (Ro.bind _ _ trivial fun p => ?_) fun _ => trivial
  split <;> trivial

theorem Ro.isAgg (t : TypeId) : Ro P (isAgg t) := by
  unfold Go.isAgg
  refine Ro.bind _ _ (Ro.und t) fun p => ?_
  split <;> trivial

theorem Ro.loadFrom (a : Addr) : ∀ (n i : Nat) (acc : Array Value), Ro P (loadCellsFrom a i n acc) := by
  intro n
  induction n with
  | zero => intro i acc; trivial
  | succ n ih => intro i acc; exact Ro.bind _ _ (fun _ => trivial) fun v => ih _ _

theorem Ro.loadVar (t : TypeId) (a : Addr) : Ro P (loadVar t a) := by
  unfold Go.loadVar
  refine Ro.bind _ _ (Ro.isAgg t) fun b => ?_
  split
  · refine Ro.bind _ _ (Ro.size t) fun n => Ro.bind _ _ (Ro.loadFrom _ _ _ _) fun _ => trivial
  · exact fun _ => trivial

theorem Ro.asAddr (v : Value) : Ro P (asAddr v) := by
  unfold Go.asAddr
  split <;> trivial

/-- What a function hands back: values, or what its result variables hold. -/
def resL : List ResultVar → Env → Hp → (List Value → Prop) → Prop
  | [], _, _, K => K []
  | .tmp t :: rs, e, h, K => resL rs e h fun vs => K (e t :: vs)
  | .cell a t :: rs, e, h, K => match (X.tb t).known, e a with
    | true, .pointer (some p) => ldE (X.tb t).ck h p fun v => resL rs e h fun vs => K (v :: vs)
    | _, _ => False

def packV : List Value → Value
  | [v] => v
  | vs => .tuple vs.toArray

def retE (rs : List ResultVar) (K : Value → Hp → Prop) : Exit → Env → Hp → Prop
  | .normal, e, h => resL X rs e h fun vs => K (packV vs) h
  | .ret, e, h => resL X rs e h fun vs => K (packV vs) h
  | _, _, _ => False

def fnE (fn : Func) (an : An) (args : List Value) (h : Hp) (K : Value → Hp → Prop) : Prop :=
  match fn.body with
  | some c => match Nat.ble args.length fn.ntmps with
    | true => wpE X fn.ntmps c an (retE X fn.results.toList K) (argEnv args) h
    | false => False
  | none => False

def resS (tmps : Array Value) : ResultVar → Sem Value
  | .tmp t => pure (tmps.getD t undef)
  | .cell a t => do loadVar t (← asAddr (tmps.getD a undef))

theorem Ro.mapM (tmps : Array Value) : ∀ rs : List ResultVar, Ro P (rs.mapM (resS tmps)) := by
  intro rs
  induction rs with
  | nil => trivial
  | cons r rs ih =>
    rw [List.mapM_cons]
    refine Ro.bind _ _ ?_ fun v => Ro.bind _ _ ih fun _ => trivial
    cases r with
    | tmp t => trivial
    | cell a t => exact Ro.bind _ _ (Ro.asAddr _) fun p => Ro.loadVar t p

theorem hp_resL {a : Act} {h : Hp} : ∀ (rs : List ResultVar) (K : List Value → Hp → Prop), (resL X rs (envOf a) h fun vs => K vs h) → hp P (rs.mapM (resS a.tmps)) h K := by
  intro rs
  induction rs with
  | nil => intro K hh; exact hh
  | cons r rs ih =>
    intro K hh
    rw [List.mapM_cons, hp_bind]
    cases r with
    | tmp t =>
      show hp P (List.mapM (resS a.tmps) rs >>= _) h K
      rw [hp_bind]
      exact ih _ hh
    | cell b t =>
      simp only [resL] at hh
      split at hh
      · rename_i p hk hbp
        have hb : a.tmps.getD b undef = .pointer (some p) := hbp
        simp only [resS, hb]
        rw [hp_bind]
        show hp P (loadVar t p) h _
        refine hp_loadVar X hk ?_
        unfold ldE at *
        split at hh
        · refine ex_mono (fun v hv => ⟨hv.1, (hp_bind _ _ _ _).2 ?_⟩) hh
          exact ih _ hv.2
        · refine exL_mono (fun vs hv => ⟨hv.1, (hp_bind _ _ _ _).2 ?_⟩) hh
          exact ih _ hv.2
      · exact hh.elim

theorem res_ok {fn : Func} {a : Act} {w : World} {K : Value → Hp → Prop} (hh : resL X fn.results.toList (envOf a) (abs w) fun vs => K (packV vs) (abs w)) : ∃ v, (results fn a.tmps).run P w = .ok v w ∧ K v (abs w) := by
  have e : results fn a.tmps = (do let vs ← fn.results.toList.mapM (resS a.tmps); pure (packV vs)) := by
    unfold results
    have e0 : ∀ g : ResultVar → Sem Value, (∀ x, g x = resS a.tmps x) → fn.results.mapM g = (do let l ← fn.results.toList.mapM (resS a.tmps); pure l.toArray) := by
      intro g hg
      rw [funext hg, Array.mapM_eq_mapM_toList]
      rw [map_eq_pure_bind]
    rw [e0 _ (fun x => by cases x <;> rfl)]
    simp only [bind_assoc, pure_bind]
    congr 1
    funext vs
    congr 1
    match vs with
    | [] => rfl
    | [v] => rfl
    | v :: u :: vs => rfl
  have hro : Ro P (results fn a.tmps) := by
    rw [e]
    exact Ro.bind _ _ (Ro.mapM _ _) fun _ => trivial
  have hp1 : hp P (results fn a.tmps) (abs w) K := by
    rw [e, hp_bind]
    exact hp_resL X _ _ hh
  obtain ⟨v, w', hr, _, hK⟩ := hp_run _ w K hp1
  have := Ro.run _ hro hr
  subst this
  exact ⟨v, hr, hK⟩

theorem fn_call (hm : P.follows .mixedOrders = true) {f : FuncId} {fn : Func} {an : An} {args : List Value} {h : Hp} {K : Value → Hp → Prop} (hf : P.funcs[f]? = some fn) (hh : fnE X fn an args h K) : CallH P f args.toArray h K := by
  intro w hw
  subst hw
  unfold fnE at hh
  split at hh
  · rename_i c hc
    split at hh
    · rename_i hble
      have hle := Nat.le_of_ble_eq_true hble
      refine calls_of_wp hf hc ?_
      have henv : envOf { tmps := args.toArray ++ Array.replicate (fn.ntmps - args.toArray.size) undef, defers := [] } = argEnv args := by
        funext t
        rw [argEnv_eq]
        unfold envOf
        simp only [Array.getD_eq_getD_getElem?, List.getD_eq_getElem?_getD, Array.getElem?_append, List.size_toArray, List.getElem?_toArray]
        by_cases ht : t < args.length
        · simp [ht]
        · simp only [ht, if_false]
          rw [List.getElem?_eq_none (by omega)]
          rw [Array.getElem?_replicate]
          split <;> rfl
      rw [← henv] at hh
      refine wp_mono (wpE_ok X hm c an _ _ w (by simp; omega) rfl hh) ?_
      intro ex a w' hq
      obtain ⟨g1, g2, g3, g4, g5⟩ := hq
      cases ex with
      | normal =>
        obtain ⟨v, hr, hK⟩ := res_ok X g5
        exact ⟨g2, v, hr, v, rfl, g3, hK⟩
      | ret =>
        obtain ⟨v, hr, hK⟩ := res_ok X g5
        exact ⟨g2, v, hr, v, rfl, g3, hK⟩
      | _ => exact g5.elim
    · exact hh.elim
  · exact hh.elim

end Go.Proofs.Ytckdkgphkjbbnaa.Hw

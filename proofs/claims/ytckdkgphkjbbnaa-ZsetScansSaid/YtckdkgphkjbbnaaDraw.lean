/- The heap logic: a region's formula implies what it does, in whatever order is drawn. -/
import Derived.Test.YtckdkgphkjbbnaaForm
import Derived.Orders
set_option linter.unusedVariables false
set_option linter.unusedSimpArgs false
namespace Go.Proofs.Ytckdkgphkjbbnaa.Hw

variable {P : Program} (X : Cx P)

theorem callV_op {c : Call} {ty : TypeId} {e : Env} {h : Hp} {K : Value → Hp → Prop} {f : Operand} (hc : c.callee = .value f) (h1 : CallV P (ev e f) (c.args.toList.map (ev e)).toArray h K) :
    hp P (do let d ← resolve (ev e) c ty; invoke d.target d.args) h fun n h' => nextE P K n h' := by
  rw [hp_bind]
  unfold resolve
  have ea : c.args.map (ev e) = (c.args.toList.map (ev e)).toArray := by simp [← Array.toList_map]
  simp only [hc]
  unfold CallV at h1
  rw [hp_bind] at h1
  rw [ea]
  exact h1

theorem quiet_ok {o : Oper} {e : Env} {h : Hp} {K : Value → Hp → Prop} (hh : quietE X o e h K) : ∃ v, QV P o e h v ∧ K v h := by
  unfold quietE at hh
  split at hh
  · rename_i c ho
    split at hh
    · rename_i f hf
      split at hh
      · rename_i g first cap hv
        split at hh
        · rename_i hg
          obtain ⟨v, h1, h2⟩ := exR_out hh
          refine ⟨v, ?_, h2⟩
          unfold QV opHp
          simp only [execOp, ho]
          refine callV_op hf ?_
          rw [hv]
          refine callVE_ok X ?_
          unfold callVE callG
          simp only [hg]
          exact h1
        · exact hh.elim
      · exact hh.elim
    · exact hh.elim
  · exact hh.elim

theorem stab_ok {ops : List Oper} {e : Env} {h : Hp} : ∀ {js : List Nat}, stabE X ops e h js → stabS X ops e h js := by
  intro js
  induction js with
  | nil => intro _ j hj; cases hj
  | cons j js ih =>
    intro hh
    obtain ⟨h1, h2⟩ := hh
    intro k hk
    rcases List.mem_cons.1 hk with rfl | hk
    · cases ho : ops[k]? with
      | none => rw [ho] at h1; exact h1.elim
      | some o =>
        rw [ho] at h1
        simp only [] at h1
        cases hd : o.dst with
        | none => rw [hd] at h1; exact h1.elim
        | some d =>
          rw [hd] at h1
          cases hr : isRead X o with
          | false => rw [hr] at h1; exact h1.elim
          | true =>
            rw [hr] at h1
            refine ⟨o, d, rfl, hd, wantE_mono h1 ?_ id⟩
            intro hx
            obtain ⟨F, ⟨r, hF⟩, hO⟩ := read_form X hr e h
            have h3 := (hF _).1 ((hO _).1 hx)
            obtain ⟨v, hv1, hv2⟩ := h3
            exact ⟨opE_ok X ((hO _).2 ((hF _).2 ⟨v, hv1, hv2, rfl⟩)), hx⟩
    · exact ih h2 k hk

theorem opF_ok {ops : List Oper} {m : Md} {o : Oper} {e : Env} {h : Hp} {K : Value → Hp → Prop} (hh : opF X ops m o e h K) : opS X ops m o e h K := by
  cases m with
  | pl => exact opE_ok X hh
  | pu =>
    unfold opF at hh
    simp only [] at hh
    cases hp : isPure X o with
    | false => rw [hp] at hh; exact hh.elim
    | true =>
      rw [hp] at hh
      obtain ⟨F, ⟨r, hF⟩, hO⟩ := pure_form X hp e
      obtain ⟨v, hv, hK⟩ := (hF _).1 ((hO _ _).1 hh)
      exact ⟨hp, v, fun h' => opE_ok X ((hO _ _).2 ((hF _).2 ⟨v, hv, rfl, rfl⟩)), hK⟩
  | rd =>
    unfold opF at hh
    simp only [] at hh
    cases hp : isRead X o with
    | false => rw [hp] at hh; exact hh.elim
    | true =>
      rw [hp] at hh
      obtain ⟨F, ⟨r, hF⟩, hO⟩ := read_form X hp e h
      obtain ⟨v, hv, hK⟩ := (hF _).1 ((hO _).1 hh)
      exact ⟨hp, v, opE_ok X ((hO _).2 ((hF _).2 ⟨v, hv, rfl, rfl⟩)), (hO _).2 ((hF _).2 ⟨v, hv, rfl⟩), hK⟩
  | qt => exact quiet_ok X hh
  | al =>
    unfold opF at hh
    simp only [] at hh
    cases hp : isAlloc o with
    | false => rw [hp] at hh; exact hh.elim
    | true =>
      rw [hp] at hh
      rcases alloc_form X hp e with hn | ⟨ob, vf, hO⟩
      · exact (hn _ _ hh).elim
      · exact ⟨hp, ob, vf, fun h K hK => opE_ok X ((hO h K).2 hK), hO, (hO _ _).1 hh⟩
  | st js =>
    have hh' : opE X o e h fun v h' => stabE X ops e h' js ∧ K v h' := hh
    exact opHp_mono (opE_ok X hh') fun v h' hc => ⟨stab_ok X hc.1, hc.2⟩

theorem idxs_append : ∀ (a b : List Tok), idxs (a ++ b) = idxs a ++ idxs b := by
  intro a
  induction a with
  | nil => intro b; rfl
  | cons t a ih => intro b; cases t <;> simp [idxs, ih]

theorem put_self {e : Env} {g : Nat} {v : Value} (h : e g = v) : e.put g v = e := by
  funext t
  rw [put_eq]
  split
  · rename_i h1; rw [h1, h]
  · rfl

theorem wpS_ok {n : Nat} {ops : List Oper} {md : Nat → Md} : ∀ (f : Nat) (ts : List Tok) (e : Env) (h : Hp) (K : Env → Hp → Prop), wpS X n ops md f ts e h K → wpP X n ops md (idxs ts) e h K := by
  intro f
  induction f with
  | zero =>
    intro ts e h K hh
    cases ts with
    | nil => exact hh
    | cons t ts => exact hh.elim
  | succ f ih =>
    intro ts e h K hh
    cases ts with
    | nil => exact hh
    | cons t ts =>
      cases t with
      | op i =>
        unfold wpS at hh
        split at hh
        · rename_i o ho
          split at hh
          · rename_i hd
            refine ⟨o, ho, hd, wantE_mono hh ?_ ?_⟩
            · intro hy
              exact opS_mono X (opF_ok X hy) fun v h' hx => ih _ _ _ _ hx
            · intro hn; exact ih _ _ _ _ hn
          · exact hh.elim
        · exact hh.elim
      | fork g outs mod m =>
        unfold wpS at hh
        show wpP X n ops md (idxs ts) e h K
        split at hh
        · rename_i b hg
          split at hh
          · rename_i hsub
            have hJ := hh (fun vs h' => ∀ junk, wpS X n ops md f (ts.drop m) (mix (outs.map (·.1)) vs mod junk e) h' K) (allC_intro fun vs h' hx => hx)
            have hbody : wpS X n ops md f (ts.take m) e h fun e' h' => ∀ junk, wpS X n ops md f (ts.drop m) (mix (outs.map (·.1)) ((outs.map (·.1)).map e') mod junk e) h' K := by
              cases b with
              | true => have := hJ.1 rfl; rw [put_self hg] at this; exact this
              | false => have := hJ.2 rfl; rw [put_self hg] at this; exact this
            have h1 := ih _ _ _ _ hbody
            have h2 := wpP_frame X _ _ _ _ h1
            have hts : ts = ts.take m ++ ts.drop m := (List.take_append_drop m ts).symm
            rw [hts, idxs_append]
            refine wpP_append X _ _ _ _ _ ?_
            refine wpP_mono X _ _ _ _ _ ?_ h2
            rintro e' h' ⟨hfr, hrest⟩
            have h3 := hrest e'
            rw [mix_same e' e mod (outs.map (·.1)) ?_] at h3
            · exact ih _ _ _ _ h3
            · intro t ht1 ht2
              refine hfr t fun ht => ?_
              have := subN_iff.1 hsub t ht
              rcases List.mem_append.1 this with h4 | h4
              · exact ht1 h4
              · exact ht2 h4
          · exact hh.elim
        · exact ih _ _ _ _ hh

/-! ### Orders -/

/-- Heaps with room for one more block. -/
def Fin (h : Hp) : Prop := ∃ N, ∀ b, N ≤ b → h b = none

theorem Fin.abs (w : World) : Fin (abs w) := ⟨w.heap.size, fun b hb => by simp [Hw.abs]; exact hb⟩

theorem Fin.upd {h : Hp} (hf : Fin h) (b : Nat) (o : Obj) : Fin (upd h b o) := by
  obtain ⟨N, hN⟩ := hf
  refine ⟨max N (b + 1), fun c hc => ?_⟩
  rw [upd_ne _ _ (by omega)]
  exact hN c (by omega)

theorem Fin.fresh {h : Hp} (hf : Fin h) : ∃ b, h b = none := by
  obtain ⟨N, hN⟩ := hf
  exact ⟨N, hN N (Nat.le_refl _)⟩

/-- What an operation looks at: its operands' slots, its guard's. -/
def looks (ops : List Oper) (o : Oper) : List Nat :=
  (o.op.operands.toList.filterMap fun | .tmp t => some t | _ => none) ++
  (match o.guard with
   | some (g, _) => ((ops[g]?).bind (·.dst)).toList
   | none => [])

def noSel (o : Oper) : Bool :=
  match o.op with
  | .select .. => false
  | _ => true

/-- Two operations that neither looks at what the other writes. -/
def apartE (ops : List Oper) (x y : Oper) : Bool :=
  (match x.dst with
   | some d => !(memN d (looks ops y)) && (match y.dst with | some d' => !(Nat.beq d d') | none => true)
   | none => true) &&
  (match y.dst with
   | some d => !(memN d (looks ops x))
   | none => true)

theorem apartE_spec {ops : List Oper} {x y : Oper} (h : apartE ops x y = true) :
    (∀ d, x.dst = some d → d ∉ looks ops y) ∧ (∀ d d', x.dst = some d → y.dst = some d' → d ≠ d') ∧ (∀ d, y.dst = some d → d ∉ looks ops x) := by
  unfold apartE at h
  rw [Bool.and_eq_true] at h
  refine ⟨fun d hd => ?_, fun d d' hd hd' => ?_, fun d hd => ?_⟩
  · have h1 := h.1
    simp only [hd, Bool.and_eq_true] at h1
    intro hm
    have := memN_iff.2 hm
    rw [this] at h1
    simp at h1
  · have h1 := h.1
    simp only [hd, hd', Bool.and_eq_true] at h1
    intro e
    subst e
    simp at h1
  · have h1 := h.2
    simp only [hd] at h1
    intro hm
    have := memN_iff.2 hm
    rw [this] at h1
    simp at h1

theorem exec_same {ops : List Oper} {o : Oper} (hs : noSel o = true) {e e' : Env} (h : ∀ t ∈ looks ops o, e t = e' t) : execOp (ev e) o = execOp (ev e') o := by
  refine execOp_congr o ?_ ?_
  · intro cs b ho; simp [noSel, ho] at hs
  · intro x hx
    cases x with
    | tmp t => exact h t (List.mem_append_left _ (List.mem_filterMap.2 ⟨.tmp t, by simpa using hx, rfl⟩))
    | _ => rfl

theorem opHp_same {ops : List Oper} {o : Oper} (hs : noSel o = true) {e e' : Env} (h : ∀ t ∈ looks ops o, e t = e' t) {hp : Hp} {K : Value → Hp → Prop} (hh : opHp P o e hp K) : opHp P o e' hp K := by
  unfold opHp at *
  rw [← exec_same hs h]
  exact hh

def wantB (ops : List Oper) (o : Oper) (e : Env) : Prop := wantE ops o e True False

theorem wantE_iff {ops : List Oper} {o : Oper} {e : Env} {yes no : Prop} : wantE ops o e yes no ↔ (wantB ops o e → yes) ∧ (¬ wantB ops o e → no) := by
  unfold wantB wantE
  split
  · simp
  · split
    · split
      · split
        · split <;> simp
        · simp
      · simp
    · simp

theorem wantB_same {ops : List Oper} {o : Oper} {e e' : Env} (h : ∀ t ∈ looks ops o, e t = e' t) : wantB ops o e ↔ wantB ops o e' := by
  unfold wantB wantE
  cases hg : o.guard with
  | none => simp
  | some g =>
    obtain ⟨j, w⟩ := g
    simp only []
    cases hj : ops[j]? with
    | none => simp
    | some oj =>
      simp only []
      cases hd : oj.dst with
      | none => simp
      | some d =>
        simp only []
        have : e d = e' d := h d (by
          unfold looks
          refine List.mem_append_right _ ?_
          simp [hg, hj, hd])
        rw [this]

theorem same_put {e : Env} {d : Option Nat} {v : Value} {l : List Nat} (h : ∀ x, d = some x → x ∉ l) : ∀ t ∈ l, (putO e d v) t = e t := by
  intro t ht
  refine putO_other ?_
  intro x hx e1
  subst e1
  exact h x hx ht

theorem put_comm {e : Env} {d d' : Option Nat} {v v' : Value} (h : ∀ x y, d = some x → d' = some y → x ≠ y) : putO (putO e d v) d' v' = putO (putO e d' v') d v := by
  cases d with
  | none => rfl
  | some d =>
    cases d' with
    | none => rfl
    | some d' =>
      have := h d d' rfl rfl
      funext t
      simp only [putO, put_eq]
      by_cases h1 : t = d <;> by_cases h2 : t = d' <;> simp_all

/-- May y go ahead of x, which stands before it? -/
def mayE (ops : List Oper) (md : Nat → Md) (i j : Nat) : Bool :=
  match ops[i]?, ops[j]? with
  | some x, some y => apartE ops x y && noSel x && noSel y &&
    (match md i, md j with
    | .pu, _ => true
    | .rd, .pu => true
    | .qt, .pu => true
    | .rd, .rd => true
    | .rd, .qt => true
    | .qt, .rd => true
    | .qt, .qt => true
    | .rd, .al => true
    | .al, .al => true
    | .rd, .st js => memN i js
    | _, _ => false)
  | _, _ => false


section front
variable {n : Nat} {ops : List Oper} {md : Nat → Md}

/-- What an operation that leaves the heap tells. -/
def HQ (m : Md) (o : Oper) (e : Env) (h : Hp) (v : Value) : Prop :=
  match m with
  | .pu => isPure X o = true ∧ ∀ h', QV P o e h' v
  | .rd => isRead X o = true ∧ QV P o e h v ∧ opE X o e h fun v' _ => v' = v
  | .qt => QV P o e h v
  | _ => False

def Hv (n : Nat) (ops : List Oper) (md : Nat → Md) : List Nat → Env → Hp → Env → Prop
  | [], e, _, e' => e' = e
  | i :: is, e, h, e' => ∃ o, ops[i]? = some o ∧ dstOk n o.dst = true ∧
    (wantB ops o e → ∃ v, HQ X (md i) o e h v ∧ Hv n ops md is (putO e o.dst v) h e') ∧ (¬ wantB ops o e → Hv n ops md is (putO e o.dst undef) h e')

def heapMd : Md → Bool
  | .pu | .rd | .qt => true
  | _ => false

theorem Hv_of {K : Env → Hp → Prop} {R : List Nat} : ∀ (A : List Nat) (e : Env) (h : Hp), (∀ x ∈ A, heapMd (md x) = true) → wpP X n ops md (A ++ R) e h K → ∃ e', Hv X n ops md A e h e' ∧ wpP X n ops md R e' h K := by
  intro A
  induction A with
  | nil => intro e h _ hh; exact ⟨e, rfl, hh⟩
  | cons i A ih =>
    intro e h hA hh
    obtain ⟨o, ho, hd, hw⟩ := hh
    have hA' : ∀ x ∈ A, heapMd (md x) = true := fun x hx => hA x (by simp [hx])
    by_cases hb : wantB ops o e
    · have hS := (wantE_iff.1 hw).1 hb
      have hm := hA i (by simp)
      have key : ∃ v, HQ X (md i) o e h v ∧ wpP X n ops md (A ++ R) (putO e o.dst v) h K := by
        cases hmd : md i <;> rw [hmd] at hm hS <;> simp [heapMd] at hm
        · obtain ⟨h1, v, h2, h3⟩ := hS; exact ⟨v, ⟨h1, h2⟩, h3⟩
        · obtain ⟨h1, v, h2, h4, h3⟩ := hS; exact ⟨v, ⟨h1, h2, h4⟩, h3⟩
        · obtain ⟨v, h2, h3⟩ := hS; exact ⟨v, h2, h3⟩
      obtain ⟨v, hv, hx⟩ := key
      obtain ⟨e', h1, h2⟩ := ih _ _ hA' hx
      exact ⟨e', ⟨o, ho, hd, fun _ => ⟨v, hv, h1⟩, fun hn => (hn hb).elim⟩, h2⟩
    · have hN := (wantE_iff.1 hw).2 hb
      obtain ⟨e', h1, h2⟩ := ih _ _ hA' hN
      exact ⟨e', ⟨o, ho, hd, fun hy => (hb hy).elim, fun _ => h1⟩, h2⟩

theorem HQ_S {m : Md} {o : Oper} {e : Env} {h : Hp} {v : Value} {K : Value → Hp → Prop} (hq : HQ X m o e h v) (hK : K v h) : opS X ops m o e h K := by
  cases m with
  | pu => exact ⟨hq.1, v, hq.2, hK⟩
  | rd => exact ⟨hq.1, v, hq.2.1, hq.2.2, hK⟩
  | qt => exact ⟨v, hq, hK⟩
  | _ => exact hq.elim

theorem Hv_back {K : Env → Hp → Prop} {R : List Nat} : ∀ (A : List Nat) (e : Env) (h : Hp) (e' : Env), Hv X n ops md A e h e' → wpP X n ops md R e' h K → wpP X n ops md (A ++ R) e h K := by
  intro A
  induction A with
  | nil => intro e h e' h1 h2; have : e' = e := h1; subst this; exact h2
  | cons i A ih =>
    intro e h e' h1 h2
    obtain ⟨o, ho, hd, hy, hn⟩ := h1
    refine ⟨o, ho, hd, wantE_iff.2 ⟨fun hb => ?_, fun hb => ih _ _ _ (hn hb) h2⟩⟩
    obtain ⟨v, hv, hx⟩ := hy hb
    exact HQ_S X hv (ih _ _ _ hx h2)

theorem Hv_frame : ∀ (A : List Nat) (e : Env) (h : Hp) (e' : Env), Hv X n ops md A e h e' → ∀ t, (∀ z ∈ A, ∀ oz, ops[z]? = some oz → oz.dst ≠ some t) → e' t = e t := by
  intro A
  induction A with
  | nil => intro e h e' h1 t _; have : e' = e := h1; rw [this]
  | cons i A ih =>
    intro e h e' h1 t ht
    obtain ⟨o, ho, hd, hy, hn⟩ := h1
    have ho' := ht i (by simp) o ho
    by_cases hb : wantB ops o e
    · obtain ⟨v, hv, hx⟩ := hy hb
      rw [ih _ _ _ hx t fun z hz => ht z (by simp [hz])]
      exact putO_other fun x hx e1 => ho' (by rw [hx, e1])
    · rw [ih _ _ _ (hn hb) t fun z hz => ht z (by simp [hz])]
      exact putO_other fun x hx e1 => ho' (by rw [hx, e1])

theorem opE_read_same {o : Oper} (hr : isRead X o = true) {e e' : Env} (h : ∀ t ∈ looks ops o, e t = e' t) {hp : Hp} {K : Value → Hp → Prop} (hh : opE X o e hp K) : opE X o e' hp K := by
  have hev : ∀ x ∈ o.op.operands, ev e x = ev e' x := by
    intro x hx
    cases x with
    | tmp t => exact h t (List.mem_append_left _ (List.mem_filterMap.2 ⟨.tmp t, by simpa using hx, rfl⟩))
    | _ => rfl
  unfold isRead at hr
  unfold opE at *
  cases ho : o.op <;> rw [ho] at hr hh hev <;> simp only [] at hr <;> try (cases hr; done)
  all_goals (simp only [Op.operands] at hev; simp_all)

theorem cell_upd {h : Hp} {b : Nat} {ob : Obj} (hb : h b = none) {p : Addr} {v : Value} (hc : cell h p = some v) : cell (upd h b ob) p = some v := by
  have : p.block ≠ b := by
    intro e
    unfold cell at hc
    rw [e, hb] at hc
    cases hc
  unfold cell at *
  rw [upd_ne _ _ this]
  exact hc

theorem row_upd {h : Hp} {b : Nat} {ob : Obj} (hb : h b = none) {p : Addr} : ∀ (vs : List Value) (i : Nat), rowAt h p i vs → rowAt (upd h b ob) p i vs := by
  intro vs
  induction vs with
  | nil => intro i _; trivial
  | cons v vs ih => intro i hr; exact ⟨cell_upd hb hr.1, ih _ hr.2⟩

theorem map_upd {h : Hp} {b : Nat} {ob : Obj} (hb : h b = none) {r : Nat} {es : Array MapEntry} {c : Nat} (hm : mapAt h r es c) : mapAt (upd h b ob) r es c := by
  have : r ≠ b := by
    intro e
    unfold mapAt at hm
    rw [e, hb] at hm
    cases hm
  unfold mapAt at *
  rw [upd_ne _ _ this]
  exact hm

theorem exL_mono : ∀ {ks : List SK} {F G : List Value → Prop}, (∀ vs, F vs → G vs) → exL ks F → exL ks G := by
  intro ks F G hfg h
  obtain ⟨vs, h1, h2, h3⟩ := exL_split.1 h
  exact exL_split.2 ⟨vs, h1, h2, hfg _ h3⟩

theorem plain_upd {h : Hp} {b c : Nat} {ob : Obj} (hb : h b = none) (hp : plainB h c) : plainB (upd h b ob) c := by
  obtain ⟨cs, e, hc⟩ := hp
  have : c ≠ b := by intro e1; rw [e1, hb] at hc; cases hc
  exact ⟨cs, e, by rw [upd_ne _ _ this]; exact hc⟩

theorem eqE_upd {h : Hp} {b : Nat} {ob : Obj} (hb : h b = none) {t : TypeId} {x y : Value} {K : Bool → Prop} (hh : eqE X h t x y K) : eqE X (upd h b ob) t x y K := by
  unfold eqE at *
  cases hk : (X.tb t).known
  · simp [hk] at hh
  · rw [hk] at hh
    cases hd : (X.tb t).desc <;> rw [hd] at hh <;> first | exact hh | skip
    simp only [] at hh ⊢
    split at hh
    · split at hh
      · unfold ptrEqE at *
        split at hh
        · exact hh
        · split at hh
          · exact hh
          · refine ⟨hh.1, fun hne => ?_⟩
            obtain ⟨h1, h2, h3⟩ := hh.2 hne
            exact ⟨plain_upd hb h1, plain_upd hb h2, h3⟩
      · exact hh
    · exact hh.elim

theorem read_upd {o : Oper} (hr : isRead X o = true) {e : Env} {h : Hp} {b : Nat} {ob : Obj} {v : Value} (hb : h b = none) (hh : opE X o e h fun v' _ => v' = v) : opE X o e (upd h b ob) fun v' _ => v' = v := by
  unfold isRead at hr
  unfold opE at *
  cases ho : o.op <;> rw [ho] at hr hh <;> simp only [] at hr hh ⊢ <;> try (cases hr; done)
  case load t a =>
    split at hh
    · unfold ldE at *
      split at hh
      · exact ex_mono (fun w hw => ⟨cell_upd hb hw.1, hw.2⟩) hh
      · exact exL_mono (fun w hw => ⟨row_upd hb _ _ hw.1, hw.2⟩) hh
    · exact hh.elim
  case lookup t m k ok =>
    unfold lookE at *
    split at hh
    · split at hh
      · split at hh
        · rename_i r _
          obtain ⟨o', ho', hc⟩ := hh
          refine ⟨o', ?_, hc⟩
          cases r with
          | none => exact ho'
          | some r =>
            obtain ⟨es, c, hm, hks, he⟩ := ho'
            exact ⟨es, c, map_upd hb hm, hks, he⟩
        · exact hh.elim
      · exact hh.elim
    · exact hh.elim
  case binOp op t x y yt =>
    unfold binE at *
    split at hh
    · exact hh
    · exact hh
    · split at hh
      · exact eqE_upd X hb hh
      · exact eqE_upd X hb hh
      · exact hh.elim

theorem QV_of_read {o : Oper} (hr : isRead X o = true) {e : Env} {h : Hp} {v : Value} (hh : opE X o e h fun v' _ => v' = v) : QV P o e h v := by
  obtain ⟨F, ⟨r, hF⟩, hO⟩ := read_form X hr e h
  obtain ⟨w, hw, e1⟩ := (hF _).1 ((hO _).1 hh)
  have e1 : w = v := e1
  subst e1
  exact opE_ok X ((hO _).2 ((hF _).2 ⟨w, hw, rfl, rfl⟩))

/-- What must hold for y to go ahead of x. -/
theorem may_spec {i j : Nat} (h : mayE ops md i j = true) : ∃ x y, ops[i]? = some x ∧ ops[j]? = some y ∧ apartE ops x y = true ∧ noSel x = true ∧ noSel y = true ∧
    (md i = .pu ∨ (heapMd (md i) = true ∧ heapMd (md j) = true) ∨ (md i = .rd ∧ md j = .al) ∨ (md i = .al ∧ md j = .al) ∨ (md i = .rd ∧ ∃ js, md j = .st js ∧ i ∈ js)) := by
  unfold mayE at h
  split at h
  · rename_i x y hx hy
    rw [Bool.and_eq_true, Bool.and_eq_true, Bool.and_eq_true] at h
    obtain ⟨⟨⟨h1, h2⟩, h3⟩, h4⟩ := h
    refine ⟨x, y, hx, hy, h1, h2, h3, ?_⟩
    split at h4 <;> first | (cases h4; done) | simp_all [heapMd] | skip
    exact memN_iff.1 h4
  · cases h

/-- Nothing later writes what a read looks at, or tells. -/
def clobE (ops : List Oper) (md : Nat → Md) (i z : Nat) : Bool :=
  match ops[i]?, ops[z]? with
  | some x, some oz => match md i with
    | .rd => match oz.dst with
      | some d => !(memN d (looks ops x)) && (match x.dst with | some d' => !(Nat.beq d d') | none => false)
      | none => true
    | _ => true
  | _, _ => false

theorem clob_spec {i z : Nat} {x oz : Oper} (hi : ops[i]? = some x) (hz : ops[z]? = some oz) (hm : md i = .rd) (h : clobE ops md i z = true) :
    ∀ d, oz.dst = some d → d ∉ looks ops x ∧ x.dst ≠ some d := by
  intro d hd
  unfold clobE at h
  simp only [hi, hz, hm, hd, Bool.and_eq_true] at h
  refine ⟨fun hx => ?_, fun hx => ?_⟩
  · have := memN_iff.2 hx
    rw [this] at h
    simp at h
  · rw [hx] at h
    simp at h

/-- The same, ahead of an operation y that has gone ahead. -/
theorem Hv_move {y : Oper} {u : Value} {h h1 : Hp} : ∀ (A : List Nat) (e e' : Env), Hv X n ops md A e h e' →
    (∀ x ∈ A, ∃ ox, ops[x]? = some ox ∧ apartE ops ox y = true ∧ noSel ox = true ∧ (md x = .pu ∨ h1 = h ∨ (md x = .rd ∧ ∃ d, ox.dst = some d ∧ wantE ops ox e' (QV P ox e' h1 (e' d) ∧ opE X ox e' h1 fun v' _ => v' = e' d) True))) →
    A.Pairwise (fun i z => clobE ops md i z = true) → (∀ x ∈ A, ∀ ox, ops[x]? = some ox → md x = .rd → ∀ d, ox.dst = some d → d ∉ looks ops ox) →
    Hv X n ops md A (putO e y.dst u) h1 (putO e' y.dst u) := by
  intro A
  induction A with
  | nil => intro e e' h2 _ _ _; have : e' = e := h2; subst this; rfl
  | cons i A ih =>
    intro e e' h2 hA hC hS
    obtain ⟨o, ho, hd, hy, hn⟩ := h2
    obtain ⟨ox, hox, hap, hns, hcase⟩ := hA i (by simp)
    have : o = ox := by rw [ho] at hox; injection hox
    subst this
    obtain ⟨ap1, ap2, ap3⟩ := apartE_spec hap
    have hsame : ∀ t ∈ looks ops o, (putO e y.dst u) t = e t := same_put (fun x hx => ap3 x hx)
    have hC' := (List.pairwise_cons.1 hC)
    have hA' : ∀ x ∈ A, ∃ ox, ops[x]? = some ox ∧ apartE ops ox y = true ∧ noSel ox = true ∧ (md x = .pu ∨ h1 = h ∨ (md x = .rd ∧ ∃ d, ox.dst = some d ∧ wantE ops ox e' (QV P ox e' h1 (e' d) ∧ opE X ox e' h1 fun v' _ => v' = e' d) True)) := fun x hx => hA x (by simp [hx])
    have hS' : ∀ x ∈ A, ∀ ox, ops[x]? = some ox → md x = .rd → ∀ d, ox.dst = some d → d ∉ looks ops ox := fun x hx => hS x (by simp [hx])
    have hcomm : ∀ v, putO (putO e y.dst u) o.dst v = putO (putO e o.dst v) y.dst u := fun v => put_comm (fun a b ha hb => (ap2 b a hb ha).symm)
    have hwb : wantB ops o (putO e y.dst u) ↔ wantB ops o e := wantB_same hsame
    refine ⟨o, ho, hd, fun hb => ?_, fun hb => ?_⟩
    · have hb := hwb.1 hb
      obtain ⟨v, hv, hx⟩ := hy hb
      refine ⟨v, ?_, by rw [hcomm]; exact ih _ _ hx hA' hC'.2 hS'⟩
      rcases hcase with hm | hh | ⟨hm, d, hdd, hst⟩
      · rw [hm] at hv ⊢
        exact ⟨hv.1, fun h' => opHp_same (ops := ops) hns (fun t ht => (hsame t ht).symm) (hv.2 h')⟩
      · subst hh
        cases hmd : md i <;> rw [hmd] at hv <;> try (exact hv.elim)
        · exact ⟨hv.1, fun h' => opHp_same (ops := ops) hns (fun t ht => (hsame t ht).symm) (hv.2 h')⟩
        · exact ⟨hv.1, opHp_same (ops := ops) hns (fun t ht => (hsame t ht).symm) hv.2.1, opE_read_same (ops := ops) X hv.1 (fun t ht => (hsame t ht).symm) hv.2.2⟩
        · exact opHp_same (ops := ops) hns (fun t ht => (hsame t ht).symm) hv
      · rw [hm] at hv ⊢
        -- e' tells what e told
        have hlk : ∀ t ∈ looks ops o, e' t = e t := by
          intro t ht
          rw [Hv_frame X A _ _ _ hx t ?_]
          · exact putO_other fun x hx e1 => hS i (by simp) o ho hm x hx (by rw [e1]; exact ht)
          · intro z hz oz hoz hdz
            exact (clob_spec ho hoz hm (hC'.1 z hz) t hdz).1 ht
        have hval : e' d = v := by
          rw [Hv_frame X A _ _ _ hx d ?_]
          · rw [hdd]; simp [putO, put_eq]
          · intro z hz oz hoz hdz
            exact (clob_spec ho hoz hm (hC'.1 z hz) d hdz).2 hdd
        have hb' : wantB ops o e' := (wantB_same hlk).2 hb
        have hq := (wantE_iff.1 hst).1 hb'
        rw [hval] at hq
        have hto : ∀ t ∈ looks ops o, e' t = (putO e y.dst u) t := fun t ht => (hlk t ht).trans (hsame t ht).symm
        exact ⟨hv.1, opHp_same (ops := ops) hns hto hq.1, opE_read_same (ops := ops) X hv.1 hto hq.2⟩
    · have hb : ¬ wantB ops o e := fun hx => hb (hwb.2 hx)
      rw [hcomm]
      exact ih _ _ (hn hb) hA' hC'.2 hS'

/-- An operation that goes ahead of operations that leave the heap. -/
theorem front_heap {A B : List Nat} {i : Nat} {e : Env} {h : Hp} {K : Env → Hp → Prop} (hal : md i ≠ .al) (hh : wpP X n ops md (A ++ i :: B) e h K) (hmay : ∀ x ∈ A, mayE ops md x i = true)
    (hC : A.Pairwise fun i z => clobE ops md i z = true) (hS : ∀ x ∈ A, ∀ ox, ops[x]? = some ox → md x = .rd → ∀ d, ox.dst = some d → d ∉ looks ops ox) (hsel : ∀ oi, ops[i]? = some oi → noSel oi = true) :
    ∃ oi, ops[i]? = some oi ∧ dstOk n oi.dst = true ∧ (wantB ops oi e → opHp P oi e h fun u h1 => wpP X n ops md (A ++ B) (putO e oi.dst u) h1 K) ∧
      (¬ wantB ops oi e → wpP X n ops md (A ++ B) (putO e oi.dst undef) h K) := by
  have hheap : ∀ x ∈ A, heapMd (md x) = true := by
    intro x hx
    obtain ⟨_, _, _, _, _, _, _, hc⟩ := may_spec (hmay x hx)
    rcases hc with h1 | h1 | h1 | h1 | h1
    · rw [h1]; rfl
    · exact h1.1
    · exact (hal h1.2).elim
    · exact (hal h1.2).elim
    · rw [h1.1]; rfl
  obtain ⟨e', hv, hrest⟩ := Hv_of X A e h hheap hh
  obtain ⟨oi, hoi, hd, hw⟩ := hrest
  have hlook : ∀ t ∈ looks ops oi, e' t = e t := by
    intro t ht
    refine Hv_frame X A _ _ _ hv t ?_
    intro z hz oz hoz hdz
    obtain ⟨x, y, hx, hy, hap, _⟩ := may_spec (hmay z hz)
    have e1 : x = oz := by rw [hoz] at hx; injection hx with hx; exact hx.symm
    have e2 : y = oi := by rw [hoi] at hy; injection hy with hy; exact hy.symm
    subst e1 e2
    exact (apartE_spec hap).1 t hdz ht
  have hwb : wantB ops oi e' ↔ wantB ops oi e := wantB_same hlook
  refine ⟨oi, hoi, hd, fun hb => ?_, fun hb => ?_⟩
  · have hs := (wantE_iff.1 hw).1 (hwb.2 hb)
    have hns := hsel oi hoi
    have base : ∀ x ∈ A, ∃ ox, ops[x]? = some ox ∧ apartE ops ox oi = true ∧ noSel ox = true := by
      intro x hx
      obtain ⟨ox, y, hx, hy, hap, h1, _⟩ := may_spec (hmay x hx)
      have e2 : y = oi := by rw [hoi] at hy; injection hy with hy; exact hy.symm
      subst e2
      exact ⟨ox, hx, hap, h1⟩
    have fin : ∀ u h1, (∀ x ∈ A, md x = .pu ∨ h1 = h ∨ (md x = .rd ∧ ∃ ox d, ops[x]? = some ox ∧ ox.dst = some d ∧ wantE ops ox e' (QV P ox e' h1 (e' d) ∧ opE X ox e' h1 fun v' _ => v' = e' d) True)) → wpP X n ops md B (putO e' oi.dst u) h1 K → wpP X n ops md (A ++ B) (putO e oi.dst u) h1 K := by
      intro u h1 hx hB
      refine Hv_back X A _ _ _ (Hv_move X A e e' hv ?_ hC hS) hB
      intro x hxA
      obtain ⟨ox, b1, b2, b3⟩ := base x hxA
      refine ⟨ox, b1, b2, b3, ?_⟩
      rcases hx x hxA with h2 | h2 | ⟨h2, ox', d, h3, h4, h5⟩
      · exact .inl h2
      · exact .inr (.inl h2)
      · have : ox' = ox := by rw [b1] at h3; injection h3 with h3; exact h3.symm
        subst this
        exact .inr (.inr ⟨h2, d, h4, h5⟩)
    have toE : ∀ K', opHp P oi e' h K' → opHp P oi e h K' := fun K' hx => opHp_same (ops := ops) hns hlook hx
    cases hm : md i with
    | pl =>
      rw [hm] at hs
      refine toE _ (opHp_mono hs fun u h1 hB => fin u h1 ?_ hB)
      intro x hx
      obtain ⟨_, _, _, _, _, _, _, hc⟩ := may_spec (hmay x hx)
      rw [hm] at hc
      rcases hc with h1 | h1 | h1 | h1 | h1
      · exact .inl h1
      · simp [heapMd] at h1
      · cases h1.2
      · cases h1.2
      · obtain ⟨_, js, h2, _⟩ := h1; cases h2
    | pu =>
      rw [hm] at hs
      obtain ⟨_, v, hq, hB⟩ := hs
      refine toE _ (opHp_mono (hq h) ?_)
      rintro u h1 ⟨rfl, rfl⟩
      exact fin _ _ (fun x hx => .inr (.inl rfl)) hB
    | rd =>
      rw [hm] at hs
      obtain ⟨_, v, hq, _, hB⟩ := hs
      refine toE _ (opHp_mono hq ?_)
      rintro u h1 ⟨rfl, rfl⟩
      exact fin _ _ (fun x hx => .inr (.inl rfl)) hB
    | qt =>
      rw [hm] at hs
      obtain ⟨v, hq, hB⟩ := hs
      refine toE _ (opHp_mono hq ?_)
      rintro u h1 ⟨rfl, rfl⟩
      exact fin _ _ (fun x hx => .inr (.inl rfl)) hB
    | al => exact (hal hm).elim
    | st js =>
      rw [hm] at hs
      refine toE _ (opHp_mono hs ?_)
      rintro u h1 ⟨hst, hB⟩
      refine fin u h1 ?_ hB
      intro x hx
      obtain ⟨_, _, _, _, _, _, _, hc⟩ := may_spec (hmay x hx)
      rw [hm] at hc
      rcases hc with h2 | h2 | h2 | h2 | h2
      · exact .inl h2
      · simp [heapMd] at h2
      · cases h2.2
      · cases h2.2
      · obtain ⟨h3, js', h4, h5⟩ := h2
        injection h4 with h4
        subst h4
        obtain ⟨ox, d, b1, b2, b3⟩ := hst x h5
        exact .inr (.inr ⟨h3, ox, d, b1, b2, b3⟩)
  · have hN := (wantE_iff.1 hw).2 (fun hx => hb (hwb.1 hx))
    refine Hv_back X A _ _ _ (Hv_move X A e e' hv ?_ hC hS) hN
    intro x hx
    obtain ⟨ox, y, hx', hy, hap, h1, _⟩ := may_spec (hmay x hx)
    have e2 : y = oi := by rw [hoi] at hy; injection hy with hy; exact hy.symm
    subst e2
    exact ⟨ox, hx', hap, h1, .inr (.inl rfl)⟩

theorem opE_alloc_same {o : Oper} (hr : isAlloc o = true) {e e' : Env} (h : ∀ t ∈ looks ops o, e t = e' t) {hp : Hp} {K : Value → Hp → Prop} (hh : opE X o e hp K) : opE X o e' hp K := by
  have hev : ∀ x ∈ o.op.operands, ev e x = ev e' x := by
    intro x hx
    cases x with
    | tmp t => exact h t (List.mem_append_left _ (List.mem_filterMap.2 ⟨.tmp t, by simpa using hx, rfl⟩))
    | _ => rfl
  unfold isAlloc at hr
  unfold opE at *
  cases ho : o.op <;> rw [ho] at hr hh hev <;> simp only [] at hr <;> try (cases hr; done)
  case buildSlice t m ps =>
    have : partsE e ps = partsE e' ps := by
      unfold partsE
      refine List.map_congr_left ?_
      intro p hp
      have := hev p.2 (by simp only [Op.operands]; simp; exact ⟨p.1, by simpa using hp⟩)
      rw [this]
    have hh : buildSlE X t m (partsE e ps) hp K := hh
    rw [this] at hh
    exact hh
  all_goals (simp only [Op.operands] at hev; simp_all)

theorem upd_comm {h : Hp} {b c : Nat} {o o' : Obj} (hn : b ≠ c) : upd (upd h b o) c o' = upd (upd h c o') b o := by
  funext x
  unfold upd
  by_cases h1 : x = b <;> by_cases h2 : x = c <;> simp_all

/-- A laying operation that goes ahead. -/
theorem front_al {B : List Nat} {i : Nat} {oi : Oper} {K : Env → Hp → Prop} (hal : md i = .al) (hoi : ops[i]? = some oi) : ∀ (A : List Nat) (e : Env) (h : Hp), Fin h → wpP X n ops md (A ++ i :: B) e h K → (∀ x ∈ A, mayE ops md x i = true) →
    dstOk n oi.dst = true ∧
    (wantB ops oi e → isAlloc oi = true ∧ ∃ (ob : Obj) (vf : Nat → Value), (∀ h K, opE X oi e h K ↔ newE h ob fun b h' => K (vf b) h') ∧ newE h ob fun b h1 => wpP X n ops md (A ++ B) (putO e oi.dst (vf b)) h1 K) ∧
      (¬ wantB ops oi e → wpP X n ops md (A ++ B) (putO e oi.dst undef) h K) := by
  intro A
  induction A with
  | nil =>
    intro e h hf hh _
    obtain ⟨o, ho, hd, hw⟩ := hh
    have : o = oi := by rw [hoi] at ho; injection ho with ho; exact ho.symm
    subst this
    refine ⟨hd, fun hb => ?_, fun hb => (wantE_iff.1 hw).2 hb⟩
    have hs := (wantE_iff.1 hw).1 hb
    rw [hal] at hs
    obtain ⟨h1, ob, vf, h2, h3, h4⟩ := hs
    exact ⟨h1, ob, vf, h3, h4⟩
  | cons x A ih =>
    intro e h hf hh hmay
    obtain ⟨ox, hox, hdx, hwx⟩ := hh
    obtain ⟨x', y', hx', hy', hap, hns, hnsy, hcase⟩ := may_spec (hmay x (by simp))
    have e1 : x' = ox := by rw [hox] at hx'; injection hx' with h1; exact h1.symm
    have e2 : y' = oi := by rw [hoi] at hy'; injection hy' with h1; exact h1.symm
    subst e1 e2
    obtain ⟨ap1, ap2, ap3⟩ := apartE_spec hap
    have hmay' : ∀ z ∈ A, mayE ops md z i = true := fun z hz => hmay z (by simp [hz])
    have sameY : ∀ v, ∀ t ∈ looks ops y', (putO e x'.dst v) t = e t := fun v => same_put (fun d hd => ap1 d hd)
    have sameX : ∀ u, ∀ t ∈ looks ops x', (putO e y'.dst u) t = e t := fun u => same_put (fun d hd => ap3 d hd)
    have wY : ∀ v, wantB ops y' (putO e x'.dst v) ↔ wantB ops y' e := fun v => wantB_same (sameY v)
    have wX : ∀ u, wantB ops x' (putO e y'.dst u) ↔ wantB ops x' e := fun u => wantB_same (sameX u)
    have comm : ∀ v u, putO (putO e x'.dst v) y'.dst u = putO (putO e y'.dst u) x'.dst v := fun v u => put_comm (fun a b ha hb => ap2 a b ha hb)
    by_cases hbx : wantB ops x' e
    · have hsx := (wantE_iff.1 hwx).1 hbx
      have hmdx : md x = .pu ∨ md x = .rd ∨ md x = .al := by
        rcases hcase with h1 | h1 | h1 | h1 | h1
        · exact .inl h1
        · rw [hal] at h1; simp [heapMd] at h1
        · exact .inr (.inl h1.1)
        · exact .inr (.inr h1.1)
        · obtain ⟨_, js, h2, _⟩ := h1; rw [hal] at h2; cases h2
      rcases hmdx with hm | hm | hm
      · rw [hm] at hsx
        obtain ⟨hp, v, hq, hK⟩ := hsx
        obtain ⟨hd, hy, hn⟩ := ih _ _ hf hK hmay'
        refine ⟨hd, fun hb => ?_, fun hb => ?_⟩
        · obtain ⟨ha, ob, vf, hO, hN⟩ := hy ((wY v).2 hb)
          refine ⟨ha, ob, vf, fun h K => ?_, fun b hfr => ?_⟩
          · rw [← hO h K]
            exact ⟨fun q => opE_alloc_same (ops := ops) X ha (fun t ht => (sameY v t ht).symm) q, fun q => opE_alloc_same (ops := ops) X ha (sameY v) q⟩
          · refine ⟨x', hox, hdx, wantE_iff.2 ⟨fun _ => ?_, fun q => (q ((wX _).2 hbx)).elim⟩⟩
            rw [hm]
            refine ⟨hp, v, fun h' => opHp_same (ops := ops) hns (fun t ht => (sameX _ t ht).symm) (hq h'), ?_⟩
            try dsimp only
            rw [← comm]
            exact hN b hfr
        · refine ⟨x', hox, hdx, wantE_iff.2 ⟨fun _ => ?_, fun q => (q ((wX _).2 hbx)).elim⟩⟩
          rw [hm]
          refine ⟨hp, v, fun h' => opHp_same (ops := ops) hns (fun t ht => (sameX _ t ht).symm) (hq h'), ?_⟩
          try dsimp only
          rw [← comm]
          exact hn (fun q => hb ((wY v).1 q))
      · rw [hm] at hsx
        obtain ⟨hp, v, hq, hE, hK⟩ := hsx
        obtain ⟨hd, hy, hn⟩ := ih _ _ hf hK hmay'
        refine ⟨hd, fun hb => ?_, fun hb => ?_⟩
        · obtain ⟨ha, ob, vf, hO, hN⟩ := hy ((wY v).2 hb)
          refine ⟨ha, ob, vf, fun h K => ?_, fun b hfr => ?_⟩
          · rw [← hO h K]
            exact ⟨fun q => opE_alloc_same (ops := ops) X ha (fun t ht => (sameY v t ht).symm) q, fun q => opE_alloc_same (ops := ops) X ha (sameY v) q⟩
          · refine ⟨x', hox, hdx, wantE_iff.2 ⟨fun _ => ?_, fun q => (q ((wX _).2 hbx)).elim⟩⟩
            rw [hm]
            have hE' := opE_read_same (ops := ops) X hp (fun t ht => (sameX (vf b) t ht).symm) (read_upd X hp (ob := ob) hfr hE)
            refine ⟨hp, v, QV_of_read X hp hE', hE', ?_⟩
            try dsimp only
            rw [← comm]
            exact hN b hfr
        · refine ⟨x', hox, hdx, wantE_iff.2 ⟨fun _ => ?_, fun q => (q ((wX _).2 hbx)).elim⟩⟩
          rw [hm]
          have hE' := opE_read_same (ops := ops) X hp (fun t ht => (sameX undef t ht).symm) hE
          refine ⟨hp, v, QV_of_read X hp hE', hE', ?_⟩
          try dsimp only
          rw [← comm]
          exact hn (fun q => hb ((wY v).1 q))
      · rw [hm] at hsx
        obtain ⟨hp, obx, vfx, hAV, hO, hN⟩ := hsx
        have hO' : ∀ u h K, opE X x' (putO e y'.dst u) h K ↔ newE h obx fun b h' => K (vfx b) h' := by
          intro u h K
          rw [← hO h K]
          exact ⟨fun q => opE_alloc_same (ops := ops) X hp (sameX u) q, fun q => opE_alloc_same (ops := ops) X hp (fun t ht => (sameX u t ht).symm) q⟩
        obtain ⟨b0, hb0⟩ := hf.fresh
        obtain ⟨hd, hy0, hn0⟩ := ih _ _ (hf.upd b0 obx) (hN b0 hb0) hmay'
        refine ⟨hd, fun hb => ?_, fun hb => ?_⟩
        · obtain ⟨ha, ob, vf, hOy, _⟩ := hy0 ((wY _).2 hb)
          have hOe : ∀ h K, opE X y' e h K ↔ newE h ob fun b h' => K (vf b) h' := by
            intro h K
            rw [← hOy h K]
            exact ⟨fun q => opE_alloc_same (ops := ops) X ha (fun t ht => (sameY _ t ht).symm) q, fun q => opE_alloc_same (ops := ops) X ha (sameY _) q⟩
          refine ⟨ha, ob, vf, hOe, fun b hfr => ?_⟩
          refine ⟨x', hox, hdx, wantE_iff.2 ⟨fun _ => ?_, fun q => (q ((wX _).2 hbx)).elim⟩⟩
          rw [hm]
          refine ⟨hp, obx, vfx, fun h K q => opE_ok X ((hO' _ h K).2 q), hO' _, fun bx hbx' => ?_⟩
          have hne : bx ≠ b := by
            intro e3; subst e3; rw [upd_same] at hbx'; cases hbx'
          have hbxf : h bx = none := by rw [upd_ne _ _ hne] at hbx'; exact hbx'
          obtain ⟨_, hy1, _⟩ := ih _ _ (hf.upd bx obx) (hN bx hbxf) hmay'
          obtain ⟨_, ob1, vf1, hO1, hN1⟩ := hy1 ((wY _).2 hb)
          have q1 : opE X y' (putO e x'.dst (vfx bx)) (upd h bx obx) fun v h1 => wpP X n ops md (A ++ B) (putO (putO e x'.dst (vfx bx)) y'.dst v) h1 K := (hO1 _ _).2 hN1
          have q2 := opE_alloc_same (ops := ops) X ha (sameY _) q1
          have q3 := (hOe _ _).1 q2
          have hbf : (upd h bx obx) b = none := by rw [upd_ne _ _ (Ne.symm hne)]; exact hfr
          have q4 := q3 b hbf
          rw [upd_comm hne] at q4
          try dsimp only
          rw [← comm]
          exact q4
        · refine ⟨x', hox, hdx, wantE_iff.2 ⟨fun _ => ?_, fun q => (q ((wX _).2 hbx)).elim⟩⟩
          rw [hm]
          refine ⟨hp, obx, vfx, fun h K q => opE_ok X ((hO' _ h K).2 q), hO' _, fun bx hbx' => ?_⟩
          obtain ⟨_, _, hn1⟩ := ih _ _ (hf.upd bx obx) (hN bx hbx') hmay'
          try dsimp only
          rw [← comm]
          exact hn1 (fun q => hb ((wY _).1 q))
    · have hsx := (wantE_iff.1 hwx).2 hbx
      obtain ⟨hd, hy, hn⟩ := ih _ _ hf hsx hmay'
      refine ⟨hd, fun hb => ?_, fun hb => ?_⟩
      · obtain ⟨ha, ob, vf, hO, hN⟩ := hy ((wY _).2 hb)
        refine ⟨ha, ob, vf, fun h K => ?_, fun b hfr => ?_⟩
        · rw [← hO h K]
          exact ⟨fun q => opE_alloc_same (ops := ops) X ha (fun t ht => (sameY _ t ht).symm) q, fun q => opE_alloc_same (ops := ops) X ha (sameY _) q⟩
        · refine ⟨x', hox, hdx, wantE_iff.2 ⟨fun q => (hbx ((wX _).1 q)).elim, fun _ => ?_⟩⟩
          try dsimp only
          rw [← comm]
          exact hN b hfr
      · refine ⟨x', hox, hdx, wantE_iff.2 ⟨fun q => (hbx ((wX _).1 q)).elim, fun _ => ?_⟩⟩
        try dsimp only
        rw [← comm]
        exact hn (fun q => hb ((wY _).1 q))

end front

end Go.Proofs.Ytckdkgphkjbbnaa.Hw

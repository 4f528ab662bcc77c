/- The heap logic: the formula of a region implies what the region does, in its order. -/
import Derived.Test.YtckdkgphkjbbnaaDet
set_option linter.unusedVariables false
set_option linter.unusedSimpArgs false
namespace Go.Proofs.Ytckdkgphkjbbnaa.Hw

variable {P : Program} (X : Cx P)

theorem eqE_noptr {h h' : Hp} {t : TypeId} {a b : Value} {K : Bool → Prop} (hp : ∀ e, (X.tb t).desc ≠ .ptr e) (hh : eqE X h t a b K) : eqE X h' t a b K := by
  unfold eqE at *
  cases hk : (X.tb t).known
  · simp [hk] at hh
  · rw [hk] at hh
    cases hd : (X.tb t).desc <;> rw [hd] at hh <;> first | exact hh | exact (hp _ hd).elim

theorem binE_noptr {h h' : Hp} {op : BinOp} {t : TypeId} {a b : Value} {K : Value → Prop} (hp : (op = .eql ∨ op = .neq) → ∀ e, (X.tb t).desc ≠ .ptr e) (hh : binE X op h t a b K) : binE X op h' t a b K := by
  unfold binE at *
  split at hh
  · exact hh
  · exact hh
  · split at hh
    · exact eqE_noptr X (hp (.inl rfl)) hh
    · exact eqE_noptr X (hp (.inr rfl)) hh
    · exact hh.elim

theorem lenE_nomap {h h' : Hp} {t : TypeId} {v : Value} {K : Value → Prop} (hm : ∀ a b, (X.tb t).desc ≠ .map a b) (hh : lenE X t v h K) : lenE X t v h' K := by
  unfold lenE at *
  cases hk : (X.tb t).known
  · simp [hk] at hh
  · rw [hk] at hh
    cases hd : (X.tb t).desc <;> rw [hd] at hh <;> first | exact hh | exact (hm _ _ hd).elim

theorem len_dt (t : TypeId) (v : Value) (h : Hp) (hm : ∀ a b, (X.tb t).desc ≠ .map a b) : Dt (lenE X t v h) := by
  unfold lenE
  cases (X.tb t).known
  · exact Dt.no
  · cases hd : (X.tb t).desc <;> first | exact Dt.no | exact (hm _ _ hd).elim | skip
    · cases v <;> first | exact Dt.no | exact Dt.ret _
    · rename_i a
      dsimp only
      cases (X.tb a).known
      · exact Dt.no
      · cases (X.tb a).desc <;> first | exact Dt.no | exact Dt.ret _
    · cases v <;> first | exact Dt.no | exact Dt.ret _
    · exact Dt.ret _

/-- A pure operation. -/
theorem pure_form {o : Oper} (hp : isPure X o = true) (e : Env) : ∃ F, Dt F ∧ ∀ h K, opE X o e h K ↔ F fun v => K v h := by
  unfold isPure at hp
  unfold opE
  cases ho : o.op <;> rw [ho] at hp <;> simp only [] at hp <;> try (cases hp; done)
  case move x => exact ⟨_, Dt.ret _, fun h K => Iff.rfl⟩
  case assign x => exact ⟨_, Dt.ret _, fun h K => Iff.rfl⟩
  case pick c a b => exact ⟨_, pick_dt _ _ _, fun h K => Iff.rfl⟩
  case build t ps => exact ⟨_, build_dt X _ _, fun h K => Iff.rfl⟩
  case nilCheck x => exact ⟨_, nil_dt _, fun h K => Iff.rfl⟩
  case unOp op t x => exact ⟨_, un_dt _ _, fun h K => Iff.rfl⟩
  case makeFunc fn a b => exact ⟨_, Dt.ret _, fun h K => Iff.rfl⟩
  case slice t x lo hi mx => exact ⟨_, slice_dt X _ _ _ _ _, fun h K => Iff.rfl⟩
  case fieldAddr t x f => exact ⟨_, fieldA_dt X _ _ _, fun h K => Iff.rfl⟩
  case field t x f => exact ⟨_, field_dt X _ _ _, fun h K => Iff.rfl⟩
  case indexAddr t x f => exact ⟨_, indexA_dt X _ _ _, fun h K => Iff.rfl⟩
  case index t x f => exact ⟨_, index_dt X _ _ _, fun h K => Iff.rfl⟩
  case extract x f => exact ⟨_, extract_dt _ _, fun h K => Iff.rfl⟩
  case binOp op t x y yt =>
    have hn : (op = .eql ∨ op = .neq) → ∀ e, (X.tb t).desc ≠ .ptr e := by
      rintro (rfl | rfl) e' he <;> simp [he] at hp
    exact ⟨_, bin_dt X op (fun _ => none) t (ev e x) (ev e y), fun h K => ⟨fun hh => binE_noptr X hn hh, fun hh => binE_noptr X hn hh⟩⟩
  case convert s d x =>
    cases hs : (X.tb s).desc <;> rw [hs] at hp <;> (cases hd : (X.tb d).desc <;> rw [hd] at hp <;> simp only [] at hp <;> try (cases hp; done))
    · rename_i k k'
      refine ⟨fun K => match (X.tb s).known, (X.tb d).known with
        | true, true => match ev e x with
          | .int _ n => K (.int k' (k'.wrap n))
          | _ => False
        | _, _ => False, ?_, fun h K => ?_⟩
      · cases (X.tb s).known
        · exact Dt.no
        · cases (X.tb d).known
          · exact Dt.no
          · cases ev e x <;> first | exact Dt.no | exact Dt.ret _
      · show convE X s d (ev e x) h K ↔ _
        unfold convE
        rw [hs, hd]
        cases (X.tb s).known <;> cases (X.tb d).known <;> cases ev e x <;> exact Iff.rfl
    · refine ⟨fun K => match (X.tb s).known, (X.tb d).known with
        | true, true => match ev e x with
          | .string s => K (.string s)
          | _ => False
        | _, _ => False, ?_, fun h K => ?_⟩
      · cases (X.tb s).known
        · exact Dt.no
        · cases (X.tb d).known
          · exact Dt.no
          · cases ev e x <;> first | exact Dt.no | exact Dt.ret _
      · show convE X s d (ev e x) h K ↔ _
        unfold convE
        rw [hs, hd]
        cases (X.tb s).known <;> cases (X.tb d).known <;> cases ev e x <;> exact Iff.rfl
  case call c =>
    cases hc : c.callee <;> rw [hc] at hp <;> (try (cases hp; done))
    rename_i b
    show ∃ F, Dt F ∧ ∀ h K, callE X c o.type e h K ↔ F fun v => K v h
    unfold callE
    rw [hc]
    cases b <;> (try (cases hp; done))
    · -- cap
      unfold builtinE
      simp only []
      cases c.argTypes.toList with
      | nil => exact ⟨_, Dt.no, fun h K => Iff.rfl⟩
      | cons t ts =>
        cases ts with
        | nil =>
          cases c.args.toList.map (ev e) with
          | nil => exact ⟨_, Dt.no, fun h K => Iff.rfl⟩
          | cons v vs => cases vs with
            | nil => exact ⟨_, cap_dt X _ _, fun h K => Iff.rfl⟩
            | cons _ _ => exact ⟨_, Dt.no, fun h K => Iff.rfl⟩
        | cons _ _ => exact ⟨_, Dt.no, fun h K => Iff.rfl⟩
    · -- len
      unfold builtinE
      simp only []
      cases ht : c.argTypes.toList with
      | nil => rw [ht] at hp; cases hp
      | cons t ts =>
        rw [ht] at hp
        cases ts with
        | nil =>
          cases c.args.toList.map (ev e) with
          | nil => exact ⟨_, Dt.no, fun h K => Iff.rfl⟩
          | cons v vs => cases vs with
            | nil =>
              have hm : ∀ a b, (X.tb t).desc ≠ .map a b := by intro a b hd; simp [hd] at hp
              exact ⟨_, len_dt X t v (fun _ => none) hm, fun h K => ⟨fun hh => lenE_nomap X hm hh, fun hh => lenE_nomap X hm hh⟩⟩
            | cons _ _ => exact ⟨_, Dt.no, fun h K => Iff.rfl⟩
        | cons _ _ => exact ⟨_, Dt.no, fun h K => Iff.rfl⟩
    · unfold builtinE
      simp only []
      cases c.args.toList.map (ev e) with
      | nil => exact ⟨_, Dt.no, fun h K => Iff.rfl⟩
      | cons v vs => exact ⟨_, mx_dt _ _, fun h K => Iff.rfl⟩
    · unfold builtinE
      simp only []
      cases c.args.toList.map (ev e) with
      | nil => exact ⟨_, Dt.no, fun h K => Iff.rfl⟩
      | cons v vs => exact ⟨_, mn_dt _ _, fun h K => Iff.rfl⟩

theorem exL_split : ∀ {ks : List SK} {F : List Value → Prop}, exL ks F ↔ ∃ vs, vs.length = ks.length ∧ exL ks (fun ws => ws = vs) ∧ F vs := by
  intro ks
  induction ks with
  | nil =>
    intro F
    constructor
    · intro h; exact ⟨[], rfl, rfl, h⟩
    · rintro ⟨vs, _, h1, h2⟩
      have : [] = vs := h1
      subst this; exact h2
  | cons k ks ih =>
    intro F
    constructor
    · intro h
      obtain ⟨v, h1, h2⟩ := ex_split.1 h
      obtain ⟨vs, hl, h3, h4⟩ := ih.1 h2
      exact ⟨v :: vs, by simp [hl], ex_split.2 ⟨v, h1, ih.2 ⟨vs, hl, h3, rfl⟩⟩, h4⟩
    · rintro ⟨vs, hl, h1, h2⟩
      obtain ⟨v, h3, h4⟩ := ex_split.1 h1
      obtain ⟨ws, hl', h5, h6⟩ := ih.1 h4
      subst h6
      exact ex_split.2 ⟨v, h3, ih.2 ⟨ws, hl', h5, h2⟩⟩

theorem row_unique {h : Hp} {p : Addr} : ∀ (vs ws : List Value) (i : Nat), vs.length = ws.length → rowAt h p i vs → rowAt h p i ws → vs = ws := by
  intro vs
  induction vs with
  | nil => intro ws i hl _ _; cases ws <;> simp_all
  | cons v vs ih =>
    intro ws i hl h1 h2
    cases ws with
    | nil => simp at hl
    | cons w ws =>
      have e1 : some v = some w := h1.1.symm.trans h2.1
      injection e1 with e1
      rw [e1, ih ws (i + 1) (by simpa using hl) h1.2 h2.2]

/-- One value, where what is asked of it has one answer. -/
theorem Dt.ex {p : Value → Prop} (hu : ∀ v w, p v → p w → v = w) : Dt fun K => ∃ v, p v ∧ K v := by
  by_cases he : ∃ v, p v
  · obtain ⟨v, hv⟩ := he
    refine ⟨some v, fun K => ?_⟩
    constructor
    · rintro ⟨w, hw, hK⟩; rw [hu w v hw hv] at hK; exact ⟨v, rfl, hK⟩
    · rintro ⟨w, e, hK⟩; injection e with e; subst e; exact ⟨_, hv, hK⟩
  · exact ⟨none, fun K => ⟨fun ⟨v, hv, _⟩ => (he ⟨v, hv⟩).elim, fun ⟨v, hv, _⟩ => by cases hv⟩⟩

theorem Dt.iff {F G : (Value → Prop) → Prop} (h : Dt F) (hfg : ∀ K, G K ↔ F K) : Dt G := by
  obtain ⟨r, hr⟩ := h
  exact ⟨r, fun K => (hfg K).trans (hr K)⟩

theorem ld_dt (c : CK) (h : Hp) (p : Addr) : Dt (ldE c h p) := by
  cases c with
  | one s =>
    refine Dt.iff (F := fun K => ∃ v, (s.ex (fun w => w = v) ∧ cell h p = some v) ∧ K v) (Dt.ex ?_) ?_
    · rintro v w ⟨_, h1⟩ ⟨_, h2⟩; rw [h1] at h2; injection h2
    · intro K
      show (s.ex fun v => cell h p = some v ∧ K v) ↔ _
      rw [ex_split]
      simp only [and_assoc]
  | agg ks =>
    refine Dt.iff (F := fun K => ∃ v, (∃ vs, vs.length = ks.length ∧ exL ks (fun ws => ws = vs) ∧ rowAt h p 0 vs ∧ v = .agg vs.toArray) ∧ K v) (Dt.ex ?_) ?_
    · rintro v w ⟨vs, h1, _, h2, rfl⟩ ⟨ws, h3, _, h4, rfl⟩
      rw [row_unique vs ws 0 (by omega) h2 h4]
    · intro K
      show (exL ks fun vs => rowAt h p 0 vs ∧ K (.agg vs.toArray)) ↔ _
      rw [exL_split]
      constructor
      · rintro ⟨vs, h1, h2, h3, h4⟩; exact ⟨_, ⟨vs, h1, h2, h3, rfl⟩, h4⟩
      · rintro ⟨v, ⟨vs, h1, h2, h3, rfl⟩, h4⟩; exact ⟨vs, h1, h2, h3, h4⟩

theorem look_unique {h : Hp} {r : Option Nat} {d : TD} {k : Value} {o o' : Option Value} (h1 : lookM h r d k o) (h2 : lookM h r d k o') : o = o' := by
  cases r with
  | none => exact h1.trans h2.symm
  | some r =>
    obtain ⟨es, c, hm, _, ho⟩ := h1
    obtain ⟨es', c', hm', _, ho'⟩ := h2
    have : some (Obj.map es c) = some (.map es' c') := hm.symm.trans hm'
    injection this with this
    injection this with e1 e2
    subst e1
    exact ho.trans ho'.symm

theorem exC_iff_true {ks : List CK} {v : Value} {F : Value → Prop} : (exC ks fun vs => v = .tuple vs.toArray ∧ F (.tuple vs.toArray)) ↔ (exC ks fun vs => v = .tuple vs.toArray ∧ True) ∧ F v := by
  have gen : ∀ (ks : List CK) (pre : List Value) , (exC ks fun vs => v = .tuple (pre ++ vs).toArray ∧ F (.tuple (pre ++ vs).toArray)) ↔ (exC ks fun vs => v = .tuple (pre ++ vs).toArray ∧ True) ∧ F v := by
    intro ks
    induction ks with
    | nil => intro pre; exact ⟨fun ⟨h1, h2⟩ => ⟨⟨h1, trivial⟩, h1 ▸ h2⟩, fun ⟨⟨h1, _⟩, h2⟩ => ⟨h1, h1 ▸ h2⟩⟩
    | cons k ks ih =>
      intro pre
      have ckx : ∀ (c : CK) (G H : Value → Prop), (∀ w, G w ↔ H w ∧ F v) → (c.ex G ↔ c.ex H ∧ F v) := by
        intro c G H hg
        have skx : ∀ (s : SK) (G H : Value → Prop), (∀ w, G w ↔ H w ∧ F v) → (s.ex G ↔ s.ex H ∧ F v) := by
          intro s G H hg
          cases s with
          | slice => exact ⟨fun ⟨a, n, c, h⟩ => ⟨⟨a, n, c, ((hg _).1 h).1⟩, ((hg _).1 h).2⟩, fun ⟨⟨a, n, c, h⟩, h2⟩ => ⟨a, n, c, (hg _).2 ⟨h, h2⟩⟩⟩
          | _ => exact ⟨fun ⟨n, h⟩ => ⟨⟨n, ((hg _).1 h).1⟩, ((hg _).1 h).2⟩, fun ⟨⟨n, h⟩, h2⟩ => ⟨n, (hg _).2 ⟨h, h2⟩⟩⟩
        cases c with
        | one s => exact skx s G H hg
        | agg ks =>
          have lx : ∀ (ks : List SK) (G H : List Value → Prop), (∀ w, G w ↔ H w ∧ F v) → (exL ks G ↔ exL ks H ∧ F v) := by
            intro ks
            induction ks with
            | nil => intro G H hg; exact hg _
            | cons k ks ih2 => intro G H hg; exact skx k _ _ fun w => ih2 _ _ fun ws => hg _
          exact lx ks _ _ fun ws => hg _
      refine ckx k _ _ fun w => ?_
      have := ih (pre ++ [w])
      simpa using this
  simpa using gen ks []

theorem cast_dt (T : TI) (tb : TypeId → TI) (v : Value) : Dt (castR T tb v) := by
  refine Dt.iff (F := fun K => castR T tb v (fun _ => True) ∧ K v) (Dt.and (Dt.ret v)) ?_
  intro K
  unfold castR
  cases T.known
  · simp
  · cases T.desc with
    | tuple ts => exact exC_iff_true
    | _ =>
      simp only []
      cases T.ck with
      | one s =>
        unfold CK.ex
        simp only []
        rw [ex_split (F := fun w => v = w ∧ K w), ex_split (F := fun w => v = w ∧ True)]
        constructor
        · rintro ⟨w, h1, rfl, h2⟩; exact ⟨⟨_, h1, rfl, trivial⟩, h2⟩
        · rintro ⟨⟨w, h1, rfl, _⟩, h2⟩; exact ⟨_, h1, rfl, h2⟩
      | agg ks =>
        unfold CK.ex
        simp only []
        rw [exL_split (F := fun ws => v = .agg ws.toArray ∧ K (.agg ws.toArray)), exL_split (F := fun ws => v = .agg ws.toArray ∧ True)]
        constructor
        · rintro ⟨w, h0, h1, rfl, h2⟩; exact ⟨⟨_, h0, h1, rfl, trivial⟩, h2⟩
        · rintro ⟨⟨w, h0, h1, rfl, _⟩, h2⟩; exact ⟨_, h0, h1, rfl, h2⟩

theorem look_dt (t : TypeId) (m k : Value) (ok : Bool) (h : Hp) : Dt (lookE X t m k ok h) := by
  unfold lookE
  cases (X.tb t).known
  · exact Dt.no
  · cases (X.tb t).desc <;> first | exact Dt.no | skip
    rename_i kt et
    dsimp only
    cases (X.tb kt).known
    · exact Dt.no
    · cases keyOf (X.tb kt).desc k
      · exact Dt.no
      · cases (X.tb et).known
        · exact Dt.no
        · cases m <;> first | exact Dt.no | skip
          rename_i r
          dsimp only
          by_cases he : ∃ o, lookM h r (X.tb kt).desc k o
          · obtain ⟨o, ho⟩ := he
            refine Dt.iff (Dt.map (cast_dt (X.tb et) X.tb (o.getD (X.tb et).zval)) (fun v => match ok with | true => .tuple #[v, .bool o.isSome] | false => v)) ?_
            intro K
            constructor
            · rintro ⟨o', ho', hh⟩; rw [look_unique ho' ho] at hh; exact hh
            · intro hh; exact ⟨o, ho, hh⟩
          · refine Dt.iff Dt.no ?_
            intro K
            constructor
            · rintro ⟨o', ho', _⟩; exact he ⟨o', ho'⟩
            · intro hh; exact hh.elim

/-- A reading operation. -/
theorem read_form {o : Oper} (hp : isRead X o = true) (e : Env) (h : Hp) : ∃ F, Dt F ∧ ∀ K, opE X o e h K ↔ F fun v => K v h := by
  unfold isRead at hp
  unfold opE
  cases ho : o.op <;> rw [ho] at hp <;> simp only [] at hp <;> try (cases hp; done)
  case load t a =>
    refine ⟨fun K => match (X.tb t).known, ev e a with
      | true, .pointer (some p) => ldE (X.tb t).ck h p K
      | _, _ => False, ?_, fun K => Iff.rfl⟩
    cases (X.tb t).known
    · exact Dt.no
    · cases ev e a <;> first | exact Dt.no | skip
      rename_i q
      cases q
      · exact Dt.no
      · exact ld_dt _ _ _
  case lookup t m k ok => exact ⟨_, look_dt X _ _ _ _ _, fun K => Iff.rfl⟩
  case binOp op t x y yt => exact ⟨_, bin_dt X op h t (ev e x) (ev e y), fun K => Iff.rfl⟩

/-- A laying operation. -/
theorem alloc_form {o : Oper} (hp : isAlloc o = true) (e : Env) : (∀ h K, ¬ opE X o e h K) ∨ ∃ (ob : Obj) (vf : Nat → Value), ∀ h K, opE X o e h K ↔ newE h ob fun b h' => K (vf b) h' := by
  unfold isAlloc at hp
  unfold opE
  cases ho : o.op <;> rw [ho] at hp <;> simp only [] at hp <;> try (cases hp; done)
  case alloc t =>
    dsimp only
    cases (X.tb t).known
    · exact .inl fun h K hh => hh
    · exact .inr ⟨_, _, fun h K => Iff.rfl⟩
  case box t x => exact .inr ⟨_, _, fun h K => Iff.rfl⟩
  case buildSlice t n ps =>
    dsimp only
    unfold buildSlE
    cases (X.tb t).known
    · exact .inl fun h K hh => hh
    · cases (X.tb t).desc <;> first | exact .inl fun h K hh => hh | skip
      rename_i et
      dsimp only
      cases (X.tb et).known
      · exact .inl fun h K hh => hh
      · cases (X.tb et).size
        · exact .inl fun h K hh => hh
        · rename_i m
          cases Nat.ble (n * (m + 1)) 16777216
          · exact .inl fun h K hh => hh
          · cases lay (fun i => some (i * (m + 1), (m + 1))) (repL n (X.tb et).zero) (partsE e ps)
            · exact .inl fun h K hh => hh
            · exact .inr ⟨_, _, fun h K => Iff.rfl⟩
  case makeMap t r =>
    dsimp only
    cases r
    · exact .inr ⟨_, fun b => .map (some b), fun h K => Iff.rfl⟩
    · exact .inl fun h K hh => hh
  case makeSlice t l c =>
    dsimp only
    unfold makeSlE
    cases (X.tb t).known
    · exact .inl fun h K hh => hh
    · cases (X.tb t).desc <;> first | exact .inl fun h K hh => hh | skip
      rename_i et
      dsimp only
      cases (X.tb et).known
      · exact .inl fun h K hh => hh
      · cases (X.tb et).size
        · exact .inl fun h K hh => hh
        · cases ev e l <;> first | exact .inl fun h K hh => hh | skip
          cases ev e c <;> first | exact .inl fun h K hh => hh | skip
          rename_i lk l ck c
          by_cases hc : 0 ≤ l ∧ l ≤ c ∧ c ≤ 140737488355328 ∧ ((X.tb et).bytes : Int) * c ≤ 140737488355328
          · refine .inr ⟨.cells (repL c.toNat (X.tb et).zero).toArray et, fun b => .slice (some ⟨b, 0, none⟩) l.toNat c.toNat, fun h K => ?_⟩
            constructor
            · rintro ⟨_, _, _, _, hh⟩; exact hh
            · intro hh; exact ⟨hc.1, hc.2.1, hc.2.2.1, hc.2.2.2, hh⟩
          · refine .inl ?_
            rintro h K ⟨h1, h2, h3, h4, _⟩
            exact hc ⟨h1, h2, h3, h4⟩

end Go.Proofs.Ytckdkgphkjbbnaa.Hw

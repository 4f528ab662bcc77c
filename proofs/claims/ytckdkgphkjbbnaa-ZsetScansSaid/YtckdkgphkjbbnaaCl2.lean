/- The heap logic: soundness of the clauses on numbers, bools, strings, pointers. -/
import Derived.Test.YtckdkgphkjbbnaaCl
set_option linter.unusedVariables false
set_option linter.unusedSimpArgs false
namespace Go.Proofs.Ytckdkgphkjbbnaa.Hw

variable {P : Program} (X : Cx P)

theorem intBin_ok {op : BinOp} {k yk : IntKind} {x y : Int} {h : Hp} {K : Value → Hp → Prop} (hk : (op = .shl ∨ op = .shr) ∨ k = yk) (t : TypeId)
    (hh : intBin op k x y fun v => K v h) : hp P (binOp op t (.int k x) (.int yk y)) h K := by
  unfold binOp
  cases op <;> simp only [intBin] at hh <;>
    simp_all [Op.shift, Op.intArith, Op.intDiv, Op.intBits, Op.intCmp, hp_pure'] <;> try omega
  · rw [if_neg (by omega)]; exact hh.2
  · rw [if_neg (by omega)]; exact hh.2

theorem strBin_ok {op : BinOp} {x y : ByteArray} {h : Hp} {K : Value → Hp → Prop} (t : TypeId)
    (hh : strBin op x.data.toList y.data.toList fun v => K v h) : hp P (binOp op t (.string x) (.string y)) h K := by
  have e : (⟨(x.data.toList ++ y.data.toList).toArray⟩ : ByteArray) = x ++ y := by
    apply ByteArray.ext
    simp [ByteArray.data_append]
  cases op <;> simp only [strBin] at hh <;> (try exact hh.elim) <;>
    simp_all [binOp, Op.stringOp, toList_data, hp_pure']
  · rw [if_neg]
    · exact hh.2
    · omega

theorem ptrEq2_ok {h : Hp} {p q : Addr} {K : Bool → Hp → Prop} (hh : ptrEq2 h p q fun r => K r h) : hp P (sameAddr p q) h K := by
  unfold sameAddr
  by_cases e : p.block = q.block
  · have h1 := hh.1 e
    simp only [e, BEq.rfl, if_true]
    rw [show (p == q) = decide (p = q) from rfl]
    exact h1
  · obtain ⟨⟨c, t, hc⟩, ⟨d, u, hd⟩, hK⟩ := hh.2 e
    have e' : (p.block == q.block) = false := by simpa using e
    simp only [e', Bool.false_eq_true, if_false]
    simp only [hp_bind, hp_frozen, hp_pure', noView, viewAt, mayBeOne, stringish, hp_shape]
    refine ⟨_, hc, _, hd, ?_⟩
    simp [frozenOf, hp_bind, hp_shape, hp_frozen, hc, hd, shapeOf, hp_pure', hK]


theorem hp_equal_und {h : Hp} {t : TypeId} {d : TypeDesc} (hd : P.underlying t = some d) {K : Bool → Hp → Prop} {n : Nat} {a b : Value} :
    hp P (Op.equalIn (n + 1) t a b) h K ↔ hp P (underlying t) h fun d' h' => d' = d ∧ h' = h ∧ hp P (Op.equalIn (n + 1) t a b) h K := by
  rw [hp_und hd]; simp

theorem cellsEqE_ex : ∀ {vs ws : List Value} {F : Bool → Prop}, cellsEqE vs ws F → ∃ r, F r := by
  intro vs
  induction vs with
  | nil => intro ws F h; cases ws with
    | nil => exact ⟨_, h⟩
    | cons => exact h.elim
  | cons v vs ih =>
    intro ws F h
    cases ws with
    | nil => exact h.elim
    | cons w ws =>
      unfold cellsEqE at h
      split at h
      · obtain ⟨r, hr⟩ := ih h; exact ⟨_, hr⟩
      · exact h.elim

theorem part_one {h : Hp} {t : TypeId} {cs : Array Value} {off : Nat} {v : Value} {s : SK} {K : Value → Hp → Prop} (hk : (X.tb t).known = true) (hc : (X.tb t).ck = .one s) (hv : cs.toList[off]? = some v) (hh : K v h) : hp P (part t cs off) h K := by
  obtain ⟨i, d, z, T⟩ := X.known hk
  have hn : isAggD (some d) = false := by
    have h := T.ck
    rw [hc] at h
    split at h
    · cases h
    · simp_all
  unfold part
  have ha : ∀ {K' : Bool → Hp → Prop}, hp P (isAgg t) h K' ↔ K' false h := by
    intro K'
    unfold isAgg
    rw [hp_bind, hp_und T.und]
    cases d <;> simp_all [isAggD, hp_pure']
  rw [hp_bind, ha]
  simp only [Bool.false_eq_true, if_false]
  simp only [Array.getElem?_toList] at hv
  simpa [hv, hp_pure'] using hh

theorem cell_eq_ok {h : Hp} {ft : TypeId} {d : Nat} {x y : Value} {K : Bool → Hp → Prop} (hk : (X.tb ft).known = true)
    (hd : okF (X.tb ft).desc x y = true)
    {b : Bool} (hc : cellEq x y = some b) (hh : K b h) : hp P (Op.equalIn (d + 1) ft x y) h K := by
  obtain ⟨i, td, z, T⟩ := X.known hk
  have hdesc := T.desc
  unfold Op.equalIn
  rw [hp_bind, hp_und T.und]
  unfold okF at hd
  split at hd
  · rename_i k k1 a k2 c hd'
    rw [hd'] at hdesc
    cases td <;> simp [tdOf] at hdesc
    simp only [cellEq] at hc
    split at hc
    · rename_i e
      subst e
      injection hc with hc
      simp only []
      rw [hc]; simpa [hp_pure'] using hh
    · cases hc
  · rename_i a c hd'
    rw [hd'] at hdesc
    cases td <;> simp [tdOf] at hdesc
    simp only [cellEq] at hc
    injection hc with hc
    simp only []
    have e : (a == c) = b := by
      rw [← hc]
      rw [show (a == c) = (a.data == c.data) from rfl]
      simp
    rw [e]; simpa [hp_pure'] using hh
  · rename_i a c hd'
    rw [hd'] at hdesc
    cases td <;> simp [tdOf] at hdesc
    simp only [cellEq] at hc
    injection hc with hc
    simp only []
    rw [hc]; simpa [hp_pure'] using hh
  · cases hd

theorem eqFields_ok {h : Hp} {d d1 : Nat} (hd1 : d1 = d + 1) {xs ys : Array Value} {g : Option Bool × Unit → Sem Bool} (g1 : ∀ r, g (some r, ()) = pure r) (g2 : g (none, ()) = pure true) : ∀ (fs : List Field) (n : Nat) (K : Bool → Hp → Prop),
    flatF X (fs.map fun f => (f.offset, f.type)) n (xs.toList.drop n) (ys.toList.drop n) = true → (∀ f ∈ fs, f.name ≠ "_") →
    cellsEqE (xs.toList.drop n) (ys.toList.drop n) (fun r => K r h) →
    hp P (do
      let s ← forIn fs ((none : Option Bool), ()) fun f s =>
            if f.name ≠ "_" then do
              let v ← part f.type xs f.offset
              let w ← part f.type ys f.offset
              let e ← Op.equalIn d1 f.type v w
              if (!e) = true then pure (ForInStep.done (some false, ())) else pure (ForInStep.yield (none, ()))
            else pure (ForInStep.yield (none, ()))
      g s) h K := by
  subst hd1
  intro fs
  induction fs with
  | nil =>
    intro n K hf hn hc
    generalize xs.toList.drop n = vs at *
    generalize ys.toList.drop n = ws at *
    cases vs <;> cases ws <;> simp [flatF] at hf
    rw [hp_bind]
    show hp P (g (none, ())) h K
    rw [g2]
    exact hc
  | cons f fs ih =>
    intro n K hf hn hc
    have e1 : ∀ l : List Value, l.drop (n + 1) = (l.drop n).tail := by intro l; simp
    have e2 : ∀ l : List Value, l[n]? = (l.drop n)[0]? := by intro l; simp
    have ih := ih (n + 1)
    rw [e1, e1] at ih
    have gx := e2 xs.toList
    have gy := e2 ys.toList
    generalize xs.toList.drop n = vs at *
    generalize ys.toList.drop n = ws at *
    cases vs with
    | nil => simp [flatF] at hf
    | cons v vs =>
    cases ws with
    | nil => simp [flatF] at hf
    | cons w ws =>
    simp only [List.map_cons, flatF] at hf
    have key : f.offset = n ∧ (X.tb f.type).known = true ∧ (∃ s, (X.tb f.type).ck = .one s) ∧ okF (X.tb f.type).desc v w = true ∧ flatF X (fs.map fun f => (f.offset, f.type)) (n + 1) vs ws = true := by
      split at hf
      · rename_i h1 h2 h3 h4; exact ⟨by simpa using h1, h2, ⟨_, h3⟩, h4, hf⟩
      · cases hf
    obtain ⟨k1, k2, ⟨s, k3⟩, k4, k5⟩ := key
    unfold cellsEqE at hc
    split at hc
    · rename_i b hb
      simp only [List.forIn_cons]
      rw [if_pos (hn f (by simp))]
      simp only [hp_bind]
      refine part_one X k2 k3 (by rw [k1, gx]; rfl) ?_
      refine part_one X k2 k3 (by rw [k1, gy]; rfl) ?_
      refine cell_eq_ok X k2 k4 hb ?_
      cases b with
      | false =>
        obtain ⟨r, hr⟩ := cellsEqE_ex hc
        show hp P (g (some false, ())) h K
        rw [g1]
        exact hr
      | true =>
        have := ih K k5 (fun g hg => hn g (by simp [hg])) (by simpa using hc)
        rw [hp_bind] at this
        exact this
    · exact hc.elim

theorem eqE_ok {h : Hp} {t : TypeId} {a b : Value} {K : Bool → Hp → Prop} (hh : eqE X h t a b fun r => K r h) : hp P (Op.equal t a b) h K := by
  unfold eqE at hh
  cases hk : (X.tb t).known with
  | false => simp [hk] at hh
  | true =>
    rw [hk] at hh
    obtain ⟨i, d, z, T⟩ := X.known hk
    have hd := T.und
    have hdesc := T.desc
    unfold Op.equal Op.maxDepth
    unfold Op.equalIn
    rw [hp_bind, hp_und hd]
    cases d <;> simp [tdOf] at hdesc <;> rw [← hdesc] at hh <;> simp only [] at hh
    · -- bool
      split at hh
      · exact hh
      · exact hh.elim
    · -- pointer
      rename_i e
      split at hh
      · rename_i m hek hes
        split at hh
        · rename_i x y
          unfold ptrEqE at hh
          have hpos : (X.tb e).size ≠ 0 := by rw [hes]; simp
          cases y with
          | none => cases x <;> exact hh
          | some q =>
            cases x with
            | none => exact hh
            | some p =>
              obtain ⟨i', d', z', T'⟩ := X.known hek
              have hsz : ∀ {K' : Nat → Hp → Prop}, hp P (sizeOf e) h K' ↔ K' (X.tb e).size h := by
                intro K'
                rw [hp_size T'.info, T'.size]
              simp only []
              rw [hp_bind, hsz]
              simp only [hpos, ne_eq, not_false_eq_true, if_true]
              exact ptrEq2_ok hh
        · exact hh.elim
      · exact hh.elim
    · -- slice
      split at hh
      · split at hh
        · rename_i x _ _; cases x <;> exact hh
        · exact hh.elim
      · split at hh
        · rename_i y _ _ _ _ _; cases y <;> exact hh
        · exact hh.elim
      · exact hh.elim
    · split at hh
      · split at hh
        · rename_i x; cases x <;> exact hh
        · exact hh.elim
      · exact hh.elim
    · rename_i fs
      split at hh
      · rename_i xs ys
        split at hh
        · rename_i he hf
          obtain ⟨⟨e1, e2⟩, e3⟩ := T.eqOk he
          simp only []
          simp only [hp_bind, hp_program, e1]
          simp only [Bool.false_eq_true, if_false]
          rw [← Array.forIn_toList]
          refine eqFields_ok X (h := h) (d := 9998) (d1 := 9999) rfl (xs := xs) (ys := ys) (fun _ => rfl) rfl fs.toList 0 K ?_ ?_ ?_
          · exact hf
          · intro f hfm
            simpa using List.all_eq_true.1 e3 f hfm
          · exact hh
        · exact hh.elim
      · exact hh.elim

theorem eqE_not {h : Hp} {t : TypeId} {a b : Value} {F : Bool → Prop} (hF : eqE X h t a b F) : (∀ c d, (a = .agg c ∧ b = .agg d) → P.eqGuardType P.depth t = false) ∧ ¬(a = .nilIface ∧ b = .nilIface) ∧ (∀ k n k' n', ¬(a = .float k n ∧ b = .float k' n')) ∧ (∀ k n m k' n' m', ¬(a = .complex k n m ∧ b = .complex k' n' m')) := by
  unfold eqE at hF
  refine ⟨?_, ?_, ?_, ?_⟩
  · rintro c d ⟨rfl, rfl⟩
    split at hF <;> (try exact hF.elim) <;> (try (split at hF <;> exact hF.elim))
    rename_i hk hd
    simp only [] at hF
    split at hF
    · rename_i he _
      obtain ⟨i, td, z, T⟩ := X.known hk
      exact (T.eqOk he).1.2
    · exact hF.elim
  all_goals
    intros
    rintro ⟨rfl, rfl⟩
    split at hF <;> (try exact hF) <;> (try (split at hF <;> exact hF)) <;> simp at hF

theorem genE_ok {op : BinOp} {x y : Operand} {h : Hp} {t : TypeId} {a b : Value} {K : Value → Hp → Prop} (h1 : ∀ k n k' n', a = .int k n → b = .int k' n' → False) (h2 : ∀ s s', a = .string s → b = .string s' → False)
    (hh : match op with
      | .eql => eqE X h t a b fun r => K (.bool r) h
      | .neq => eqE X h t a b fun r => K (.bool (!r)) h
      | _ => False) :
    hp P (eqGuard op t x y a b) h (fun _ h' => hp P (binOp op t a b) h' K) := by
  split at hh
  · obtain ⟨g1, g2, g3, g4⟩ := eqE_not X hh
    refine hp_eqGuard g1 g2 ?_
    unfold binOp
    split
    all_goals first
      | exact (h1 _ _ _ _ rfl rfl).elim
      | exact (h2 _ _ rfl rfl).elim
      | exact (g3 _ _ _ _ ⟨rfl, rfl⟩).elim
      | exact (g4 _ _ _ _ _ _ ⟨rfl, rfl⟩).elim
      | (rw [hp_bind]; exact eqE_ok X hh)
      | simp_all
  · obtain ⟨g1, g2, g3, g4⟩ := eqE_not X hh
    refine hp_eqGuard g1 g2 ?_
    unfold binOp
    split
    all_goals first
      | exact (h1 _ _ _ _ rfl rfl).elim
      | exact (h2 _ _ rfl rfl).elim
      | exact (g3 _ _ _ _ ⟨rfl, rfl⟩).elim
      | exact (g4 _ _ _ _ _ _ ⟨rfl, rfl⟩).elim
      | (rw [hp_bind]; exact eqE_ok X hh)
      | simp_all
  · exact hh.elim

theorem binE_ok {op : BinOp} {x y : Operand} {h : Hp} {t : TypeId} {a b : Value} {K : Value → Hp → Prop} (hh : binE X op h t a b fun v => K v h) :
    hp P (do eqGuard op t x y a b; binOp op t a b) h K := by
  rw [hp_bind]
  unfold binE at hh
  split at hh
  · rename_i k n k' m
    refine hp_eqGuard (by simp) (by simp) ?_
    split at hh
    · exact intBin_ok (.inl (.inl rfl)) t hh
    · exact intBin_ok (.inl (.inr rfl)) t hh
    · split at hh
      · rename_i hd; exact intBin_ok (.inr (of_decide_eq_true hd)) t hh
      · exact hh.elim
  · exact hp_eqGuard (by simp) (by simp) (strBin_ok t hh)
  · exact genE_ok X (by assumption) (by assumption) hh

end Go.Proofs.Ytckdkgphkjbbnaa.Hw

/- The heap logic: maps. -/
import Derived.Test.YtckdkgphkjbbnaaCl7
set_option linter.unusedVariables false
set_option linter.unusedSimpArgs false
namespace Go.Proofs.Ytckdkgphkjbbnaa.Hw

variable {P : Program} (X : Cx P)

def keyOf (d : TD) (v : Value) : Bool :=
  match d, v with
  | .int k, .int k' _ => decide (k = k')
  | .str, .string _ => true
  | _, _ => false

def kEq (v w : Value) : Bool :=
  match v, w with
  | .int _ a, .int _ b => a == b
  | .string a, .string b => a.data.toList == b.data.toList
  | _, _ => false

def mfind (k : Value) : List MapEntry → Nat → Option (Nat × Value)
  | [], _ => none
  | e :: es, i => if kEq k e.key then some (i, e.val) else mfind k es (i + 1)

theorem bytes_beq (a b : ByteArray) : (a == b) = (a.data.toList == b.data.toList) := by
  rw [Array.beq_toList]
  cases a; cases b; rfl

theorem findNow_mfind {desc : TypeDesc} {d : TD} (hd : tdOf (some desc) = d) {k : Value} (hk : keyOf d k = true) : ∀ (es : List MapEntry) (i : Nat), (∀ e ∈ es, keyOf d e.key = true) →
    Instr.findNow desc k es i = some (mfind k es i) := by
  intro es
  induction es with
  | nil => intro i _; rfl
  | cons e es ih =>
    intro i he
    have h1 := he e (by simp)
    have h2 := ih (i + 1) (fun x hx => he x (by simp [hx]))
    unfold Instr.findNow mfind
    have hs : Instr.sameNow desc k e.key = some (kEq k e.key) := by
      subst hd
      cases desc <;> simp [tdOf, keyOf] at hk h1
      · cases k <;> simp at hk
        generalize e.key = w at h1
        cases w <;> simp at h1
        subst hk
        simp [Instr.sameNow, kEq, h1]
      · cases k <;> simp at hk
        generalize e.key = w at h1
        cases w <;> simp at h1
        simp [Instr.sameNow, kEq, bytes_beq]
    rw [hs]
    cases hq : kEq k e.key
    · simp [h2]
    · simp

theorem hp_checkKey {t : TypeId} {k : Value} {h : Hp} {b : Bool} {n : Nat} {K : Unit → Hp → Prop} (hk : (X.tb t).known = true) (hv : keyOf (X.tb t).desc k = true) (hK : K () h) : hp P (Instr.checkKey b (n + 1) t k) h K := by
  obtain ⟨i, d, z, T⟩ := X.known hk
  unfold Instr.checkKey
  rw [hp_bind, hp_und T.und]
  have hdd := T.desc
  rw [← hdd] at hv
  cases d <;> cases k <;> simp [tdOf, keyOf] at hv <;> exact hK

theorem hp_findKey {t : TypeId} {k : Value} {h : Hp} {es : List MapEntry} {K : Option (Nat × Value) → Hp → Prop} (hk : (X.tb t).known = true) (hv : keyOf (X.tb t).desc k = true) (he : ∀ e ∈ es, keyOf (X.tb t).desc e.key = true)
    (hK : K (mfind k es 0) h) : hp P (Instr.findKey t k es) h K := by
  obtain ⟨i, d, z, T⟩ := X.known hk
  unfold Instr.findKey
  rw [hp_bind, hp_und T.und, findNow_mfind T.desc hv es 0 he]
  exact hK

/-- A value whose type is known. -/
def castR (T : TI) (tb : TypeId → TI) (v : Value) (F : Value → Prop) : Prop :=
  match T.known, T.desc with
  | true, .tuple ts => exC (ts.map fun t => (tb t).ck) fun vs => v = .tuple vs.toArray ∧ F (.tuple vs.toArray)
  | true, _ => T.ck.ex fun w => v = w ∧ F w
  | false, _ => F v

theorem castR_out {T : TI} {tb : TypeId → TI} {v : Value} {F : Value → Prop} (h : castR T tb v F) : F v := by
  unfold castR at h
  split at h
  · obtain ⟨vs, e, h'⟩ := exC_elim h; subst e; exact h'
  · obtain ⟨w, e, h'⟩ := CK.ex_elim h; subst e; exact h'
  · exact h

/-- What a map has under a key. -/
def lookM (h : Hp) (r : Option Nat) (d : TD) (k : Value) (o : Option Value) : Prop :=
  match r with
  | none => o = none
  | some r => ∃ es c, mapAt h r es c ∧ (∀ e ∈ es.toList, keyOf d e.key = true) ∧ o = (mfind k es.toList 0).map (·.2)

def lookE (t : TypeId) (m k : Value) (ok : Bool) (h : Hp) (K : Value → Prop) : Prop :=
  match (X.tb t).known, (X.tb t).desc with
  | true, .map kt et => match (X.tb kt).known, keyOf (X.tb kt).desc k, (X.tb et).known with
    | true, true, true => match m with
      | .map r => ∃ o, lookM h r (X.tb kt).desc k o ∧ castR (X.tb et) X.tb (o.getD (X.tb et).zval) fun v => K (match ok with | true => .tuple #[v, .bool o.isSome] | false => v)
      | _ => False
    | _, _, _ => False
  | _, _ => False

theorem hp_lookup {t : TypeId} {m k : Value} {ok : Bool} {h : Hp} {K : Value → Hp → Prop} (hh : lookE X t m k ok h fun v => K v h) : hp P (Instr.lookup t m k ok) h K := by
  unfold lookE at hh
  split at hh
  · rename_i kt et hk hd
    obtain ⟨i, d, z, T⟩ := X.known hk
    have hdd := T.desc
    rw [hd] at hdd
    cases d <;> simp [tdOf] at hdd
    obtain ⟨rfl, rfl⟩ := hdd
    rename_i kt et
    split at hh
    · rename_i hkk hkv hke
      split at hh
      · rename_i r
        obtain ⟨o, hl, hc⟩ := hh
        have hK := castR_out hc
        obtain ⟨ie, de, ze, Te⟩ := X.known hke
        unfold Instr.lookup
        rw [hp_bind, hp_und T.und]
        simp only []
        have fin : ∀ es : Array MapEntry, (∀ e ∈ es.toList, keyOf (X.tb kt).desc e.key = true) → o = (mfind k es.toList 0).map (·.2) → hp P (do
            Instr.checkKey es.isEmpty 10000 kt k
            let (v, ok') ← match ← Instr.findKey kt k es.toList with
              | some (_, v) => pure (v, true)
              | none => pure (← zeroValue et, false)
            pure (if ok then Value.tuple #[v, .bool ok'] else v)) h K := by
          intro es he ho
          rw [hp_bind]
          refine hp_checkKey X hkk hkv ?_
          rw [hp_bind]
          refine hp_findKey X hkk hkv he ?_
          subst ho
          cases hf : mfind k es.toList 0 with
          | none =>
            simp only []
            rw [hp_bind, hp_zero Te.info Te.zero]
            rw [hf] at hK
            simp only [Option.map_none, Option.getD_none, Option.isSome_none] at hK
            rw [Te.zval]
            cases ok <;> exact hK
          | some x =>
            obtain ⟨j, v⟩ := x
            rw [hf] at hK
            simp only [Option.map_some, Option.getD_some, Option.isSome_some] at hK
            simp only []
            cases ok <;> exact hK
        cases r with
        | none =>
          simp only [lookM] at hl
          exact fin #[] (by simp) (by rw [hl]; rfl)
        | some r =>
          obtain ⟨es, c, hm, he, ho⟩ := hl
          simp only []
          rw [hp_bind, hp_getObj]
          exact ⟨_, hm, rfl, fin es he ho⟩
      · exact hh.elim
    · exact hh.elim
  · exact hh.elim

/-- A map behind a put. -/
def mput (es : Array MapEntry) (c : Nat) (k v : Value) : Obj :=
  match mfind k es.toList 0 with
  | some (i, _) => .map (es.modify i fun e => { e with key := k, val := v }) c
  | none => .map (es.push { key := k, val := v, born := c }) (c + 1)

theorem mfind_key {d : TD} {k : Value} (hk : keyOf d k = true) : ∀ (es : List MapEntry) (i j : Nat) (v : Value), (∀ e ∈ es, keyOf d e.key = true) → mfind k es i = some (j, v) → ∃ e, es[j - i]? = some e ∧ i ≤ j ∧ e.key = k ∧ e.val = v := by
  intro es
  induction es with
  | nil => intro i j v _ h; cases h
  | cons e es ih =>
    intro i j v he h
    unfold mfind at h
    split at h
    · rename_i hq
      injection h with h
      injection h with h1 h2
      subst h1 h2
      refine ⟨e, by simp, Nat.le_refl _, ?_, rfl⟩
      have h1 := he e (by simp)
      cases d <;> cases k <;> simp [keyOf] at hk <;> (generalize e.key = w at *; cases w <;> simp [keyOf] at h1 <;> simp [kEq] at hq)
      · subst hk h1 hq; rfl
      · congr 1; exact (ByteArray.ext hq).symm
    · obtain ⟨e', h1, h2, h3⟩ := ih (i + 1) j v (fun x hx => he x (by simp [hx])) h
      refine ⟨e', ?_, by omega, h3⟩
      rw [show j - i = (j - (i + 1)) + 1 by omega, List.getElem?_cons_succ]
      exact h1

theorem hp_keyStays {k : Value} {d : TD} {h : Hp} {K : Value → Hp → Prop} (hk : keyOf d k = true) (hK : K k h) : hp P (Instr.keyThatStays k k) h K := by
  unfold Instr.keyThatStays
  rw [if_pos]
  · exact hK
  · cases d <;> cases k <;> simp [keyOf] at hk <;> simp [Instr.sameBits, bytes_beq]

def updM (h : Hp) (r : Option Nat) (d : TD) (k v : Value) (K : Hp → Prop) : Prop :=
  ∃ r', r = some r' ∧ ∃ es c, mapAt h r' es c ∧ (∀ e ∈ es.toList, keyOf d e.key = true) ∧ K (upd h r' (mput es c k v))

def updE (t : TypeId) (m k v : Value) (h : Hp) (K : Hp → Prop) : Prop :=
  match (X.tb t).known, (X.tb t).desc with
  | true, .map kt et => match (X.tb kt).known, keyOf (X.tb kt).desc k with
    | true, true => match m with
      | .map r => updM h r (X.tb kt).desc k v K
      | _ => False
    | _, _ => False
  | _, _ => False

theorem hp_update {t : TypeId} {m k v : Value} {h : Hp} {K : Unit → Hp → Prop} (hh : updE X t m k v h fun h' => K () h') : hp P (Instr.mapUpdate t m k v) h K := by
  unfold updE at hh
  split at hh
  · rename_i kt et hk hd
    obtain ⟨i, d, z, T⟩ := X.known hk
    have hdd := T.desc
    rw [hd] at hdd
    cases d <;> simp [tdOf] at hdd
    obtain ⟨rfl, rfl⟩ := hdd
    split at hh
    · rename_i hkk hkv
      split at hh
      · rename_i r
        obtain ⟨r', rfl, es, c, hm, he, hK⟩ := hh
        unfold Instr.mapUpdate
        rw [hp_bind, hp_und T.und]
        simp only []
        rw [hp_bind, hp_getObj]
        refine ⟨_, hm, rfl, ?_⟩
        simp only []
        rw [hp_bind]
        refine hp_checkKey X hkk hkv ?_
        rw [hp_bind]
        refine hp_findKey X hkk hkv he ?_
        unfold mput at hK
        cases hf : mfind k es.toList 0 with
        | none =>
          rw [hf] at hK
          simp only []
          rw [hp_setObj]
          exact ⟨_, hm, rfl, hK⟩
        | some x =>
          obtain ⟨j, w⟩ := x
          rw [hf] at hK
          obtain ⟨e, h1, h2, h3, h4⟩ := mfind_key hkv _ _ _ _ he hf
          simp only [Nat.sub_zero, Array.getElem?_toList] at h1
          simp only [h1, Option.map_some, Option.getD_some, h3]
          rw [hp_bind]
          refine hp_keyStays hkv ?_
          rw [hp_setObj]
          exact ⟨_, hm, rfl, hK⟩
      · exact hh.elim
    · exact hh.elim
  · exact hh.elim

/-- A map behind a delete. -/
def mdel (es : Array MapEntry) (c : Nat) (k : Value) : Obj :=
  match mfind k es.toList 0 with
  | some (i, _) => .map (es.eraseIdxIfInBounds i) c
  | none => .map es c

def delM (h : Hp) (r : Option Nat) (d : TD) (k : Value) (K : Hp → Prop) : Prop :=
  match r with
  | none => K h
  | some r' => ∃ es c, mapAt h r' es c ∧ (∀ e ∈ es.toList, keyOf d e.key = true) ∧ K (upd h r' (mdel es c k))

def delE (t : TypeId) (m k : Value) (h : Hp) (K : Hp → Prop) : Prop :=
  match (X.tb t).known, (X.tb t).desc with
  | true, .map kt et => match (X.tb kt).known, keyOf (X.tb kt).desc k with
    | true, true => match m with
      | .map r => delM h r (X.tb kt).desc k K
      | _ => False
    | _, _ => False
  | _, _ => False

theorem hp_delete {t t2 ty : TypeId} {m k : Value} {h : Hp} {K : Value → Hp → Prop} (hh : delE X t m k h fun h' => K (.tuple #[]) h') : hp P (Builtin.delete_ #[t, t2] ty #[m, k]) h K := by
  unfold delE at hh
  split at hh
  · rename_i kt et hk hd
    obtain ⟨i, d, z, T⟩ := X.known hk
    have hdd := T.desc
    rw [hd] at hdd
    cases d <;> simp [tdOf] at hdd
    obtain ⟨rfl, rfl⟩ := hdd
    split at hh
    · rename_i hkk hkv
      split at hh
      · rename_i r
        unfold Builtin.delete_
        simp only [List.getElem?_toArray, List.getElem?_cons_zero, List.getElem?_cons_succ]
        rw [hp_bind, hp_und T.und]
        simp only []
        unfold delM at hh
        split at hh
        · rw [hp_bind]
          exact hp_checkKey X hkk hkv hh
        · obtain ⟨es, c, hm, he, hK⟩ := hh
          simp only []
          rw [hp_bind, hp_getObj]
          refine ⟨_, hm, rfl, ?_⟩
          simp only []
          rw [hp_bind]
          refine hp_checkKey X hkk hkv ?_
          rw [hp_bind]
          refine hp_findKey X hkk hkv he ?_
          unfold mdel at hK
          cases hf : mfind k es.toList 0 with
          | none =>
            rw [hf] at hK
            simp only []
            rw [hp_bind, hp_setObj]
            exact ⟨_, hm, rfl, hK⟩
          | some x =>
            obtain ⟨j, w⟩ := x
            rw [hf] at hK
            simp only []
            rw [hp_bind, hp_setObj]
            exact ⟨_, hm, rfl, hK⟩
      · exact hh.elim
    · exact hh.elim
  · exact hh.elim

end Go.Proofs.Ytckdkgphkjbbnaa.Hw

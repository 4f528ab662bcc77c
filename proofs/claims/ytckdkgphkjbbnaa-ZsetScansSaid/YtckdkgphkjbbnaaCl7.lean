/- The heap logic: builtins, maps. -/
import Derived.Test.YtckdkgphkjbbnaaCl6
set_option linter.unusedVariables false
set_option linter.unusedSimpArgs false
namespace Go.Proofs.Ytckdkgphkjbbnaa.Hw

variable {P : Program} (X : Cx P)

/-- A map's block. -/
def mapAt (h : Hp) (r : Nat) (es : Array MapEntry) (c : Nat) : Prop := h r = some (.map es c)

def mapLen (h : Hp) (r : Option Nat) (n : Nat) : Prop :=
  match r with
  | none => n = 0
  | some r => ∃ es c, mapAt h r es c ∧ es.size = n

def lenE (t : TypeId) (v : Value) (h : Hp) (K : Value → Prop) : Prop :=
  match (X.tb t).known, (X.tb t).desc with
  | true, .str => match v with
    | .string s => K (.int .i64 s.data.toList.length)
    | _ => False
  | true, .slice _ => match v with
    | .slice _ n _ => K (.int .i64 n)
    | _ => False
  | true, .arr n _ => K (.int .i64 n)
  | true, .ptr a => match (X.tb a).known, (X.tb a).desc with
    | true, .arr n _ => K (.int .i64 n)
    | _, _ => False
  | true, .map _ _ => match v with
    | .map r => ∃ n : Nat, mapLen h r n ∧ K (.int .i64 n)
    | _ => False
  | _, _ => False

theorem hp_len {t ty : TypeId} {v : Value} {h : Hp} {K : Value → Hp → Prop} {at_ : Array TypeId} {args : Array Value} (ha : at_[0]? = some t) (hv : args[0]? = some v) (hh : lenE X t v h fun v => K v h) : hp P (Builtin.len_ at_ ty args) h K := by
  unfold lenE at hh
  unfold Builtin.len_
  simp only [ha, hv]
  split at hh
  · rename_i hk hd
    obtain ⟨i, d, z, T⟩ := X.known hk
    have hdd := T.desc
    rw [hd] at hdd
    cases d <;> simp [tdOf] at hdd
    rw [hp_bind, hp_und T.und]
    split at hh
    · rename_i s
      have : s.data.toList.length = s.size := by simp
      rw [this] at hh
      exact hh
    · exact hh.elim
  · rename_i hk hd
    obtain ⟨i, d, z, T⟩ := X.known hk
    have hdd := T.desc
    rw [hd] at hdd
    cases d <;> simp [tdOf] at hdd
    rw [hp_bind, hp_und T.und]
    split at hh
    · exact hh
    · exact hh.elim
  · rename_i hk hd
    obtain ⟨i, d, z, T⟩ := X.known hk
    have hdd := T.desc
    rw [hd] at hdd
    cases d <;> simp [tdOf] at hdd
    obtain ⟨rfl, rfl⟩ := hdd
    rw [hp_bind, hp_und T.und]
    exact hh
  · rename_i a hk hd
    obtain ⟨i, d, z, T⟩ := X.known hk
    have hdd := T.desc
    rw [hd] at hdd
    cases d <;> simp [tdOf] at hdd
    subst hdd
    rw [hp_bind, hp_und T.und]
    split at hh
    · rename_i hk2 hd2
      obtain ⟨i2, d2, z2, T2⟩ := X.known hk2
      have hdd2 := T2.desc
      rw [hd2] at hdd2
      cases d2 <;> simp [tdOf] at hdd2
      obtain ⟨rfl, rfl⟩ := hdd2
      simp only []
      rw [hp_bind, hp_und T2.und]
      exact hh
    · exact hh.elim
  · rename_i hk hd
    obtain ⟨i, d, z, T⟩ := X.known hk
    have hdd := T.desc
    rw [hd] at hdd
    cases d <;> simp [tdOf] at hdd
    rw [hp_bind, hp_und T.und]
    split at hh
    · rename_i r
      obtain ⟨n, hn, hK⟩ := hh
      cases r with
      | none => have hn : n = 0 := hn; subst hn; exact hK
      | some r =>
        obtain ⟨es, c, hm, hsz⟩ := hn
        simp only []
        rw [hp_bind, hp_getObj]
        exact ⟨_, hm, rfl, by simp only [hsz]; exact hK⟩
    · exact hh.elim
  · exact hh.elim

def capE (t : TypeId) (v : Value) (K : Value → Prop) : Prop :=
  match (X.tb t).known, (X.tb t).desc with
  | true, .slice _ => match v with
    | .slice _ _ c => K (.int .i64 c)
    | _ => False
  | _, _ => False

theorem hp_cap {t ty : TypeId} {v : Value} {h : Hp} {K : Value → Hp → Prop} {at_ : Array TypeId} {args : Array Value} (ha : at_[0]? = some t) (hv : args[0]? = some v) (hh : capE X t v fun v => K v h) : hp P (Builtin.cap_ at_ ty args) h K := by
  unfold capE at hh
  unfold Builtin.cap_
  simp only [ha, hv]
  split at hh
  · rename_i hk hd
    obtain ⟨i, d, z, T⟩ := X.known hk
    have hdd := T.desc
    rw [hd] at hdd
    cases d <;> simp [tdOf] at hdd
    rw [hp_bind, hp_und T.und]
    split at hh
    · exact hh
    · exact hh.elim
  · exact hh.elim

/-- The least, the greatest of numbers. -/
def mnE (v : Value) : List Value → (Value → Prop) → Prop
  | [], K => K v
  | w :: ws, K => match v, w with
    | .int k x, .int _ y => mnE (.int k (if y < x then y else x)) ws K
    | _, _ => False

def mxE (v : Value) : List Value → (Value → Prop) → Prop
  | [], K => K v
  | w :: ws, K => match v, w with
    | .int k x, .int _ y => mxE (.int k (if y > x then y else x)) ws K
    | _, _ => False

theorem hp_min {h : Hp} {K : Value → Hp → Prop} : ∀ (ws : List Value) (v : Value), mnE v ws (fun v => K v h) → hp P (ws.foldlM Builtin.min2 v) h K := by
  intro ws
  induction ws with
  | nil => intro v hh; exact hh
  | cons w ws ih =>
    intro v hh
    rw [List.foldlM_cons, hp_bind]
    unfold mnE at hh
    split at hh
    · exact ih _ hh
    · exact hh.elim

theorem hp_max {h : Hp} {K : Value → Hp → Prop} : ∀ (ws : List Value) (v : Value), mxE v ws (fun v => K v h) → hp P (ws.foldlM Builtin.max2 v) h K := by
  intro ws
  induction ws with
  | nil => intro v hh; exact hh
  | cons w ws ih =>
    intro v hh
    rw [List.foldlM_cons, hp_bind]
    unfold mxE at hh
    split at hh
    · exact ih _ hh
    · exact hh.elim

/-- What is put behind a slice: cells of another one, or a string's bytes. -/
def srcAt (size : Nat) (h : Hp) (v : Value) (m : Nat) (xs : List Value) : Prop :=
  match v with
  | .slice (some p) _ _ => xs.length = m * size ∧ rowAt h p 0 xs
  | .slice none _ _ => xs = []
  | .string s => xs = (s.data.toList.take m).map byteV
  | _ => False

def lenV (v : Value) : Nat :=
  match v with
  | .slice _ n _ => n
  | .string s => s.data.toList.length
  | _ => 0

theorem hp_firstCells {size n : Nat} {v : Value} {h : Hp} {xs : List Value} {K : Array Value → Hp → Prop} (hs : srcAt size h v n xs) (hK : K xs.toArray h) : hp P (Builtin.firstCells size n v) h K := by
  unfold Builtin.firstCells
  unfold srcAt at hs
  split at hs
  · exact hp_loadCells hs.1 hs.2 hK
  · subst hs; exact hK
  · rename_i s
    subst hs
    simp only []
    rw [hp_pure']
    have e : (s.extract 0 n).data.map (fun b => Value.int .u8 b.toNat) = ((s.data.toList.take n).map byteV).toArray := by
      apply Array.ext'
      simp [ByteArray.data_extract, List.extract_eq_take_drop]
      rfl
    rw [e]
    exact hK
  · exact hs.elim

/-- An append: in place, where there is room, or in a new block. -/
def appE (e : TypeId) (size bytes : Nat) (zero : List Value) (a : Option Addr) (n c : Nat) (x : Value) (h : Hp) (K : Option Addr → Nat → Nat → Hp → Prop) : Prop :=
  ∃ xs, srcAt size h x (lenV x) xs ∧
    (n + lenV x ≤ c → match a with
      | some p => okWs h (p.add (n * size)) 0 xs ∧ K (some p) (n + lenV x) c (wrs h (p.add (n * size)) 0 xs)
      | none => K none (n + lenV x) c h) ∧
    (c < n + lenV x → (n + lenV x) * bytes ≤ 140737488355328 ∧ n + lenV x ≤ 140737488355328 ∧
      ∃ os, srcAt size h (.slice a n c) n os ∧ ∀ cap, n + lenV x ≤ cap →
        newE h (.cells (os ++ xs ++ repL (cap - (n + lenV x)) zero).toArray e) fun b h' => K (some ⟨b, 0, none⟩) (n + lenV x) cap h')

def appendE (t t2 : TypeId) (v x : Value) (h : Hp) (K : Value → Hp → Prop) : Prop :=
  match (X.tb t).known, (X.tb t).desc with
  | true, .slice e => match (X.tb e).known, (X.tb e).size with
    | true, _ + 1 => match (X.tb t2).known, (X.tb t2).desc with
      | true, .int _ => False
      | true, _ => match v with
        | .slice a n c => match x with
          | .slice b m d => appE e (X.tb e).size (X.tb e).bytes (X.tb e).zero a n c (.slice b m d) h fun a n c h' => K (.slice a n c) h'
          | .string s => appE e (X.tb e).size (X.tb e).bytes (X.tb e).zero a n c (.string s) h fun a n c h' => K (.slice a n c) h'
          | _ => False
        | _ => False
      | _, _ => False
    | _, _ => False
  | _, _ => False

theorem zeroCells_rep (z : List Value) (n : Nat) (hz : 0 < z.length) : Builtin.zeroCells z.toArray n = (repL n z).toArray := by
  unfold Builtin.zeroCells
  have := rep_range n z.toArray (by simpa using hz)
  simpa using this

theorem appE_ok {t2 ty e : TypeId} {m' : Nat} {a : Option Addr} {n c : Nat} {x : Value} {h : Hp} {K : Value → Hp → Prop} {t : TypeId}
    (hk : (X.tb t).known = true) (hd : (X.tb t).desc = .slice e) (hke : (X.tb e).known = true) (hse : (X.tb e).size = m' + 1) (hk2 : (X.tb t2).known = true) (hn2 : ∀ k, (X.tb t2).desc ≠ .int k)
    (hx : (∃ b m d, x = .slice b m d) ∨ ∃ s, x = .string s) (hh : appE e (X.tb e).size (X.tb e).bytes (X.tb e).zero a n c x h fun a n c h' => K (.slice a n c) h') : hp P (Builtin.append_ #[t, t2] ty #[.slice a n c, x]) h K := by
  obtain ⟨i, d, z, T⟩ := X.known hk
  have hdd := T.desc
  rw [hd] at hdd
  cases d <;> simp [tdOf] at hdd
  subst hdd
  rename_i e
  obtain ⟨ie, de, ze, Te⟩ := X.known hke
  obtain ⟨i2, d2, z2, T2⟩ := X.known hk2
  obtain ⟨xs, hsrc, hroom, hgrow⟩ := hh
  have hlen : ∀ {K' : Nat → Hp → Prop}, K' (lenV x) h → hp P (Builtin.lenOf x) h K' := by
    intro K' hK
    rcases hx with ⟨b, m, d, rfl⟩ | ⟨s, rfl⟩
    · exact hK
    · have e1 : lenV (.string s) = s.size := by simp [lenV]
      rw [e1] at hK
      exact hK
  unfold Builtin.append_
  simp only [List.getElem?_toArray, List.getElem?_cons_zero, List.getElem?_cons_succ]
  rw [hp_bind, hp_und T.und]
  simp only []
  rw [hp_bind, hp_size Te.info, Te.size]
  rw [hp_bind, hp_und T2.und, hp_bind, hp_pure']
  have hdd2 := T2.desc
  clear T2
  have hK : ∀ k, tdOf (some d2) ≠ .int k := fun k hk => hn2 k (hdd2.symm.trans hk)
  clear hdd2
  cases d2
  case int k => exact (hK k rfl).elim
  all_goals
    simp only [Bool.false_eq_true, if_false]
    rw [hp_bind]
    refine hlen ?_
    by_cases hr : n + lenV x ≤ c
    · rw [if_pos hr]
      simp only [Bool.not_false, if_true]
      rw [hp_bind]
      refine hp_firstCells hsrc ?_
      have h1 := hroom hr
      cases a with
      | none => exact h1
      | some p =>
        simp only []
        rw [hp_bind]
        exact hp_storeCells _ _ _ h1.1 h1.2
    · rw [if_neg hr]
      obtain ⟨h1, h2, os, hos, hnew⟩ := hgrow (by omega)
      rw [hp_bind, hp_info Te.info, Te.bytes]
      rw [if_neg (by simp; intro hx; omega)]
      rw [hp_bind, hp_info Te.info, Te.bytes]
      have hfit := growslice_fits (bytes := (X.tb e).bytes) (show c < n + lenV x by omega) h1
      rw [if_neg (by omega)]
      rw [hp_bind, hp_choose]
      intro cap hcap
      have hc := adm_cap hcap
      rw [hp_bind, hp_info Te.info]
      rw [hp_bind]
      have hask : ∀ {K' : Unit → Hp → Prop} {b : Nat}, K' () h → hp P (askRoom b) h K' := by
        intro K' b hK
        unfold askRoom
        split <;> exact hK
      refine hask ?_
      rw [hp_bind]
      refine hp_firstCells hos ?_
      simp only [Bool.not_false, if_true]
      rw [hp_bind]
      refine hp_firstCells hsrc ?_
      rw [hp_bind, hp_zero Te.info Te.zero, Te.zcells, zeroCells_rep _ _ (by rw [Te.zlen, hse]; omega)]
      rw [hp_bind]
      unfold newRow
      rw [hp_bind]
      have e1 : os.toArray ++ xs.toArray ++ (repL (cap - (n + lenV x)) (X.tb e).zero).toArray = (os ++ xs ++ repL (cap - (n + lenV x)) (X.tb e).zero).toArray := by simp
      rw [e1]
      exact hnew cap hc

theorem hp_append {t t2 ty : TypeId} {v x : Value} {h : Hp} {K : Value → Hp → Prop} (hh : appendE X t t2 v x h K) : hp P (Builtin.append_ #[t, t2] ty #[v, x]) h K := by
  unfold appendE at hh
  split at hh
  · rename_i e hk hd
    split at hh
    · rename_i m hke hse
      split at hh
      · exact hh.elim
      · rename_i hk2 hn2
        split at hh
        · split at hh
          · exact appE_ok X hk hd hke hse hk2 (fun k hk => hn2 k hk) (.inl ⟨_, _, _, rfl⟩) hh
          · exact appE_ok X hk hd hke hse hk2 (fun k hk => hn2 k hk) (.inr ⟨_, rfl⟩) hh
          · exact hh.elim
        · exact hh.elim
      · exact hh.elim
    · exact hh.elim
  · exact hh.elim

/-- The builtin copy. -/
def copE (size : Nat) (a : Option Addr) (n : Nat) (x : Value) (h : Hp) (K : Nat → Hp → Prop) : Prop :=
  ∃ xs, srcAt size h x (Nat.min (lenV x) n) xs ∧ match a with
    | some p => okWs h p 0 xs ∧ K (Nat.min (lenV x) n) (wrs h p 0 xs)
    | none => K (Nat.min (lenV x) n) h

def copyE (t : TypeId) (v x : Value) (h : Hp) (K : Value → Hp → Prop) : Prop :=
  match (X.tb t).known, (X.tb t).desc with
  | true, .slice e => match (X.tb e).known, v with
    | true, .slice a n _ => match x with
      | .slice b m d => copE (X.tb e).size a n (.slice b m d) h fun k h' => K (.int .i64 k) h'
      | .string s => copE (X.tb e).size a n (.string s) h fun k h' => K (.int .i64 k) h'
      | _ => False
    | _, _ => False
  | _, _ => False

theorem hp_copy {t t2 ty : TypeId} {v x : Value} {h : Hp} {K : Value → Hp → Prop} (hh : copyE X t v x h K) : hp P (Builtin.copy_ #[t, t2] ty #[v, x]) h K := by
  unfold copyE at hh
  split at hh
  · rename_i e hk hd
    obtain ⟨i, d, z, T⟩ := X.known hk
    have hdd := T.desc
    rw [hd] at hdd
    cases d <;> simp [tdOf] at hdd
    subst hdd
    split at hh
    · rename_i a n c hke
      obtain ⟨ie, de, ze, Te⟩ := X.known hke
      unfold Builtin.copy_
      simp only [List.getElem?_toArray, List.getElem?_cons_zero, List.getElem?_cons_succ]
      rw [hp_bind, hp_und T.und]
      simp only []
      split at hh
      · obtain ⟨xs, hs, hK⟩ := hh
        simp only [Builtin.lenOf, hp_bind, hp_pure']
        rw [hp_size Te.info, Te.size]
        refine hp_firstCells hs ?_
        cases a with
        | none => exact hK
        | some p =>
          simp only []
          rw [hp_bind]
          exact hp_storeCells _ _ _ hK.1 hK.2
      · rename_i s
        obtain ⟨xs, hs, hK⟩ := hh
        have hl : lenV (.string s) = s.size := by simp [lenV]
        rw [hl] at hs hK
        simp only [Builtin.lenOf, hp_bind, hp_pure']
        rw [hp_size Te.info, Te.size]
        refine hp_firstCells hs ?_
        cases a with
        | none => exact hK
        | some p =>
          simp only []
          rw [hp_bind]
          exact hp_storeCells _ _ _ hK.1 hK.2
      · exact hh.elim
    · exact hh.elim
  · exact hh.elim

end Go.Proofs.Ytckdkgphkjbbnaa.Hw

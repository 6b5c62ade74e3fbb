/-
  A region that draws its order, whatever its operations: each operation is met ONCE, in any world that the step relation 'St' leads to, and needs to know only what the operations say that it waits for.
  (A table: of each operation what holds of the value in its slot and of the world; what it says must stay true along 'St'.) So a region of many calls and new blocks is walked in as many goals as it has operations, not in as many as it has orders.
-/
import Derived.Orders
import Derived.Tactics
namespace Go.Proofs.YtecjailgiknfcaaDoor.Tbl

/-- j waits for i. -/
def waits (ops : Array Oper) (j i : Nat) : Bool := ((ops[j]?).map (·.after.any fun e => Region.binds .any e && e.on == i)).getD false
/-- Which operation writes slot t. -/
def writes (ops : Array Oper) (i : Nat) (t : Tmp) : Bool := ((ops[i]?).map (·.dst == some t)).getD false

/-- What a region must be like: it waits only for what stands ahead; no slot has two writers; what an operation looks at is written by one that it waits for, or that waits for it. -/
def ok (ops : Array Oper) (n : Nat) : Bool :=
  (List.range ops.size).all fun j => match ops[j]? with
    | none => true
    | some o => (o.after.all fun e => !Region.binds .any e || decide (e.on < j)) &&
      (match o.dst with | some d => decide (d < n) && (List.range ops.size).all (fun i => i == j || !writes ops i d) | none => true) &&
      ((o.looksAt ops).all fun t => (List.range ops.size).all fun i => !writes ops i t || waits ops j i || waits ops i j)

variable {P : Program} {ops : Array Oper} {Q : Exit → Act → World → Prop} {St : World → World → Prop}

/-- What operation j may lean on of a slot: what its writer said, if j waits for that one; else what the slot held. -/
def slotOk (ops : Array Oper) (base : Array Value) (p : Nat → Value → World → Prop) (j : Nat) (t : Tmp) (v : Value) (w : World) : Prop :=
  (∀ i, writes ops i t = true → waits ops j i = true → p i v w) ∧ ((∀ i, writes ops i t = true → waits ops j i = false) → v = base.getD t undef)

structure Inv (ops : Array Oper) (G : World → Prop) (base : Array Value) (p : Nat → Value → World → Prop) (listed : Array Bool) (a : Act) (w : World) : Prop where
  defers : a.defers = []
  g : G w
  size : listed.size = ops.size
  slots : a.tmps.size = base.size
  closed : ∀ i o, ops[i]? = some o → listed.getD i false = true → ∀ e ∈ o.after, Region.binds .any e = true → listed.getD e.on false = true
  free : ∀ t, (∀ i, writes ops i t = true → listed.getD i false = false) → a.tmps.getD t undef = base.getD t undef
  done : ∀ i t, writes ops i t = true → listed.getD i false = true → p i (a.tmps.getD t undef) w

theorem ok_spec {n : Nat} (h : ok ops n = true) {j : Nat} {o : Oper} (ho : ops[j]? = some o) :
    (∀ e ∈ o.after, Region.binds .any e = true → e.on < j) ∧ (∀ d, o.dst = some d → d < n ∧ ∀ i, i ≠ j → writes ops i d = false) ∧
    (∀ t ∈ o.looksAt ops, ∀ i, writes ops i t = true → waits ops j i = true ∨ waits ops i j = true) := by
  have hj : j < ops.size := (Array.getElem?_eq_some_iff.1 ho).1
  have h1 := List.all_eq_true.1 h j (List.mem_range.2 hj)
  have lt : ∀ i t, writes ops i t = true → i < ops.size := fun i t hw => by
    rcases Nat.lt_or_ge i ops.size with h | h
    · exact h
    · simp [writes, Array.getElem?_eq_none h] at hw
  simp only [ho, Bool.and_eq_true] at h1
  obtain ⟨⟨ha, hd⟩, hl⟩ := h1
  refine ⟨fun e he hb => ?_, fun d hdd => ?_, fun t ht i hw => ?_⟩
  · have := (Array.all_eq_true_iff_forall_mem.1 ha) e he
    simpa [hb] using this
  · rw [hdd] at hd
    simp only [Bool.and_eq_true, decide_eq_true_eq] at hd
    refine ⟨hd.1, fun i hne => ?_⟩
    cases hw : writes ops i d with
    | false => rfl
    | true =>
      have := List.all_eq_true.1 hd.2 i (List.mem_range.2 (lt i d hw))
      simp [hw, hne] at this
  · have := List.all_eq_true.1 (List.all_eq_true.1 hl t ht) i (List.mem_range.2 (lt i t hw))
    simpa [hw] using this

theorem waits_iff {j i : Nat} {o : Oper} (ho : ops[j]? = some o) : waits ops j i = true ↔ ∃ e ∈ o.after, Region.binds .any e = true ∧ e.on = i := by
  unfold waits
  rw [ho]
  simp only [Option.map_some, Option.getD_some, Array.any_eq_true']
  constructor
  · rintro ⟨e, he, h⟩
    simp only [Bool.and_eq_true, beq_iff_eq] at h
    exact ⟨e, he, h.1, h.2⟩
  · rintro ⟨e, he, h1, h2⟩
    exact ⟨e, he, by simp [h1, h2]⟩

theorem getD_false_of_true {listed : Array Bool} {j : Nat} (h : listed.getD j true = false) : listed.getD j false = false := by
  simp only [Array.getD_eq_getD_getElem?] at *
  cases hx : listed[j]? with
  | none => rfl
  | some b => simp [hx] at h; simp [h]

theorem inv_step {G : World → Prop} {base : Array Value} {p : Nat → Value → World → Prop} (hok : ok ops base.size = true)
    (hG : ∀ w w', G w → St w w' → G w') (hp : ∀ i v w w', p i v w → St w w' → p i v w')
    {listed : Array Bool} {a : Act} {w : World} (h : Inv ops G base p listed a w) {j : Nat} {o : Oper} (ho : ops[j]? = some o) (hr : j ∈ Region.ready .any ops listed)
    {v : Value} {w' : World} (hv : p j v w') (hst : St w w') : Inv ops G base p (listed.setIfInBounds j true) (a.put o.dst v) w' := by
  obtain ⟨hnot, o', ho', hall⟩ := mem_ready.1 hr
  obtain rfl : o' = o := by rw [ho] at ho'; exact (Option.some.inj ho').symm
  have hj : j < ops.size := (Array.getElem?_eq_some_iff.1 ho).1
  obtain ⟨s1, s2, s3⟩ := ok_spec hok ho
  have putAt : ∀ t, o'.dst ≠ some t → (a.put o'.dst v).tmps.getD t undef = a.tmps.getD t undef := fun t ht => by
    cases hd : o'.dst with
    | none => rfl
    | some d =>
      have hne : d ≠ t := fun e => ht (by rw [hd, e])
      simp [Act.put, Array.getElem?_setIfInBounds_ne hne]
  have wj : ∀ t, o'.dst = some t → writes ops j t = true := fun t ht => by simp [writes, ho, ht]
  have wd : ∀ t, writes ops j t = true → o'.dst = some t := fun t ht => by simpa [writes, ho] using ht
  refine ⟨?_, hG _ _ h.g hst, by simp [h.size], ?_, ?_, ?_, ?_⟩
  · cases hd : o'.dst <;> simp [Act.put, h.defers]
  · cases hd : o'.dst <;> simp [Act.put, h.slots]
  · intro i oi hi hl e he hb
    by_cases e1 : i = j
    · subst e1
      obtain rfl : oi = o' := by rw [ho] at hi; exact (Option.some.inj hi).symm
      exact getD_set_true (hall e he hb)
    · rw [getD_set_ne false (Ne.symm e1)] at hl
      exact getD_set_true (h.closed i oi hi hl e he hb)
  · intro t ht
    have hj' : writes ops j t = false := by
      cases hw : writes ops j t with
      | false => rfl
      | true =>
        have := ht j hw
        rw [Array.getD_eq_getD_getElem?, Array.getElem?_setIfInBounds] at this
        simp [h.size, hj] at this
    rw [putAt t (fun e => by rw [wj t e] at hj'; cases hj')]
    refine h.free t fun i hw => ?_
    have := ht i hw
    have hne : i ≠ j := fun e => by subst e; rw [hj'] at hw; cases hw
    rwa [getD_set_ne false (Ne.symm hne)] at this
  · intro i t hw hl
    by_cases e1 : i = j
    · subst e1
      have hd := wd t hw
      have hlt : t < a.tmps.size := by rw [h.slots]; exact (s2 t hd).1
      have : (a.put o'.dst v).tmps.getD t undef = v := by
        rw [hd]
        simp [Act.put, hlt]
      rw [this]
      exact hv
    · rw [getD_set_ne false (Ne.symm e1)] at hl
      have hne : o'.dst ≠ some t := fun e => by
        have := (s2 t e).2 i e1
        rw [hw] at this; cases this
      rw [putAt t hne]
      exact hp _ _ _ _ (h.done i t hw hl) hst

theorem slot_of_inv {n : Nat} {G : World → Prop} {base : Array Value} {p : Nat → Value → World → Prop} (hok : ok ops n = true) {listed : Array Bool} {a : Act} {w : World}
    (h : Inv ops G base p listed a w) {j : Nat} {o : Oper} (ho : ops[j]? = some o) (hr : j ∈ Region.ready .any ops listed) :
    ∀ t ∈ o.looksAt ops, slotOk ops base p j t (a.tmps.getD t undef) w := by
  obtain ⟨hnot, o', ho', hall⟩ := mem_ready.1 hr
  obtain rfl : o' = o := by rw [ho] at ho'; exact (Option.some.inj ho').symm
  obtain ⟨s1, s2, s3⟩ := ok_spec hok ho
  intro t ht
  refine ⟨fun i hw hwt => ?_, fun hno => h.free t fun i hw => ?_⟩
  · obtain ⟨e, he, hb, rfl⟩ := (waits_iff ho).1 hwt
    exact h.done _ t hw (hall e he hb)
  · rcases s3 t ht i hw with h1 | h1
    · rw [hno i hw] at h1; cases h1
    · cases hl : listed.getD i false with
      | false => rfl
      | true =>
        cases hi : ops[i]? with
        | none => simp [writes, hi] at hw
        | some oi =>
          obtain ⟨e, he, hb, hon⟩ := (waits_iff hi).1 h1
          have := h.closed i oi hi hl e he hb
          rw [hon, getD_false_of_true hnot] at this
          cases this

theorem all_listed {n : Nat} (hok : ok ops n = true) {listed : Array Bool} (hs : listed.size = ops.size) (hr : Region.ready .any ops listed = []) : ∀ i, i < ops.size → listed.getD i false = true := by
  intro i
  induction i using Nat.strongRecOn with
  | _ i ih =>
    intro hi
    cases hl : listed.getD i false with
    | true => rfl
    | false =>
      exfalso
      have ho : ops[i]? = some ops[i] := Array.getElem?_eq_getElem hi
      have hm : i ∈ Region.ready .any ops listed := by
        refine mem_ready.2 ⟨?_, ops[i], ho, fun e he hb => ?_⟩
        · have hlt : i < listed.size := by omega
          simp [hlt] at hl ⊢
          exact hl
        · have h1 := (ok_spec hok ho).1 e he hb
          exact ih e.on h1 (by omega)
      rw [hr] at hm
      cases hm

theorem getD_rep (m j : Nat) : (Array.replicate m false).getD j false = false := by
  rw [Array.getD_eq_getD_getElem?, Array.getElem?_replicate]
  split <;> rfl

/-- The frame: what it held, and in the slots that the region writes what U says. -/
def mixL : List Value → List Bool → Nat → (Nat → Value) → List Value
  | _ :: r, true :: fs, t, U => U t :: mixL r fs (t + 1) U
  | b :: r, false :: fs, t, U => b :: mixL r fs (t + 1) U
  | l, _, _, _ => l
theorem mixL_true (b : Value) (r : List Value) (fs : List Bool) (t : Nat) (U : Nat → Value) : mixL (b :: r) (true :: fs) t U = U t :: mixL r fs (t + 1) U := rfl
theorem mixL_false (b : Value) (r : List Value) (fs : List Bool) (t : Nat) (U : Nat → Value) : mixL (b :: r) (false :: fs) t U = b :: mixL r fs (t + 1) U := rfl
theorem mixL_nil (fs : List Bool) (t : Nat) (U : Nat → Value) : mixL [] fs t U = [] := by cases fs <;> rfl
theorem mixL_length (l : List Value) (fs : List Bool) (t : Nat) (U : Nat → Value) : (mixL l fs t U).length = l.length := by
  induction l generalizing fs t with
  | nil => rw [mixL_nil]
  | cons b r ih =>
    cases fs with
    | nil => rfl
    | cons f fs => cases f <;> simp [mixL, ih]
theorem mixL_get (l : List Value) (fs : List Bool) (hf : fs.length = l.length) (t k : Nat) (U : Nat → Value) (hk : k < l.length) :
    (mixL l fs t U)[k]? = some (if fs.getD k false then U (t + k) else l.getD k undef) := by
  induction l generalizing fs t k with
  | nil => simp at hk
  | cons b r ih =>
    cases fs with
    | nil => simp at hf
    | cons f fs =>
      cases k with
      | zero => cases f <;> simp [mixL]
      | succ k =>
        have := ih fs (by simpa using hf) (t + 1) k (by simpa using hk)
        rw [show t + 1 + k = t + (k + 1) by omega] at this
        cases f <;> simpa [mixL] using this

/-- Which slots a region writes. -/
def flagsOk (ops : Array Oper) (fs : List Bool) : Bool := (List.range fs.length).all fun t => fs.getD t false == (List.range ops.size).any fun i => writes ops i t

theorem flags_spec {fs : List Bool} (h : flagsOk ops fs = true) {t : Nat} (ht : t < fs.length) : fs.getD t false = true ↔ ∃ i, writes ops i t = true := by
  have h1 := List.all_eq_true.1 h t (List.mem_range.2 ht)
  simp only [beq_iff_eq] at h1
  rw [h1, List.any_eq_true]
  constructor
  · rintro ⟨i, _, hw⟩; exact ⟨i, hw⟩
  · rintro ⟨i, hw⟩
    refine ⟨i, List.mem_range.2 ?_, hw⟩
    rcases Nat.lt_or_ge i ops.size with hi | hi
    · exact hi
    · simp [writes, Array.getElem?_eq_none hi] at hw

/-- What an operation hands back, and in which world. -/
def gives (P : Program) (K : Value → World → Prop) : Result Next → Prop
  | .ok (.value v) w' => K v w'
  | .ok .skip w' => K undef w'
  | .ok (.enter f args) w' => Calls P f args w' fun
      | .returned v, w'' => K v w''
      | _, _ => False
  | .ok (.row row args) w' => Rows P row args w' K
  | _ => False
@[go_sem] theorem gives_value (P : Program) (K : Value → World → Prop) (v : Value) (w : World) : gives P K (.ok (.value v) w) = K v w := rfl
@[go_sem] theorem gives_skip (P : Program) (K : Value → World → Prop) (w : World) : gives P K (.ok .skip w) = K undef w := rfl
@[go_sem] theorem gives_enter (P : Program) (K : Value → World → Prop) (f : FuncId) (args : Array Value) (w : World) : gives P K (.ok (.enter f args) w) = Calls P f args w fun
      | .returned v, w'' => K v w''
      | _, _ => False := rfl
theorem wp_of_gives {o : Oper} {a : Act} {w : World} {K : Value → World → Prop} {K' : Act → World → Prop} (hK : ∀ v w', K v w' → K' (a.put o.dst v) w')
    (h : gives P K ((execOp a.eval o).run P w)) : o.wp P a w K' Q := by
  unfold Oper.wp
  generalize (execOp a.eval o).run P w = r at *
  cases r with
  | halt x w' => exact h.elim
  | ok n w' =>
    cases n with
    | value v => exact hK _ _ h
    | skip => exact hK _ _ h
    | defer d => exact h.elim
    | enter f args =>
      refine Calls.mono h fun e w'' he => ?_
      cases e with
      | returned v => exact hK _ _ he
      | panicked c => exact he.elim
      | outgrown => exact he.elim
    | row row args => exact Rows.mono h fun v w'' hv => hK _ _ hv
    | _ => exact h.elim

/-- Operation j keeps its word q, over a frame that is written out. -/
def KeepsAt (P : Program) (ops : Array Oper) (St : World → World → Prop) (G : World → Prop) (base : List Value) (fs : List Bool) (p : Nat → Value → World → Prop) (j : Nat) (o : Oper) (q : Value → World → Prop) : Prop :=
  ∀ (U : Nat → Value) (w : World) (K : Value → World → Prop), G w → (∀ t ∈ o.looksAt ops, slotOk ops base.toArray p j t (if fs.getD t false then U t else base.getD t undef) w) →
    (∀ v w', q v w' → St w w' → K v w') →
    if Region.wanted o (yielded ops (mixL base fs 0 U).toArray) then gives P K ((execOp (⟨(mixL base fs 0 U).toArray, []⟩ : Act).eval o).run P w) else q undef w

def KeepsL (P : Program) (ops : Array Oper) (St : World → World → Prop) (G : World → Prop) (base : List Value) (fs : List Bool) (p : Nat → Value → World → Prop) : Nat → List Oper → List (Value → World → Prop) → Prop
  | _, [], _ => True
  | k, o :: os, q :: qs => KeepsAt P ops St G base fs p k o q ∧ KeepsL P ops St G base fs p (k + 1) os qs
  | _, _ :: _, [] => False

def Any : Value → World → Prop := fun _ _ => True
/-- A slot holds just c. -/
def Is (c : Value) : Value → World → Prop := fun v _ => v = c
abbrev table (qs : List (Value → World → Prop)) (j : Nat) : Value → World → Prop := qs.getD j Any

theorem keepsL_at {G : World → Prop} {base : List Value} {fs : List Bool} {p : Nat → Value → World → Prop} : ∀ (os : List Oper) (qs : List (Value → World → Prop)) (k : Nat), KeepsL P ops St G base fs p k os qs →
    ∀ j o, os[j]? = some o → KeepsAt P ops St G base fs p (k + j) o (table qs j)
  | [], _, _, _, j, o, ho => by simp at ho
  | o' :: os, [], k, h, j, o, ho => h.elim
  | o' :: os, q :: qs, k, h, j, o, ho => by
    cases j with
    | zero =>
      have : o' = o := by simpa using ho
      subst this
      exact h.1
    | succ j =>
      have := keepsL_at os qs (k + 1) h.2 j o (by simpa using ho)
      rw [show k + 1 + j = k + (j + 1) by omega] at this
      exact this

theorem act_eq {fs : List Bool} {base : List Value} (hf : flagsOk ops fs = true) (hfl : fs.length = base.length) {a : Act} (hd : a.defers = []) (hs : a.tmps.size = base.toArray.size)
    (hb : ∀ t, (∀ i, writes ops i t = false) → a.tmps.getD t undef = base.toArray.getD t undef) : a = ⟨(mixL base fs 0 fun t => a.tmps.getD t undef).toArray, []⟩ := by
  obtain ⟨tm, df⟩ := a
  simp only at hd hs hb
  subst hd
  congr 1
  apply Array.ext_getElem?
  intro k
  have hs' : tm.size = base.length := by simpa using hs
  have r : ∀ U : Nat → Value, (mixL base fs 0 U).toArray[k]? = (mixL base fs 0 U)[k]? := fun U => by simp
  by_cases hk : k < base.length
  · rw [r, mixL_get base fs hfl 0 k _ hk]
    have e : tm[k]? = some (tm.getD k undef) := by
      rw [Array.getD_eq_getD_getElem?, Array.getElem?_eq_getElem (by omega)]
      rfl
    rw [e]
    cases hfk : fs.getD k false with
    | true => simp
    | false =>
      have : ∀ i, writes ops i k = false := fun i => by
        cases hw : writes ops i k with
        | false => rfl
        | true =>
          have := (flags_spec hf (t := k) (by omega)).2 ⟨i, hw⟩
          rw [hfk] at this; cases this
      rw [hb k this]
      simp
  · rw [Array.getElem?_eq_none (by omega), r, List.getElem?_eq_none (by rw [mixL_length]; omega)]

theorem slot_eq {fs : List Bool} {base : List Value} (hf : flagsOk ops fs = true) (hfl : fs.length = base.length) {a : Act}
    (hs : a.tmps.size = base.toArray.size) (hb : ∀ t, (∀ i, writes ops i t = false) → a.tmps.getD t undef = base.toArray.getD t undef) (t : Nat) :
    a.tmps.getD t undef = if fs.getD t false then a.tmps.getD t undef else base.getD t undef := by
  cases hft : fs.getD t false with
  | true => rfl
  | false =>
    simp only [Bool.false_eq_true, if_false]
    by_cases ht : t < base.length
    · have : ∀ i, writes ops i t = false := fun i => by
        cases hw : writes ops i t with
        | false => rfl
        | true =>
          have := (flags_spec hf (t := t) (by omega)).2 ⟨i, hw⟩
          rw [hft] at this; cases this
      rw [hb t this]
      simp
    · have hs' : a.tmps.size = base.length := by simpa using hs
      rw [Array.getD_eq_getD_getElem?, Array.getElem?_eq_none (by omega), List.getD_eq_getElem?_getD, List.getElem?_eq_none (by omega)]

theorem eq_base {fs : List Bool} {base : List Value} (hf : flagsOk ops fs = true) (hfl : fs.length = base.length) {G : World → Prop} {p : Nat → Value → World → Prop} {listed : Array Bool} {a : Act} {w : World}
    (h : Inv ops G base.toArray p listed a w) : a = ⟨(mixL base fs 0 fun t => a.tmps.getD t undef).toArray, []⟩ ∧ ∀ t, a.tmps.getD t undef = if fs.getD t false then a.tmps.getD t undef else base.getD t undef := by
  -- a slot that nobody writes is free
  have hb : ∀ t, (∀ i, writes ops i t = false) → a.tmps.getD t undef = base.toArray.getD t undef := fun t ht => h.free t fun i hw => by rw [ht i] at hw; cases hw
  exact ⟨act_eq hf hfl h.defers h.slots hb, slot_eq hf hfl h.slots hb⟩

/-- The law again, over a frame that is written out. -/
theorem wp_any_lit {G : World → Prop} {base : List Value} {fs : List Bool} (p : Nat → Value → World → Prop) (hok : ok ops base.toArray.size = true) (hf : flagsOk ops fs = true) (hfl : fs.length = base.length)
    (hG : ∀ w w', G w → St w w' → G w') (hp : ∀ i v w w', p i v w → St w w' → p i v w') (hrefl : ∀ w, St w w)
    (hk : ∀ j o, ops[j]? = some o → KeepsAt P ops St G base fs p j o (p j))
    (hfin : ∀ (U : Nat → Value) (w : World), G w → (∀ i t, writes ops i t = true → p i (U t) w) → Q .normal ⟨(mixL base fs 0 U).toArray, []⟩ w) :
    ∀ (fuel : Nat) (listed : Array Bool) (a : Act) (w : World), ops.size ≤ fuel + (listed.toList.filter id).length → Inv ops G base.toArray p listed a w → wpAny P .any ops Q fuel listed a w := by
  have fin : ∀ (listed : Array Bool) (a : Act) (w : World), Inv ops G base.toArray p listed a w → Region.ready .any ops listed = [] → Q .normal a w := fun listed a w h hr => by
    have hall := all_listed hok h.size hr
    obtain ⟨ha, -⟩ := eq_base hf hfl h
    rw [ha]
    refine hfin _ w h.g (fun i t hw => h.done i t hw (hall i ?_))
    rcases Nat.lt_or_ge i ops.size with hi | hi
    · exact hi
    · simp [writes, Array.getElem?_eq_none hi] at hw
  intro fuel
  induction fuel with
  | zero =>
    intro listed a w hf' h
    have hnil : Region.ready .any ops listed = [] := by
      cases hr : Region.ready .any ops listed with
      | nil => rfl
      | cons j rest =>
        exfalso
        have hj : j ∈ Region.ready .any ops listed := by rw [hr]; exact List.mem_cons_self
        obtain ⟨hnot, o, ho, _⟩ := mem_ready.1 hj
        have hlt : j < ops.size := (Array.getElem?_eq_some_iff.1 ho).1
        have hlen : (listed.toList.filter id).length = listed.toList.length := by
          have := List.length_filter_le id listed.toList
          have : listed.toList.length = ops.size := by simpa using h.size
          omega
        have := (List.length_filter_eq_length_iff.1 hlen) (listed[j]'(by rw [h.size]; exact hlt)) (by simp)
        simp [h.size, hlt] at hnot
        simp [hnot] at this
    exact ⟨hnil, fin _ _ _ h hnil⟩
  | succ fuel ih =>
    intro listed a w hf' h
    refine ⟨fun hr => fin _ _ _ h hr, fun j hj => ?_⟩
    obtain ⟨hnot, o, ho, hall⟩ := mem_ready.1 hj
    have hlt : j < ops.size := (Array.getElem?_eq_some_iff.1 ho).1
    have hlt' : j < listed.size := by rw [h.size]; exact hlt
    have cnt : ops.size ≤ fuel + ((listed.setIfInBounds j true).toList.filter id).length := by
      have hx : listed[j] = false := by simpa [hlt'] using hnot
      have e : (listed.setIfInBounds j true).toList = listed.toList.set j true := by simp
      have hset : ∀ (l : List Bool) (k : Nat) (hk : k < l.length), l[k] = false → ((l.set k true).filter id).length = (l.filter id).length + 1 := by
        intro l
        induction l with
        | nil => intro k hk; simp at hk
        | cons b l ihl =>
          intro k hk hb
          cases k with
          | zero =>
            have : b = false := hb
            subst this
            simp
          | succ k =>
            have := ihl k (by simpa using hk) (by simpa using hb)
            cases b <;> simp [this]
      rw [e, hset listed.toList j (by simpa using hlt') (by simpa using hx)]
      omega
    obtain ⟨ha, hsl⟩ := eq_base hf hfl h
    have hslots := slot_of_inv hok h ho hj
    have hkj := hk j o ho (fun t => a.tmps.getD t undef) w (fun v w' => wpAny P .any ops Q fuel (listed.setIfInBounds j true) (a.put o.dst v) w') h.g
      (fun t ht => by have := hslots t ht; rw [hsl t] at this; exact this)
      (fun v w' hv hst => ih _ _ _ cnt (inv_step hok hG hp h ho hj hv hst))
    have ht : (mixL base fs 0 fun t => a.tmps.getD t undef).toArray = a.tmps := (congrArg Act.tmps ha).symm
    rw [ht] at hkj
    unfold wpOp
    simp only [ho]
    split
    · rename_i hw; rw [if_pos hw] at hkj; exact .inl (wp_of_gives (fun v w' h => h) (by
        have e : (⟨a.tmps, []⟩ : Act) = a := by rw [← h.defers]
        rw [e] at hkj; exact hkj))
    · rename_i hw; rw [if_neg hw] at hkj; exact ih _ _ _ cnt (inv_step hok hG hp h ho hj hkj (hrefl w))

/-- At a region that draws, all written out: the operations, the frame, which slots are written, what each operation says. -/
theorem wp_region {id : Nat} {l : List Oper} {base : List Value} {w : World} (St : World → World → Prop) (G : World → Prop) (fs : List Bool) (qs : List (Value → World → Prop))
    (hm : P.follows .mixedOrders = true) (hok : ok l.toArray base.length = true) (hf : flagsOk l.toArray fs = true) (hfl : fs.length = base.length)
    (hG : ∀ w w', G w → St w w' → G w') (hp : ∀ i v w w', table qs i v w → St w w' → table qs i v w') (hrefl : ∀ w, St w w) (hg : G w.drew)
    (hk : KeepsL P l.toArray St G base fs (table qs) 0 l qs)
    (hfin : ∀ (U : Nat → Value) (w : World), G w → (∀ i t, writes l.toArray i t = true → table qs i (U t) w) → Q .normal ⟨(mixL base fs 0 U).toArray, []⟩ w) :
    (Code.region id l.toArray true).wp P Q ⟨base.toArray, []⟩ w :=
  wp_region_any hm (wp_any_lit (P := P) (Q := Q) (table qs) (by simpa using hok) hf hfl hG hp hrefl (fun j o ho => by
      have := keepsL_at l qs 0 hk j o (by simpa using ho)
      rw [Nat.zero_add] at this
      exact this) hfin l.toArray.size _ _ _ (by simp) {
    defers := rfl, g := hg, size := by simp, slots := rfl
    closed := fun i o _ hl => by rw [getD_rep] at hl; cases hl
    free := fun t _ => rfl
    done := fun i t _ hl => by rw [getD_rep] at hl; cases hl })

theorem keep_cons {G : World → Prop} {base : List Value} {fs : List Bool} {p : Nat → Value → World → Prop} {k : Nat} {o : Oper} {os : List Oper} {q : Value → World → Prop} {qs : List (Value → World → Prop)}
    (h : KeepsAt P ops St G base fs p k o q) (hr : KeepsL P ops St G base fs p (k + 1) os qs) : KeepsL P ops St G base fs p k (o :: os) (q :: qs) := ⟨h, hr⟩
/-- What an operation that waits for nobody finds: what the slot held. -/
def noWait (ops : Array Oper) (j : Nat) (t : Tmp) : Bool := (List.range ops.size).all fun i => !writes ops i t || !waits ops j i
theorem slot_base {base : Array Value} {p : Nat → Value → World → Prop} {j : Nat} {t : Tmp} {v : Value} {w : World} (h : slotOk ops base p j t v w) (hb : noWait ops j t = true) : v = base.getD t undef :=
  h.2 fun i hw => by
    have hi : i < ops.size := by
      rcases Nat.lt_or_ge i ops.size with hi | hi
      · exact hi
      · simp [writes, Array.getElem?_eq_none hi] at hw
    have := List.all_eq_true.1 hb i (List.mem_range.2 hi)
    simpa [hw] using this

/-- What is said of each slot stays true along the steps. -/
def StableL (St : World → World → Prop) : List (Value → World → Prop) → Prop
  | [] => True
  | q :: qs => (∀ v w w', q v w → St w w' → q v w') ∧ StableL St qs
theorem table_stable : ∀ (qs : List (Value → World → Prop)), StableL St qs → ∀ i v w w', table qs i v w → St w w' → table qs i v w'
  | [], _, i, _, _, _, _, _ => by simp [table, Any]
  | q :: qs, hq, i, v, w, w', h, hs => by
    cases i with
    | zero => exact hq.1 v w w' h hs
    | succ i => exact table_stable qs hq.2 i v w w' h hs
theorem is_stable {c : Value} (v : Value) (w w' : World) (h : Is c v w) (_ : St w w') : Is c v w' := h
theorem stable_is {c : Value} {qs : List (Value → World → Prop)} (h : StableL St qs) : StableL St (Is c :: qs) := ⟨is_stable, h⟩
theorem stable_nil : StableL St [] := trivial

theorem keep_nil {G : World → Prop} {base : List Value} {fs : List Bool} {p : Nat → Value → World → Prop} {k : Nat} {qs : List (Value → World → Prop)} : KeepsL P ops St G base fs p k [] qs := trivial

end Go.Proofs.YtecjailgiknfcaaDoor.Tbl

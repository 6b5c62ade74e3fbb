/-
  A region that draws its order, with a chain of operations in it that turn the world one behind the other (each waits for the one ahead): after Grow's law; what the world says is counted along the chain.
-/
import Derived.Test.YtecjailgiknfcaaDoorGrow
import Derived.Laws.Tables
set_option linter.unusedVariables false
namespace Go.Proofs.YtecjailgiknfcaaDoor.Tbl
variable {P : Program} {ops : Array Oper} {Q : Exit → Act → World → Prop} {St : World → World → Prop} {D : Nat → World → Prop} {ch : List Nat}

/-- An operation's place in the chain. -/
def place : List Nat → Nat → Nat → Option Nat
  | [], _, _ => none
  | x :: xs, i, j => match Nat.beq x j with
    | true => some i
    | false => place xs (i + 1) j
theorem place_some : ∀ {ch : List Nat} {i j m : Nat}, place ch i j = some m → i ≤ m ∧ ch[m - i]? = some j
  | [], i, j, m, h => by simp [place] at h
  | x :: xs, i, j, m, h => by
    rw [place] at h
    cases hb : Nat.beq x j with
    | true =>
      rw [hb] at h
      simp only [Option.some.injEq] at h
      subst h
      have := Nat.eq_of_beq_eq_true hb
      subst this
      simp
    | false =>
      rw [hb] at h
      obtain ⟨h1, h2⟩ := place_some h
      refine ⟨by omega, ?_⟩
      rw [show m - i = (m - (i + 1)) + 1 by omega]
      simpa using h2
theorem place_none : ∀ {ch : List Nat} {i j : Nat}, place ch i j = none → ∀ m : Nat, ch[m]? ≠ some j
  | [], i, j, h, m => by simp
  | x :: xs, i, j, h, m => by
    rw [place] at h
    cases hb : Nat.beq x j with
    | true => rw [hb] at h; cases h
    | false =>
      rw [hb] at h
      cases m with
      | zero =>
        intro e
        simp only [List.getElem?_cons_zero, Option.some.injEq] at e
        subst e
        rw [show Nat.beq x x = true from Nat.beq_refl x] at hb
        cases hb
      | succ m =>
        have := place_none h m
        simpa using this

/-- Each of the chain waits for the one ahead; none comes twice. -/
def chOk (ops : Array Oper) (ch : List Nat) : Bool := decide ch.Nodup && (List.range (ch.length - 1)).all fun m => match ch[m]?, ch[m + 1]? with
  | some i, some j => waits ops j i
  | _, _ => true

structure InvC (ops : Array Oper) (D : Nat → World → Prop) (ch : List Nat) (base : Array Value) (p : Nat → Value → World → Prop) (listed : Array Bool) (a : Act) (w : World) : Prop where
  inv : Inv ops (fun _ => True) base p listed a w
  chain : ∃ k, D k w ∧ k ≤ ch.length ∧ ∀ m i, ch[m]? = some i → (listed.getD i false = true ↔ m < k)

def KeepsC (P : Program) (ops : Array Oper) (St : World → World → Prop) (D : Nat → World → Prop) (base : List Value) (fs : List Bool) (p : Nat → Value → World → Prop) (c : Option Nat) (j : Nat) (o : Oper) (q : Value → World → Prop) : Prop :=
  ∀ (U : Nat → Value) (w : World) (K : Value → World → Prop) (k : Nat), (∀ m, c = some m → k = m) → D k w → (∀ t ∈ o.looksAt ops, slotOk ops base.toArray p j t (if fs.getD t false then U t else base.getD t undef) w) →
    (∀ v w', q v w' → D (match c with | some m => m + 1 | none => k) w' → St w w' → K v w') →
    if Region.wanted o (yielded ops (mixL base fs 0 U).toArray) then gives P K ((execOp (⟨(mixL base fs 0 U).toArray, []⟩ : Act).eval o).run P w) else (c = none ∧ q undef w)
theorem keepC_at {base : List Value} {fs : List Bool} {p : Nat → Value → World → Prop} {j : Nat} {o : Oper} {q : Value → World → Prop} (m : Nat)
    (h : ∀ (U : Nat → Value) (w : World) (K : Value → World → Prop), D m w → (∀ t ∈ o.looksAt ops, slotOk ops base.toArray p j t (if fs.getD t false then U t else base.getD t undef) w) →
      (∀ v w', q v w' → D (m + 1) w' → St w w' → K v w') →
      if Region.wanted o (yielded ops (mixL base fs 0 U).toArray) then gives P K ((execOp (⟨(mixL base fs 0 U).toArray, []⟩ : Act).eval o).run P w) else False) : KeepsC P ops St D base fs p (some m) j o q := by
  intro U w K k hk hd hs hK
  have := hk m rfl
  subst this
  have h1 := h U w K hd hs hK
  split at h1
  · rename_i hw; rw [if_pos hw]; exact h1
  · exact h1.elim
theorem keepC_no {base : List Value} {fs : List Bool} {p : Nat → Value → World → Prop} {j : Nat} {o : Oper} {q : Value → World → Prop}
    (h : ∀ (U : Nat → Value) (w : World) (K : Value → World → Prop) (k : Nat), D k w → (∀ t ∈ o.looksAt ops, slotOk ops base.toArray p j t (if fs.getD t false then U t else base.getD t undef) w) →
      (∀ v w', q v w' → D k w' → St w w' → K v w') →
      if Region.wanted o (yielded ops (mixL base fs 0 U).toArray) then gives P K ((execOp (⟨(mixL base fs 0 U).toArray, []⟩ : Act).eval o).run P w) else q undef w) : KeepsC P ops St D base fs p none j o q := by
  intro U w K k hk hd hs hK
  have h1 := h U w K k hd hs hK
  split at h1
  · rename_i hw; rw [if_pos hw]; exact h1
  · rename_i hw; rw [if_neg hw]; exact ⟨rfl, h1⟩

def KeepsCL (P : Program) (ops : Array Oper) (St : World → World → Prop) (D : Nat → World → Prop) (ch : List Nat) (base : List Value) (fs : List Bool) (p : Nat → Value → World → Prop) : Nat → List Oper → List (Value → World → Prop) → Prop
  | _, [], _ => True
  | k, o :: os, q :: qs => KeepsC P ops St D base fs p (place ch 0 k) k o q ∧ KeepsCL P ops St D ch base fs p (k + 1) os qs
  | _, _ :: _, [] => False
theorem keepsCL_at {base : List Value} {fs : List Bool} {p : Nat → Value → World → Prop} : ∀ (os : List Oper) (qs : List (Value → World → Prop)) (k : Nat), KeepsCL P ops St D ch base fs p k os qs →
    ∀ j o, os[j]? = some o → KeepsC P ops St D base fs p (place ch 0 (k + j)) (k + j) o (table qs j)
  | [], _, _, _, j, o, ho => by simp at ho
  | o' :: os, [], k, h, j, o, ho => h.elim
  | o' :: os, q :: qs, k, h, j, o, ho => by
    cases j with
    | zero =>
      have : o' = o := by simpa using ho
      subst this
      exact h.1
    | succ j =>
      have := keepsCL_at os qs (k + 1) h.2 j o (by simpa using ho)
      rw [show k + 1 + j = k + (j + 1) by omega] at this
      exact this
theorem keepC_cons {base : List Value} {fs : List Bool} {p : Nat → Value → World → Prop} {k : Nat} {c : Option Nat} {o : Oper} {os : List Oper} {q : Value → World → Prop} {qs : List (Value → World → Prop)} (hc : place ch 0 k = c)
    (h : KeepsC P ops St D base fs p c k o q) (hr : KeepsCL P ops St D ch base fs p (k + 1) os qs) : KeepsCL P ops St D ch base fs p k (o :: os) (q :: qs) := by
  subst hc; exact ⟨h, hr⟩
theorem keepC_nil {base : List Value} {fs : List Bool} {p : Nat → Value → World → Prop} {k : Nat} {qs : List (Value → World → Prop)} : KeepsCL P ops St D ch base fs p k [] qs := trivial

theorem chain_step (hch : chOk ops ch = true) {listed : Array Bool} {w : World} (hsz : listed.size = ops.size) (h : ∃ k, D k w ∧ k ≤ ch.length ∧ ∀ m i, ch[m]? = some i → (listed.getD i false = true ↔ m < k))
    {j : Nat} {o : Oper} (ho : ops[j]? = some o) (hr : j ∈ Region.ready .any ops listed) :
    ∃ k, D k w ∧ (∀ m, place ch 0 j = some m → k = m) ∧ ∀ w', D (match place ch 0 j with | some m => m + 1 | none => k) w' →
      ∃ k, D k w' ∧ k ≤ ch.length ∧ ∀ m i, ch[m]? = some i → ((listed.setIfInBounds j true).getD i false = true ↔ m < k) := by
  obtain ⟨k, hd, hkl, hm⟩ := h
  obtain ⟨hnot, o', ho', hall⟩ := mem_ready.1 hr
  obtain rfl : o' = o := by rw [ho] at ho'; exact (Option.some.inj ho').symm
  have hj : j < ops.size := (Array.getElem?_eq_some_iff.1 ho).1
  simp only [chOk, Bool.and_eq_true, decide_eq_true_eq] at hch
  cases hp : place ch 0 j with
  | none =>
    refine ⟨k, hd, (fun m h => by cases h), fun w' hw' => ⟨k, hw', hkl, fun m i hi => ?_⟩⟩
    have hne : j ≠ i := fun e => place_none hp m (by rw [hi, e])
    rw [getD_set_ne false hne]
    exact hm m i hi
  | some m =>
    obtain ⟨-, hcm⟩ := place_some hp
    rw [Nat.sub_zero] at hcm
    have hml : m < ch.length := (List.getElem?_eq_some_iff.1 hcm).1
    have hkm : k ≤ m := by
      rcases Nat.lt_or_ge m k with h | h
      · have := (hm m j hcm).2 h
        rw [getD_false_of_true hnot] at this
        cases this
      · exact h
    have hmk : m ≤ k := by
      cases m with
      | zero => omega
      | succ m =>
        have h1 := List.all_eq_true.1 hch.2 m (List.mem_range.2 (by omega))
        have hci : ch[m]? = some ch[m] := List.getElem?_eq_getElem (by omega)
        rw [hci, hcm] at h1
        simp only at h1
        obtain ⟨e, he, hb, hon⟩ := (waits_iff ho).1 h1
        have := hall e he hb
        rw [hon] at this
        have := (hm m _ hci).1 this
        omega
    have e : k = m := by omega
    subst e
    refine ⟨k, hd, fun m' h => by simpa using h, fun w' hw' => ⟨k + 1, hw', hml, fun m' i hi => ?_⟩⟩
    by_cases e : i = j
    · subst e
      have hmm : m' = k := (List.getElem?_inj (List.getElem?_eq_some_iff.1 hi).1 hch.1).1 (hi.trans hcm.symm)
      subst hmm
      rw [Array.getD_eq_getD_getElem?, Array.getElem?_setIfInBounds]
      simp [hsz, hj]
    · rw [getD_set_ne false (Ne.symm e), hm m' i hi]
      have hmm : m' ≠ k := fun h => by subst h; rw [hi] at hcm; exact e (Option.some.inj hcm)
      omega

theorem wp_chain_lit {base : List Value} {fs : List Bool} (p : Nat → Value → World → Prop) (hok : ok ops base.toArray.size = true) (hf : flagsOk ops fs = true) (hfl : fs.length = base.length) (hch : chOk ops ch = true) (hcl : ∀ i ∈ ch, i < ops.size)
    (hp : ∀ i v w w', p i v w → St w w' → p i v w') (hrefl : ∀ w, St w w)
    (hk : ∀ j o, ops[j]? = some o → KeepsC P ops St D base fs p (place ch 0 j) j o (p j))
    (hfin : ∀ (U : Nat → Value) (w : World), D ch.length w → (∀ i t, writes ops i t = true → p i (U t) w) → Q .normal ⟨(mixL base fs 0 U).toArray, []⟩ w) :
    ∀ (fuel : Nat) (listed : Array Bool) (a : Act) (w : World), ops.size ≤ fuel + (listed.toList.filter id).length → InvC ops D ch base.toArray p listed a w → wpAny P .any ops Q fuel listed a w := by
  have fin : ∀ (listed : Array Bool) (a : Act) (w : World), InvC ops D ch base.toArray p listed a w → Region.ready .any ops listed = [] → Q .normal a w := fun listed a w hC hr => by
    have h := hC.inv
    have hall := all_listed hok h.size hr
    obtain ⟨ha, -⟩ := eq_base hf hfl h
    rw [ha]
    obtain ⟨k, hd, hkl, hm⟩ := hC.chain
    have hkk : k = ch.length := by
      rcases Nat.lt_or_ge k ch.length with hlt | hge
      · have hi : ch[k]? = some ch[k] := List.getElem?_eq_getElem hlt
        have := (hm k _ hi).1 (hall _ (hcl _ (List.getElem_mem hlt)))
        omega
      · omega
    subst hkk
    refine hfin _ w hd (fun i t hw => h.done i t hw (hall i ?_))
    rcases Nat.lt_or_ge i ops.size with hi | hi
    · exact hi
    · simp [writes, Array.getElem?_eq_none hi] at hw
  intro fuel
  induction fuel with
  | zero =>
    intro listed a w hf' hC
    have h := hC.inv
    have hnil : Region.ready .any ops listed = [] := by
      cases hr : Region.ready .any ops listed with
      | nil => rfl
      | cons j rest =>
        exfalso
        have hj : j ∈ Region.ready .any ops listed := by rw [hr]; exact List.mem_cons_self
        obtain ⟨hnot, o, ho, _⟩ := mem_ready.1 hj
        have hlt : j < ops.size := (Array.getElem?_eq_some_iff.1 ho).1
        have hlen : (listed.toList.filter id).length = listed.toList.length := by
          have := List.length_filter_le id listed.toList
          have : listed.toList.length = ops.size := by simpa using h.size
          omega
        have := (List.length_filter_eq_length_iff.1 hlen) (listed[j]'(by rw [h.size]; exact hlt)) (by simp)
        simp [h.size, hlt] at hnot
        simp [hnot] at this
    exact ⟨hnil, fin _ _ _ hC hnil⟩
  | succ fuel ih =>
    intro listed a w hf' hC
    have h := hC.inv
    refine ⟨fun hr => fin _ _ _ hC hr, fun j hj => ?_⟩
    obtain ⟨hnot, o, ho, hall⟩ := mem_ready.1 hj
    have hlt : j < ops.size := (Array.getElem?_eq_some_iff.1 ho).1
    have hlt' : j < listed.size := by rw [h.size]; exact hlt
    have cnt : ops.size ≤ fuel + ((listed.setIfInBounds j true).toList.filter id).length := by
      have hx : listed[j] = false := by simpa [hlt'] using hnot
      have e : (listed.setIfInBounds j true).toList = listed.toList.set j true := by simp
      have hset : ∀ (l : List Bool) (k : Nat) (hk : k < l.length), l[k] = false → ((l.set k true).filter id).length = (l.filter id).length + 1 := by
        intro l
        induction l with
        | nil => intro k hk; simp at hk
        | cons b l ihl =>
          intro k hk hb
          cases k with
          | zero =>
            have : b = false := hb
            subst this
            simp
          | succ k =>
            have := ihl k (by simpa using hk) (by simpa using hb)
            cases b <;> simp [this]
      rw [e, hset listed.toList j (by simpa using hlt') (by simpa using hx)]
      omega
    obtain ⟨ha, hsl⟩ := eq_base hf hfl h
    have hslots := slot_of_inv hok h ho hj
    obtain ⟨k, hd, hkm, hnext⟩ := chain_step hch h.size hC.chain ho hj
    have hkj := hk j o ho (fun t => a.tmps.getD t undef) w (fun v w' => wpAny P .any ops Q fuel (listed.setIfInBounds j true) (a.put o.dst v) w') k hkm hd
      (fun t ht => by have := hslots t ht; rw [hsl t] at this; exact this)
      (fun v w' hv hD' hst => ih _ _ _ cnt ⟨inv_step hok (fun _ _ h _ => h) hp h ho hj hv hst, hnext w' hD'⟩)
    have ht : (mixL base fs 0 fun t => a.tmps.getD t undef).toArray = a.tmps := (congrArg Act.tmps ha).symm
    rw [ht] at hkj
    unfold wpOp
    simp only [ho]
    split
    · rename_i hw; rw [if_pos hw] at hkj; exact .inl (wp_of_gives (fun v w' h => h) (by
        have e : (⟨a.tmps, []⟩ : Act) = a := by rw [← h.defers]
        rw [e] at hkj; exact hkj))
    · rename_i hw
      rw [if_neg hw] at hkj
      refine ih _ _ _ cnt ⟨inv_step hok (fun _ _ h _ => h) hp h ho hj hkj.2 (hrefl w), hnext w ?_⟩
      rw [hkj.1]
      exact hd

/-- At a region that draws, with a chain: all written out. -/
theorem wp_chain {id : Nat} {l : List Oper} {base : List Value} {w : World} (St : World → World → Prop) (D : Nat → World → Prop) (ch : List Nat) (fs : List Bool) (qs : List (Value → World → Prop))
    (hm : P.follows .mixedOrders = true) (hok : ok l.toArray base.length = true) (hf : flagsOk l.toArray fs = true) (hfl : fs.length = base.length) (hch : chOk l.toArray ch = true) (hcl : (ch.all fun i => decide (i < l.length)) = true)
    (hp : ∀ i v w w', table qs i v w → St w w' → table qs i v w') (hrefl : ∀ w, St w w) (hg : D 0 w.drew)
    (hk : KeepsCL P l.toArray St D ch base fs (table qs) 0 l qs)
    (hfin : ∀ (U : Nat → Value) (w : World), D ch.length w → (∀ i t, writes l.toArray i t = true → table qs i (U t) w) → Q .normal ⟨(mixL base fs 0 U).toArray, []⟩ w) :
    (Code.region id l.toArray true).wp P Q ⟨base.toArray, []⟩ w :=
  wp_region_any hm (wp_chain_lit (P := P) (Q := Q) (table qs) (by simpa using hok) hf hfl hch (fun i hi => by
      have := List.all_eq_true.1 hcl i hi
      simpa using this) hp hrefl (fun j o ho => by
      have := keepsCL_at l qs 0 hk j o (by simpa using ho)
      rw [Nat.zero_add] at this
      exact this) hfin l.toArray.size _ _ _ (by simp) {
    inv := {
      defers := rfl, g := trivial, size := by simp, slots := rfl
      closed := fun i o _ hl => by rw [getD_rep] at hl; cases hl
      free := fun t _ => rfl
      done := fun i t _ hl => by rw [getD_rep] at hl; cases hl }
    chain := ⟨0, hg, Nat.zero_le _, fun m i _ => by rw [getD_rep]; simp⟩ })

theorem gives_stR {o : Oper} {a : Act} {w : World} {K : Value → World → Prop} (ty : TypeId) (x y : Operand) (ho : o.op = .store ty x y)
    (g : Nat) (cells : Array Value) (hx : a.eval x = .pointer (some ⟨g, 0, none⟩)) (hy : a.eval y = .agg cells)
    (t : TypeId) (old : Array Value) (hg : w.heap[g]? = some (.cells old t (0, 0))) (hi : (P.info? ty).map (·.size) = some cells.size)
    (hold : old.size = cells.size) (h1 : cells.all (·.oneCell') = true) (h : K undef (w.setRow g cells)) : gives P K ((execOp a.eval o).run P w) := by
  unfold execOp
  simp only [ho, hx, hy, Instr.storeAt, Instr.sureAddr, Sem.run_bind, Sem.run_pure, Result.andThen_ok, run_storeVar_row w g t ty old cells hg hi hold h1]
  exact h
/-- append, as an operation of a region that draws: its run is known. -/
theorem gives_append {o : Oper} {a : Act} {w : World} {K : Value → World → Prop} (s x : Operand) (t : TypeId) (ho : o.op = .call { callee := .builtin .append, args := #[s, x], argTypes := #[t, t] })
    {v u v' : Value} {w' : World} (hs : a.eval s = v) (hx : a.eval x = u) (hr : (Builtin.append_ #[t, t] o.type #[v, u]).run P w = .ok v' w') (h : K v' w') : gives P K ((execOp a.eval o).run P w) := by
  unfold execOp
  simp only [ho, resolve, invoke, builtin, Sem.run_bind, Sem.run_pure, Result.andThen_ok, List.map_toArray, List.map_cons, List.map_nil, hs, hx, hr]
  exact h
end Go.Proofs.YtecjailgiknfcaaDoor.Tbl

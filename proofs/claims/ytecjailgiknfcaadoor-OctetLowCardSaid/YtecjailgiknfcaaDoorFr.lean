/-
  What a call may turn: Fr S w w': of the blocks that are there in w only those of S may have turned.
-/
import Derived.Test.YtecjailgiknfcaaDoorBase
set_option linter.unusedVariables false
namespace Go.Proofs.YtecjailgiknfcaaDoor
open Go.RowKit

/-- Of the blocks that are there in w only those of S may have turned; the streams are as they were. -/
structure Fr (S : Nat → Prop) (w w' : World) : Prop where
  os : w'.os = w.os
  tape : w'.tape = w.tape
  output : w'.output = w.output
  size : w.heap.size ≤ w'.heap.size
  block : ∀ k, k < w.heap.size → ¬ S k → w'.heap[k]? = w.heap[k]?

variable {S T : Nat → Prop} {u v w w' : World}
theorem Fr.refl (S : Nat → Prop) (w : World) : Fr S w w := ⟨rfl, rfl, rfl, Nat.le_refl _, fun _ _ _ => rfl⟩
theorem Fr.trans (h : Fr S u v) (k : Fr S v w) : Fr S u w :=
  ⟨k.os.trans h.os, k.tape.trans h.tape, k.output.trans h.output, Nat.le_trans h.size k.size, fun i hi hs => (k.block i (Nat.lt_of_lt_of_le hi h.size) hs).trans (h.block i hi hs)⟩
/-- What is of the second step's set may be new in the first. -/
theorem Fr.trans' (h : Fr S u v) (k : Fr T v w) (hT : ∀ i, i < u.heap.size → T i → S i) : Fr S u w :=
  ⟨k.os.trans h.os, k.tape.trans h.tape, k.output.trans h.output, Nat.le_trans h.size k.size, fun i hi hs => (k.block i (Nat.lt_of_lt_of_le hi h.size) (fun t => hs (hT i hi t))).trans (h.block i hi hs)⟩
theorem Fr.mono (h : Fr S u v) (hT : ∀ i, i < u.heap.size → S i → T i) : Fr T u v :=
  ⟨h.os, h.tape, h.output, h.size, fun i hi hs => h.block i hi (fun t => hs (hT i hi t))⟩
theorem Fr.drew (h : Fr S u v) : Fr S u v.drew := ⟨h.os, h.tape, h.output, h.size, h.block⟩
theorem Fr.drewN (h : Fr S u v) (n : Nat) : Fr S u (v.drewN n) := ⟨h.os, h.tape, h.output, h.size, h.block⟩
theorem Fr.alloc (h : Fr S u v) (o : Obj) : Fr S u (v.alloc o) :=
  h.trans ⟨rfl, rfl, rfl, by simp, fun k hk _ => Below.heap_alloc _ _ _ hk⟩
theorem Fr.setCell (h : Fr S u v) (p : Addr) (hp : p.block < u.heap.size → S p.block) (x : Value) : Fr S u (v.setCell p x) :=
  h.trans' (T := fun k => k = p.block) ⟨rfl, rfl, rfl, by simp [World.setCell], fun k hk hs => Below.heap_setCell _ _ _ _ hs⟩ (fun i hi e => by subst e; exact hp hi)
theorem Fr.below (h : Fr S u v) {B : Nat} (hB : B ≤ u.heap.size) (hS : ∀ i, i < B → ¬ S i) : Below B u v :=
  ⟨h.os, h.tape, h.output, h.size, fun k hk => h.block k (Nat.lt_of_lt_of_le hk hB) (hS k hk)⟩
theorem Fr.of_below {B : Nat} (h : Below B u v) (hS : ∀ i, B ≤ i → i < u.heap.size → S i) : Fr S u v :=
  ⟨h.os, h.tape, h.output, h.size, fun k hk hs => h.block k (by
    rcases Nat.lt_or_ge k B with h' | h'
    · exact h'
    · exact (hs (hS k h' hk)).elim)⟩
theorem Fr.of_same (h : Below u.heap.size u v) : Fr S u v := Fr.of_below h (fun i h1 h2 => by omega)
theorem Fr.cell (h : Fr S u v) {p : Addr} (hp : p.block < u.heap.size) (hs : ¬ S p.block) : v.cell? p = u.cell? p := World.cell?_of_block (w := u) (h.block p.block hp hs)
theorem Fr.frozen (h : Fr S u v) {p : Addr} (hp : p.block < u.heap.size) (hs : ¬ S p.block) : v.frozen? p = u.frozen? p := World.frozen?_of_block (w := u) (h.block p.block hp hs)

/-- A variable of one cell, at the head of block b: what it holds; it may be written. -/
def At (w : World) (b : Nat) (x : Value) : Prop := w.cell? ⟨b, 0, none⟩ = some x ∧ w.frozen? ⟨b, 0, none⟩ = false ∧ b < w.heap.size
variable {b : Nat} {x : Value}
theorem At.fr (h : At u b x) (k : Fr S u v) (hs : ¬ S b) : At v b x :=
  ⟨by rw [k.cell (p := ⟨b, 0, none⟩) h.2.2 hs]; exact h.1, by rw [k.frozen (p := ⟨b, 0, none⟩) h.2.2 hs]; exact h.2.1, Nat.lt_of_lt_of_le h.2.2 k.size⟩
theorem At.set (h : At w b x) (y : Value) : At (w.setCell ⟨b, 0, none⟩ y) b y :=
  ⟨World.cell?_setCell_same _ _ _ h.1, by rw [World.frozen?_setCell]; exact h.2.1, by simpa [World.setCell] using h.2.2⟩
theorem At.other (h : At w b x) {c : Nat} (hc : c ≠ b) (y : Value) : At (w.setCell ⟨c, 0, none⟩ y) b x :=
  ⟨by rw [World.cell?_setCell_other _ _ _ _ (by intro e; injection e with e1; exact hc e1)]; exact h.1, by rw [World.frozen?_setCell]; exact h.2.1, by simpa [World.setCell] using h.2.2⟩
theorem At.alloc (h : At w b x) (o : Obj) : At (w.alloc o) b x :=
  h.fr (S := fun _ => False) ((Fr.refl _ _).alloc o) (fun h => h)
theorem At.new (w : World) (x : Value) (t : TypeId) : At (w.alloc (.cells #[x] t)) w.heap.size x :=
  ⟨by simp [go_sem], by simp [go_sem], by simp⟩
theorem At.drewN (h : At w b x) (n : Nat) : At (w.drewN n) b x := h
theorem At.drew (h : At w b x) : At w.drew b x := h

end Go.Proofs.YtecjailgiknfcaaDoor

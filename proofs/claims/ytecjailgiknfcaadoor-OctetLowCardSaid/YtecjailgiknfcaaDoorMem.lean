/-
  Rows of elements of several cells: copy between them.
-/
import Derived.Test.YtecjailgiknfcaaDoorFr
import Derived.Laws.CopyOwn
import Derived.Laws.AppendOwn
import Derived.Lib.AppendZeros
import Derived.Lib.AppendZerosOnto
import Derived.Lib.Overlaps
import Derived.WalkKit
import Derived.WalkLawsBesides
import Derived.Shelf.Spec.SlicesInsert
set_option linter.unusedVariables false
namespace Go.Proofs.YtecjailgiknfcaaDoor
open Go.RowKit

/-- Block g is a row of these cells. -/
def Row (w : World) (g : Nat) (t : TypeId) (cur : List Value) : Prop := w.heap[g]? = some (.cells cur.toArray t (0, 0))
variable {P : Program} {w w' : World} {g : Nat} {t : TypeId} {cur : List Value}
theorem Row.lt (h : Row w g t cur) : g < w.heap.size := by
  rcases Nat.lt_or_ge g w.heap.size with h' | h'
  · exact h'
  · simp [Row, Array.getElem?_eq_none h'] at h
theorem Row.cell (h : Row w g t cur) (j : Nat) : w.cell? ⟨g, j, none⟩ = cur[j]? := by
  rw [cell_of_row w g j _ t _ h]; simp
theorem Row.frozen (h : Row w g t cur) (j : Nat) : w.frozen? ⟨g, j, none⟩ = false := frozen_of_row w g j _ t h
theorem Row.fr {S : Nat → Prop} (h : Row w g t cur) (k : Fr S w w') (hs : ¬ S g) : Row w' g t cur := (k.block g h.lt hs).trans h
theorem Row.new (w : World) (cs : Array Value) (t : TypeId) : Row (w.alloc (.cells cs t)) w.heap.size t cs.toList := by
  rw [Row, heap_alloc_new, Array.toArray_toList]
theorem Row.alloc (h : Row w g t cur) (o : Obj) : Row (w.alloc o) g t cur := (heap_alloc_old w o h.lt).trans h
theorem Row.drew (h : Row w g t cur) : Row w.drew g t cur := h
theorem Row.drewN (h : Row w g t cur) (n : Nat) : Row (w.drewN n) g t cur := h
theorem Row.set (h : Row w g t cur) (j : Nat) (u : Value) : Row (w.setCell ⟨g, j, none⟩ u) g t (cur.set j u) := by
  have := heap_setCell_same w g j cur.toArray t u h
  simpa [Row] using this
theorem Row.other (h : Row w g t cur) {a : Addr} (ha : g ≠ a.block) (u : Value) : Row (w.setCell a u) g t cur := (heap_setCell_other w a g u ha).trans h
theorem Row.over (h : Row w g t cur) (new : List Value) : Row (w.setRow g new.toArray) g t new := setRow_heap w g _ _ t _ h
theorem Row.setOther (h : Row w g t cur) {b : Nat} (hb : g ≠ b) (cs : Array Value) : Row (w.setRow b cs) g t cur := (setRow_other w b g cs hb).trans h
theorem Fr.setRow {S : Nat → Prop} {u v : World} (h : Fr S u v) (g : Nat) (hp : g < u.heap.size → S g) (cs : Array Value) : Fr S u (v.setRow g cs) :=
  h.trans' (T := fun k => k = g) ⟨rfl, rfl, rfl, by simp [World.setRow], fun k hk hs => setRow_other v g k cs hs⟩ (fun i hi e => by subst e; exact hp hi)

/-- copy, of elements of k cells, into a row that is known whole. -/
theorem run_copy_rowK (w : World) (dT sT ty elem : TypeId) (k g o dLen dCap : Nat) (a : Addr) (sLen sCap : Nat) (cur : List Value) (t : TypeId) (cs : List Value)
    (hu : P.underlying dT = some (.slice elem)) (hs : (P.info? elem).map (·.size) = some k)
    (hg : Row w g t cur) (hn : cs.length = Nat.min sLen dLen * k)
    (hsrc : ∀ j v, cs[j]? = some v → w.cell? (a.add j) = some v) (hfit : o + cs.length ≤ cur.length) (h1 : ∀ v ∈ cs, v.oneCell' = true) :
    (Builtin.copy_ #[dT, sT] ty #[.slice (some ⟨g, o, none⟩) dLen dCap, .slice (some a) sLen sCap]).run P w =
      .ok (goInt (Nat.min sLen dLen : Nat)) (w.setRow g (splice cur o cs).toArray) := by
  have hl := run_loadCells_list (P := P) w a cs hsrc
  have hst := run_storeCells_at P g o t cs 0 cur.toArray w hg (by simpa using hfit) h1
  cases hq : P.info? elem with
  | none => simp [hq] at hs
  | some i =>
    have hi : i.size = k := by simpa [hq] using hs
    simp [Builtin.copy_, run_underlying hu, Builtin.lenOf, Builtin.firstCells, sizeOf, typeInfo, hq, hi, ← hn, hl, hst, splice]

end Go.Proofs.YtecjailgiknfcaaDoor

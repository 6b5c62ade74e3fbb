/-
  Structs in blocks of their own: a store of the whole, a store of one field, each leaves a world by name.
-/
import Derived.Test.YtecjailgiknfcaaDoorMem
set_option linter.unusedVariables false
namespace Go.Proofs.YtecjailgiknfcaaDoor
open Go.RowKit
variable {P : Program} {ops : Array Oper} {rest : List Oper} {d : Option Tmp} {ty' : TypeId} {ps : String} {a : Act} {w : World} {Q : Exit → Act → World → Prop} {g : Nat} {t : TypeId} {row : List Value}

theorem wpList_st {aft} (ty : TypeId) (x y : Operand) (cells : Array Value) (hr : Row w g t row) (hx : a.eval x = .pointer (some ⟨g, 0, none⟩)) (hy : a.eval y = .agg cells)
    (hi : (P.info? ty).map (·.size) = some cells.size) (hold : row.length = cells.size) (h1 : cells.toList.all (·.oneCell') = true)
    (h : ∀ w', Row w' g t cells.toList → Fr (fun k => k = g) w w' → Hid (wpList P ops Q rest (a.put d undef) w')) : wpList P ops Q (⟨d, .store ty x y, ty', ps, aft, none⟩ :: rest) a w :=
  wpList_store_row rfl ty x y rfl g cells hx hy t row.toArray hr hi (by simpa using hold) (by rw [← Array.all_toList]; exact h1)
    (h _ (by have := hr.over cells.toList; simpa using this) ((Fr.refl (fun k => k = g) w).setRow g (fun _ => rfl) _))
/-- A stop ahead of a store of this type, in which nothing is done. -/
theorem stop_store {aft gd} (ty : TypeId) {x y : Operand} (h : Hid (wpList P ops Q (⟨d, .store ty x y, ty', ps, aft, gd⟩ :: rest) a w)) : wpList P ops Q (⟨d, .store ty x y, ty', ps, aft, gd⟩ :: rest) a w := h
theorem stop_load {aft gd} (ty : TypeId) {x : Operand} (h : Hid (wpList P ops Q (⟨d, .load ty x, ty', ps, aft, gd⟩ :: rest) a w)) : wpList P ops Q (⟨d, .load ty x, ty', ps, aft, gd⟩ :: rest) a w := h
/-- The world at an operation, under a name. -/
theorem listAt {os : List Oper} (h : ∀ W, W = w → wpList P ops Q os a W) : wpList P ops Q os a w := h w rfl
/-- The world at a call, under a name. -/
theorem callsAt {f : FuncId} {args : Array Value} {R : Ending → World → Prop} (h : ∀ W, W = w → Calls P f args W R) : Calls P f args w R := h w rfl
theorem codeAt {c : Code} (h : ∀ W, W = w → c.wp P Q a W) : c.wp P Q a w := h w rfl
end Go.Proofs.YtecjailgiknfcaaDoor

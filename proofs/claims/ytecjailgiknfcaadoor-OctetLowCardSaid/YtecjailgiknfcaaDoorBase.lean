/-
  Small facts that the walks of this seat share: bytes read out of cells as a text, frames behind draws.
-/
import Derived.Test.YtecjailgiknfcaaDoorRows
import Derived.Below
import Derived.Deep.Draws
import Derived.Laws.BytesArg
import Derived.Laws.Rows
import Derived.Lib.ConvBytes
import Derived.Lib.Hide
namespace Go.Proofs.YtecjailgiknfcaaDoor
open Go.RowKit

theorem strOf_bytes (s : ByteArray) : strOfNums (s.data.toList.map fun c => (c.toNat : Int)) = s := by
  apply ByteArray.ext
  apply Array.ext'
  rw [strOfNums_data, List.map_map]
  conv => rhs; rw [← List.map_id s.data.toList]
  apply List.map_congr_left
  intro c _
  simp

theorem conv_bytes (s : ByteArray) (b off cap : Nat) (w : World) (hc : ∀ i (h : i < s.size), w.cell? ⟨b, off + i, none⟩ = some (.int .u8 (s[i].toNat : Int))) :
    (convert 39 9 (.slice (some ⟨b, off, none⟩) s.size cap)).run Tryd.prog w = .ok (.string s) w := by
  have h := run_convert_bytes_arg w 39 5 Tryd.underlying39 Tryd.underlying5 b off s.size cap (s.data.toList.map fun c => (c.toNat : Int)) (by simp) (fun i hi => by
    rw [hc i hi]
    congr 2
    have : i < s.data.toList.length := by simpa using hi
    simp [List.getD, List.getElem?_eq_getElem this]
    rfl) 9 Tryd.underlying9
  rw [strOf_bytes] at h
  exact h

theorem conv_one (c : UInt8) (b cap : Nat) (w : World) (hc : w.cell? ⟨b, 0, none⟩ = some (.int .u8 (c.toNat : Int))) :
    (convert 39 9 (.slice (some ⟨b, 0, none⟩) 1 cap)).run Tryd.prog w = .ok (.string ⟨#[c]⟩) w :=
  conv_bytes ⟨#[c]⟩ b 0 cap w (fun i h => by
    obtain rfl : i = 0 := by
      have h' : i < 1 := h
      omega
    exact hc)

/-- Bytes that lie from the head of a block on, and may be written. -/
def BytesC (w : World) (g : Nat) (l : List UInt8) : Prop :=
  g < w.heap.size ∧ ∀ (j : Nat) (h : j < l.length), w.cell? ⟨g, j, none⟩ = some (.int .u8 (l[j].toNat : Int)) ∧ w.frozen? ⟨g, j, none⟩ = false
theorem BytesC.set {w : World} {g : Nat} {l : List UInt8} (h : BytesC w g l) (j : Nat) (c : UInt8) : BytesC (w.setCell ⟨g, j, none⟩ (.int .u8 (c.toNat : Int))) g (l.set j c) := by
  refine ⟨by simpa [World.setCell] using h.1, fun i hi => ?_⟩
  rw [List.length_set] at hi
  obtain ⟨h1, h2⟩ := h.2 i hi
  refine ⟨?_, by rw [World.frozen?_setCell]; exact h2⟩
  by_cases e : j = i
  · subst e
    rw [World.cell?_setCell_same _ _ _ h1]
    simp
  · rw [World.cell?_setCell_other _ _ _ _ (by intro e'; injection e' with _ e2; exact e e2), h1]
    simp [e]
theorem BytesC.drewN {w : World} {g : Nat} {l : List UInt8} (h : BytesC w g l) (n : Nat) : BytesC (w.drewN n) g l := h
theorem BytesC.below {w w' : World} {g : Nat} {l : List UInt8} (h : BytesC w g l) (hb : Below w.heap.size w w') : BytesC w' g l :=
  ⟨Nat.lt_of_lt_of_le h.1 hb.size, fun j hj => ⟨by rw [hb.cell (p := ⟨g, j, none⟩) h.1]; exact (h.2 j hj).1, by rw [hb.frozen (p := ⟨g, j, none⟩) h.1]; exact (h.2 j hj).2⟩⟩

theorem conv_str (s : ByteArray) (w : World) :
    (convert 9 39 (.string s)).run Tryd.prog w = .ok (.slice (some ⟨w.heap.size, 0, none⟩) s.size (grownCap w s.size 0 5)) (Lib.bytesWorld w 5 s) :=
  Lib.run_convert_string_bytes w 9 39 5 s Tryd.underlying9 Tryd.underlying39 Tryd.underlying5
theorem bytesWorld_bytes (w : World) (s : ByteArray) : BytesC (Lib.bytesWorld w 5 s) w.heap.size s.data.toList := by
  refine ⟨by rw [Lib.bytesWorld_size]; omega, fun j hj => ⟨?_, ?_⟩⟩
  · rw [Lib.bytesWorld_cell w _ s j (by simpa using hj)]
    simp [List.getD, List.getElem?_eq_getElem hj]
  · have hn := Lib.bytesWorld_at_new w 5 s
    have : j < (Lib.bytesCells w 5 s).size := by
      have : s.data.toList.length = s.data.size := by simp
      have e : s.size = s.data.size := rfl
      rw [Lib.bytesCells, Array.size_append, Array.size_map]; omega
    simp [World.frozen?, hn]
    omega
theorem bytesWorld_below (w : World) (s : ByteArray) : Below w.heap.size w (Lib.bytesWorld w 5 s) :=
  ⟨rfl, rfl, rfl, by rw [Lib.bytesWorld_size]; omega, fun k hk => Lib.bytesWorld_at_old w _ s k hk⟩

end Go.Proofs.YtecjailgiknfcaaDoor

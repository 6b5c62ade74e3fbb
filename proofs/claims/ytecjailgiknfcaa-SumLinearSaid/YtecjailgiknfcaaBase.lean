/-
  Small facts that the walks of this seat share: bytes read out of cells as a text, frames behind draws.
-/
import Derived.Test.YtecjailgiknfcaaRows
import Derived.Below
import Derived.Deep.Draws
import Derived.Laws.BytesArg
import Derived.Laws.Rows
namespace Go.Proofs.Ytecjailgiknfcaa
open Go.RowKit

theorem strOf_bytes (s : ByteArray) : strOfNums (s.data.toList.map fun c => (c.toNat : Int)) = s := by
  apply ByteArray.ext
  apply Array.ext'
  rw [strOfNums_data, List.map_map]
  conv => rhs; rw [← List.map_id s.data.toList]
  apply List.map_congr_left
  intro c _
  simp

theorem conv_bytes (s : ByteArray) (b off cap : Nat) (w : World) (hc : ∀ i (h : i < s.size), w.cell? ⟨b, off + i, none⟩ = some (.int .u8 (s[i].toNat : Int))) :
    (convert 29 9 (.slice (some ⟨b, off, none⟩) s.size cap)).run Try.prog w = .ok (.string s) w := by
  have h := run_convert_bytes_arg w 29 5 Try.underlying29 Try.underlying5 b off s.size cap (s.data.toList.map fun c => (c.toNat : Int)) (by simp) (fun i hi => by
    rw [hc i hi]
    congr 2
    have : i < s.data.toList.length := by simpa using hi
    simp [List.getD, List.getElem?_eq_getElem this]
    rfl) 9 Try.underlying9
  rw [strOf_bytes] at h
  exact h

theorem conv_one (c : UInt8) (b cap : Nat) (w : World) (hc : w.cell? ⟨b, 0, none⟩ = some (.int .u8 (c.toNat : Int))) :
    (convert 29 9 (.slice (some ⟨b, 0, none⟩) 1 cap)).run Try.prog w = .ok (.string ⟨#[c]⟩) w :=
  conv_bytes ⟨#[c]⟩ b 0 cap w (fun i h => by
    obtain rfl : i = 0 := by
      have h' : i < 1 := h
      omega
    exact hc)

end Go.Proofs.Ytecjailgiknfcaa

/-
  bandolierlaw01.Cut: at most n bytes of a text.
-/
import Derived.Test.YtecjailgiknfcaaBase
import Derived.WalkKit
import Derived.WalkSpells
import Derived.WalkLawsBesides
set_option linter.unusedVariables false
namespace Go.Proofs.Ytecjailgiknfcaa
open Go.RowKit

theorem extract_all (s : ByteArray) (n : Nat) (h : s.size ≤ n) : s.extract 0 n = s := by
  apply ByteArray.ext
  rw [ByteArray.data_extract]
  exact Array.extract_eq_self_iff.2 (.inr ⟨rfl, by have : s.data.size = s.size := rfl; omega⟩)

set_option maxHeartbeats 400000 in
theorem cutStr (s : ByteArray) (n : Nat) (w : World) (hs : s.size ≤ maxLen) :
    Calls Try.prog 17 #[.string s, .int .i64 n] w fun e w' => e = .returned (.string (s.extract 0 n)) ∧ w = w' := by
  unfold maxLen at hs
  by_cases h : n < s.size
  · go_enter Try.func17, Try.ntmps17
    go_wp2
    go_ret
    exact ⟨rfl, rfl⟩
  · have h' : s.size ≤ n := by omega
    have HE := Lib.hid (extract_all s n h')
    go_enter Try.func17, Try.ntmps17
    go_wp2
    go_ret
    rw [HE.out]
    exact ⟨rfl, rfl⟩

end Go.Proofs.Ytecjailgiknfcaa

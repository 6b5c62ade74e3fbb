/-
  strings.IndexByte at this seat: the shelf's contract, laid by hand.
-/
import Derived.Test.YtecjailgiknfcaaRows
import Derived.Shelf.Small.Strs
import Derived.Shelf.Lay
namespace Go.Proofs.Ytecjailgiknfcaa
open Go.Shelf

def ren137 : Go.Shelf.Ren := ⟨fun | 137 => 52 | 217 => 67 | 266 => 76 | n => n, fun | 9 => 9 | 5 => 5 | 3 => 3 | n => n, fun | n => n⟩
theorem lays137 : Go.Proofs.Lays.n137 Try.prog ren137 := {
  mixed := by kernel_rfl
  f137 := Try.func52.trans (congrArg some (by kernel_rfl))
  f217 := Try.func67.trans (congrArg some (by kernel_rfl))
  f266 := Try.func76.trans (congrArg some (by kernel_rfl))
  t3 := Try.underlying3
  a3 := Try.isAgg3
  z3 := Try.sizeOf3
  v3 := Try.zeroValue3
  t5 := Try.underlying5
  a5 := Try.isAgg5
  z5 := Try.sizeOf5
  v5 := Try.zeroValue5
  t9 := Try.underlying9
  a9 := Try.isAgg9
  z9 := Try.sizeOf9
  v9 := Try.zeroValue9 }
theorem indexByte_any (s : ByteArray) (c : UInt8) (w : World) :
    Calls Try.prog 52 #[.string s, .int .u8 (c.toNat : Int)] w fun e w' => e = .returned (.int .i64 (Lib.indexByte s.data.toList c)) ∧ w' = w := by
  have h := Any.strings_IndexByte lays137 s (c.toNat : Int) w
  have e : ((c.toNat : Int)).toNat.toUInt8 = c := by simp
  rw [e] at h
  exact h

end Go.Proofs.Ytecjailgiknfcaa

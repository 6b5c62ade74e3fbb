/-
  The walks through what octet.Out writes.
-/
import Derived.Test.YtecjailgiknfcaaDoorBuilder
import Derived.Test.YtecjailgiknfcaaDoorOctetPure
import Derived.Lib.MinMax
import Derived.Deep.RegionWith
set_option linter.unusedVariables false
namespace Go.Proofs.YtecjailgiknfcaaDoor
open Go.RowKit

abbrev self (b : Nat) : Value := .pointer (some ⟨b, 0, none⟩)

set_option maxHeartbeats 800000 in
set_option maxRecDepth 100000 in
theorem outNum (B b : Nat) (l : List UInt8) (x : Nat) (n : Int) (w : World) (h : Bld 43 B b l w) (hlen : l.length + 8 ≤ 140737488355328) (hx : x < 18446744073709551616) :
    Calls Tryd.prog 12 #[self b, .int .u64 x, .int .i64 n] w fun e w' => e = .returned (self b) ∧ (Bld 43 B b (l ++ Oc.be x (Oc.clamp n)) w' ∧ Kept B b w w') := by
  obtain ⟨m, hm, hm8, HM⟩ : ∃ m : Nat, (min (max n 0) 8) = (m : Int) ∧ m ≤ 8 ∧ Hid (Oc.clamp n = m) := ⟨Oc.clamp n, by unfold Oc.clamp; omega, Oc.clamp_le n, rfl⟩
  rw [HM.out]
  have hm0 : IntKind.i64.wrap ((m : Int) - 1) = (m : Int) - 1 := by rw [IntKind.wrap_i64]; omega
  go_enter Tryd.func12, Tryd.ntmps12
  go_wp2
  clear hm hm0
  go_loopw [7] (fun v wr => ∃ (j : Nat) (cur : List UInt8), j ≤ m ∧ v = .int .i64 ((j : Int) - 1) ∧ Hid (cur ++ Oc.be x j = l ++ Oc.be x m) ∧ Bld 43 B b cur wr ∧ Kept B b w wr) (fun v _ => (intOf v + 1).toNat)
  case atStart => exact ⟨m, l, Nat.le_refl _, rfl, rfl, h, Kept.refl _ _ _⟩
  case round =>
    obtain ⟨j, cur, hj, rfl, HC, hb, hk⟩ := hrel
    have hcl : cur.length + j ≤ l.length + 8 := by
      have := congrArg List.length HC.out
      simp only [List.length_append, Oc.be_length] at this
      omega
    cases j with
    | zero =>
      go_wp2
      go_ret
      refine ⟨rfl, ?_, hk⟩
      have := HC.out
      simp only [Oc.be, List.append_nil] at this
      rw [← this]
      exact hb
    | succ j =>
      rw [show ((j + 1 : Nat) : Int) - 1 = (j : Int) by omega]
      have hs0 : (0 : Int) ≤ 8 * (j : Int) := by omega
      have hw8 : IntKind.i64.wrap (8 * (j : Int)) = 8 * (j : Int) := by rw [IntKind.wrap_i64]; omega
      obtain ⟨c, HCC, hv⟩ : ∃ c : UInt8, Hid (c = UInt8.ofNat (x / 2 ^ (8 * j) % 256)) ∧ IntKind.u8.wrap ((x : Int) / 2 ^ (8 * (j : Int)).toNat) = (c.toNat : Int) := ⟨_, rfl, by
        rw [IntKind.wrap_u8', UInt8.toNat_ofNat', Nat.mod_mod, show (8 * (j : Int)).toNat = 8 * j by omega]; rfl⟩
      go_wp2
      go_region_with (go_at_call 29; refine (writeByte _ bt_out B b cur c _ hb.drew (by omega)).mono ?_; rintro e w2 ⟨rfl, hb2, hk2⟩)
      go_wp2
      go_roundw
      case rel =>
        refine ⟨j, cur ++ [c], by omega, rfl, ?_, hb2, hk.trans (Kept.trans ⟨(Below.refl _ _).drew, (Lib.OthersKept.refl _ _ _).drew⟩ hk2)⟩
        have := HC.out
        show cur ++ [c] ++ Oc.be x j = _
        rw [← this, HCC.out, List.append_assoc]
        rfl
      case measure => simp [intOf]

set_option maxHeartbeats 800000 in
set_option maxRecDepth 100000 in
theorem outRaw (B b : Nat) (l : List UInt8) (s : ByteArray) (w : World) (h : Bld 43 B b l w) (hlen : l.length + s.size ≤ 140737488355328) :
    Calls Tryd.prog 21 #[self b, .string s] w fun e w' => e = .returned (self b) ∧ (Bld 43 B b (l ++ s.data.toList) w' ∧ Kept B b w w') := by
  go_enter Tryd.func21, Tryd.ntmps21
  go_wp2_with (go_at_call 34; refine (writeString _ bt_out B b l s _ h hlen).mono ?_; rintro e w2 ⟨rfl, hb2, hk2⟩)
  go_ret
  exact ⟨rfl, hb2, hk2⟩

set_option maxHeartbeats 800000 in
set_option maxRecDepth 100000 in
theorem outBytes (B b : Nat) (l : List UInt8) (w : World) (h : Bld 43 B b l w) :
    Calls Tryd.prog 14 #[self b] w fun e w' => e = .returned (.string ⟨l.toArray⟩) ∧ (Bld 43 B b l w' ∧ Kept B b w w') := by
  go_enter Tryd.func14, Tryd.ntmps14
  go_wp2_with (go_at_call 31; refine (bldString _ bt_out B b l _ h).mono ?_; rintro e w2 ⟨rfl, hb2, hk2⟩)
  go_ret
  exact ⟨rfl, hb2, hk2⟩

set_option maxHeartbeats 800000 in
set_option maxRecDepth 100000 in
theorem outText (B b : Nat) (l : List UInt8) (s : ByteArray) (w : World) (h : Bld 43 B b l w) (hlen : l.length + 70000 ≤ 140737488355328) (hs : s.size ≤ maxLen) :
    Calls Tryd.prog 19 #[self b, .string s] w fun e w' => e = .returned (self b) ∧ (Bld 43 B b (l ++ Oc.text s.data.toList) w' ∧ Kept B b w w') := by
  unfold maxLen at hs
  obtain ⟨m, hm, hm1, hm2⟩ : ∃ m : Nat, min (s.size : Int) 65535 = (m : Int) ∧ m ≤ s.size ∧ m ≤ 65535 := ⟨min s.size 65535, by omega, by omega, by omega⟩
  have HM : Hid (m = min s.size 65535) := by show m = _; omega
  have hm3 : (m : Int) ≤ (s.size : Int) := by omega
  go_enter Tryd.func19, Tryd.ntmps19
  go_wp2_with fail
  refine (outNum B b l m 2 _ h (by omega) (by omega)).mono ?_
  rintro e w1 ⟨rfl, hb1, hk1⟩
  have hsz : (s.extract 0 m).size = m := by simp; omega
  go_wp2_with (go_at_call 21; refine (outRaw B b _ (s.extract 0 m) _ hb1 (by rw [List.length_append, Oc.be_length, hsz]; have := Oc.clamp_le 2; omega)).mono ?_; rintro e w2 ⟨rfl, hb2, hk2⟩)
  go_ret
  refine ⟨rfl, ?_, hk1.trans hk2⟩
  have e1 : (s.extract 0 m).data.toList = s.data.toList.take 65535 := by
    rw [ByteArray.data_extract]
    have hl : s.data.toList.length = s.size := by simp
    rw [Array.toList_extract, List.extract_eq_take_drop, HM.out, Nat.sub_zero, List.drop_zero, Nat.min_comm, ← hl]
    exact (List.take_eq_take_min (i := 65535)).symm
  have e2 : (s.data.toList.take 65535).length = m := by
    rw [← e1]; simpa using hsz
  unfold Oc.text
  rw [e1, List.append_assoc] at hb2
  rw [e2]
  exact hb2

end Go.Proofs.YtecjailgiknfcaaDoor

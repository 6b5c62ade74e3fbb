/-
  The walks through octet.Hex and octet.Unhex.
-/
import Derived.Test.YtecjailgiknfcaaOctet1
import Derived.Test.YtecjailgiknfcaaIndexByte
import Derived.Deep.QuietTactic
import Derived.BigQuiet
set_option linter.unusedVariables false
namespace Go.Proofs.Ytecjailgiknfcaa
open Go.RowKit

theorem take_byte (s : ByteArray) (k : Nat) (h : k < s.size) : s.data.toList.take (k + 1) = s.data.toList.take k ++ [s[k]] := by
  rw [List.take_succ_eq_append_getElem (by simpa using h)]; rfl

theorem belowN {B : Nat} {a w : World} (h : Below B a w) (n : Nat) : Below B a (w.drewN n) := ⟨h.os, h.tape, h.output, h.size, h.block⟩

set_option maxHeartbeats 800000 in
set_option maxRecDepth 100000 in
theorem hex_any (s : ByteArray) (w : World) (hs : s.size ≤ 1000000) :
    Calls Try.prog 23 #[.string s] w fun e w' => e = .returned (.string ⟨(Oc.hexOf s.data.toList).toArray⟩) ∧ Below w.heap.size w w' := by
  go_enter Try.func23, Try.ntmps23
  go_wp2
  have hb0 : Bld 82 w.heap.size w.heap.size [] (w.alloc (Obj.cells #[Value.pointer none, Value.slice none 0 0] 82)) := Lib.IsBuilderF.of (Lib.fresh_isBuilder _ _ w)
  have hB0 : Below w.heap.size w (w.alloc (Obj.cells #[Value.pointer none, Value.slice none 0 0] 82)) := (Below.refl _ _).alloc (Nat.le_refl _) _
  obtain ⟨B, hB⟩ : ∃ B, B = w.heap.size := ⟨_, rfl⟩
  rw [← hB] at hb0 hB0 ⊢
  have HB := Lib.hid hB
  clear hB
  generalize w.alloc (Obj.cells #[Value.pointer none, Value.slice none 0 0] 82) = W at *
  go_loopw [7] (fun i wr => ∃ k : Nat, k ≤ s.size ∧ i = .int .i64 k ∧ Bld 82 B B (Oc.hexOf (s.data.toList.take k)) wr ∧ Below B w wr) (fun i _ => s.size - (intOf i).toNat)
  case atStart => exact ⟨0, Nat.zero_le _, rfl, hb0, hB0⟩
  case round =>
    clear hb0 hB0 W
    obtain ⟨k, hk, rfl, hb, hB⟩ := hrel
    have hlen : (Oc.hexOf (s.data.toList.take k)).length ≤ 2 * k := by
      rw [Oc.hexOf_length, List.length_take]; omega
    by_cases hlt : k < s.size
    · have HT := Lib.hid (take_byte s k hlt)
      generalize s.data.toList.take k = cur at *
      have hc : (s[k].toNat : Int) / 16 < 16 := by have := s[k].toNat_lt; omega
      have hand : bits .and .u8 (s[k].toNat : Int) 15 = ((s[k].toNat % 16 : Nat) : Int) := by
        have h := u8_and_nat s[k].toNat 15 s[k].toNat_lt (by omega)
        rw [nat_mask4] at h
        exact h
      have hc2 : ((s[k].toNat % 16 : Nat) : Int) < 16 := by omega
      go_wp2_with fail
      refine (writeByte _ bt_self B B _ _ _ hb (by omega)).mono ?_
      rintro e w2 ⟨rfl, hb2, hk2⟩
      have e1 : ({ data := #[48, 49, 50, 51, 52, 53, 54, 55, 56, 57, 97, 98, 99, 100, 101, 102] } : ByteArray)[s[k].toNat / 16]'(by show _ < 16; have := s[k].toNat_lt; omega) = Oc.digit (s[k].toNat / 16) := Oc.digits_get _ (by have := s[k].toNat_lt; omega)
      rw [e1] at hb2
      clear e1
      go_wp2_with fail
      refine (writeByte _ bt_self B B _ _ _ hb2 (by rw [List.length_append]; simp only [List.length_cons, List.length_nil]; omega)).mono ?_
      rintro e w3 ⟨rfl, hb3, hk3⟩
      have e1 : ({ data := #[48, 49, 50, 51, 52, 53, 54, 55, 56, 57, 97, 98, 99, 100, 101, 102] } : ByteArray)[s[k].toNat % 16]'(by show _ < 16; omega) = Oc.digit (s[k].toNat % 16) := Oc.digits_get _ (by omega)
      rw [e1] at hb3
      clear e1
      go_wp2_with fail
      go_roundw
      case rel =>
        refine ⟨k + 1, by omega, by go_num, ?_, (hB.trans hk2.1).trans hk3.1⟩
        rw [HT.out, Oc.hexOf_snoc]
        exact hb3
      case measure => simp [intOf]; omega
    · obtain rfl : k = s.size := by omega
      go_wp2_with (go_at_call 54; refine (bldString _ bt_self B B _ _ hb).mono ?_; rintro e w2 ⟨rfl, hb2, hk2⟩)
      go_ret
      refine ⟨?_, by rw [← HB.out]; exact hB.trans hk2.1⟩
      rw [List.take_of_length_le (by simp)]
      rfl

theorem nib_or (x y : Nat) (hx : x < 16) (hy : y < 16) : bits .or .i64 ((x : Int) * 16) (y : Int) = ((16 * x + y : Nat) : Int) := by
  have h : ∀ x y : Fin 16, bits .or .i64 ((x.val : Int) * 16) (y.val : Int) = ((16 * x.val + y.val : Nat) : Int) := by decide +kernel
  exact h ⟨x, hx⟩ ⟨y, hy⟩

/-- Which of the digits a byte is; -1: none. -/
def ix (c : UInt8) : Int := Lib.indexByte Oc.digits.data.toList c
theorem ix_any (c : UInt8) (w : World) : Calls Try.prog 52 #[.string { data := #[48, 49, 50, 51, 52, 53, 54, 55, 56, 57, 97, 98, 99, 100, 101, 102] }, .int .u8 (c.toNat : Int)] w fun e w' => e = .returned (.int .i64 (ix c)) ∧ w' = w :=
  indexByte_any Oc.digits c w

set_option maxHeartbeats 800000 in
set_option maxRecDepth 100000 in
theorem unhex_any (s : ByteArray) (w : World) (hs : s.size ≤ 1000000) :
    Calls Try.prog 22 #[.string s] w fun e w' => e = .returned (.tuple #[.string ⟨((Oc.unhex s.data.toList).getD []).toArray⟩, .bool (Oc.unhex s.data.toList).isSome]) ∧ Below w.heap.size w w' := by
  go_enter Try.func22, Try.ntmps22
  go_wp2
  have hb0 : Bld 82 w.heap.size w.heap.size [] (w.alloc (Obj.cells #[Value.pointer none, Value.slice none 0 0] 82)) := Lib.IsBuilderF.of (Lib.fresh_isBuilder _ _ w)
  have hB0 : Below w.heap.size w (w.alloc (Obj.cells #[Value.pointer none, Value.slice none 0 0] 82)) := (Below.refl _ _).alloc (Nat.le_refl _) _
  obtain ⟨B, hB⟩ : ∃ B, B = w.heap.size := ⟨_, rfl⟩
  rw [← hB] at hb0 hB0 ⊢
  have HB := Lib.hid hB
  clear hB
  generalize w.alloc (Obj.cells #[Value.pointer none, Value.slice none 0 0] 82) = W at *
  go_loopw [5] (fun i wr => ∃ (p : Nat) (cur : List UInt8), p ≤ s.size ∧ i = .int .i64 p ∧ Hid (p = 2 * cur.length) ∧ Hid (Oc.unhex s.data.toList = (Oc.unhex (s.data.toList.drop p)).map (cur ++ ·)) ∧ Bld 82 B B cur wr ∧ Below B w wr) (fun i _ => s.size - (intOf i).toNat)
  case atStart => exact ⟨0, [], Nat.zero_le _, rfl, rfl, by simp [Hid], hb0, hB0⟩
  case round =>
    clear hb0 hB0 W
    obtain ⟨p, cur, hk, rfl, HP, HU, hb, hB⟩ := hrel
    have hlen : cur.length + 1 ≤ 140737488355328 := by have := HP.out; omega
    by_cases hlt : p + 1 < s.size
    · have HD : Hid (s.data.toList.drop p = s[p] :: s[p + 1] :: s.data.toList.drop (p + 2)) := by
        have h1 : p < s.data.toList.length := by simpa using (show p < s.size by omega)
        have h2 : p + 1 < s.data.toList.length := by simpa using hlt
        show _ = _
        rw [List.drop_eq_getElem_cons h1, List.drop_eq_getElem_cons h2]
        rfl
      have p0 : (0 : Int) ≤ (p : Int) := by omega
      have p1 : (p : Int) < (s.size : Int) := by omega
      have p2 : (p : Int) + 1 < (s.size : Int) := by omega
      have p3 : IntKind.i64.wrap ((p : Int) + 1) = (p : Int) + 1 := by rw [IntKind.wrap_i64]; omega
      have p4 : ((p : Int) + 1).toNat = p + 1 := by omega
      have p5 : (0 : Int) ≤ (p : Int) + 1 := by omega
      rcases Oc.nib_spec s[p] with ⟨ha, na, _⟩ | ⟨x, hx, ha, na, _⟩
      · have HA : Hid (Oc.nib s[p] = none) := na
        have hia : ix s[p] = -1 := ha
        clear ha na
        have hend : Oc.unhex s.data.toList = none := by
          rw [HU.out, HD.out, Oc.unhex, HA.out]
          rfl
        have HE := Lib.hid hend
        clear hend
        go_wp2
        go_quiet ((go_at_call 52; exact Calls.quiet_of_same (ix_any _ _)))
        go_wp2
        go_ret2
        rw [HE.out]
        exact ⟨rfl, by rw [← HB.out]; exact belowN hB _⟩
      · rcases Oc.nib_spec s[p + 1] with ⟨hb', nb, _⟩ | ⟨y, hy, hb', nb, _⟩
        · have hia : ix s[p] = (x : Int) := ha
          have hib : ix s[p + 1] = -1 := hb'
          have hend : Oc.unhex s.data.toList = none := by
            rw [HU.out, HD.out, Oc.unhex, na, nb]
            rfl
          have HE := Lib.hid hend
          clear hend ha hb' na nb
          go_wp2
          go_quiet ((go_at_call 52; exact Calls.quiet_of_same (ix_any _ _)))
          go_wp2
          go_ret2
          rw [HE.out]
          exact ⟨rfl, by rw [← HB.out]; exact belowN hB _⟩
        · have hia : ix s[p] = (x : Int) := ha
          have hib : ix s[p + 1] = (y : Int) := hb'
          have hor := nib_or x y hx hy
          obtain ⟨c, HC, hc⟩ : ∃ c : UInt8, Hid (c = UInt8.ofNat (16 * x + y)) ∧ 16 * (x : Int) + (y : Int) = (c.toNat : Int) := ⟨_, rfl, by
            rw [UInt8.toNat_ofNat']; omega⟩
          have hu : Oc.unhex s.data.toList = (Oc.unhex (s.data.toList.drop (p + 2))).map ((cur ++ [c]) ++ ·) := by
            rw [HU.out, HD.out, Oc.unhex, na, nb, HC.out]
            simp only [Option.map_map]
            congr 1
            funext z
            simp
          have HE := Lib.hid hu
          clear hu ha hb' na nb
          have HCC := Lib.hid hc
          clear hc
          go_wp2
          go_quiet ((go_at_call 52; exact Calls.quiet_of_same (ix_any _ _)))
          go_wp2_with fail
          rw [HCC.out]
          refine (writeByte _ bt_self B B _ c _ (hb.drewN nq) hlen).mono ?_
          rintro e w2 ⟨rfl, hb2, hk2⟩
          go_wp2_with fail
          go_roundw
          case rel =>
            refine ⟨p + 2, cur ++ [c], by omega, by go_num, ?_, HE, hb2, (belowN hB nq).trans hk2.1⟩
            show _ = _
            rw [List.length_append, HP.out]
            simp
            omega
          case measure => simp [intOf]; omega
    · by_cases hev : p = s.size
      · have he : ((s.size : Int) % 2 != 0) = false := by
          rw [bne_eq_false_iff_eq]
          have := HP.out
          omega
        have hend : Oc.unhex s.data.toList = some cur := by
          rw [HU.out, List.drop_of_length_le (by simp; omega)]
          simp [Oc.unhex]
        have HE := Lib.hid hend
        clear hend hev
        go_wp2_with (go_at_call 54; refine (bldString _ bt_self B B _ _ hb).mono ?_; rintro e w2 ⟨rfl, hb2, hk2⟩)
        go_ret2
        rw [HE.out]
        exact ⟨rfl, by rw [← HB.out]; exact hB.trans hk2.1⟩
      · have he : ((s.size : Int) % 2 != 0) = true := by
          rw [bne_iff_ne]
          have := HP.out
          omega
        have hend : Oc.unhex s.data.toList = none := by
          have hl : (s.data.toList.drop p).length = 1 := by rw [List.length_drop]; have : s.data.toList.length = s.size := by simp
                                                            omega
          rw [HU.out]
          obtain ⟨q, hq⟩ := List.length_eq_one_iff.1 hl
          rw [hq]
          rfl
        have HE := Lib.hid hend
        clear hend hev
        go_wp2
        go_ret2
        rw [HE.out]
        exact ⟨rfl, by rw [← HB.out]; exact hB⟩

end Go.Proofs.Ytecjailgiknfcaa

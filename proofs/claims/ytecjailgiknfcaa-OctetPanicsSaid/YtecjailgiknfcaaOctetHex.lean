/-
  The walk of the statement OctetHex.
-/
import Derived.Test.YtecjailgiknfcaaOctet2
import Derived.Test.YtecjailgiknfcaaCut
set_option linter.unusedVariables false
namespace Go.Proofs.Ytecjailgiknfcaa
open Go.RowKit

set_option maxRecDepth 100000 in
set_option maxHeartbeats 800000 in
theorem octet_awake (w : World) : Calls Try.prog 21 #[] w fun e w' => e = .returned (.bool true) ∧ Below w.heap.size w w' := by
  go_enter Try.func21, Try.ntmps21
  go_wp2_with fail
  have hb0 : Bld 84 w.heap.size w.heap.size [] (w.alloc (Obj.cells #[Value.pointer none, Value.slice none 0 0] 84)) := Lib.IsBuilderF.of (Lib.fresh_isBuilder _ _ w)
  have hB0 : Below w.heap.size w (w.alloc (Obj.cells #[Value.pointer none, Value.slice none 0 0] 84)) := (Below.refl _ _).alloc (Nat.le_refl _) _
  refine (outNum w.heap.size w.heap.size [] 258 2 _ hb0 (by simp) (by omega)).mono ?_
  rintro e w1 ⟨rfl, hb1, hk1⟩
  go_wp2_with fail
  refine (outText w.heap.size w.heap.size _ ⟨#[97]⟩ _ hb1 (by decide) (by decide)).mono ?_
  rintro e w2 ⟨rfl, hb2, hk2⟩
  go_wp2_with fail
  refine (outBytes w.heap.size w.heap.size _ _ hb2).mono ?_
  rintro e w3 ⟨he, hb3, hk3⟩
  have e1 : (⟨([] ++ Oc.be 258 (Oc.clamp 2) ++ Oc.text (⟨#[97]⟩ : ByteArray).data.toList).toArray⟩ : ByteArray) = ⟨#[1, 2, 0, 1, 97]⟩ := by decide
  rw [e1] at he
  subst he
  go_wp2
  go_ret
  exact ⟨rfl, hB0.trans (hk1.1.trans (hk2.1.trans hk3.1))⟩

/-- A digit's bytes, as the statement writes them. -/
theorem digit_low (d : Nat) (h : d < 10) : (48 : Int) + (d : Int) = ((Oc.digit d).toNat : Int) := by
  unfold Oc.digit
  rw [if_pos h, UInt8.toNat_ofNat']
  omega
theorem digit_high (d : Nat) (h : ¬ d < 10) (h' : d < 16) : (97 : Int) + (d : Int) - 10 = ((Oc.digit d).toNat : Int) := by
  unfold Oc.digit
  rw [if_neg h, UInt8.toNat_ofNat']
  omega

/-- Where the inner loop stands. -/
def HexIn (cur : List UInt8) (x y : Nat) (j : Nat) (v : Value) : Prop := ∃ t : ByteArray, v = .string t ∧ t.data.toList = Oc.hexOf cur ++ [Oc.digit x, Oc.digit y].take j
def HexOut (l : List UInt8) (k : Nat) (v : Value) : Prop := ∃ t : ByteArray, v = .string t ∧ t.data.toList = Oc.hexOf (l.take k)

set_option maxRecDepth 100000 in
set_option maxHeartbeats 2000000 in
theorem octetHex_any (s0 t0 : ByteArray) (w : World) (hs0 : s0.size ≤ maxLen) (ht0 : t0.size ≤ maxLen) :
    Calls Try.prog 8 #[.string s0, .string t0] w fun e w' => e = .returned (.bool true) ∧ Below w.heap.size w w' := by
  go_enter Try.func8, Try.ntmps8
  go_wp2_with fail
  refine (octet_awake _).mono ?_
  rintro e w1 ⟨rfl, hB⟩
  go_wp2_with fail
  refine (cutStr s0 60 _ hs0).mono ?_
  rintro e w2 ⟨rfl, rfl⟩
  go_wp2_with fail
  refine (cutStr t0 60 _ ht0).mono ?_
  rintro e w2 ⟨rfl, rfl⟩
  have hs : (s0.extract 0 60).size ≤ 60 := by simp; omega
  have ht : (t0.extract 0 60).size ≤ 60 := by simp; omega
  generalize s0.extract 0 60 = s at *
  generalize t0.extract 0 60 = t at *
  clear hs0 ht0
  go_wp2
  go_loopw [5, 21] (fun v i wr => ∃ k : Nat, k ≤ s.size ∧ i = .int .i64 k ∧ HexOut s.data.toList k v ∧ Below w.heap.size w wr) (fun _ i _ => s.size - (intOf i).toNat)
  case atStart => exact ⟨0, Nat.zero_le _, rfl, ⟨_, rfl, rfl⟩, hB⟩
  case round =>
    clear hB w1
    obtain ⟨k, hk, rfl, ⟨wt, rfl, hwt⟩, hB⟩ := hrel
    have HW := Lib.hid hwt
    clear hwt
    by_cases hlt : k < s.size
    · obtain ⟨x, y, hx, hy, hqx, hry, HX, HY⟩ : ∃ x y : Nat, x < 16 ∧ y < 16 ∧ (s[k].toNat : Int) / 16 = (x : Int) ∧ (s[k].toNat : Int) % 16 = (y : Int) ∧ Hid (s[k].toNat / 16 = x) ∧ Hid (s[k].toNat % 16 = y) := by
        have := s[k].toNat_lt
        exact ⟨s[k].toNat / 16, s[k].toNat % 16, by omega, by omega, by omega, by omega, rfl, rfl⟩
      have k0 : (0 : Int) ≤ (k : Int) := by omega
      have k1 : (k : Int) < (s.size : Int) := by omega
      have HT := Lib.hid (take_byte s k hlt)
      have hcur : (s.data.toList.take k).length ≤ 60 := by rw [List.length_take]; omega
      generalize s.data.toList.take k = cur at *
      go_wp2
      go_region
      go_wp2
      have hx0 : (wr.alloc (Obj.cells #[Value.int .u8 (x : Int), Value.int .u8 (y : Int)] 5)).drew.cell? ⟨wr.heap.size, 0, none⟩ = some (.int .u8 (x : Int)) := by simp
      have hy0 : (wr.alloc (Obj.cells #[Value.int .u8 (x : Int), Value.int .u8 (y : Int)] 5)).drew.cell? ⟨wr.heap.size, 1, none⟩ = some (.int .u8 (y : Int)) := by simp
      have hB1 : Below w.heap.size w (wr.alloc (Obj.cells #[Value.int .u8 (x : Int), Value.int .u8 (y : Int)] 5)).drew := (hB.alloc hB.size _).drew
      have hgl : wr.heap.size < (wr.alloc (Obj.cells #[Value.int .u8 (x : Int), Value.int .u8 (y : Int)] 5)).drew.heap.size := by simp
      obtain ⟨g, hg⟩ : ∃ g, g = wr.heap.size := ⟨_, rfl⟩
      rw [← hg] at hx0 hy0 hgl ⊢
      clear hg
      generalize (wr.alloc (Obj.cells #[Value.int .u8 (x : Int), Value.int .u8 (y : Int)] 5)).drew = W at *
      clear hB wr
      go_loopw [5, 34] (fun v i wx => ∃ j : Nat, j ≤ 2 ∧ i = .int .i64 j ∧ HexIn cur x y j v ∧ Below W.heap.size W wx) (fun _ i _ => 2 - (intOf i).toNat)
      case atStart => exact ⟨0, by omega, rfl, ⟨wt, rfl, by rw [HW.out]; simp⟩, Below.refl _ _⟩
      case round =>
        obtain ⟨j, hj, rfl, ⟨tx, rfl, htx⟩, hBx⟩ := hrel
        have htsz : tx.size ≤ 122 := by
          have h1 := congrArg List.length htx
          have h2 : tx.data.toList.length = tx.size := by simp
          rw [h2, List.length_append, Oc.hexOf_length, List.length_take] at h1
          simp only [List.length_cons, List.length_nil] at h1
          omega
        have HTX := Lib.hid htx
        clear htx
        by_cases hj2 : j < 2
        · obtain ⟨d, hd, hcell, HD⟩ : ∃ d : Nat, d < 16 ∧ wr.cell? ⟨g, j, none⟩ = some (.int .u8 (d : Int)) ∧ Hid ([Oc.digit x, Oc.digit y].take (j + 1) = [Oc.digit x, Oc.digit y].take j ++ [Oc.digit d]) := by
            match j, hj2 with
            | 0, _ => exact ⟨x, hx, by rw [hBx.cell (p := ⟨g, 0, none⟩) hgl]; exact hx0, rfl⟩
            | 1, _ => exact ⟨y, hy, by rw [hBx.cell (p := ⟨g, 1, none⟩) hgl]; exact hy0, rfl⟩
          have hconv : ∀ (b : Nat) (w' : World), w'.cell? ⟨b, 0, none⟩ = some (.int .u8 ((Oc.digit d).toNat : Int)) → (convert 29 9 (.slice (some ⟨b, 0, none⟩) 1 1)).run Try.prog w' = .ok (.string ⟨#[Oc.digit d]⟩) w' := fun b w' h => conv_one (Oc.digit d) b 1 w' h
          obtain ⟨c, HC⟩ : ∃ c : UInt8, Hid (Oc.digit d = c) := ⟨_, rfl⟩
          rw [HC.out] at hconv HD
          clear hx0 hy0
          by_cases h10 : d < 10
          · have hlow := digit_low d h10
            rw [HC.out] at hlow
            have hlowU : IntKind.u8.wrap ((48 : Int) + (d : Int)) = (c.toNat : Int) := by rw [IntKind.wrap_u8', ← hlow]; omega
            go_wp2
            go_roundw
            case rel =>
              refine ⟨j + 1, by omega, by go_num, ⟨tx ++ ⟨#[c]⟩, rfl, ?_⟩, hBx.alloc hBx.size _⟩
              rw [HD.out, ← List.append_assoc, ← HTX.out]
              simp
            case measure => simp [intOf]; omega
          · have hhigh := digit_high d h10 hd
            rw [HC.out] at hhigh
            go_wp2
            go_roundw
            case rel =>
              refine ⟨j + 1, by omega, by go_num, ⟨tx ++ ⟨#[c]⟩, rfl, ?_⟩, hBx.alloc hBx.size _⟩
              rw [HD.out, ← List.append_assoc, ← HTX.out]
              simp
            case measure => simp [intOf]; omega
        · obtain rfl : j = 2 := by omega
          go_wp2
          go_roundw
          case rel =>
            refine ⟨k + 1, by omega, by go_num, ⟨tx, rfl, ?_⟩, hB1.trans (hBx.mono hB1.size)⟩
            rw [HTX.out, HT.out, Oc.hexOf_snoc, HX.out, HY.out]
            simp
          case measure => simp [intOf]; omega
    · obtain rfl : k = s.size := by omega
      rw [List.take_of_length_le (by simp)] at HW
      have hwt : wt = ⟨(Oc.hexOf s.data.toList).toArray⟩ := by
        apply ByteArray.ext
        apply Array.ext'
        rw [HW.out]
      have HWT := Lib.hid hwt
      clear hwt
      have hus : Oc.unhex wt.data.toList = some s.data.toList := by rw [HW.out]; exact Oc.unhex_hex _
      have hhl : wt.size ≤ 1000000 := by
        have h1 := congrArg List.length HW.out
        have h2 : s.data.toList.length = s.size := by simp
        have h3 : wt.data.toList.length = wt.size := by simp
        rw [Oc.hexOf_length] at h1; omega
      have HUS := Lib.hid hus
      clear hus
      go_wp2_with fail
      refine (hex_any s _ (by omega)).mono ?_
      rintro e w2 ⟨rfl, hB2⟩
      rw [← HWT.out]
      go_wp2_with fail
      refine (unhex_any wt _ hhl).mono ?_
      rintro e w3 ⟨he, hB3⟩
      rw [HUS.out] at he
      have e1 : (⟨((some s.data.toList).getD []).toArray⟩ : ByteArray) = s := by apply ByteArray.ext; simp
      rw [e1] at he
      simp only [Option.isSome_some] at he
      subst he
      have hB4 : Below w.heap.size w w3 := (hB.trans (hB2.mono hB.size)).trans (hB3.mono (Nat.le_trans hB.size hB2.size))
      clear hB hB2 hB3 e1
      go_wp2_with fail
      refine (hex_any s _ (by omega)).mono ?_
      rintro e w5 ⟨rfl, hB2⟩
      rw [← HWT.out]
      have hB5 : Below w.heap.size w w5 := hB4.trans (hB2.mono hB4.size)
      clear hB2 hB4
      go_wp2_with fail
      refine (unhex_any t _ (by omega)).mono ?_
      rintro e w6 ⟨rfl, hB2⟩
      have hB6 : Below w.heap.size w w6 := hB5.trans (hB2.mono hB5.size)
      clear hB2 hB5
      cases hu : Oc.unhex t.data.toList with
      | none =>
        simp only [Option.getD_none, Option.isSome_none]
        go_wp2
        go_ret
        exact ⟨rfl, hB6⟩
      | some z =>
        simp only [Option.getD_some, Option.isSome_some]
        have hz := Oc.hex_unhex _ _ _ (Nat.le_refl _) hu
        have hzl : (⟨z.toArray⟩ : ByteArray).size ≤ 1000000 := by
          have h1 := congrArg List.length hz
          have h2 : t.data.toList.length = t.size := by simp
          rw [Oc.hexOf_length] at h1
          show z.toArray.size ≤ _
          rw [List.size_toArray]; omega
        have hzt : (⟨(Oc.hexOf (⟨z.toArray⟩ : ByteArray).data.toList).toArray⟩ : ByteArray) = t := by
          apply ByteArray.ext
          apply Array.ext'
          exact hz
        have HZT := Lib.hid hzt
        clear hz hu hzt
        go_wp2_with fail
        refine (hex_any ⟨z.toArray⟩ _ hzl).mono ?_
        rintro e w7 ⟨rfl, hB2⟩
        rw [HZT.out]
        go_wp2
        go_ret
        exact ⟨rfl, hB6.trans (hB2.mono hB6.size)⟩

end Go.Proofs.Ytecjailgiknfcaa

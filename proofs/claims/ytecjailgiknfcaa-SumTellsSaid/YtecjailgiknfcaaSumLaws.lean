/-
  The walks of the statements of layer 2 (sum).
-/
import Derived.Test.YtecjailgiknfcaaSumWalks
import Derived.Deep.DeepCutAuto
import Derived.Deep.CutBlock
namespace Go.Proofs.Ytecjailgiknfcaa
open Go.RowKit

theorem of_one (b cap : Nat) (s : ByteArray) (w : World) (hs : s.size ≤ maxLen) (hb : b < w.heap.size) (hc : w.cell? ⟨b, 0, none⟩ = some (.string s)) :
    Calls Try.prog 18 #[.slice (some ⟨b, 0, none⟩) 1 cap] w fun e w' => e = .returned (.int .u32 ((Sm.crc s.data.toList).toNat : Int)) ∧ Below w.heap.size w w' := by
  have h := of_some b cap [s] w hb (by simp [maxLen]) (by simpa using hs) (fun j h => by
    obtain rfl : j = 0 := by simpa using h
    exact hc)
  simpa [flat] using h
theorem of_two (b cap : Nat) (s t : ByteArray) (w : World) (hs : s.size ≤ maxLen) (ht : t.size ≤ maxLen) (hb : b < w.heap.size) (hc : w.cell? ⟨b, 0, none⟩ = some (.string s)) (hc' : w.cell? ⟨b, 1, none⟩ = some (.string t)) :
    Calls Try.prog 18 #[.slice (some ⟨b, 0, none⟩) 2 cap] w fun e w' => e = .returned (.int .u32 ((Sm.crc (s.data.toList ++ t.data.toList)).toNat : Int)) ∧ Below w.heap.size w w' := by
  have h := of_some b cap [s, t] w hb (by simp [maxLen]) (by simp; exact ⟨hs, ht⟩) (fun j h => by
    match j, h with
    | 0, _ => exact hc
    | 1, _ => exact hc')
  simpa [flat] using h
theorem of_three (b cap : Nat) (s t u : ByteArray) (w : World) (hs : s.size ≤ maxLen) (ht : t.size ≤ maxLen) (hu : u.size ≤ maxLen) (hb : b < w.heap.size) (hc : w.cell? ⟨b, 0, none⟩ = some (.string s)) (hc' : w.cell? ⟨b, 1, none⟩ = some (.string t)) (hc'' : w.cell? ⟨b, 2, none⟩ = some (.string u)) :
    Calls Try.prog 18 #[.slice (some ⟨b, 0, none⟩) 3 cap] w fun e w' => e = .returned (.int .u32 ((Sm.crc (s.data.toList ++ t.data.toList ++ u.data.toList)).toNat : Int)) ∧ Below w.heap.size w w' := by
  have h := of_some b cap [s, t, u] w hb (by simp [maxLen]) (by simp; exact ⟨hs, ht, hu⟩) (fun j h => by
    match j, h with
    | 0, _ => exact hc
    | 1, _ => exact hc'
    | 2, _ => exact hc'')
  simpa [flat, List.append_assoc] using h

def nine : ByteArray := ⟨#[49, 50, 51, 52, 53, 54, 55, 56, 57]⟩
theorem crc_nine : ((Sm.crc nine.data.toList).toNat : Int) = 3808858755 := by decide +kernel

set_option maxRecDepth 100000 in
set_option maxHeartbeats 1000000 in
theorem sum_awake (w : World) : Calls Try.prog 14 #[] w fun e w' => e = .returned (.bool true) ∧ Below w.heap.size w w' := by
  go_enter Try.func14, Try.ntmps14
  go_wp2_with fail
  refine (of_one w.heap.size 1 nine _ (by decide) (by simp) (by simp [nine])).mono ?_
  rintro e w1 ⟨rfl, hB⟩
  rw [crc_nine]
  have hB' : Below w.heap.size w w1 := ((Below.refl _ _).alloc (Nat.le_refl _) _).trans (hB.mono (by simp))
  clear hB
  go_wp2_with fail
  refine (of_none _).mono ?_
  rintro e w2 ⟨rfl, hB⟩
  have hB2 : Below w.heap.size w w2 := hB'.trans (hB.mono hB'.size)
  clear hB hB'
  go_wp2
  go_ret
  exact ⟨rfl, hB2⟩

/-! SumIs -/
theorem crc_append (s : ByteArray) (k : Nat) : (s.extract 0 k).data.toList ++ (s.extract k s.size).data.toList = s.data.toList := by
  rw [ByteArray.data_extract, ByteArray.data_extract]
  simp [List.extract_eq_take_drop]
  rw [List.take_of_length_le (l := List.drop k s.data.toList) (by simp), List.take_append_drop]

set_option maxRecDepth 100000 in
set_option maxHeartbeats 2000000 in
theorem sumIs_any (s : ByteArray) (cut : Int) (w : World) (hs : s.size ≤ maxLen) :
    Calls Try.prog 7 #[.string s, .int .i64 cut] w fun e w' => e = .returned (.bool true) ∧ Below w.heap.size w w' := by
  go_enter Try.func7, Try.ntmps7
  go_upto_region 4 with (first | (go_at_call 14; refine (sum_awake _).mono ?_; rintro e w1 ⟨rfl, hB⟩) | (go_at_call 17; refine (cut_any s 200 _ hs).mono ?_; rintro e w2 ⟨rfl, rfl⟩))
  have ht : (s.extract 0 200).size ≤ 200 := by simp; omega
  generalize s.extract 0 200 = t at *
  clear hs
  go_cut [5] (fun v wx => wx = w1 ∧ ∃ k : Nat, k ≤ t.size ∧ v = .int .i64 k)
  case first =>
    by_cases h1 : cut ≤ 0
    · go_wp2
      all_goals (go_meet; exact ⟨rfl, 0, by omega, by go_num⟩)
    · by_cases h2 : (t.size : Int) < cut
      · go_wp2
        all_goals (go_meet; exact ⟨rfl, t.size, by omega, by go_num⟩)
      · obtain ⟨k, rfl⟩ := Int.eq_ofNat_of_zero_le (show 0 ≤ cut by omega)
        go_wp2
        all_goals (go_meet; exact ⟨rfl, k, by omega, by go_num⟩)
  case rest =>
    obtain ⟨rfl, k, hk, rfl⟩ := hcut
    have hk0 : (0 : Int) ≤ (k : Int) := by omega
    have hk1 : (k : Int) ≤ (t.size : Int) := by omega
    go_wp2
    go_quiet (fail)
    have hab := crc_append t k
    have hon : (~~~ Sm.on (~~~ Sm.crc (t.extract 0 k).data.toList) (t.extract k t.size).data.toList) = Sm.crc t.data.toList := by rw [Sm.crc_on, hab]
    have hab3 : (t.extract 0 k).data.toList ++ ByteArray.empty.data.toList ++ (t.extract k t.size).data.toList = t.data.toList := by rw [← hab]; simp
    have s1 : t.size ≤ maxLen := by unfold maxLen; omega
    have s2 : (t.extract 0 k).size ≤ maxLen := by simp; unfold maxLen; omega
    have s3 : (t.extract k t.size).size ≤ maxLen := by simp; unfold maxLen; omega
    have HAB := Lib.hid hab
    have HAB3 := Lib.hid hab3
    have HON := Lib.hid hon
    clear hab hab3 hon
    have hB0 := belowN hB nq
    clear hB
    generalize wc.drewN nq = W0 at *
    generalize t.extract 0 k = a at *
    generalize t.extract k t.size = b at *
    have HC : ∃ c : Int, c = ((Sm.crc t.data.toList).toNat : Int) := ⟨_, rfl⟩
    obtain ⟨c, hc⟩ := HC
    have HC := Lib.hid hc
    clear hc
    go_wp2_with fail
    refine (of_one W0.heap.size 1 t _ s1 (by simp) (by simp)).mono ?_
    rintro e w1 ⟨rfl, hB⟩
    rw [← HC.out]
    have hB1 : Below w.heap.size w w1 := (hB0.alloc hB0.size _).trans (hB.mono (Nat.le_trans hB0.size (by simp)))
    clear hB hB0
    go_wp2_with fail
    refine (refOf t _ s1).mono ?_
    rintro e w2 ⟨rfl, rfl⟩
    rw [← HC.out]
    go_wp2_with fail
    refine (of_two w1.heap.size 2 a b _ s2 s3 (by simp) (by simp) (by simp)).mono ?_
    rintro e w2 ⟨rfl, hB⟩
    rw [HAB.out, ← HC.out]
    have hB2 : Below w.heap.size w w2 := (hB1.alloc hB1.size _).trans (hB.mono (Nat.le_trans hB1.size (by simp)))
    clear hB hB1
    go_wp2_with fail
    refine (of_one w2.heap.size 1 t _ s1 (by simp) (by simp)).mono ?_
    rintro e w3 ⟨rfl, hB⟩
    rw [← HC.out]
    have hB3 : Below w.heap.size w w3 := (hB2.alloc hB2.size _).trans (hB.mono (Nat.le_trans hB2.size (by simp)))
    clear hB hB2
    go_wp2_with fail
    refine (of_one w3.heap.size 1 a _ s2 (by simp) (by simp)).mono ?_
    rintro e w4 ⟨rfl, hB⟩
    have hB4 : Below w.heap.size w w4 := (hB3.alloc hB3.size _).trans (hB.mono (Nat.le_trans hB3.size (by simp)))
    clear hB hB3
    go_wp2_with fail
    refine (sumOn (Sm.crc a.data.toList) b _ s3).mono ?_
    rintro e w5 ⟨rfl, hB⟩
    rw [HON.out, ← HC.out]
    have hB5 : Below w.heap.size w w5 := hB4.trans (hB.mono hB4.size)
    clear hB hB4
    go_wp2_with fail
    refine (of_one w5.heap.size 1 t _ s1 (by simp) (by simp)).mono ?_
    rintro e w6 ⟨rfl, hB⟩
    rw [← HC.out]
    have hB6 : Below w.heap.size w w6 := (hB5.alloc hB5.size _).trans (hB.mono (Nat.le_trans hB5.size (by simp)))
    clear hB hB5
    go_wp2_with fail
    refine (of_three w6.heap.size 3 a ByteArray.empty b _ s2 (by simp) s3 (by simp) (by simp) (by simp; rfl) (by simp)).mono ?_
    rintro e w7 ⟨rfl, hB⟩
    rw [HAB3.out, ← HC.out]
    have hB7 : Below w.heap.size w w7 := (hB6.alloc hB6.size _).trans (hB.mono (Nat.le_trans hB6.size (by simp)))
    clear hB hB6
    go_wp2_with fail
    refine (of_one w7.heap.size 1 t _ s1 (by simp) (by simp)).mono ?_
    rintro e w8 ⟨rfl, hB⟩
    rw [← HC.out]
    have hB8 : Below w.heap.size w w8 := (hB7.alloc hB7.size _).trans (hB.mono (Nat.le_trans hB7.size (by simp)))
    clear hB hB7
    go_wp2_with fail
    go_ret
    exact ⟨rfl, hB8⟩

end Go.Proofs.Ytecjailgiknfcaa

/-
  The walk of the statement SumTells.
-/
import Derived.Test.YtecjailgiknfcaaSumLaws3
import Derived.Lib.ConvBytes
import Derived.Lib.MinMax
namespace Go.Proofs.Ytecjailgiknfcaa
open Go.RowKit

def abcd : ByteArray := ⟨#[97, 98, 99, 100]⟩

theorem xorYb (c : UInt8) (X : Sm.B32) (j : Nat) : bits .xor .u8 (c.toNat : Int) ((X.toNat : Int) / 2 ^ (8 * j) % 256) = ((c ^^^ Sm.yb X j).toNat : Int) := by
  have e : (X.toNat : Int) / 2 ^ (8 * j) % 256 = ((Sm.yb X j).toNat : Int) := by
    unfold Sm.yb
    rw [UInt8.toNat_ofNat', Nat.mod_mod]
    rfl
  rw [e, xor8]

set_option maxRecDepth 100000 in
set_option maxHeartbeats 4000000 in
theorem sumTells_any (s : ByteArray) (at0 : Int) (X : Sm.B32) (w : World) (hs : s.size ≤ maxLen) (_ha1 : -9223372036854775808 ≤ at0) (_ha2 : at0 ≤ 9223372036854775807) :
    Calls Try.prog 5 #[.string s, .int .i64 at0, .int .u32 (X.toNat : Int)] w fun e w' => e = .returned (.bool true) ∧ Below w.heap.size w w' := by
  go_enter Try.func5, Try.ntmps5
  go_upto_region 4 with (first | (go_at_call 14; refine (sum_awake _).mono ?_; rintro e w1 ⟨rfl, hB⟩) | (go_at_call 17; refine (cut_any s 200 _ hs).mono ?_; rintro e w2 ⟨rfl, rfl⟩))
  have ht : (s.extract 0 200).size ≤ 200 := by simp; omega
  generalize s.extract 0 200 = t at *
  clear hs
  go_upto_if 16 with (fail)
  go_cut [0] (fun v wx => wx = w1 ∧ ∃ u : ByteArray, 4 ≤ u.size ∧ u.size ≤ 204 ∧ v = .string u)
  case first =>
    by_cases h4 : t.size < 4
    · go_wp2
      go_meet
      refine ⟨rfl, t ++ abcd, ?_, ?_, ?_⟩
      · rw [ByteArray.size_append]; show 4 ≤ t.size + 4; omega
      · rw [ByteArray.size_append]; show t.size + 4 ≤ 204; omega
      · rfl
    · go_wp2
      go_meet
      exact ⟨rfl, t, by omega, by omega, rfl⟩
  case rest =>
    obtain ⟨rfl, u, h4, h204, rfl⟩ := hcut
    clear ht
    obtain ⟨q, hq, q1, q2⟩ : ∃ q : Int, at0.tmod ((u.size : Int) - 3) = q ∧ -((u.size : Int) - 3) < q ∧ q < (u.size : Int) - 3 :=
      ⟨_, rfl, Int.lt_tmod_of_pos _ (by omega), Int.tmod_lt_of_pos _ (by omega)⟩
    obtain ⟨k, hk, hk4⟩ : ∃ k : Nat, (q + (u.size : Int) - 3) % ((u.size : Int) - 3) = (k : Int) ∧ k + 4 ≤ u.size := by
      have h1 := Int.emod_nonneg (q + (u.size : Int) - 3) (show (u.size : Int) - 3 ≠ 0 by omega)
      have h2 := Int.emod_lt_of_pos (q + (u.size : Int) - 3) (show 0 < (u.size : Int) - 3 by omega)
      exact ⟨((q + (u.size : Int) - 3) % ((u.size : Int) - 3)).toNat, by omega, by omega⟩
    have hcs := conv_str u
    go_wp2
    rw [hk]
    clear hcs hq q1 q2 hk
    have hA0 := bytesWorld_bytes wc u
    have hB1 : Below w.heap.size w (Lib.bytesWorld wc 5 u) := hB.trans ((bytesWorld_below wc u).mono hB.size)
    have hgb : w.heap.size ≤ wc.heap.size := hB.size
    obtain ⟨g, hg⟩ : ∃ g, g = wc.heap.size := ⟨_, rfl⟩
    obtain ⟨cap, hcap⟩ : ∃ cap, cap = grownCap wc u.size 0 5 := ⟨_, rfl⟩
    rw [← hg] at hA0 hgb ⊢
    rw [← hcap]
    clear hg hcap
    generalize Lib.bytesWorld wc 5 u = W at *
    clear hB
    obtain ⟨l, HL, HLN⟩ : ∃ l : List UInt8, Hid (u.data.toList = l) ∧ Hid (l.length = u.size) := ⟨_, rfl, by simp [Hid]⟩
    rw [HL.out] at hA0
    go_loopw [34] (fun i wr => ∃ j : Nat, j ≤ 4 ∧ i = .int .i64 j ∧ BytesC wr g (Sm.turn l k (Sm.yb X) j) ∧ Below w.heap.size w wr) (fun i _ => 4 - (intOf i).toNat)
    case atStart => exact ⟨0, by omega, rfl, hA0, hB1⟩
    case round =>
      clear hA0 hB1 W
      obtain ⟨j, hj, rfl, hA, hBr⟩ := hrel
      by_cases hlt : j < 4
      · have hlen : k + j < (Sm.turn l k (Sm.yb X) j).length := by rw [Sm.turn_length, HLN.out]; omega
        obtain ⟨hcell, hfr⟩ := hA.2 (k + j) hlen
        obtain ⟨c, HC⟩ : ∃ c : UInt8, Hid ((Sm.turn l k (Sm.yb X) j)[k + j] = c) := ⟨(Sm.turn l k (Sm.yb X) j)[k + j], Eq.refl _⟩
        rw [HC.out] at hcell
        obtain ⟨v, HV, hx⟩ : ∃ v : UInt8, Hid (v = c ^^^ Sm.yb X j) ∧ bits .xor .u8 (c.toNat : Int) ((X.toNat : Int) / 2 ^ (8 * j) % 256) = (v.toNat : Int) := ⟨_, rfl, xorYb c X j⟩
        go_wp2
        go_region
        go_wp2
        go_roundw
        case rel =>
          refine ⟨j + 1, by omega, by go_num, ?_, (hBr.setCell hgb _).drew⟩
          have h := hA.set (k + j) v
          rw [HV.out, ← HC.out] at h
          rw [HV.out, ← HC.out]
          have e : (Sm.turn l k (Sm.yb X) j).set (k + j) ((Sm.turn l k (Sm.yb X) j)[k + j] ^^^ Sm.yb X j) = Sm.turn l k (Sm.yb X) (j + 1) := by
            show _ = (Sm.turn l k (Sm.yb X) j).set (k + j) ((Sm.turn l k (Sm.yb X) j).getD (k + j) 0 ^^^ Sm.yb X j)
            rw [List.getD_eq_getElem?_getD, List.getElem?_eq_getElem hlen]
            rfl
          rw [← e]
          exact h
        case measure => simp [intOf]; omega
      · obtain rfl : j = 4 := by omega
        obtain ⟨m, HM, hml⟩ : ∃ m : ByteArray, Hid (m.data.toList = Sm.turn l k (Sm.yb X) 4) ∧ m.size = u.size := ⟨⟨(Sm.turn l k (Sm.yb X) 4).toArray⟩, rfl, by
          have := Sm.turn_length l k (Sm.yb X) 4
          rw [HLN.out] at this
          exact this⟩
        have hcv : (convert 29 9 (.slice (some ⟨g, 0, none⟩) u.size cap)).run Try.prog wr = .ok (.string m) wr := by
          have h := conv_bytes m g 0 cap wr (fun i hi => by
            have hm := HM.out
            have hi' : i < m.data.toList.length := by simpa using hi
            rw [Nat.zero_add]
            have := (hA.2 i (by rw [← hm]; exact hi')).1
            rw [this]
            congr 3
            simp only [← hm]
            rfl)
          rw [hml] at h
          exact h
        have hmz : m.size ≤ maxLen := by unfold maxLen; omega
        have huz : u.size ≤ maxLen := by unfold maxLen; omega
        have hcrc : sumOf m = sumOf u ↔ X = 0#32 := by
          have h := Sm.crc_turn l k X (by rw [HLN.out]; exact hk4)
          unfold sumOf
          rw [HM.out, HL.out]
          exact h
        clear hml hA
        obtain ⟨b, h1, h2⟩ : ∃ b : Bool, (((sumOf m).toNat : Int) == ((sumOf u).toNat : Int)) = b ∧ ((X.toNat : Int) == 0) = b := by
          by_cases hx : X = 0#32
          · refine ⟨true, ?_, ?_⟩
            · rw [hcrc.2 hx]; simp
            · subst hx; rfl
          · refine ⟨false, ?_, ?_⟩
            · rw [beq_eq_false_iff_ne]
              intro e
              exact hx (hcrc.1 (BitVec.eq_of_toNat_eq (by omega)))
            · rw [beq_eq_false_iff_ne]
              intro e
              exact hx (BitVec.eq_of_toNat_eq (by simpa using e))
        clear hcrc
        go_wp2_with fail
        refine (of_str wr.heap.size 1 m _ hmz (by simp) (by simp)).mono ?_
        rintro e w1 ⟨rfl, hB1⟩
        have hB2 : Below w.heap.size w w1 := (hBr.alloc hBr.size _).trans (hB1.mono (Nat.le_trans hBr.size (by simp)))
        clear hB1
        go_wp2_with fail
        refine (of_str w1.heap.size 1 u _ huz (by simp) (by simp)).mono ?_
        rintro e w2 ⟨rfl, hB1⟩
        have hB3 : Below w.heap.size w w2 := (hB2.alloc hB2.size _).trans (hB1.mono (Nat.le_trans hB2.size (by simp)))
        clear hB1
        go_wp2_with fail
        go_ret
        exact ⟨rfl, hB3⟩

theorem sumTells_row (a0 : ByteArray) (a1 a2 : Int) (w0 : a0.size ≤ maxLen) (w1 : (Lit.int .i64 a1).wf = true) (w2 : (Lit.int .u32 a2).wf = true) (w : World) :
    Calls Try.prog 5 #[.string a0, .int .i64 a1, .int .u32 a2] w fun e w' => e = .returned (.bool true) ∧ Below w.heap.size w w' := by
  obtain ⟨x, rfl⟩ := u32_of w2
  simp only [Lit.wf, Bool.and_eq_true, decide_eq_true_eq] at w1
  exact sumTells_any a0 a1 x w w0 w1.1 w1.2

end Go.Proofs.Ytecjailgiknfcaa

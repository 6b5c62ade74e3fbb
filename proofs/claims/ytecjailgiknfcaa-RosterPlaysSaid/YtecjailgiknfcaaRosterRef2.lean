/-
  The document's roster, part 2: Find, Drain.
-/
import Derived.Test.YtecjailgiknfcaaRosterRef1
set_option linter.unusedVariables false
set_option linter.unusedSimpArgs false
namespace Go.Proofs.Ytecjailgiknfcaa
open Go.RowKit

theorem Sorted'.tail {m : Mb} {ms : List Mb} (h : Sorted' (m :: ms)) : Sorted' ms := fun i j hi hj hij => by
  have := h (i + 1) (j + 1) (by simp; exact hi) (by simp; exact hj) (by omega)
  simpa using this
theorem below_pos : ∀ {ms : List Mb} (n : Int), Sorted' ms → Below' ms n (pos n ms)
  | [], n, _ => ⟨Nat.le_refl _, fun j h => by simp at h, fun j h => by simp at h⟩
  | m :: ms, n, hs => by
    have ih := below_pos n hs.tail
    rw [pos.eq_2]
    split
    · rename_i hm
      refine ⟨Nat.zero_le _, fun j h hj => by omega, fun j h _ => ?_⟩
      cases j with
      | zero => exact hm
      | succ j =>
        have := hs 0 (j + 1) (by simp) h (by omega)
        simp only [List.getElem_cons_zero] at this
        omega
    · rename_i hm
      refine ⟨by have := ih.1; simp; exact this, fun j h hj => ?_, fun j h hj => ?_⟩
      · cases j with
        | zero => simp only [List.getElem_cons_zero]; omega
        | succ j => simpa using ih.2.1 j (by simpa using h) (by omega)
      · cases j with
        | zero => omega
        | succ j => simpa using ih.2.2 j (by simpa using h) (by omega)
theorem pos_of {ms : List Mb} {n : Int} {k : Nat} (hs : Sorted' ms) (hk : k < ms.length) (e : (ms[k].serial : Int) = n) : pos n ms = k := by
  have hb : Below' ms n k := ⟨Nat.le_of_lt hk, fun j h hj => by have := hs j k h hk hj; omega, fun j h hj => by
    rcases Nat.eq_or_lt_of_le hj with e' | hj
    · subst e'; omega
    · have := hs k j hk h hj; omega⟩
  exact hb.pos.symm
theorem at_pos {ms : List Mb} {n : Int} (hs : Sorted' ms) (ht : there n ms = true) : ∃ h : pos n ms < ms.length, (ms[pos n ms].serial : Int) = n := by
  obtain ⟨i, h, e⟩ := there_iff.1 ht
  have := pos_of hs h e
  subst this
  exact ⟨h, e⟩

def findI (n : Int) (ms : List Mb) : Int := if there n ms then (pos n ms : Nat) else -1

set_option maxHeartbeats 2000000 in
set_option maxRecDepth 100000 in
theorem rfind_any (R : Ro) (v : Value) (n : Int) (w : World) (h : Mem 103 w v R.ms) (hl : R.ms.length ≤ 1000) (hs : Sorted' R.ms) :
    Calls Try.prog 62 #[R.val v, .int .i64 n] w fun e w' => e = .returned (.int .i64 (findI n R.ms)) ∧ Kp w w' := by
  obtain ⟨c, e, l, j, ms⟩ := R
  simp only [Ro.val] at *
  obtain ⟨va, vc, rfl, hc1, hc2⟩ := h.slice
  clear hc1 hc2
  go_enter Try.func62, Try.ntmps62
  go_wp2
  go_loopw [10] (fun i wr => ∃ k : Nat, k ≤ ms.length ∧ i = .int .i64 k ∧ (∀ j, (h : j < ms.length) → j < k → (ms[j].serial : Int) ≠ n) ∧ Kp w wr) (fun i _ => ms.length - (intOf i).toNat)
  case atStart => exact ⟨0, Nat.zero_le _, rfl, fun _ _ h => by omega, (Fr.refl _ w).alloc _⟩
  case round =>
    obtain ⟨k, hk, rfl, hno, hK⟩ := hrel
    by_cases hlt : k < ms.length
    · obtain ⟨bb, rfl, hbb, g0, g1, g2⟩ := (h.kp hK).get k hlt
      have k0 : (0 : Int) ≤ (k : Int) := by omega
      have k1 : (k : Int) < (ms.length : Int) := by omega
      by_cases hq : (ms[k].serial : Int) = n
      · have hf : findI n ms = (k : Int) := by
          rw [findI, if_pos (there_iff.2 ⟨k, hlt, hq⟩), pos_of hs hlt hq]
        have HF := Lib.hid hf
        clear hf
        go_wp2
        go_ret
        exact ⟨by rw [HF.out]; rfl, hK.alloc _⟩
      · have hq' := hq
        go_wp2
        refine ⟨⟨k + 1, by omega, rfl, fun j hj hjk => ?_, hK.alloc _⟩, by simp [intOf]; omega⟩
        by_cases e : j = k
        · subst e; exact hq'
        · exact hno j hj (by omega)
    · have hlt' : (ms.length : Int) ≤ k := by omega
      have hf : findI n ms = -1 := by
        rw [findI, if_neg]
        intro ht
        obtain ⟨i, hi, e⟩ := there_iff.1 ht
        exact hno i hi (by omega) e
      have HF := Lib.hid hf
      clear hf
      go_wp2
      go_ret
      exact ⟨by rw [HF.out]; rfl, hK⟩
end Go.Proofs.Ytecjailgiknfcaa

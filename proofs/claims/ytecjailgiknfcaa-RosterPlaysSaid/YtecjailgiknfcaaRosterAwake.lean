/-
  The roster, part 6: what the statements begin with; the rosters that are filled up.
-/
import Derived.Test.YtecjailgiknfcaaRoster5
set_option linter.unusedVariables false
set_option linter.unusedSimpArgs false
namespace Go.Proofs.Ytecjailgiknfcaa
open Go.RowKit

deriving instance DecidableEq for Ro
/-- The roster behind so many calls of Add, of the serials from 1000 on downwards. -/
def full (k : Nat) : Ro := ⟨5, min k 16, 0, min k 16, (List.range (min k 16)).reverse.map fun j => ⟨1000 - j, j + 1, 1⟩⟩
def okB (R : Ro) : Bool :=
  decide (1 ≤ R.cache ∧ R.cache ≤ 1000000 ∧ R.epoch ≤ 1000000 ∧ R.lease ≤ 100000000 ∧ R.joins ≤ 1000000 ∧ R.ms.length ≤ 16) &&
  (R.ms.all fun m => decide (1 ≤ m.serial ∧ m.serial ≤ 1000 ∧ 1 ≤ m.join ∧ m.join ≤ R.joins ∧ (m.state = 1 ∨ m.state = 2))) &&
  decide (R.ms.Pairwise fun a b => a.serial < b.serial) && decide (R.ms.Pairwise fun a b => a.join ≠ b.join)
theorem ok_of (R : Ro) (h : okB R = true) : R.Ok := by
  simp only [okB, Bool.and_eq_true, decide_eq_true_eq, List.all_eq_true] at h
  obtain ⟨⟨⟨⟨a1, a2, a3, a4, a5, a6⟩, b⟩, c⟩, d⟩ := h
  have g : ∀ i, (h : i < R.ms.length) → _ := fun i h => b R.ms[i] (List.getElem_mem h)
  exact ⟨⟨a1, a2⟩, a3, a4, a5, a6, fun i j hi hj hij => List.pairwise_iff_getElem.1 c i j hi hj hij, fun i h => ⟨(g i h).1, (g i h).2.1⟩, fun i h => ⟨(g i h).2.2.1, (g i h).2.2.2.1⟩,
    fun i j hi hj hij => List.pairwise_iff_getElem.1 d i j hi hj hij, fun i h => (g i h).2.2.2.2⟩
theorem full_more : ∀ k, k < 21 → addF (full k) (1000 - k) = if k < 16 then (full (k + 1), 0) else (Ro.zero, 12) := by decide
theorem full_ok (k : Nat) : (full k).Ok := by
  have h : ∀ m, m < 17 → okB ⟨5, m, 0, m, (List.range m).reverse.map fun j => ⟨1000 - j, j + 1, 1⟩⟩ = true := by decide
  exact ok_of _ (h (min k 16) (by omega))
theorem full_len (k : Nat) : (full k).ms.length = min k 16 := by simp [full]
theorem full_fresh (k : Nat) : addF (freshF (full k)) 7 = (⟨6, min k 16 + 2, 0, min k 16 + 1, [⟨7, min k 16 + 1, 1⟩]⟩, 0) := by
  simp [addF, freshF, full, there, pos]

set_option maxHeartbeats 2000000 in
set_option maxRecDepth 100000 in
theorem roster_awake (w : World) : Calls Try.prog 31 #[] w fun e w' => e = .returned (.bool true) ∧ Kp w w' := by
  have ad := add_any ⟨1, 0, 0, 0, []⟩ (.slice none 0 0) 5
  simp only [Ro.val] at ad
  have fi := fun v => find_any ⟨1, 1, 0, 1, [⟨5, 1, 1⟩]⟩ v 5
  simp only [Ro.val] at fi
  go_enter Try.func31, Try.ntmps31
  go_wp2_with fail
  refine (ad _ (Mem.nil _ _) (by simp) (fun i j hi => by simp at hi) (fun i hi => by simp at hi) (by omega) (by omega) (by simp) (by simp)).mono ?_
  rintro en w1 ⟨v', rfl, hm, hk⟩
  have e1 : addF ⟨1, 0, 0, 0, []⟩ 5 = (⟨1, 1, 0, 1, [⟨5, 1, 1⟩]⟩, 0) := by decide
  simp only [e1, Ro.val] at hm ⊢
  obtain ⟨va, vc, rfl, _, _⟩ := hm.slice
  go_wp2_with fail
  refine (fi _ _ (hm.alloc _) (by simp) (fun i j hi hj hij => by simp at hi hj; omega) (fun i hi => by simp at hi; subst hi; simp) (by omega) (by omega)).mono ?_
  rintro en w2 ⟨hfi, hk2⟩
  obtain ⟨p0, hK2, hsz⟩ := box1 hk2
  have hlt : w1.heap.size < w2.heap.size := hsz
  have c0 := p0.five
  have hv : en = .returned (.tuple #[.agg #[.int .i64 5, .int .u64 1, .int .i64 1], .bool true]) := by
    rcases hfi with ⟨i, hi, _, he⟩ | ⟨hno, _⟩
    · simp at hi
      subst hi
      exact he
    · exact (hno 0 (by simp) (by simp)).elim
  subst hv
  have hK : Kp w w2 := hk.trans hK2
  go_wp2
  go_ret
  exact ⟨rfl, hK.alloc _⟩
end Go.Proofs.Ytecjailgiknfcaa

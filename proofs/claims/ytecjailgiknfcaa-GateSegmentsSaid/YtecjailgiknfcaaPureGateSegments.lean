/- Gate.Segments says how many segments of 'per' sectors lie behind the first sector of a device of 'size' sectors: as many as go there, at least two, at most 1000, else none. No condition. -/
import Derived.Test.YtecjailgiknfcaaPGateSegmentsx1
namespace Go.Proofs.Ytecjailgiknfcaa.Pure
open Go.RowKit Go.Proofs.Ytecjailgiknfcaa.PGateSegments Go.Proofs.YtecjailgiknfcaaW.PrintWords Go.Proofs.YtecjailgiknfcaaW.PrintLast

theorem wrap_small (x : Int) (h : -9223372036854775808 ≤ x) (h' : x ≤ 9223372036854775807) : wrap64 x = x := by
  unfold wrap64; omega

theorem segs (s p : Int) (hs : 0 ≤ s) (hs' : s ≤ 5000) (hp : 1 ≤ p) (hp' : p ≤ 64) :
    ∃ n : Int, gate_Segments.f s p = some n ∧ ((n = 0 ∧ s < 1 + 2 * p) ∨ (2 ≤ n ∧ n ≤ 1000 ∧ 1 + n * p ≤ s ∧ (n = 1000 ∨ s < 1 + (n + 1) * p))) := by
  have e1 : mx p 1 = p := by unfold mx; omega
  have e2 : wrap64 (s - 1) = s - 1 := wrap_small _ (by omega) (by omega)
  unfold gate_Segments.f
  rw [e1, e2, if_neg (by omega)]
  by_cases h0 : s = 0
  · subst h0
    have hq : -1 ≤ Int.tdiv (0 - 1) p ∧ Int.tdiv (0 - 1) p ≤ 0 := by
      have : Int.tdiv (0 - 1) p = -(Int.tdiv 1 p) := by rw [show (0 - 1 : Int) = -1 from rfl, Int.neg_tdiv]
      rw [this, Int.tdiv_eq_ediv_of_nonneg (by omega)]
      have h1 : 0 ≤ (1 : Int) / p := Int.ediv_nonneg (by omega) (by omega)
      have h2 : (1 : Int) / p ≤ 1 := Int.ediv_le_self _ (by omega)
      omega
    rw [wrap_small _ (by omega) (by omega), if_pos (by unfold mn; omega)]
    exact ⟨0, rfl, .inl ⟨rfl, by omega⟩⟩
  · have hd : Int.tdiv (s - 1) p = (s - 1) / p := Int.tdiv_eq_ediv_of_nonneg (by omega)
    have q0 : 0 ≤ (s - 1) / p := Int.ediv_nonneg (by omega) (by omega)
    have q1 : (s - 1) / p ≤ s - 1 := Int.ediv_le_self _ (by omega)
    have q2 : (s - 1) / p * p ≤ s - 1 := Int.ediv_mul_le _ (by omega)
    have q3 : s - 1 < ((s - 1) / p + 1) * p := Int.lt_ediv_add_one_mul_self _ (by omega)
    rw [hd, wrap_small _ (by omega) (by omega)]
    generalize (s - 1) / p = q at *
    by_cases h2 : q < 2
    · rw [if_pos (by unfold mn; omega)]
      refine ⟨0, rfl, .inl ⟨rfl, ?_⟩⟩
      have : (q + 1) * p ≤ 2 * p := Int.mul_le_mul_of_nonneg_right (by omega) (by omega)
      omega
    · rw [if_neg (by unfold mn; omega)]
      refine ⟨_, rfl, .inr ⟨by unfold mn; omega, by unfold mn; omega, ?_, ?_⟩⟩
      · have : mn q 1000 * p ≤ q * p := Int.mul_le_mul_of_nonneg_right (by unfold mn; omega) (by omega)
        omega
      · by_cases h3 : q < 1000
        · have : mn q 1000 = q := by unfold mn; omega
          rw [this]; right; omega
        · left; unfold mn; omega

theorem awake : bandolierlaw16_awake.f = some true := by decide +kernel

theorem GateSegments : bandolierlaw16_GateSegments.Pure := by
  intro a0 a1 _ _
  unfold bandolierlaw16_GateSegments.f
  rw [awake, Option.bind_some, if_pos rfl]
  have hs : 0 ≤ mx 0 (mn a0 5000) ∧ mx 0 (mn a0 5000) ≤ 5000 := by unfold mx mn; omega
  have hp : 1 ≤ mx 1 (mn a1 64) ∧ mx 1 (mn a1 64) ≤ 64 := by unfold mx mn; omega
  generalize mx 0 (mn a0 5000) = s at *
  generalize mx 1 (mn a1 64) = p at *
  obtain ⟨n, hn, h⟩ := segs s p hs.1 hs.2 hp.1 hp.2
  rw [hn, Option.bind_some]
  rcases h with ⟨rfl, h⟩ | ⟨h2, h3, h4, h5⟩
  · rw [if_pos rfl]; simp; omega
  · have m1 : 0 ≤ n * p := Int.mul_nonneg (by omega) (by omega)
    have m2 : n * p ≤ 1000 * 64 := Int.mul_le_mul (by omega) (by omega) (by omega) (by omega)
    have m3 : 0 ≤ (n + 1) * p := Int.mul_nonneg (by omega) (by omega)
    have m4 : (n + 1) * p ≤ 1001 * 64 := Int.mul_le_mul (by omega) (by omega) (by omega) (by omega)
    rw [if_neg (by omega), if_pos h2, if_pos h3, wrap_small (n * p) (by omega) (by omega), wrap_small (1 + n * p) (by omega) (by omega), if_pos h4]
    by_cases h6 : n = 1000
    · rw [if_pos h6]
    · rw [if_neg h6, wrap_small (n + 1) (by omega) (by omega), wrap_small ((n + 1) * p) (by omega) (by omega), wrap_small (1 + (n + 1) * p) (by omega) (by omega)]
      have := h5.resolve_left h6
      simp; omega

end Go.Proofs.Ytecjailgiknfcaa.Pure

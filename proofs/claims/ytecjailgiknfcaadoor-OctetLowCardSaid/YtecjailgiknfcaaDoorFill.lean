/-
  strings.Builder.Len; Out.Fill.
-/
import Derived.Test.YtecjailgiknfcaaDoorOctet1
import Derived.Deep.LoopGhost
set_option linter.unusedVariables false
set_option linter.unusedSimpArgs false
namespace Go.Proofs.YtecjailgiknfcaaDoor
open Go.RowKit

theorem bldSlice {T : TypeId} {B b : Nat} {l : List UInt8} {w : World} (h : Bld T B b l w) : ∃ p a c, w.heap[b]? = some (.cells #[p, .slice a l.length c] T (0, 0)) ∧ l.length ≤ maxLen := by
  have hl : (Lib.byteCells l).length = l.length := by simp [Lib.byteCells]
  have one : ∀ p, BldAt T B b p l w → ∃ p a c, w.heap[b]? = some (.cells #[p, .slice a l.length c] T (0, 0)) ∧ l.length ≤ maxLen := fun p h => by
    obtain ⟨_, v, hb, hown, _⟩ := h
    unfold World.ownsRowF at hown
    rcases hown.2 with ⟨rfl, h0⟩ | ⟨g, cap, cur, z, rfl, hr⟩
    · rw [hl] at h0
      exact ⟨p, none, 0, by rw [h0]; exact hb, by rw [h0]; exact Nat.zero_le _⟩
    · obtain ⟨_, _, _, h1, h2, _⟩ := hr
      rw [hl] at hb h1
      exact ⟨p, _, cap, hb, Nat.le_trans h1 h2⟩
  exact h.elim (one _) (one _)
theorem bldLen (T : TypeId) (B b : Nat) (l : List UInt8) (w : World) (h : Bld T B b l w) :
    Calls Tryd.prog 30 #[.pointer (some ⟨b, 0, none⟩)] w fun e w' => e = .returned (.int .i64 l.length) ∧ w' = w := by
  obtain ⟨p, a, c, hb, hl⟩ := bldSlice h
  have h1 : w.cell? ⟨b, 1, none⟩ = some (.slice a l.length c) := by rw [cell_of_row w b 1 _ T _ hb]; rfl
  go_enter Tryd.func30, Tryd.ntmps30
  go_wp2
  go_ret
  exact ⟨rfl, rfl⟩

/-- How many noughts are wanted. -/
def Oc.fill (n len : Nat) : Nat := (n - len % n) % n
theorem Oc.fill_mod (n len z : Nat) (h : 0 < n) (hz : z ≤ Oc.fill n len) : ((len + z) % n = 0 ↔ z = Oc.fill n len) := by
  have hr := Nat.mod_lt len h
  unfold Oc.fill at hz ⊢
  rw [Nat.add_mod]
  generalize len % n = r at *
  by_cases h0 : r = 0
  · subst h0
    rw [Nat.sub_zero, Nat.mod_self] at hz ⊢
    have : z = 0 := by omega
    subst this
    simp
  · have e : (n - r) % n = n - r := Nat.mod_eq_of_lt (by omega)
    rw [e] at hz ⊢
    rw [Nat.mod_eq_of_lt (show z < n by omega)]
    constructor
    · intro hh
      rcases Nat.lt_or_ge (r + z) n with h1 | h1
      · rw [Nat.mod_eq_of_lt h1] at hh; omega
      · omega
    · intro hh
      rw [show r + z = n by omega, Nat.mod_self]
theorem Oc.fill_lt (n len : Nat) (h : 0 < n) : Oc.fill n len < n := Nat.mod_lt _ h

set_option maxHeartbeats 4000000 in
set_option maxRecDepth 100000 in
theorem outFill (B b : Nat) (l : List UInt8) (n : Nat) (w : World) (h : Bld 43 B b l w) (hlen : l.length ≤ 1000000) (hn : n ≤ 1000000) :
    Calls Tryd.prog 13 #[self b, .int .i64 n] w fun e w' => e = .returned (self b) ∧ (Bld 43 B b (l ++ List.replicate (if n = 0 then 0 else Oc.fill n l.length) 0) w' ∧ Kept B b w w') := by
  go_enter Tryd.func13, Tryd.ntmps13
  go_wp2
  obtain ⟨F, hF⟩ : ∃ F, F = (if n = 0 then 0 else Oc.fill n l.length) := ⟨_, rfl⟩
  have hFn : F ≤ n := by
    rw [hF]
    split
    · omega
    · exact Nat.le_of_lt (Oc.fill_lt _ _ (by omega))
  have HF := Lib.hid hF
  clear hF
  go_loopg [] F (fun g wr => ∃ z : Nat, z ≤ F ∧ g = F - z ∧ Bld 43 B b (l ++ List.replicate z 0) wr ∧ Kept B b w wr)
  case atStart => exact ⟨0, Nat.zero_le _, rfl, by simpa using h, Kept.refl _ _ _⟩
  case round =>
    obtain ⟨z, hz, rfl, hb, hk⟩ := hrel
    clear h
    by_cases h0 : n = 0
    · subst h0
      have hF0 : F = 0 := by rw [HF.out]; rfl
      have hz0 : z = 0 := by omega
      subst hz0
      go_wp2
      go_ret
      exact ⟨rfl, by simpa using hb, hk⟩
    · have hn0 : (0 : Int) < (n : Int) := by omega
      have hmod := Oc.fill_mod n l.length z (by omega) (by rw [← if_neg (c := n = 0) h0 (t := 0) (e := Oc.fill n l.length), ← HF.out]; exact hz)
      have hFf : F = Oc.fill n l.length := by rw [HF.out, if_neg h0]
      rw [← hFf] at hmod
      have HM := Lib.hid hmod
      clear hmod hFf
      have hlen2 : (l ++ List.replicate z (0 : UInt8)).length = l.length + z := by simp
      have hlw := bldLen 43 B b _ wr hb
      rw [hlen2] at hlw
      have hr0 : ((l.length : Int) + (z : Int)) % (n : Int) = (((l.length + z) % n : Nat) : Int) := by simp
      by_cases he : z = F
      · have hm0 : (l.length + z) % n = 0 := HM.out.2 he
        have hFz : z = Oc.fill n l.length := by rw [he, HF.out, if_neg h0]
        have HFZ := Lib.hid hFz
        clear hFz
        have hmi : ((l.length : Int) + (z : Int)) % (n : Int) = 0 := by rw [hr0]; omega
        clear hr0 hm0
        subst he
        go_wp2_with (go_at_call 30; refine hlw.mono ?_; rintro e w2 ⟨rfl, rfl⟩)
        go_ret
        exact ⟨rfl, by rw [← HFZ.out]; exact hb, hk⟩
      · have hm0 : ¬ (l.length + z) % n = 0 := fun h => he (HM.out.1 h)
        have hmi : ¬ ((l.length : Int) + (z : Int)) % (n : Int) = 0 := by rw [hr0]; omega
        clear hr0 hm0
        have hwb := writeByte 43 bt_out B b _ 0 wr hb (by rw [hlen2]; omega)
        rw [show ((0 : UInt8).toNat : Int) = 0 from rfl] at hwb
        go_wp2_with (first | (go_at_call 30; refine hlw.mono ?_; rintro e w2 ⟨rfl, rfl⟩) | (go_at_call 29; refine hwb.mono ?_; rintro e w2 ⟨rfl, hb2, hk2⟩))
        go_roundg (F - (z + 1))
        case measure => omega
        case rel => exact ⟨z + 1, by omega, rfl, by rw [List.replicate_succ', ← List.append_assoc]; exact hb2, hk.trans hk2⟩
end Go.Proofs.YtecjailgiknfcaaDoor

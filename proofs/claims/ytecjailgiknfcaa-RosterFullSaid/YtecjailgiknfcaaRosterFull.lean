/-
  The walk of the statement RosterFull.
-/
import Derived.Test.YtecjailgiknfcaaRosterAwake
import Derived.Test.YtecjailgiknfcaaPack
set_option linter.unusedVariables false
set_option linter.unusedSimpArgs false
namespace Go.Proofs.Ytecjailgiknfcaa
open Go.RowKit

/-- A roster lies in block g, of its members' slice. -/
def Holds (w : World) (g : Nat) (R : Ro) : Prop := ∃ v, Row w g 51 (R.row v) ∧ Mem 72 w v R.ms

set_option maxHeartbeats 4000000 in
set_option maxRecDepth 100000 in
theorem rosterFull_any (n : Int) (fresh : Bool) (w : World) :
    Calls Try.prog 10 #[.int .i64 n, .bool fresh] w fun e w' => e = .returned (.bool true) ∧ Below w.heap.size w w' := by
  obtain ⟨N, hN, hN20⟩ : ∃ N : Nat, max 0 (min n 20) = (N : Int) ∧ N ≤ 20 := ⟨(max 0 (min n 20)).toNat, by omega, by omega⟩
  have hi51 : (Try.prog.info? 51).map (·.size) = some 5 := by kernel_rfl
  go_enter Try.func10, Try.ntmps10
  go_wp2_with fail
  refine (roster_awake _).mono ?_
  rintro e w1 ⟨rfl, hB⟩
  go_wp2_with fail
  obtain ⟨g, HG⟩ : ∃ g, g = w1.heap.size := ⟨_, rfl⟩
  have hH : Holds (w1.alloc (.cells #[.int .u64 5, .int .u64 0, .int .u64 0, .int .u64 0, .slice none 0 0] 51)) g (full 0) := ⟨.slice none 0 0, by rw [HG]; exact Row.new w1 _ _, Mem.nil _ _⟩
  have hK : Kp w (w1.alloc (.cells #[.int .u64 5, .int .u64 0, .int .u64 0, .int .u64 0, .slice none 0 0] 51)) := hB.alloc _
  have hgw : w.heap.size ≤ g := by rw [HG]; exact hB.size
  rw [← HG]
  clear HG hB
  go_loopw [18] (fun i wr => ∃ k : Nat, k ≤ N ∧ i = .int .i64 k ∧ Holds wr g (full k) ∧ Kp w wr) (fun i _ => N - (intOf i).toNat)
  case atStart => exact ⟨0, Nat.zero_le _, rfl, hH, hK⟩
  case round =>
    clear hH hK
    obtain ⟨k, hk, rfl, ⟨v, hR, hM⟩, hK⟩ := hrel
    obtain ⟨va, vc, rfl, _, _⟩ := hM.slice
    have c0 := hR.five
    have f0 := hR.frozen
    have hok := full_ok k
    have ad := add_any (full k) (.slice va (full k).ms.length vc) (1000 - k)
    simp only [Ro.val] at ad
    by_cases hlt : k < N
    · have hlt' : (k : Int) < (N : Int) := by omega
      have fm := full_more k (by omega)
      go_wp2_with fail
      refine (ad _ hM hok.len hok.sorted hok.serials (by omega) (by omega) hok.epoch hok.joins).mono ?_
      rintro en w2 ⟨v', rfl, hm', hk'⟩
      rw [fm] at hm' ⊢
      clear fm ad c0 f0
      have p2 := hR.fr hk' (fun h => h)
      have hK2 := hK.trans hk'
      by_cases h16 : k < 16
      · rw [if_pos h16] at hm' ⊢
        obtain ⟨R', hR'⟩ : ∃ R', R' = full (k + 1) := ⟨_, rfl⟩
        rw [← hR'] at hm' ⊢
        have HR := Lib.hid hR'
        clear hR'
        simp only [Ro.val] at hm' ⊢
        have k16 : (k : Int) < 16 := by omega
        have hne := hm'.ne p2 (by decide)
        obtain ⟨va', vc', rfl, _, _⟩ := hm'.slice
        go_wp2_with (with_reducible refine stop_store (x := Operand.tmp 5) 51 ?_)
        unfold Hid
        refine wpList_st _ _ _ _ (p2.alloc _) rfl rfl hi51 rfl rfl ?_
        intro w3 p3 k3
        unfold Hid
        go_wp2
        refine ⟨⟨k + 1, by omega, rfl, by rw [← HR.out]; exact ⟨_, p3, (hm'.alloc _).fr k3 (fun b hb hs => hne (hs ▸ hb))⟩, (hK2.alloc _).trans' k3 (fun i hi hs => by omega)⟩, by simp [intOf]; omega⟩
      · rw [if_neg h16] at hm' ⊢
        simp only [Ro.val, Ro.zero] at hm' ⊢
        have k16 : (16 : Int) ≤ (k : Int) := by omega
        have hff : full (k + 1) = full k := by simp only [full]; rw [show min (k + 1) 16 = min k 16 by omega]
        obtain ⟨va', vc', rfl, _, _⟩ := hm'.slice
        go_wp2
        refine ⟨⟨k + 1, by omega, rfl, by rw [hff]; exact ⟨_, p2.alloc _, (hM.kp hk').alloc _⟩, hK2.alloc _⟩, by simp [intOf]; omega⟩
    · have hlt' : (N : Int) ≤ (k : Int) := by omega
      have hkN : k = N := by omega
      subst hkN
      clear ad
      have a1 : (full k).cache = 5 := rfl
      have a2 : (full k).epoch = min k 16 := rfl
      have a3 : (full k).lease = 0 := rfl
      have a4 : (full k).joins = min k 16 := rfl
      have a5 := full_len k
      have ff := full_fresh k
      have ck := check_ok (full k) (.slice va (full k).ms.length vc) wr hM hok
      have al := fun w' h => all_any (full k) (.slice va (full k).ms.length vc) w' h (by have := hok.len; omega)
      have fr := fun w' h => fresh_any (full k) (.slice va (full k).ms.length vc) w' h (by have := hok.len; omega) (by omega) (by omega)
      have pk := fun w' h => pack_any (full k) (.slice va (full k).ms.length vc) w' h (by have := hok.len; omega) (by omega) (by omega) (by omega) (by omega) (fun m hm => by
        obtain ⟨i, hi, rfl⟩ := List.getElem_of_mem hm
        have h1 := (hok.serials i hi).2
        have h2 := (hok.join i hi).2
        have h3 := hok.state i hi
        exact ⟨h1, by omega, by omega⟩)
      have ad7 := add_any (freshF (full k)) (.slice none 0 0) 7
      have hf1 : (freshF (full k)).epoch = min k 16 + 1 := by rw [← a2]; rfl
      have hf2 : (freshF (full k)).joins = min k 16 := by rw [← a4]; rfl
      have hf3 : (freshF (full k)).cache = 6 := rfl
      have hf4 : (freshF (full k)).ms = [] := rfl
      have hf5 : (freshF (full k)).lease = 0 := rfl
      rw [ff, hf1, hf2, hf4] at ad7
      simp only [Ro.val, a1, a2, a3, a4, a5, hf1, hf2, hf3, hf5] at ck al fr pk ad7
      simp only [Ro.row, a1, a2, a3, a4, a5] at c0 hR hM
      clear ff hf1 hf2 hf3 hf4 hf5 a1 a2 a3 a4
      obtain ⟨M, hMM, hMI⟩ : ∃ M : Nat, min k 16 = M ∧ min (k : Int) 16 = (M : Int) := ⟨min k 16, rfl, by omega⟩
      simp only [hMM] at ck al fr pk ad7 c0 hR hM a5
      have hM16 : M ≤ 16 := by omega
      clear hMM hlt
      generalize full k = R at *
      go_wp2_with fail
      refine ck.mono ?_
      rintro en w2 ⟨rfl, k2⟩
      have c2 := (hR.fr k2 (fun h => h)).five
      go_wp2_with fail
      refine (al _ (hM.kp k2)).mono ?_
      rintro en w3 ⟨v3, rfl, hown, k3⟩
      obtain ⟨a3, n3, rfl, _, _, _⟩ := own_slice hown
      have k23 := k2.trans k3
      have hR3 := hR.fr k23 (fun h => h)
      have c3 := hR3.five
      have f3 := hR3.frozen
      have hM3 := hM.kp k23
      have hK3 := hK.trans k23
      clear c0 c2 ck al hR hM k2 k3 k23 hown f0 hK wr hok
      cases fresh with
      | true =>
        go_wp2_with fail
        refine (fr _ hM3).mono ?_
        rintro en w4 ⟨rfl, k4⟩
        have r4 := hR3.fr k4 (fun h => h)
        have hK4 := hK3.trans k4
        clear fr pk c3 f3 hM3 hK3 hR3 k4
        go_wp2_with (with_reducible refine stop_store 51 ?_)
        unfold Hid
        refine wpList_st _ _ _ _ r4 rfl rfl hi51 rfl rfl ?_
        intro w5 r5 k5
        unfold Hid
        have hK5 : Kp w w5 := hK4.trans' k5 (fun i hi hs => by omega)
        clear r4 hK4 k5
        have c5 := r5.five
        go_wp2_with fail
        refine (ad7 _ (Mem.nil _ _) (by simp) (fun i j hi => by simp at hi) (fun i hi => by simp at hi) (by omega) (by omega) (by omega) (by omega)).mono ?_
        rintro en w6 ⟨v6, rfl, m6, k6⟩
        simp only [Ro.val] at m6 ⊢
        obtain ⟨a6, n6, rfl, _, _⟩ := m6.slice
        have c6 := (r5.fr k6 (fun h => h)).five
        have hlt6 : g < w6.heap.size := (r5.fr k6 (fun h => h)).lt
        have hK6 := hK5.trans k6
        have hw : IntKind.u64.wrap ((M : Int) + 1) = (M : Int) + 1 := by simp [IntKind.wrap, IntKind.bits, IntKind.signed]; omega
        clear c5 ad7 m6 r5 k6 hK5
        go_wp2
        go_ret
        exact ⟨rfl, (hK6.alloc _).below (Nat.le_refl _) (fun _ _ h => h)⟩
      | false =>
        go_wp2_with fail
        refine (pk _ hM3).mono ?_
        rintro en w4 ⟨s, rfl, hs, k4⟩
        have hs' : (s.size : Int) = 33 + 11 * (M : Int) := by omega
        clear hs
        have hw : wrap64 (33 + 11 * (M : Int)) = 33 + 11 * (M : Int) := by unfold wrap64; omega
        go_wp2
        go_ret
        exact ⟨rfl, (hK3.trans k4).below (Nat.le_refl _) (fun _ _ h => h)⟩
end Go.Proofs.Ytecjailgiknfcaa

/-
  The document's roster, part 4: Add.
-/
import Derived.Test.YtecjailgiknfcaaRosterRef3
set_option linter.unusedVariables false
set_option linter.unusedSimpArgs false
namespace Go.Proofs.Ytecjailgiknfcaa
open Go.RowKit

/-- What stands in the new list behind k members. -/
def acc (p : Nat) (new : Mb) (ms : List Mb) (k : Nat) : List Mb := if k ≤ p then ms.take k else ms.take p ++ new :: (ms.take k).drop p
theorem acc_low {p : Nat} {new : Mb} {ms : List Mb} {k : Nat} (h : k < ms.length) (hk : k < p) : acc p new ms (k + 1) = acc p new ms k ++ [ms[k]] := by
  rw [acc, acc, if_pos (by omega), if_pos (by omega), List.take_add_one, List.getElem?_eq_getElem h]; rfl
theorem acc_at {p : Nat} {new : Mb} {ms : List Mb} (h : p < ms.length) : acc p new ms (p + 1) = (acc p new ms p ++ [new]) ++ [ms[p]] := by
  rw [acc, acc, if_neg (by omega), if_pos (by omega), List.take_add_one, List.getElem?_eq_getElem h, List.drop_append_of_le_length (by rw [List.length_take]; omega), List.drop_of_length_le (by rw [List.length_take]; omega)]
  simp
theorem acc_high {p : Nat} {new : Mb} {ms : List Mb} {k : Nat} (h : k < ms.length) (hk : p < k) : acc p new ms (k + 1) = acc p new ms k ++ [ms[k]] := by
  rw [acc, acc, if_neg (by omega), if_neg (by omega), List.take_add_one, List.getElem?_eq_getElem h, List.drop_append_of_le_length (by rw [List.length_take]; omega)]
  simp
theorem acc_len {p : Nat} {new : Mb} {ms : List Mb} {k : Nat} (hk : k ≤ ms.length) : (acc p new ms k).length ≤ ms.length + 1 := by
  rw [acc]
  split
  · rw [List.length_take]; omega
  · rw [List.length_append, List.length_cons, List.length_drop, List.length_take, List.length_take]; omega
theorem acc_end {p : Nat} {new : Mb} {ms : List Mb} (hp : p < ms.length) : acc p new ms ms.length = ms.take p ++ new :: ms.drop p := by
  rw [acc, if_neg (by omega), List.take_length]
theorem acc_last {new : Mb} {ms : List Mb} : acc ms.length new ms ms.length ++ [new] = ms.take ms.length ++ new :: ms.drop ms.length := by
  rw [acc, if_pos (Nat.le_refl _), List.drop_length]

set_option maxHeartbeats 4000000 in
set_option maxRecDepth 100000 in
theorem radd_any (R : Ro) (v : Value) (n : Int) (w : World) (h : Mem 103 w v R.ms) (hl : R.ms.length ≤ 16) (hs : Sorted' R.ms) (he : R.epoch ≤ 1000000) (hj : R.joins ≤ 1000000) :
    Calls Try.prog 44 #[R.val v, .int .i64 n] w (Back 103 w (addF R n)) := by
  obtain ⟨c, e, l, j, ms⟩ := R
  have pl := fun w h => rfind_any ⟨c, e, l, j, ms⟩ v n w h
  have nx := copied_any ⟨c, e, l, j, ms⟩ v
  simp only [Ro.val, Ro.next] at *
  obtain ⟨va, vc, rfl, hc1, hc2⟩ := h.slice
  clear hc1 hc2
  have hi63 : (Try.prog.info? 63).map (·.size) = some 5 := by kernel_rfl
  have fail : ∀ (w2 w7 : World) (k : Nat), Kp w w2 → w.heap.size + 2 ≤ w2.heap.size → addF ⟨c, e, l, j, ms⟩ n = (Ro.zero, k) → Fr (fun k => k = w.heap.size + 1) w2 w7 →
      Back 103 w (addF ⟨c, e, l, j, ms⟩ n) (.returned (.tuple #[.agg #[.int .u64 0, .int .u64 0, .int .u64 0, .int .u64 0, .slice none 0 0], .int .i64 k])) w7 := fun w2 w7 k hK hsz hf hF => by
    rw [hf]
    exact ⟨_, rfl, Mem.nil _ _, hK.trans' hF (fun i hi hs => by omega)⟩
  have FAIL := Lib.hid fail
  clear fail
  by_cases hser : 1 ≤ n ∧ n ≤ 1000
  · obtain ⟨n1, rfl⟩ := Int.eq_ofNat_of_zero_le (show 0 ≤ n by omega)
    have s1 : ¬ (n1 : Int) < 1 := by omega
    have s2 : ¬ (1000 : Int) < (n1 : Int) := by omega
    go_enter Try.func44, Try.ntmps44
    go_wp2_with fail
    refine (pl _ ((h.alloc _).alloc _) (by omega) hs).mono ?_
    rintro en w1 ⟨rfl, hk⟩
    obtain ⟨p0, p1, hK, hsz⟩ := box2 hk
    clear hk pl
    have c0 := p0.five
    have c1 := p1.five
    have f0 := p0.frozen
    have f1 := p1.frozen
    cases ht : there n1 ms with
    | true =>
      have HD := Lib.hid (show addF ⟨c, e, l, j, ms⟩ n1 = (Ro.zero, 11) by rw [addF, if_neg (by simpa using hser), if_pos ht])
      rw [findI, if_pos ht]
      clear ht
      have q0 : (0 : Int) ≤ (pos n1 ms : Int) := by omega
      go_wp2_with (with_reducible refine stop_store 63 ?_)
      unfold Hid
      refine wpList_st _ _ _ _ p1 rfl rfl hi63 rfl rfl ?_
      intro w7 p7 k7
      unfold Hid
      go_wp2
      have c7 := p7.five
      refine ⟨rfl, .tuple #[.agg #[.int .u64 0, .int .u64 0, .int .u64 0, .int .u64 0, .slice none 0 0], .int .i64 11], by simp [results, Try.results44, go_sem, c7], ?_⟩
      exact FAIL.out w1 w7 11 hK hsz HD.out k7
    | false =>
      rw [findI, if_neg (by rw [ht]; simp)]
      by_cases h16 : ms.length = 16
      · have HD := Lib.hid (show addF ⟨c, e, l, j, ms⟩ n1 = (Ro.zero, 12) by rw [addF, if_neg (by simpa using hser), if_neg (by rw [ht]; simp), if_pos h16])
        clear ht
        have q0 : (15 : Int) < (ms.length : Int) := by omega
        go_wp2_with (with_reducible refine stop_store 63 ?_)
        unfold Hid
        refine wpList_st _ _ _ _ p1 rfl rfl hi63 rfl rfl ?_
        intro w7 p7 k7
        unfold Hid
        go_wp2
        have c7 := p7.five
        refine ⟨rfl, .tuple #[.agg #[.int .u64 0, .int .u64 0, .int .u64 0, .int .u64 0, .slice none 0 0], .int .i64 12], by simp [results, Try.results44, go_sem, c7], ?_⟩
        exact FAIL.out w1 w7 12 hK hsz HD.out k7
      · have HD := Lib.hid (show addF ⟨c, e, l, j, ms⟩ n1 = (⟨c, e + 1, l, j + 1, ms.take (pos n1 ms) ++ ⟨n1, j + 1, 1⟩ :: ms.drop (pos n1 ms)⟩, 0) by
          rw [addF, if_neg (by simpa using hser), if_neg (by rw [ht]; simp), if_neg h16]; simp)
        have hbp := below_pos (ms := ms) n1 hs
        have hne : ∀ i, (h : i < ms.length) → ¬ (ms[i].serial : Int) = (n1 : Int) := fun i h e => by
          have := there_iff.2 ⟨i, h, e⟩
          rw [ht] at this; cases this
        clear ht FAIL
        have q0 : ¬ (15 : Int) < (ms.length : Int) := by omega
        go_wp2_with fail
        refine (nx _ (h.kp hK) (by omega) he).mono ?_
        rintro en w3 ⟨v', rfl, hm, hk, hfr⟩
        obtain ⟨va', vc', rfl, hd1, hd2⟩ := hm.slice
        have hK3 := hK.trans hk
        have hsz3 := Nat.le_trans hsz hk.size
        have hfr' : ∀ b, (Value.slice va' ms.length vc').ownBlock = some b → w.heap.size + 2 ≤ b := fun b hb => Nat.le_trans hsz (hfr b hb)
        replace p0 := p0.fr hk (fun h => h)
        replace p1 := p1.fr hk (fun h => h)
        clear hfr hd1 hd2 hk c0 c1 f0 f1 nx hK q0
        go_wp2_with (with_reducible refine stop_store 63 ?_)
        unfold Hid
        refine wpList_st _ _ _ _ p0 rfl rfl hi63 rfl rfl ?_
        intro w4 r0 k4
        unfold Hid
        replace hK3 : Kp w w4 := hK3.trans' k4 (fun i hi hs => absurd (hs ▸ hi) (Nat.lt_irrefl _))
        replace hsz3 := Nat.le_trans hsz3 k4.size
        replace p1 := p1.fr k4 (fun h => by omega)
        replace hm := hm.fr k4 (fun b hb hs => by have := hfr' b hb; omega)
        clear k4 p0 h hs hsz w1 w3 s1 s2
        have d0 := r0.five
        have g0 := r0.frozen
        have hlt0 : w.heap.size < w4.heap.size := by omega
        go_wp2_with fail
        refine codeAt ?_
        intro W hW
        obtain ⟨B, hB⟩ : ∃ B, B = w4.heap.size := ⟨_, rfl⟩
        have k5 : Fr (fun k => k = w.heap.size) w4 W := by subst hW; exact ((Fr.refl (fun k => k = w.heap.size) w4).setCell _ (fun _ => rfl) _).alloc _
        have r5 : Row W w.heap.size 63 [.int .u64 c, .int .u64 (e + 1), .int .u64 l, .int .u64 (j + 1), .slice va' ms.length vc'] := by subst hW; exact (r0.set 3 _).alloc _
        have p5 := p1.fr k5 (fun h => by omega)
        have m5 := hm.fr k5 (fun b hb hs => by have := hfr' b hb; omega)
        have m5lt : ∀ b, (Value.slice va' ms.length vc').ownBlock = some b → b < B := fun b hb => by rw [hB]; exact hm.lt b hb
        have hK5 : Kp w W := hK3.trans' k5 (fun i hi hs => by omega)
        have hO : Own B W (.slice (some ⟨B, 0, none⟩) 0 0) [] := by
          subst hW hB
          have e1 : (w4.setCell ⟨w.heap.size, 3, none⟩ (.int .u64 (j + 1))).heap.size = w4.heap.size := by simp [World.setCell]
          have := World.ownsRow_made (base := w4.heap.size) (e := 103) (size := 3) (w4.setCell ⟨w.heap.size, 3, none⟩ (.int .u64 (j + 1))) #[] 0 (by rw [e1]; exact Nat.le_refl _) (by simp [maxLen]) (by simp)
          rw [e1] at this
          exact this
        have hBW : B ≤ W.heap.size := by rw [hB]; exact k5.size
        have hsB : w.heap.size + 2 ≤ B := by rw [hB]; exact hsz3
        rw [← hB]
        clear hB hW d0 g0 hlt0 k5 r0 p1 hm hK3 hsz3 hfr' w4
        obtain ⟨p, hp⟩ : ∃ p, p = pos n1 ms := ⟨_, rfl⟩
        rw [← hp] at hbp HD
        clear hp
        obtain ⟨b1, b2, b3⟩ := hbp
        go_loopw [6, 7, 37] (fun lv dv iv wr => ∃ k : Nat, k ≤ ms.length ∧ iv = .int .i64 k ∧ dv = .bool (decide (p < k)) ∧ Own B wr lv (acc p ⟨n1, j + 1, 1⟩ ms k) ∧ Fr (fun k => B ≤ k) W wr) (fun _ _ iv _ => ms.length - (intOf iv).toNat)
        case atStart => exact ⟨0, Nat.zero_le _, rfl, rfl, hO, Fr.refl _ _⟩
        case round =>
          clear hO
          obtain ⟨k, hk, rfl, rfl, hO, hF⟩ := hrel
          have r6 := r5.fr hF (fun h => by omega)
          have m6 := m5.fr hF (fun b hb hs => by have := m5lt b hb; omega)
          have hBr := Nat.le_trans hBW hF.size
          have hal := acc_len (p := p) (new := ⟨n1, j + 1, 1⟩) hk
          by_cases hlt : k < ms.length
          · obtain ⟨bb, rfl, hbb, g0, g1, g2⟩ := m6.get k hlt
            have k0 : (0 : Int) ≤ (k : Int) := by omega
            have k1 : (k : Int) < (ms.length : Int) := by omega
            have hnk := hne k hlt
            rcases Nat.lt_trichotomy k p with hkp | hkp | hkp
            · have hA := Lib.hid (acc_low (p := p) (new := ⟨n1, j + 1, 1⟩) hlt hkp)
              have hsn := b2 k hlt hkp
              have hdn : decide (p < k) = false := by simp; omega
              have hdn' : decide (p < k + 1) = false := by simp; omega
              have HDN := Lib.hid hdn'
              clear hdn'
              rw [hdn]
              generalize acc p ⟨n1, j + 1, 1⟩ ms k = ls at *
              generalize ms[k] = m at *
              obtain ⟨s, jj, st⟩ := m
              simp only at *
              have hsn' : (s : Int) ≤ (n1 : Int) := by omega
              obtain ⟨v2, w6, hap, hO6, hF6⟩ := append_one ⟨s, jj, st⟩ (hO.alloc (.cells #[.int .i64 s, .int .u64 jj, .int .i64 st] 103)) (by omega) (Nat.le_trans hBr (by simp)) (wr.heap.size + 1) (by simp) 61
              go_wp2_with (at_builtin; refine Hid.out ?_)
              unfold Hid
              refine Lib.wpList_append_run _ rfl _ _ _ _ rfl _ _ rfl rfl _ _ hap ?_
              clear hap
              go_wp2
              exact ⟨⟨k + 1, by omega, rfl, by rw [HDN.out], by rw [hA.out]; exact hO6, (hF.alloc _).trans hF6⟩, by simp [intOf]; omega⟩
            · have hdn : decide (p < k) = false := by simp; omega
              have hdn' : decide (p < k + 1) = true := by simp; omega
              have HDN := Lib.hid hdn'
              clear hdn'
              rw [hdn]
              subst hkp
              have hA := Lib.hid (acc_at (new := ⟨n1, j + 1, 1⟩) hlt)
              have hsn := b3 k hlt (Nat.le_refl _)
              generalize acc k ⟨n1, j + 1, 1⟩ ms k = ls at *
              generalize ms[k] = m at *
              obtain ⟨s, jj, st⟩ := m
              simp only at *
              have hsn' : (n1 : Int) < (s : Int) := by omega
              have c6 := r6.five
              have hlt6 : w.heap.size < wr.heap.size := by omega
              obtain ⟨v2, w6, hap, hO6, hF6⟩ := append_two ⟨n1, j + 1, 1⟩ (hO.alloc (.cells #[.int .i64 s, .int .u64 jj, .int .i64 st] 103)) (by omega) (Nat.le_trans hBr (by simp)) (wr.heap.size + 1) (by simp) 61
              have hM6 : Row w6 wr.heap.size 103 [.int .i64 s, .int .u64 jj, .int .i64 st] := (Row.new wr #[.int .i64 s, .int .u64 jj, .int .i64 st] _).fr hF6 (fun h => absurd (hO.mem.lt _ h) (Nat.lt_irrefl _))
              have hF7 : Fr (fun k => B ≤ k) W w6 := (hF.alloc _).trans' hF6 (fun i hi hs => hO.base i hs)
              obtain ⟨v3, w8, hap8, hO8, hF8⟩ := append_one ⟨s, jj, st⟩ hO6 (by rw [List.length_append]; simp; omega) (Nat.le_trans hBW hF7.size) w6.heap.size rfl 61
              have c8 := hM6.three
              clear hM6
              go_wp2_with (at_builtin; refine Hid.out ?_)
              unfold Hid
              refine Lib.wpList_append_run _ rfl _ _ _ _ rfl _ _ rfl rfl _ _ hap ?_
              clear hap
              go_wp2_with (at_builtin; refine Hid.out ?_)
              unfold Hid
              refine Lib.wpList_append_run _ rfl _ _ _ _ rfl _ _ rfl rfl _ _ hap8 ?_
              clear hap8
              go_wp2
              exact ⟨⟨k + 1, by omega, rfl, by rw [HDN.out], by rw [hA.out]; exact hO8, hF7.trans hF8⟩, by simp [intOf]; omega⟩
            · have hA := Lib.hid (acc_high (p := p) (new := ⟨n1, j + 1, 1⟩) hlt hkp)
              have hdn : decide (p < k) = true := by simp; omega
              have hdn' : decide (p < k + 1) = true := by simp; omega
              have HDN := Lib.hid hdn'
              clear hdn'
              rw [hdn]
              generalize acc p ⟨n1, j + 1, 1⟩ ms k = ls at *
              generalize ms[k] = m at *
              obtain ⟨s, jj, st⟩ := m
              simp only at *
              obtain ⟨v2, w6, hap, hO6, hF6⟩ := append_one ⟨s, jj, st⟩ (hO.alloc (.cells #[.int .i64 s, .int .u64 jj, .int .i64 st] 103)) (by omega) (Nat.le_trans hBr (by simp)) (wr.heap.size + 1) (by simp) 61
              go_wp2_with (at_builtin; refine Hid.out ?_)
              unfold Hid
              refine Lib.wpList_append_run _ rfl _ _ _ _ rfl _ _ rfl rfl _ _ hap ?_
              clear hap
              go_wp2
              exact ⟨⟨k + 1, by omega, rfl, by rw [HDN.out], by rw [hA.out]; exact hO6, (hF.alloc _).trans hF6⟩, by simp [intOf]; omega⟩
          · have hlt' : (ms.length : Int) ≤ k := by omega
            have hkl : k = ms.length := by omega
            subst hkl
            have p6 := p5.fr hF (fun h => by omega)
            have hK6 : Kp w wr := hK5.trans' hF (fun i hi hs => by omega)
            -- the list whole
            have fin : ∀ (v2 : Value) (w6 : World), Own B w6 v2 (ms.take p ++ ⟨n1, j + 1, 1⟩ :: ms.drop p) → Fr (fun k => B ≤ k) wr w6 →
                ∃ va2 vc2, v2 = .slice va2 (ms.take p ++ ⟨n1, j + 1, 1⟩ :: ms.drop p).length vc2 ∧ Row w6 w.heap.size 63 [.int .u64 c, .int .u64 (e + 1), .int .u64 l, .int .u64 (j + 1), .slice va' ms.length vc'] ∧
                  Row w6 (w.heap.size + 1) 63 [.int .u64 0, .int .u64 0, .int .u64 0, .int .u64 0, .slice none 0 0] ∧
                  (∀ w7, Fr (fun k => k = w.heap.size + 1) (w6.setCell ⟨w.heap.size, 4, none⟩ v2) w7 → Back 103 w (addF ⟨c, e, l, j, ms⟩ n1) (.returned (.tuple #[.agg #[.int .u64 c, .int .u64 (e + 1), .int .u64 l, .int .u64 (j + 1), v2], .int .i64 0])) w7) := fun v2 w6 hO6 hF6 => by
              have m8 := hO6.mem
              have r8 := r6.fr hF6 (fun h => by omega)
              have p8 := p6.fr hF6 (fun h => by omega)
              have n0 := m8.ne r8 (by decide)
              have n1' := m8.ne p8 (by decide)
              obtain ⟨va2, vc2, rfl, _, _⟩ := m8.slice
              refine ⟨va2, vc2, rfl, r8, p8, fun w7 k7 => ?_⟩
              rw [HD.out]
              refine ⟨_, rfl, ?_, ?_⟩
              · exact (m8.fr ((Fr.refl (fun b => b = w.heap.size ∨ b = w.heap.size + 1) w6).setCell _ (fun _ => .inl rfl) _) (fun b hb hs => hs.elim (fun e => n0 (e ▸ hb)) (fun e => n1' (e ▸ hb)))).fr k7 (fun b hb hs => n1' (hs ▸ hb))
              · exact ((hK6.trans' hF6 (fun i hi hs => by omega)).setCell _ (fun h => absurd h (by simp)) _).trans' k7 (fun i hi hs => by omega)
            rcases Nat.lt_or_ge p ms.length with hpl | hpl
            · have hdn : decide (p < ms.length) = true := by simp; omega
              rw [hdn]
              rw [acc_end hpl] at hO
              obtain ⟨va2, vc2, rfl, r8, p8, hB⟩ := fin _ wr hO (Fr.refl _ _)
              have FIN := Lib.hid hB
              clear hB fin hO
              generalize (ms.take p ++ (⟨n1, j + 1, 1⟩ : Mb) :: ms.drop p).length = n2 at *
              have d0 := r8.five
              have g0 := r8.frozen
              go_wp2_with (with_reducible refine stop_store 63 ?_)
              unfold Hid
              refine wpList_st _ _ _ _ (p8.other (by simp) _) rfl rfl hi63 rfl rfl ?_
              intro w7 p7 k7
              unfold Hid
              go_wp2
              have c7 := p7.five
              refine ⟨rfl, .tuple #[.agg #[.int .u64 c, .int .u64 (e + 1), .int .u64 l, .int .u64 (j + 1), .slice va2 n2 vc2], .int .i64 0], by simp [results, Try.results44, go_sem, c7], ?_⟩
              exact FIN.out w7 k7
            · have hpe : p = ms.length := by omega
              have hdn : decide (p < ms.length) = false := by simp; omega
              rw [hdn]
              subst hpe
              have c6 := r6.five
              have hlt6 : w.heap.size < wr.heap.size := by omega
              obtain ⟨v2, w6, hap, hO6, hF6⟩ := append_one ⟨n1, j + 1, 1⟩ hO (by omega) hBr wr.heap.size rfl 61
              rw [acc_last] at hO6
              obtain ⟨va2, vc2, rfl, r8, p8, hB⟩ := fin _ w6 hO6 hF6
              have FIN := Lib.hid hB
              clear hB fin hO hO6
              generalize (ms.take ms.length ++ (⟨n1, j + 1, 1⟩ : Mb) :: ms.drop ms.length).length = n2 at *
              go_wp2_with (at_builtin; refine Hid.out ?_)
              unfold Hid
              refine Lib.wpList_append_run _ rfl _ _ _ _ rfl _ _ rfl rfl _ _ hap ?_
              clear hap c6
              have d0 := r8.five
              have g0 := r8.frozen
              go_wp2_with (with_reducible refine stop_store 63 ?_)
              unfold Hid
              refine wpList_st _ _ _ _ (p8.other (by simp) _) rfl rfl hi63 rfl rfl ?_
              intro w7 p7 k7
              unfold Hid
              go_wp2
              have c7 := p7.five
              refine ⟨rfl, .tuple #[.agg #[.int .u64 c, .int .u64 (e + 1), .int .u64 l, .int .u64 (j + 1), .slice va2 n2 vc2], .int .i64 0], by simp [results, Try.results44, go_sem, c7], ?_⟩
              exact FIN.out w7 k7
  · go_enter Try.func44, Try.ntmps44
    have HD := Lib.hid (show addF ⟨c, e, l, j, ms⟩ n = (Ro.zero, 1) by rw [addF, if_pos hser])
    have p1 : Row ((w.alloc (.cells #[.int .u64 c, .int .u64 e, .int .u64 l, .int .u64 j, .slice va ms.length vc] 63)).alloc (.cells #[.int .u64 0, .int .u64 0, .int .u64 0, .int .u64 0, .slice none 0 0] 63)) (w.heap.size + 1) 63 [.int .u64 0, .int .u64 0, .int .u64 0, .int .u64 0, .slice none 0 0] := (box2 (Fr.refl _ _)).2.1
    have hK : Kp w ((w.alloc (.cells #[.int .u64 c, .int .u64 e, .int .u64 l, .int .u64 j, .slice va ms.length vc] 63)).alloc (.cells #[.int .u64 0, .int .u64 0, .int .u64 0, .int .u64 0, .slice none 0 0] 63)) := (box2 (Fr.refl _ _)).2.2.1
    rcases Decidable.em (n < 1) with s1 | s1
    · go_wp2_with (with_reducible refine stop_store 63 ?_)
      unfold Hid
      refine wpList_st _ _ _ _ p1 rfl rfl hi63 rfl rfl ?_
      intro w7 p7 k7
      unfold Hid
      go_wp2
      have c7 := p7.five
      refine ⟨rfl, .tuple #[.agg #[.int .u64 0, .int .u64 0, .int .u64 0, .int .u64 0, .slice none 0 0], .int .i64 1], by simp [results, Try.results44, go_sem, c7], ?_⟩
      exact FAIL.out _ w7 1 hK (by simp) HD.out k7
    · have s2 : (1000 : Int) < n := by omega
      go_wp2_with (with_reducible refine stop_store 63 ?_)
      unfold Hid
      refine wpList_st _ _ _ _ p1 rfl rfl hi63 rfl rfl ?_
      intro w7 p7 k7
      unfold Hid
      go_wp2
      have c7 := p7.five
      refine ⟨rfl, .tuple #[.agg #[.int .u64 0, .int .u64 0, .int .u64 0, .int .u64 0, .slice none 0 0], .int .i64 1], by simp [results, Try.results44, go_sem, c7], ?_⟩
      exact FAIL.out _ w7 1 hK (by simp) HD.out k7
end Go.Proofs.Ytecjailgiknfcaa

/-
  The document's roster, part 3: Drain, Remove, Add.
-/
import Derived.Test.YtecjailgiknfcaaRosterRef2
set_option linter.unusedVariables false
set_option linter.unusedSimpArgs false
namespace Go.Proofs.Ytecjailgiknfcaa
open Go.RowKit

set_option maxHeartbeats 4000000 in
set_option maxRecDepth 100000 in
theorem rdrain_any (R : Ro) (v : Value) (n : Int) (w : World) (h : Mem 103 w v R.ms) (hl : R.ms.length ≤ 16) (hs : Sorted' R.ms) (he : R.epoch ≤ 1000000) :
    Calls Try.prog 37 #[R.val v, .int .i64 n] w (Back 103 w (drainF R n)) := by
  obtain ⟨c, e, l, j, ms⟩ := R
  have pl := fun w h => rfind_any ⟨c, e, l, j, ms⟩ v n w h
  have nx := copied_any ⟨c, e, l, j, ms⟩ v
  simp only [Ro.val, Ro.next] at *
  obtain ⟨va, vc, rfl, hc1, hc2⟩ := h.slice
  clear hc1 hc2
  have hi63 : (Try.prog.info? 63).map (·.size) = some 5 := by kernel_rfl
  go_enter Try.func37, Try.ntmps37
  go_wp2_with fail
  refine (pl _ ((h.alloc _).alloc _) (by omega) hs).mono ?_
  rintro en w1 ⟨rfl, hk⟩
  obtain ⟨p0, p1, hK, hsz⟩ := box2 hk
  clear hk pl
  have c0 := p0.five
  have c1 := p1.five
  have f0 := p0.frozen
  have f1 := p1.frozen
  cases ht : there n ms with
  | false =>
    have HD := Lib.hid (show drainF ⟨c, e, l, j, ms⟩ n = (Ro.zero, 10) by rw [drainF, if_neg (by rw [ht]; simp)])
    rw [findI, if_neg (by rw [ht]; simp)]
    clear ht
    go_wp2_with (with_reducible refine stop_store 63 ?_)
    unfold Hid
    refine wpList_st _ _ _ _ p1 rfl rfl hi63 rfl rfl ?_
    intro w7 p7 k7
    unfold Hid
    go_wp2
    have c7 := p7.five
    refine ⟨rfl, .tuple #[.agg #[.int .u64 0, .int .u64 0, .int .u64 0, .int .u64 0, .slice none 0 0], .int .i64 10], by simp [results, Try.results37, go_sem, c7], ?_⟩
    rw [HD.out]
    exact ⟨_, rfl, Mem.nil _ _, hK.trans' k7 (fun i hi hs => by omega)⟩
  | true =>
    obtain ⟨hil, hin⟩ := at_pos hs ht
    rw [findI, if_pos ht]
    have hD : drainF ⟨c, e, l, j, ms⟩ n = if (ms[pos n ms]'hil).state = 2 then (Ro.zero, 11) else (⟨c, e + 1, l, j, ms.set (pos n ms) ⟨(ms[pos n ms]'hil).serial, (ms[pos n ms]'hil).join, 2⟩⟩, 0) := by
      rw [drainF, if_pos ht]
      simp only [List.getElem?_eq_getElem hil]
    clear ht hin
    generalize pos n ms = i at *
    have HD := Lib.hid hD
    clear hD
    have k0 : (0 : Int) ≤ (i : Int) := by omega
    have k1 : (i : Int) < (ms.length : Int) := by omega
    obtain ⟨bb, rfl, hbb, q0, q1, q2⟩ := (h.kp hK).get i hil
    by_cases h22 : ms[i].state = 2
    · have h22' : (ms[i].state : Int) = 2 := by omega
      go_wp2_with (with_reducible refine stop_store 63 ?_)
      unfold Hid
      refine wpList_st _ _ _ _ p1 rfl rfl hi63 rfl rfl ?_
      intro w7 p7 k7
      unfold Hid
      go_wp2
      have c7 := p7.five
      refine ⟨rfl, .tuple #[.agg #[.int .u64 0, .int .u64 0, .int .u64 0, .int .u64 0, .slice none 0 0], .int .i64 11], by simp [results, Try.results37, go_sem, c7], ?_⟩
      rw [HD.out, if_pos h22]
      exact ⟨_, rfl, Mem.nil _ _, hK.trans' k7 (fun i hi hs => by omega)⟩
    · have h22' : ¬ (ms[i].state : Int) = 2 := by omega
      go_wp2_with fail
      refine (nx _ (h.kp hK) (by omega) he).mono ?_
      rintro en w3 ⟨v', rfl, hm, hk, hfr⟩
      obtain ⟨va', vc', rfl, hd1, hd2⟩ := hm.slice
      have hK3 := hK.trans hk
      have hsz3 := Nat.le_trans hsz hk.size
      have hfr' : ∀ b, (Value.slice va' ms.length vc').ownBlock = some b → w.heap.size + 2 ≤ b := fun b hb => Nat.le_trans hsz (hfr b hb)
      replace p0 := p0.fr hk (fun h => h)
      replace p1 := p1.fr hk (fun h => h)
      clear hfr hd1 hd2 hk c0 c1 f0 f1 nx hK q0 q1 q2
      go_wp2_with (with_reducible refine stop_store 63 ?_)
      unfold Hid
      refine wpList_st _ _ _ _ p0 rfl rfl hi63 rfl rfl ?_
      intro w4 r0 k4
      unfold Hid
      replace hK3 : Kp w w4 := hK3.trans' k4 (fun i hi hs => absurd (hs ▸ hi) (Nat.lt_irrefl _))
      replace hsz3 := Nat.le_trans hsz3 k4.size
      replace p1 := p1.fr k4 (fun h => by omega)
      replace hm := hm.fr k4 (fun b hb hs => by have := hfr' b hb; omega)
      clear k4 p0
      have d0 := r0.five
      have g0 := r0.frozen
      obtain ⟨b4, rfl, hb4, q0, q1, q2⟩ := hm.get i hil
      have hf4 : ∀ j, w4.frozen? ⟨b4, j, none⟩ = false := fun j => World.ownsRow.frozenAt hm j
      have hb4' := hfr' b4 rfl
      have hst := World.ownsRow.stored hm (i * 3 + 2) (.int .i64 2)
      go_wp2_with (with_reducible refine stop_store 63 ?_)
      unfold Hid
      refine wpList_st _ _ _ _ (p1.other (by simp; omega) _) rfl rfl hi63 rfl rfl ?_
      intro w7 p7 k7
      unfold Hid
      go_wp2
      have c7 := p7.five
      refine ⟨rfl, .tuple #[.agg #[.int .u64 c, .int .u64 (e + 1), .int .u64 l, .int .u64 j, .slice (some ⟨b4, 0, none⟩) ms.length vc'], .int .i64 0], by simp [results, Try.results37, go_sem, c7], ?_⟩
      rw [HD.out, if_neg h22]
      have hl2 : (ms.set i ⟨ms[i].serial, ms[i].join, 2⟩).length = ms.length := by simp
      have m5 : Mem 103 (w4.setCell ⟨b4, i * 3 + 2, none⟩ (.int .i64 2)) (.slice (some ⟨b4, 0, none⟩) ms.length vc') (ms.set i ⟨ms[i].serial, ms[i].join, 2⟩) := by
        unfold Mem
        rw [hl2, flat_set]
        exact hst.1
      refine ⟨_, rfl, ?_, ?_⟩
      · exact m5.fr k7 (fun b hb hs => by have := hfr' b hb; omega)
      · exact (hK3.setCell _ (fun h => absurd h (by simp; omega)) _).trans' k7 (fun i hi hs => by omega)

theorem filter_erase : ∀ {ms : List Mb} {n : Int} {k : Nat}, Sorted' ms → (h : k < ms.length) → (ms[k].serial : Int) = n → ms.filter (fun m => decide ((m.serial : Int) ≠ n)) = ms.eraseIdx k
  | [], _, _, _, h, _ => by simp at h
  | m :: ms, n, 0, hs, h, e => by
    simp only [List.getElem_cons_zero] at e
    rw [List.filter_cons_of_neg (by simp [e]), List.eraseIdx_cons_zero, List.filter_eq_self]
    intro a ha
    obtain ⟨i, hi, rfl⟩ := List.getElem_of_mem ha
    have := hs 0 (i + 1) (by simp) (by simp; exact hi) (by omega)
    simp only [List.getElem_cons_zero, List.getElem_cons_succ] at this
    simp; omega
  | m :: ms, n, k + 1, hs, h, e => by
    have hk : k < ms.length := by simpa using h
    have := hs 0 (k + 1) (by simp) h (by omega)
    simp only [List.getElem_cons_zero, List.getElem_cons_succ] at this e
    rw [List.filter_cons_of_pos (by simp; omega), List.eraseIdx_cons_succ, filter_erase hs.tail hk e]

/-- Members in a slice whose block, if any, is one from B on. -/
def Own (B : Nat) (w : World) (v : Value) (ms : List Mb) : Prop := w.ownsRow B 103 3 v ms.length (flat ms)
section
variable {B : Nat} {w w' : World} {v : Value} {ms : List Mb}
theorem Own.mem (h : Own B w v ms) : Mem 103 w v ms := ⟨h.1, h.2.imp (fun h => h) (fun ⟨g, cap, cur, h1, h2, h3⟩ => ⟨g, cap, cur, h1, Nat.zero_le _, h3⟩)⟩
theorem Own.alloc (h : Own B w v ms) (o : Obj) : Own B (w.alloc o) v ms := World.ownsRow.alloc h o
theorem Own.base (h : Own B w v ms) : ∀ b, v.ownBlock = some b → B ≤ b := fun b hb => (World.ownsRow.lt h b hb).1
/-- One member more in a slice that the call owns. -/
theorem append_two (m : Mb) (h : Own B w v ms) (hl : ms.length ≤ 1000000) (hB : B ≤ w.heap.size) (N : Nat) (hN : w.heap.size = N) (ty : TypeId) :
    ∃ v' w', (Builtin.append_ #[61, 61] ty #[v, .slice (some ⟨N, 0, none⟩) 1 1]).run Try.prog (w.alloc (.cells #[.int .i64 m.serial, .int .u64 m.join, .int .i64 m.state] 103)) = .ok v' w' ∧
      Own B w' v' (ms ++ [m]) ∧ Fr (fun k => v.ownBlock = some k) w w' := by
  subst hN
  obtain ⟨i0, hi0, hz0, hzs, hzb⟩ := info_parts infoRef
  have hV : Row (w.alloc (.cells #[.int .i64 m.serial, .int .u64 m.join, .int .i64 m.state] 103)) w.heap.size 103 m.cells := Row.new w _ _
  have hnews : ∀ j u, m.cells[j]? = some u → (w.alloc (.cells #[.int .i64 m.serial, .int .u64 m.join, .int .i64 m.state] 103)).cell? ((⟨w.heap.size, 0, none⟩ : Addr).add j) = some u := fun j u hj => by
    rw [Addr.add_lit, Nat.zero_add, hV.cell, hj]
  obtain ⟨v', w', hr, ho, hg, _⟩ := run_append_own (P := Try.prog) (w.alloc (.cells #[.int .i64 m.serial, .int .u64 m.join, .int .i64 m.state] 103)) B 61 ty 103 i0 _ 3 24 Try.underlying61 hi0 hz0 hzs hzb rfl (by decide) v ms.length (flat ms) (h.alloc _)
      ⟨w.heap.size, 0, none⟩ 1 1 m.cells rfl hnews (fun u hu => flat_one [m] u (by simpa [flat] using hu)) (by unfold maxLen; omega) (by omega) (by simp; omega)
  refine ⟨v', w', hr, ?_, ((Fr.refl (fun k => v.ownBlock = some k) w).alloc _).trans' (grown_fr hg) (fun i hi hs => hs.symm)⟩
  unfold Own
  rw [flat_append, List.length_append]
  simpa [flat] using ho
theorem append_one (m : Mb) (h : Own B w v ms) (hl : ms.length ≤ 1000000) (hB : B ≤ w.heap.size) (N : Nat) (hN : w.heap.size = N) (ty : TypeId) :
    ∃ v' w', (Builtin.append_ #[61, 61] ty #[v, .slice (some ⟨N, 0, none⟩) 1 1]).run Try.prog (w.alloc (.cells #[.int .i64 m.serial, .int .u64 m.join, .int .i64 m.state] 103)) = .ok v' w' ∧
      Own B w' v' (ms ++ [m]) ∧ Fr (fun k => B ≤ k) w w' := by
  obtain ⟨v', w', h1, h2, h3⟩ := append_two m h hl hB N hN ty
  exact ⟨v', w', h1, h2, h3.mono (fun i hi hs => h.base i hs)⟩
end

set_option maxHeartbeats 4000000 in
set_option maxRecDepth 100000 in
theorem rremove_any (R : Ro) (v : Value) (n : Int) (w : World) (h : Mem 103 w v R.ms) (hl : R.ms.length ≤ 16) (hs : Sorted' R.ms) (he : R.epoch ≤ 1000000) :
    Calls Try.prog 39 #[R.val v, .int .i64 n] w (Back 103 w (removeF R n)) := by
  obtain ⟨c, e, l, j, ms⟩ := R
  have pl := fun w h => rfind_any ⟨c, e, l, j, ms⟩ v n w h
  have nx := copied_any ⟨c, e, l, j, ms⟩ v
  simp only [Ro.val, Ro.next] at *
  obtain ⟨va, vc, rfl, hc1, hc2⟩ := h.slice
  clear hc1 hc2
  have hi63 : (Try.prog.info? 63).map (·.size) = some 5 := by kernel_rfl
  go_enter Try.func39, Try.ntmps39
  go_wp2_with fail
  refine (pl _ ((h.alloc _).alloc _) (by omega) hs).mono ?_
  rintro en w1 ⟨rfl, hk⟩
  obtain ⟨p0, p1, hK, hsz⟩ := box2 hk
  clear hk pl
  have c0 := p0.five
  have c1 := p1.five
  have f0 := p0.frozen
  have f1 := p1.frozen
  cases ht : there n ms with
  | false =>
    have HD := Lib.hid (show removeF ⟨c, e, l, j, ms⟩ n = (Ro.zero, 10) by rw [removeF, if_neg (by rw [ht]; simp)])
    rw [findI, if_neg (by rw [ht]; simp)]
    clear ht
    go_wp2_with (with_reducible refine stop_store 63 ?_)
    unfold Hid
    refine wpList_st _ _ _ _ p1 rfl rfl hi63 rfl rfl ?_
    intro w7 p7 k7
    unfold Hid
    go_wp2
    have c7 := p7.five
    refine ⟨rfl, .tuple #[.agg #[.int .u64 0, .int .u64 0, .int .u64 0, .int .u64 0, .slice none 0 0], .int .i64 10], by simp [results, Try.results39, go_sem, c7], ?_⟩
    rw [HD.out]
    exact ⟨_, rfl, Mem.nil _ _, hK.trans' k7 (fun i hi hs => by omega)⟩
  | true =>
    obtain ⟨hil, hin⟩ := at_pos hs ht
    rw [findI, if_pos ht]
    have HD := Lib.hid (show removeF ⟨c, e, l, j, ms⟩ n = (⟨c, e + 1, l, j, ms.filter (fun m => decide ((m.serial : Int) ≠ n))⟩, 0) by rw [removeF, if_pos ht, filter_erase hs hil hin])
    clear ht hin
    generalize pos n ms = i at *
    have k0 : (0 : Int) ≤ (i : Int) := by omega
    have k1 : (i : Int) < (ms.length : Int) := by omega
    go_wp2_with fail
    refine (nx _ (h.kp hK) (by omega) he).mono ?_
    rintro en w3 ⟨v', rfl, hm, hk, hfr⟩
    obtain ⟨va', vc', rfl, hd1, hd2⟩ := hm.slice
    have hK3 := hK.trans hk
    have hsz3 := Nat.le_trans hsz hk.size
    have hfr' : ∀ b, (Value.slice va' ms.length vc').ownBlock = some b → w.heap.size + 2 ≤ b := fun b hb => Nat.le_trans hsz (hfr b hb)
    replace p0 := p0.fr hk (fun h => h)
    replace p1 := p1.fr hk (fun h => h)
    clear hfr hd1 hd2 hk c0 c1 f0 f1 nx hK k0 k1 hil
    go_wp2_with (with_reducible refine stop_store 63 ?_)
    unfold Hid
    refine wpList_st _ _ _ _ p0 rfl rfl hi63 rfl rfl ?_
    intro w4 r0 k4
    unfold Hid
    replace hK3 : Kp w w4 := hK3.trans' k4 (fun i hi hs => absurd (hs ▸ hi) (Nat.lt_irrefl _))
    replace hsz3 := Nat.le_trans hsz3 k4.size
    replace p1 := p1.fr k4 (fun h => by omega)
    replace hm := hm.fr k4 (fun b hb hs => by have := hfr' b hb; omega)
    clear k4 p0 h hs hsz w1 w3
    have d0 := r0.five
    have hlt0 : w.heap.size < w4.heap.size := by omega
    go_wp2_with fail
    clear d0
    have hO : Own w4.heap.size (w4.alloc (.cells #[] 103)) (.slice (some ⟨w4.heap.size, 0, none⟩) 0 0) [] := World.ownsRow_made w4 #[] 0 (Nat.le_refl _) (by simp [maxLen]) (by simp)
    go_loopw [6, 20] (fun lv iv wr => ∃ k : Nat, k ≤ ms.length ∧ iv = .int .i64 k ∧ Own w4.heap.size wr lv ((ms.take k).filter (fun m => decide ((m.serial : Int) ≠ n))) ∧ Kp w4 wr) (fun _ iv _ => ms.length - (intOf iv).toNat)
    case atStart => exact ⟨0, Nat.zero_le _, rfl, hO, (Fr.refl _ w4).alloc _⟩
    case round =>
      clear hO
      obtain ⟨k, hk, rfl, hO, hK⟩ := hrel
      by_cases hlt : k < ms.length
      · obtain ⟨bb, rfl, hbb, g0, g1, g2⟩ := (hm.kp hK).get k hlt
        have k0 : (0 : Int) ≤ (k : Int) := by omega
        have k1 : (k : Int) < (ms.length : Int) := by omega
        have hnx : (ms.take (k + 1)).filter (fun m => decide ((m.serial : Int) ≠ n)) = (ms.take k).filter (fun m => decide ((m.serial : Int) ≠ n)) ++ (if (ms[k].serial : Int) = n then [] else [ms[k]]) := by
          rw [List.take_add_one, List.getElem?_eq_getElem hlt, List.filter_append]
          by_cases hq : (ms[k].serial : Int) = n <;> simp [hq]
        have HN := Lib.hid hnx
        clear hnx
        have hle : ((ms.take k).filter (fun m => decide ((m.serial : Int) ≠ n))).length ≤ 16 := Nat.le_trans (List.length_filter_le _ _) (by rw [List.length_take]; omega)
        generalize hls : (ms.take k).filter (fun m => decide ((m.serial : Int) ≠ n)) = ls at *
        generalize ms[k] = m at *
        obtain ⟨s, jj, st⟩ := m
        simp only at *
        by_cases hq : (s : Int) = n
        · have HQ := Lib.hid hq
          rw [if_pos hq] at HN
          go_wp2
          refine ⟨⟨k + 1, by omega, rfl, by rw [HN.out, List.append_nil]; exact hO.alloc _, hK.alloc _⟩, by simp [intOf]; omega⟩
        · rw [if_neg hq] at HN
          obtain ⟨v2, w6, hap, hO6, hF6⟩ := append_one ⟨s, jj, st⟩ (hO.alloc (.cells #[.int .i64 s, .int .u64 jj, .int .i64 st] 103)) (by omega) (Nat.le_trans hK.size (by simp)) (wr.heap.size + 1) (by simp) 61
          have hK6 : Kp w4 w6 := (hK.alloc _).trans' hF6 (fun i hi hs => by omega)
          go_wp2_with (at_builtin; refine Hid.out ?_)
          unfold Hid
          refine Lib.wpList_append_run _ rfl _ _ _ _ rfl _ _ rfl rfl _ _ hap ?_
          clear hap
          go_wp2
          refine ⟨⟨k + 1, by omega, rfl, by rw [HN.out]; exact hO6, hK6⟩, by simp [intOf]; omega⟩
      · have hlt' : (ms.length : Int) ≤ k := by omega
        have hkl : k = ms.length := by omega
        subst hkl
        rw [List.take_length] at hO
        have r6 := r0.fr hK (fun h => h)
        have p6 := p1.fr hK (fun h => h)
        have hK6 := hK3.trans hK
        have m6 := hO.mem
        have n0 := m6.ne r6 (by decide)
        have n1 := m6.ne p6 (by decide)
        clear hO r0 p1 hK3 hm hK hfr'
        obtain ⟨va2, vc2, rfl, _, _⟩ := m6.slice
        generalize hls : ms.filter (fun m => decide ((m.serial : Int) ≠ n)) = ls at *
        generalize ls.length = n2 at *
        have d0 := r6.five
        have g0 := r6.frozen
        go_wp2_with (with_reducible refine stop_store 63 ?_)
        unfold Hid
        refine wpList_st _ _ _ _ (p6.other (by simp) _) rfl rfl hi63 rfl rfl ?_
        intro w7 p7 k7
        unfold Hid
        go_wp2
        have c7 := p7.five
        refine ⟨rfl, .tuple #[.agg #[.int .u64 c, .int .u64 (e + 1), .int .u64 l, .int .u64 j, .slice va2 n2 vc2], .int .i64 0], by simp [results, Try.results39, go_sem, c7], ?_⟩
        rw [HD.out]
        refine ⟨.slice va2 n2 vc2, rfl, ?_, ?_⟩
        · exact (m6.fr ((Fr.refl (fun b => b = w.heap.size ∨ b = w.heap.size + 1) wr).setCell _ (fun _ => .inl rfl) _) (fun b hb hs => hs.elim (fun e => n0 (e ▸ hb)) (fun e => n1 (e ▸ hb)))).fr k7 (fun b hb hs => n1 (hs ▸ hb))
        · exact (hK6.setCell _ (fun h => absurd h (by simp)) _).trans' k7 (fun i hi hs => by omega)
end Go.Proofs.Ytecjailgiknfcaa

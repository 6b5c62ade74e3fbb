/-
  The roster, part 8: Remove, Drain.
-/
import Derived.Test.YtecjailgiknfcaaRoster6
import Derived.Laws.OwnMore
set_option linter.unusedVariables false
set_option linter.unusedSimpArgs false
namespace Go.Proofs.Ytecjailgiknfcaa
open Go.RowKit

def removeF (R : Ro) (n : Int) : Ro × Nat :=
  if there n R.ms then ({ R with epoch := R.epoch + 1, ms := R.ms.eraseIdx (pos n R.ms) }, 0) else (Ro.zero, 10)
def drainF (R : Ro) (n : Int) : Ro × Nat :=
  if there n R.ms then (match R.ms[pos n R.ms]? with
    | some m => if m.state = 2 then (Ro.zero, 11) else ({ R with epoch := R.epoch + 1, ms := R.ms.set (pos n R.ms) ⟨m.serial, m.join, 2⟩ }, 0)
    | none => (Ro.zero, 10)) else (Ro.zero, 10)

theorem flat_set : ∀ (ms : List Mb) (i : Nat) (h : i < ms.length), flat (ms.set i ⟨ms[i].serial, ms[i].join, 2⟩) = (flat ms).set (i * 3 + 2) (.int .i64 2)
  | m :: ms, 0, _ => rfl
  | m :: ms, i + 1, h => by
    have ih := flat_set ms i (by simpa using h)
    rw [List.set_cons_succ, flat_cons, flat_cons]
    simp only [List.getElem_cons_succ]
    rw [ih, show (i + 1) * 3 + 2 = m.cells.length + (i * 3 + 2) by simp [Mb.cells]; omega, List.set_append_right _ _ (by omega)]
    congr 1
    rw [show m.cells.length + (i * 3 + 2) - m.cells.length = i * 3 + 2 by omega]

set_option maxHeartbeats 4000000 in
set_option maxRecDepth 100000 in
theorem remove_any (R : Ro) (v : Value) (n : Int) (w : World) (h : Mem 72 w v R.ms) (hl : R.ms.length ≤ 16) (hs : Sorted' R.ms) (hr : Serials R.ms) (h2 : -2000 ≤ n) (h3 : n ≤ 2000) (he : R.epoch ≤ 1000000) :
    Calls Try.prog 40 #[R.val v, .int .i64 n] w (Back 72 w (removeF R n)) := by
  obtain ⟨c, e, l, j, ms⟩ := R
  have pl := place_any ⟨c, e, l, j, ms⟩ v n
  have nx := next_any ⟨c, e, l, j, ms⟩ v
  simp only [Ro.val, Ro.next] at *
  obtain ⟨va, vc, rfl, hc1, hc2⟩ := h.slice
  clear hc1 hc2
  have hi51 : (Try.prog.info? 51).map (·.size) = some 5 := by kernel_rfl
  go_enter Try.func40, Try.ntmps40
  go_wp2_with fail
  refine (pl _ ((h.alloc _).alloc _) (by omega) hs hr h2 h3).mono ?_
  rintro en w1 ⟨i, b, rfl, hb, hi, hk⟩
  obtain ⟨p0, p1, hK, hsz⟩ := box2 hk
  clear hk pl
  have c0 := p0.five
  have c1 := p1.five
  have f0 := p0.frozen
  have f1 := p1.frozen
  have ht := there_pos hs hb hi
  have HT := Lib.hid ht
  have HP := Lib.hid hb.pos
  cases b with
  | false =>
    clear hi hb ht
    go_wp2_with (with_reducible refine stop_store 51 ?_)
    unfold Hid
    refine wpList_st _ _ _ _ p1 rfl rfl hi51 rfl rfl ?_
    intro w7 p7 k7
    unfold Hid
    go_wp2
    have c7 := p7.five
    refine ⟨rfl, .tuple #[.agg #[.int .u64 0, .int .u64 0, .int .u64 0, .int .u64 0, .slice none 0 0], .int .i64 10], by simp [results, Try.results40, go_sem, c7], ?_⟩
    rw [removeF, if_neg (by rw [HT.out]; simp)]
    exact ⟨_, rfl, Mem.nil _ _, hK.trans' k7 (fun i hi hs => by omega)⟩
  | true =>
    obtain ⟨hil, hin⟩ := hi.1 rfl
    clear hi hb ht hin
    go_wp2_with fail
    refine (nx _ (h.kp hK) (by omega) he).mono ?_
    rintro en w3 ⟨v', rfl, hm, hk, hfr⟩
    obtain ⟨va', vc', rfl, hd1, hd2⟩ := hm.slice
    have hK3 := hK.trans hk
    have hsz3 := Nat.le_trans hsz hk.size
    have hfr' : ∀ b, (Value.slice va' ms.length vc').ownBlock = some b → w.heap.size + 2 ≤ b := fun b hb => Nat.le_trans hsz (hfr b hb)
    replace p0 := p0.fr hk (fun h => h)
    replace p1 := p1.fr hk (fun h => h)
    clear hfr hd1 hd2 hk c0 c1 f0 f1 nx hK
    go_wp2_with (with_reducible refine stop_store 51 ?_)
    unfold Hid
    refine wpList_st _ _ _ _ p0 rfl rfl hi51 rfl rfl ?_
    intro w4 r0 k4
    unfold Hid
    replace hK3 : Kp w w4 := hK3.trans' k4 (fun i hi hs => absurd (hs ▸ hi) (Nat.lt_irrefl _))
    replace hsz3 := Nat.le_trans hsz3 k4.size
    replace p1 := p1.fr k4 (fun h => by omega)
    replace hm := hm.fr k4 (fun b hb hs => by have := hfr' b hb; omega)
    clear k4 p0
    have d0 := r0.five
    have g0 := r0.frozen
    go_wp2_with fail
    refine (delete_any _ ms i _ hm hil (by omega)).mono ?_
    rintro en w6 ⟨v2, rfl, m6, k6, ho6⟩
    have r6 := r0.fr k6 (fun h => by have := hfr' _ h; omega)
    have p6 := p1.fr k6 (fun h => by have := hfr' _ h; omega)
    have hK6 : Kp w w6 := hK3.trans' k6 (fun i hi hs => by have := hfr' i hs; omega)
    have n0 := m6.ne r6 (by decide)
    have n1 := m6.ne p6 (by decide)
    clear r0 p1 hK3 k6 hfr' hsz3 d0 g0 ho6
    have hpos := HP.out
    rw [hpos] at m6
    clear HP hpos
    obtain ⟨va2, vc2, rfl, _, _⟩ := m6.slice
    generalize (ms.eraseIdx (pos n ms)).length = n2 at *
    have d0 := r6.five
    have g0 := r6.frozen
    go_wp2_with (with_reducible refine stop_store 51 ?_)
    unfold Hid
    refine wpList_st _ _ _ _ (p6.other (by simp) _) rfl rfl hi51 rfl rfl ?_
    intro w7 p7 k7
    unfold Hid
    go_wp2
    have c7 := p7.five
    refine ⟨rfl, .tuple #[.agg #[.int .u64 c, .int .u64 (e + 1), .int .u64 l, .int .u64 j, .slice va2 n2 vc2], .int .i64 0], by simp [results, Try.results40, go_sem, c7], ?_⟩
    rw [removeF, if_pos (by exact HT.out)]
    refine ⟨.slice va2 n2 vc2, rfl, ?_, ?_⟩
    · exact (m6.fr ((Fr.refl (fun b => b = w.heap.size ∨ b = w.heap.size + 1) w6).setCell _ (fun _ => .inl rfl) _) (fun b hb hs => hs.elim (fun e => n0 (e ▸ hb)) (fun e => n1 (e ▸ hb)))).fr k7 (fun b hb hs => n1 (hs ▸ hb))
    · exact (hK6.setCell _ (fun h => absurd h (by simp)) _).trans' k7 (fun i hi hs => by omega)

set_option maxHeartbeats 4000000 in
set_option maxRecDepth 100000 in
theorem drain_any (R : Ro) (v : Value) (n : Int) (w : World) (h : Mem 72 w v R.ms) (hl : R.ms.length ≤ 16) (hs : Sorted' R.ms) (hr : Serials R.ms) (h2 : -2000 ≤ n) (h3 : n ≤ 2000) (he : R.epoch ≤ 1000000) :
    Calls Try.prog 38 #[R.val v, .int .i64 n] w (Back 72 w (drainF R n)) := by
  obtain ⟨c, e, l, j, ms⟩ := R
  have pl := place_any ⟨c, e, l, j, ms⟩ v n
  have nx := next_any ⟨c, e, l, j, ms⟩ v
  simp only [Ro.val, Ro.next] at *
  obtain ⟨va, vc, rfl, hc1, hc2⟩ := h.slice
  clear hc1 hc2
  have hi51 : (Try.prog.info? 51).map (·.size) = some 5 := by kernel_rfl
  go_enter Try.func38, Try.ntmps38
  go_wp2_with fail
  refine (pl _ ((h.alloc _).alloc _) (by omega) hs hr h2 h3).mono ?_
  rintro en w1 ⟨i, b, rfl, hb, hi, hk⟩
  obtain ⟨p0, p1, hK, hsz⟩ := box2 hk
  clear hk pl
  have c0 := p0.five
  have c1 := p1.five
  have f0 := p0.frozen
  have f1 := p1.frozen
  have ht := there_pos hs hb hi
  have HT := Lib.hid ht
  have HP := Lib.hid hb.pos
  cases b with
  | false =>
    clear hi hb ht
    go_wp2_with (with_reducible refine stop_store 51 ?_)
    unfold Hid
    refine wpList_st _ _ _ _ p1 rfl rfl hi51 rfl rfl ?_
    intro w7 p7 k7
    unfold Hid
    go_wp2
    have c7 := p7.five
    refine ⟨rfl, .tuple #[.agg #[.int .u64 0, .int .u64 0, .int .u64 0, .int .u64 0, .slice none 0 0], .int .i64 10], by simp [results, Try.results38, go_sem, c7], ?_⟩
    rw [drainF, if_neg (by rw [HT.out]; simp)]
    exact ⟨_, rfl, Mem.nil _ _, hK.trans' k7 (fun i hi hs => by omega)⟩
  | true =>
    obtain ⟨hil, hin⟩ := hi.1 rfl
    clear hi hb ht hin
    have hD : drainF ⟨c, e, l, j, ms⟩ n = if ms[i].state = 2 then (Ro.zero, 11) else (⟨c, e + 1, l, j, ms.set i ⟨ms[i].serial, ms[i].join, 2⟩⟩, 0) := by
      rw [drainF, if_pos (by exact HT.out)]
      simp only [← HP.out, List.getElem?_eq_getElem hil]
    have HD := Lib.hid hD
    clear hD
    have k0 : (0 : Int) ≤ (i : Int) := by omega
    have k1 : (i : Int) < (ms.length : Int) := by omega
    obtain ⟨bb, rfl, hbb, q0, q1, q2⟩ := (h.kp hK).get i hil
    by_cases h22 : ms[i].state = 2
    · have h22' : (ms[i].state : Int) = 2 := by omega
      go_wp2_with (with_reducible refine stop_store 51 ?_)
      unfold Hid
      refine wpList_st _ _ _ _ p1 rfl rfl hi51 rfl rfl ?_
      intro w7 p7 k7
      unfold Hid
      go_wp2
      have c7 := p7.five
      refine ⟨rfl, .tuple #[.agg #[.int .u64 0, .int .u64 0, .int .u64 0, .int .u64 0, .slice none 0 0], .int .i64 11], by simp [results, Try.results38, go_sem, c7], ?_⟩
      rw [HD.out, if_pos h22]
      exact ⟨_, rfl, Mem.nil _ _, hK.trans' k7 (fun i hi hs => by omega)⟩
    · have h22' : ¬ (ms[i].state : Int) = 2 := by omega
      go_wp2_with fail
      refine (nx _ (h.kp hK) (by omega) he).mono ?_
      rintro en w3 ⟨v', rfl, hm, hk, hfr⟩
      obtain ⟨va', vc', rfl, hd1, hd2⟩ := hm.slice
      have hK3 := hK.trans hk
      have hsz3 := Nat.le_trans hsz hk.size
      have hfr' : ∀ b, (Value.slice va' ms.length vc').ownBlock = some b → w.heap.size + 2 ≤ b := fun b hb => Nat.le_trans hsz (hfr b hb)
      replace p0 := p0.fr hk (fun h => h)
      replace p1 := p1.fr hk (fun h => h)
      clear hfr hd1 hd2 hk c0 c1 f0 f1 nx hK q0 q1 q2
      go_wp2_with (with_reducible refine stop_store 51 ?_)
      unfold Hid
      refine wpList_st _ _ _ _ p0 rfl rfl hi51 rfl rfl ?_
      intro w4 r0 k4
      unfold Hid
      replace hK3 : Kp w w4 := hK3.trans' k4 (fun i hi hs => absurd (hs ▸ hi) (Nat.lt_irrefl _))
      replace hsz3 := Nat.le_trans hsz3 k4.size
      replace p1 := p1.fr k4 (fun h => by omega)
      replace hm := hm.fr k4 (fun b hb hs => by have := hfr' b hb; omega)
      clear k4 p0
      have d0 := r0.five
      have g0 := r0.frozen
      obtain ⟨b4, rfl, hb4, q0, q1, q2⟩ := hm.get i hil
      have hf4 : ∀ j, w4.frozen? ⟨b4, j, none⟩ = false := fun j => World.ownsRow.frozenAt hm j
      have hb4' := hfr' b4 rfl
      have hst := World.ownsRow.stored hm (i * 3 + 2) (.int .i64 2)
      go_wp2_with (with_reducible refine stop_store 51 ?_)
      unfold Hid
      refine wpList_st _ _ _ _ (p1.other (by simp; omega) _) rfl rfl hi51 rfl rfl ?_
      intro w7 p7 k7
      unfold Hid
      go_wp2
      have c7 := p7.five
      refine ⟨rfl, .tuple #[.agg #[.int .u64 c, .int .u64 (e + 1), .int .u64 l, .int .u64 j, .slice (some ⟨b4, 0, none⟩) ms.length vc'], .int .i64 0], by simp [results, Try.results38, go_sem, c7], ?_⟩
      rw [HD.out, if_neg h22]
      have hl2 : (ms.set i ⟨ms[i].serial, ms[i].join, 2⟩).length = ms.length := by simp
      have m5 : Mem 72 (w4.setCell ⟨b4, i * 3 + 2, none⟩ (.int .i64 2)) (.slice (some ⟨b4, 0, none⟩) ms.length vc') (ms.set i ⟨ms[i].serial, ms[i].join, 2⟩) := by
        unfold Mem
        rw [hl2, flat_set]
        exact hst.1
      refine ⟨_, rfl, ?_, ?_⟩
      · exact m5.fr k7 (fun b hb hs => by have := hfr' b hb; omega)
      · exact (hK3.setCell _ (fun h => absurd h (by simp; omega)) _).trans' k7 (fun i hi hs => by omega)
end Go.Proofs.Ytecjailgiknfcaa

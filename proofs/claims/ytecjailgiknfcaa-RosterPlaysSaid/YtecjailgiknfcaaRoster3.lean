/-
  The roster, part 3: Add.
-/
import Derived.Test.YtecjailgiknfcaaRoster2
import Derived.Test.YtecjailgiknfcaaSt
set_option linter.unusedVariables false
namespace Go.Proofs.Ytecjailgiknfcaa
open Go.RowKit

/-- As many members as are less. -/
def pos (n : Int) : List Mb → Nat
  | [] => 0
  | m :: ms => if n ≤ m.serial then 0 else pos n ms + 1
theorem Below'.pos : ∀ {ms : List Mb} {n : Int} {i : Nat}, Below' ms n i → i = pos n ms
  | [], n, i, h => by have := h.1; simp at this; subst this; rfl
  | m :: ms, n, 0, h => by
    have := h.2.2 0 (by simp) (Nat.le_refl _)
    simp only [List.getElem_cons_zero] at this
    rw [pos.eq_2, if_pos this]
  | m :: ms, n, i + 1, h => by
    have := h.2.1 0 (by simp) (by omega)
    simp only [List.getElem_cons_zero] at this
    have ih : Below' ms n i := ⟨by have := h.1; simp at this; exact this, fun j hj hji => by
        have := h.2.1 (j + 1) (by simp; exact hj) (by omega)
        simpa using this, fun j hj hji => by
        have := h.2.2 (j + 1) (by simp; exact hj) (by omega)
        simpa using this⟩
    rw [pos.eq_2, if_neg (by omega), ← ih.pos]
/-- Is there a member of this serial? -/
def there (n : Int) (ms : List Mb) : Bool := ms.any (fun m => decide ((m.serial : Int) = n))
theorem there_iff {n : Int} {ms : List Mb} : there n ms = true ↔ ∃ i, ∃ h : i < ms.length, (ms[i].serial : Int) = n := by
  simp only [there, List.any_eq_true, decide_eq_true_eq]
  constructor
  · rintro ⟨m, hm, e⟩
    obtain ⟨i, h, rfl⟩ := List.getElem_of_mem hm
    exact ⟨i, h, e⟩
  · rintro ⟨i, h, e⟩
    exact ⟨_, List.getElem_mem h, e⟩
theorem there_pos {n : Int} {ms : List Mb} {i : Nat} {b : Bool} (hs : Sorted' ms) (hb : Below' ms n i) (hi : b = true ↔ ∃ h : i < ms.length, (ms[i].serial : Int) = n) : there n ms = b := by
  cases b with
  | true => obtain ⟨h, e⟩ := hi.1 rfl; exact there_iff.2 ⟨i, h, e⟩
  | false =>
    have := none_of hs hb (fun h => by simpa using hi.2 h)
    cases ht : there n ms with
    | false => rfl
    | true => obtain ⟨j, h, e⟩ := there_iff.1 ht; exact (this j h e).elim

def Ro.zero : Ro := ⟨0, 0, 0, 0, []⟩
/-- One more: the roster, the error's number. -/
def addF (R : Ro) (n : Int) : Ro × Nat :=
  if ¬ (1 ≤ n ∧ n ≤ 1000) then (Ro.zero, 1) else if there n R.ms then (Ro.zero, 11) else if R.ms.length = 16 then (Ro.zero, 12)
  else ({ R with epoch := R.epoch + 1, joins := R.joins + 1, ms := R.ms.take (pos n R.ms) ++ ⟨n.toNat, R.joins + 1, 1⟩ :: R.ms.drop (pos n R.ms) }, 0)

/-- A roster comes back with an error's number. -/
def Back (t : TypeId) (w : World) (p : Ro × Nat) (e : Ending) (w' : World) : Prop :=
  ∃ v', e = .returned (.tuple #[p.1.val v', .int .i64 p.2]) ∧ (Mem t w' v' p.1.ms ∧ Kp w w')

set_option maxHeartbeats 4000000 in
set_option maxRecDepth 100000 in
theorem add_any (R : Ro) (v : Value) (n : Int) (w : World) (h : Mem 72 w v R.ms) (hl : R.ms.length ≤ 16) (hs : Sorted' R.ms) (hr : Serials R.ms) (h2 : -2000 ≤ n) (h3 : n ≤ 2000) (he : R.epoch ≤ 1000000) (hj : R.joins ≤ 1000000) :
    Calls Try.prog 32 #[R.val v, .int .i64 n] w (Back 72 w (addF R n)) := by
  obtain ⟨c, e, l, j, ms⟩ := R
  have pl := place_any ⟨c, e, l, j, ms⟩ v n
  have nx := next_any ⟨c, e, l, j, ms⟩ v
  simp only [Ro.val, Ro.next] at *
  obtain ⟨va, vc, rfl, hc1, hc2⟩ := h.slice
  clear hc1 hc2
  have hi51 : (Try.prog.info? 51).map (·.size) = some 5 := by kernel_rfl
  go_enter Try.func32, Try.ntmps32
  go_wp2_with fail
  refine (pl _ ((h.alloc _).alloc _) (by omega) hs hr h2 h3).mono ?_
  rintro en w1 ⟨i, b, rfl, hb, hi, hk⟩
  obtain ⟨p0, p1, hK, hsz⟩ := box2 hk
  clear hk pl
  have c0 := p0.five
  have c1 := p1.five
  have f0 := p0.frozen
  have f1 := p1.frozen
  have ht := there_pos hs hb hi
  have HB := Lib.hid hb
  have HT := Lib.hid ht
  have HP := Lib.hid hb.pos
  clear hi hb ht
  go_wp2_with fail
  refine (serial_any n w1 h2 h3).mono ?_
  rintro en w2 ⟨rfl, rfl⟩
  by_cases hser : 1 ≤ n ∧ n ≤ 1000
  · rw [decide_eq_true hser]
    obtain ⟨k, rfl⟩ := Int.eq_ofNat_of_zero_le (show 0 ≤ n by omega)
    cases b with
    | true =>
      go_wp2_with (with_reducible refine stop_store 51 ?_)
      unfold Hid
      refine wpList_st _ _ _ _ p1 rfl rfl hi51 rfl rfl ?_
      intro w7 p7 k7
      unfold Hid
      go_wp2
      have c7 := p7.five
      refine ⟨rfl, .tuple #[.agg #[.int .u64 0, .int .u64 0, .int .u64 0, .int .u64 0, .slice none 0 0], .int .i64 11], by simp [results, Try.results32, go_sem, c7], ?_⟩
      rw [addF, if_neg (by simpa using hser), if_pos (by exact HT.out)]
      exact ⟨_, rfl, Mem.nil _ _, hK.trans' k7 (fun i hi hs => by omega)⟩
    | false =>
      by_cases h16 : ms.length = 16
      · have h16' : (ms.length : Int) = 16 := by omega
        go_wp2_with (with_reducible refine stop_store 51 ?_)
        unfold Hid
        refine wpList_st _ _ _ _ p1 rfl rfl hi51 rfl rfl ?_
        intro w7 p7 k7
        unfold Hid
        go_wp2
        have c7 := p7.five
        refine ⟨rfl, .tuple #[.agg #[.int .u64 0, .int .u64 0, .int .u64 0, .int .u64 0, .slice none 0 0], .int .i64 12], by simp [results, Try.results32, go_sem, c7], ?_⟩
        rw [addF, if_neg (by simpa using hser), if_neg (by rw [HT.out]; simp), if_pos (by exact h16)]
        exact ⟨_, rfl, Mem.nil _ _, hK.trans' k7 (fun i hi hs => by omega)⟩
      · have h16' : ¬ (ms.length : Int) = 16 := by omega
        go_wp2_with fail
        refine (nx _ (h.kp hK) (by omega) he).mono ?_
        rintro en w3 ⟨v', rfl, hm, hk, hfr⟩
        obtain ⟨va', vc', rfl, hd1, hd2⟩ := hm.slice
        have hK3 := hK.trans hk
        have hsz3 := Nat.le_trans hsz hk.size
        have hfr' : ∀ b, (Value.slice va' ms.length vc').ownBlock = some b → w.heap.size + 2 ≤ b := fun b hb => Nat.le_trans hsz (hfr b hb)
        replace p0 := p0.fr hk (fun h => h)
        replace p1 := p1.fr hk (fun h => h)
        clear hfr hd1 hd2 hk c0 c1 f0 f1 nx hK
        go_wp2_with (with_reducible refine stop_store 51 ?_)
        unfold Hid
        refine wpList_st _ _ _ _ p0 rfl rfl hi51 rfl rfl ?_
        intro w4 r0 k4
        unfold Hid
        replace hK3 : Kp w w4 := hK3.trans' k4 (fun i hi hs => absurd (hs ▸ hi) (Nat.lt_irrefl _))
        replace hsz3 := Nat.le_trans hsz3 k4.size
        replace p1 := p1.fr k4 (fun h => by omega)
        replace hm := hm.fr k4 (fun b hb hs => by have := hfr' b hb; omega)
        clear k4 p0
        have d0 := r0.five
        have g0 := r0.frozen
        go_wp2_with fail
        refine callsAt ?_
        intro W hW
        have r5 : Row W w.heap.size 51 [.int .u64 c, .int .u64 (e + 1), .int .u64 l, .int .u64 (j + 1), .slice va' ms.length vc'] := by subst hW; exact (r0.set 3 _).alloc _
        have k5 : Fr (fun k => k = w.heap.size) w4 W := by subst hW; exact ((Fr.refl (fun k => k = w.heap.size) w4).setCell _ (fun _ => rfl) _).alloc _
        have p5 := p1.fr k5 (fun h => by omega)
        have m5 := hm.fr k5 (fun b hb hs => by have := hfr' b hb; omega)
        have V : Row W w4.heap.size 72 (Mb.cells ⟨k, j + 1, 1⟩) := by
          subst hW
          have := Row.new (w4.setCell ⟨w.heap.size, 3, none⟩ (.int .u64 (j + 1))) #[.int .i64 k, .int .u64 (j + 1), .int .i64 1] 72
          have e1 : (w4.setCell ⟨w.heap.size, 3, none⟩ (.int .u64 (j + 1))).heap.size = w4.heap.size := by simp [World.setCell]
          rw [e1] at this
          exact this
        have hK5 : Kp w W := hK3.trans' k5 (fun i hi hs => absurd (hs ▸ hi) (Nat.lt_irrefl _))
        have hlt := hm.lt
        clear hW d0 g0 r0 p1 hK3 k5 hm
        refine (insert_any _ ms ⟨k, j + 1, 1⟩ i w4.heap.size 1 72 W m5 HB.out.1 (by omega) V (fun h => absurd (hlt _ h) (Nat.lt_irrefl _))).mono ?_
        rintro en w6 ⟨v2, rfl, m6, k6⟩
        have r6 := r5.fr k6 (fun h => by have := hfr' _ h; omega)
        have p6 := p5.fr k6 (fun h => by have := hfr' _ h; omega)
        have hK6 : Kp w w6 := hK5.trans' k6 (fun i hi hs => by have := hfr' i hs; omega)
        have n0 := m6.ne r6 (by decide)
        have n1 := m6.ne p6 (by decide)
        clear r5 p5 hK5 V m5 k6 hlt hfr' hsz3
        have hpos := HP.out
        rw [hpos] at m6
        clear HP hpos HB
        obtain ⟨va2, vc2, rfl, _, _⟩ := m6.slice
        generalize (ms.take (pos k ms) ++ ⟨k, j + 1, 1⟩ :: ms.drop (pos k ms)).length = n2 at *
        have d0 := r6.five
        have g0 := r6.frozen
        go_wp2_with (with_reducible refine stop_store 51 ?_)
        unfold Hid
        refine wpList_st _ _ _ _ (p6.other (by simp) _) rfl rfl hi51 rfl rfl ?_
        intro w7 p7 k7
        unfold Hid
        go_wp2
        have c7 := p7.five
        refine ⟨rfl, .tuple #[.agg #[.int .u64 c, .int .u64 (e + 1), .int .u64 l, .int .u64 (j + 1), .slice va2 n2 vc2], .int .i64 0], by simp [results, Try.results32, go_sem, c7], ?_⟩
        rw [addF, if_neg (by simpa using hser), if_neg (by rw [HT.out]; simp), if_neg (by exact h16)]
        refine ⟨.slice va2 n2 vc2, rfl, ?_, ?_⟩
        · exact (m6.fr ((Fr.refl (fun b => b = w.heap.size ∨ b = w.heap.size + 1) w6).setCell _ (fun _ => .inl rfl) _) (fun b hb hs => hs.elim (fun e => n0 (e ▸ hb)) (fun e => n1 (e ▸ hb)))).fr k7 (fun b hb hs => n1 (hs ▸ hb))
        · exact (hK6.setCell _ (fun h => absurd h (by simp)) _).trans' k7 (fun i hi hs => by omega)
  · rw [decide_eq_false hser]
    go_wp2_with (with_reducible refine stop_store 51 ?_)
    unfold Hid
    refine wpList_st _ _ _ _ p1 rfl rfl hi51 rfl rfl ?_
    intro w7 p7 k7
    unfold Hid
    go_wp2
    have c7 := p7.five
    refine ⟨rfl, .tuple #[.agg #[.int .u64 0, .int .u64 0, .int .u64 0, .int .u64 0, .slice none 0 0], .int .i64 1], by simp [results, Try.results32, go_sem, c7], ?_⟩
    rw [addF, if_pos hser]
    exact ⟨_, rfl, Mem.nil _ _, hK.trans' k7 (fun i hi hs => by omega)⟩
end Go.Proofs.Ytecjailgiknfcaa

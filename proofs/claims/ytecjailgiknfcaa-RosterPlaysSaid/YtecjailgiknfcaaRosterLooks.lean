/-
  The roster, part 10: looks.
-/
import Derived.Test.YtecjailgiknfcaaRosterSame
set_option linter.unusedVariables false
set_option linter.unusedSimpArgs false
namespace Go.Proofs.Ytecjailgiknfcaa
open Go.RowKit

/-- A slice of these ints, wherever it lies. -/
def Ints (n : Nat) (xs : List Value) (v : Value) (w : World) : Prop := w.ownsRow 0 3 1 v n xs
theorem ints_of {w : World} {B n : Nat} {xs : List Value} {v : Value} (h : w.ownsRow B 3 1 v n xs) : Ints n xs v w := ⟨h.1, h.2.imp (fun h => h) (fun ⟨g, cap, cur, h1, h2, h3⟩ => ⟨g, cap, cur, h1, Nat.zero_le _, h3⟩)⟩
theorem ints_kp {n : Nat} {xs : List Value} (v : Value) (w w' : World) (h : Ints n xs v w) (k : Kp w w') : Ints n xs v w' := World.ownsRow.kept h (fr_grown k) (by cases hv : v.ownBlock <;> simp)

/-- Found: of a sorted list the member with this serial. -/
theorem find_at (R : Ro) (v : Value) (k : Nat) (w : World) (h : Mem 72 w v R.ms) (hR : R.Ok) (hk : k < R.ms.length) :
    Calls Try.prog 47 #[R.val v, .int .i64 (R.ms[k].serial : Int)] w fun e w' => e = .returned (.tuple #[R.ms[k].val, .bool true]) ∧ Kp w w' := by
  have hs := hR.serials k hk
  refine (find_any R v _ w h (by have := hR.len; omega) hR.sorted hR.serials (by omega) (by omega)).mono ?_
  rintro e w' ⟨hf, hK⟩
  refine ⟨?_, hK⟩
  rcases hf with ⟨i, hi, hq, rfl⟩ | ⟨hno, _⟩
  · have e1 := pos_of hR.sorted hi hq
    have e2 := pos_of hR.sorted hk rfl
    have : i = k := e1.symm.trans e2
    subst this
    rfl
  · exact (hno k hk rfl).elim
theorem find_none (R : Ro) (v : Value) (n : Int) (w : World) (h : Mem 72 w v R.ms) (hR : R.Ok) (hn : 1000 < n) (h2 : n ≤ 2000) :
    Calls Try.prog 47 #[R.val v, .int .i64 n] w fun e w' => e = .returned (.tuple #[.agg #[.int .i64 0, .int .u64 0, .int .i64 0], .bool false]) ∧ Kp w w' := by
  refine (find_any R v _ w h (by have := hR.len; omega) hR.sorted hR.serials (by omega) (by omega)).mono ?_
  rintro e w' ⟨hf, hK⟩
  refine ⟨?_, hK⟩
  rcases hf with ⟨i, hi, hq, rfl⟩ | ⟨hno, rfl⟩
  · have := hR.serials i hi; omega
  · rfl

theorem act_get (ms : List Mb) (k : Nat) (h : k < ms.length) (hq : ms[k].state = 1) : (serials (act ms))[(act (ms.take k)).length]? = some (.int .i64 (ms[k].serial : Int)) ∧ (act (ms.take k)).length < (act ms).length := by
  have e : act ms = act (ms.take k) ++ (ms[k] :: act (ms.drop (k + 1))) := by
    conv => lhs; rw [← List.take_append_drop k ms, List.drop_eq_getElem_cons h]
    unfold act
    rw [List.filter_append, List.filter_cons_of_pos (by simp [hq])]
  have el : (act ms).length = (act (ms.take k)).length + (ms[k] :: act (ms.drop (k + 1))).length := by rw [e, List.length_append]
  refine ⟨?_, by rw [el]; simp⟩
  rw [serials, List.getElem?_map, e, List.getElem?_append_right (by simp [act])]
  simp [act]

set_option maxHeartbeats 8000000 in
set_option maxRecDepth 100000 in
theorem looks_any (R : Ro) (v x : Value) (w : World) (h : Mem 72 w v R.ms) (hx : Mem 103 w x R.ms) (hR : R.Ok) :
    Calls Try.prog 46 #[R.val v, R.val x] w fun e w' => e = .returned (.bool true) ∧ Kp w w' := by
  have al := fun w h => all_any R v w h (by have := hR.len; omega)
  have ac := fun w h => active_any R v w h (by have := hR.len; omega)
  have fa := fun k w h hk => find_at R v k w h hR hk
  have fn := fun w h => find_none R v 1001 w h hR (by omega) (by omega)
  have hlen := hR.len
  clear hR
  obtain ⟨c, e, l, j, ms⟩ := R
  simp only [Ro.val] at *
  obtain ⟨va, vc, rfl, hc1, hc2⟩ := h.slice
  obtain ⟨xa, xc, rfl, hd1, hd2⟩ := hx.slice
  clear hc1 hc2 hd1 hd2
  go_enter Try.func46, Try.ntmps46
  go_wp2_with fail
  have k0 : Kp w ((w.alloc (.cells #[.int .u64 c, .int .u64 e, .int .u64 l, .int .u64 j, .slice va ms.length vc] 51)).alloc (.cells #[.int .u64 c, .int .u64 e, .int .u64 l, .int .u64 j, .slice xa ms.length xc] 63)) := (box2 (Fr.refl _ _)).2.2.1
  have r0 : Row ((w.alloc (.cells #[.int .u64 c, .int .u64 e, .int .u64 l, .int .u64 j, .slice va ms.length vc] 51)).alloc (.cells #[.int .u64 c, .int .u64 e, .int .u64 l, .int .u64 j, .slice xa ms.length xc] 63)) w.heap.size 51 [.int .u64 c, .int .u64 e, .int .u64 l, .int .u64 j, .slice va ms.length vc] := (box2 (Fr.refl _ _)).1
  have r1 : Row ((w.alloc (.cells #[.int .u64 c, .int .u64 e, .int .u64 l, .int .u64 j, .slice va ms.length vc] 51)).alloc (.cells #[.int .u64 c, .int .u64 e, .int .u64 l, .int .u64 j, .slice xa ms.length xc] 63)) (w.heap.size + 1) 63 [.int .u64 c, .int .u64 e, .int .u64 l, .int .u64 j, .slice xa ms.length xc] := (box2 (Fr.refl _ _)).2.1
  have h0 := h.kp k0
  have hx0 := hx.kp k0
  generalize hg : w.heap.size = g at *
  generalize ((w.alloc (.cells #[.int .u64 c, .int .u64 e, .int .u64 l, .int .u64 j, .slice va ms.length vc] 51)).alloc (.cells #[.int .u64 c, .int .u64 e, .int .u64 l, .int .u64 j, .slice xa ms.length xc] 63)) = W at *
  clear hg h hx
  apply (fun (c0 : Value) (c2 : Value) hm hok hf hfl hch hcl hp hrefl hg hk hfin => Tbl.wp_chain (Kp) (fun _ w' => Kp W w') [] [false, false, false, false, false, true, true, false, false, false, false, false, false, false, true, true, true, true, false, false, false, false, false, false, false, false, false, false, false, false, false, false, false, false, false, false, false, false, false, false, false, false, false, false, false, false, false, false, false, false, false, false, false, false, false, false, false, false, false, false, false, false, false, false, false, false, false, false, false, false, false, false, false, false, false, false, false, false, false, false, false, false, false, false, false, false, false, false, false, false, false, false, false, false, false, false, false] [Tbl.Is c0, Ints ms.length (serials ms), Tbl.Is c2, Ints (act ms).length (serials (act ms)), Ints ms.length (serials ms), Ints (act ms).length (serials (act ms))] hm hok hf hfl hch hcl hp hrefl hg hk hfin)
  case hm => rfl
  case hok => kernel_rfl
  case hf => kernel_rfl
  case hfl => rfl
  case hch => kernel_rfl
  case hcl => kernel_rfl
  case hrefl =>
    exact fun w => Fr.refl _ w
  case hg =>
    exact (Fr.refl _ W).drew
  case hk =>
    refine Tbl.keepC_cons (c := none) (by kernel_rfl) ?_ ?_
    · refine Tbl.keepC_no ?_
      intro U w K kc hg hs hK
      clear hs
      simp only [Tbl.mixL_true, Tbl.mixL_false, Tbl.mixL_nil, Nat.reduceAdd, Nat.zero_add]
      have d0 := (r0.fr hg (fun h => h)).five
      go_simp
      exact hK _ _ rfl hg (Fr.refl _ _)
    refine Tbl.keepC_cons (c := none) (by kernel_rfl) ?_ ?_
    · refine Tbl.keepC_no ?_
      intro U w K kc hg hs hK
      have h14 : U 14 = _ := (hs 14 (by decide)).1 0 (by kernel_rfl) (by kernel_rfl)
      clear hs
      simp only [Tbl.mixL_true, Tbl.mixL_false, Tbl.mixL_nil, Nat.reduceAdd, Nat.zero_add]
      go_simp
      refine (al _ (h0.kp hg)).mono ?_
      rintro en w2 ⟨v2, rfl, ho, hk⟩
      exact hK _ _ (ints_of ho) (hg.trans hk) hk
    refine Tbl.keepC_cons (c := none) (by kernel_rfl) ?_ ?_
    · refine Tbl.keepC_no ?_
      intro U w K kc hg hs hK
      clear hs
      simp only [Tbl.mixL_true, Tbl.mixL_false, Tbl.mixL_nil, Nat.reduceAdd, Nat.zero_add]
      have d0 := (r0.fr hg (fun h => h)).five
      go_simp
      exact hK _ _ rfl hg (Fr.refl _ _)
    refine Tbl.keepC_cons (c := none) (by kernel_rfl) ?_ ?_
    · refine Tbl.keepC_no ?_
      intro U w K kc hg hs hK
      have h16 : U 16 = _ := (hs 16 (by decide)).1 2 (by kernel_rfl) (by kernel_rfl)
      clear hs
      simp only [Tbl.mixL_true, Tbl.mixL_false, Tbl.mixL_nil, Nat.reduceAdd, Nat.zero_add]
      go_simp
      refine (ac _ (h0.kp hg)).mono ?_
      rintro en w2 ⟨v2, rfl, ho, hk⟩
      exact hK _ _ (ints_of ho) (hg.trans hk) hk
    refine Tbl.keepC_cons (c := none) (by kernel_rfl) ?_ ?_
    · refine Tbl.keepC_no ?_
      intro U w K kc hg hs hK
      have h15 : (Ints ms.length (serials ms)) (U 15) w := (hs 15 (by decide)).1 1 (by kernel_rfl) (by kernel_rfl)
      clear hs
      simp only [Tbl.mixL_true, Tbl.mixL_false, Tbl.mixL_nil, Nat.reduceAdd, Nat.zero_add]
      go_simp
      exact hK _ _ h15 hg (Fr.refl _ _)
    refine Tbl.keepC_cons (c := none) (by kernel_rfl) ?_ ?_
    · refine Tbl.keepC_no ?_
      intro U w K kc hg hs hK
      have h17 : (Ints (act ms).length (serials (act ms))) (U 17) w := (hs 17 (by decide)).1 3 (by kernel_rfl) (by kernel_rfl)
      clear hs
      simp only [Tbl.mixL_true, Tbl.mixL_false, Tbl.mixL_nil, Nat.reduceAdd, Nat.zero_add]
      go_simp
      exact hK _ _ h17 hg (Fr.refl _ _)
    exact Tbl.keepC_nil
  case hp =>
    refine Tbl.table_stable _ ?_
    refine Tbl.stable_is ?_
    refine ⟨ints_kp, ?_⟩
    refine Tbl.stable_is ?_
    refine ⟨ints_kp, ?_⟩
    refine ⟨ints_kp, ?_⟩
    refine ⟨ints_kp, ?_⟩
    exact Tbl.stable_nil
  case hfin =>
    intro U w' hG hp
    try simp only [List.length_cons, List.length_nil, Nat.reduceAdd, Nat.zero_add] at hG
    have h5 : (Ints ms.length (serials ms)) (U 5) w' := hp 4 5 (by kernel_rfl)
    have h6 : (Ints (act ms).length (serials (act ms))) (U 6) w' := hp 5 6 (by kernel_rfl)
    have h14 : U 14 = _ := hp 0 14 (by kernel_rfl)
    have h15 : (Ints ms.length (serials ms)) (U 15) w' := hp 1 15 (by kernel_rfl)
    have h16 : U 16 = _ := hp 2 16 (by kernel_rfl)
    have h17 : (Ints (act ms).length (serials (act ms))) (U 17) w' := hp 3 17 (by kernel_rfl)
    clear hp
    simp only [Tbl.mixL_true, Tbl.mixL_false, Tbl.mixL_nil, Nat.reduceAdd, Nat.zero_add]
    generalize U 5 = u5 at *
    generalize U 6 = u6 at *
    rw [h14]
    generalize U 15 = u15 at *
    rw [h16]
    generalize U 17 = u17 at *
    clear h14
    clear h16
    clear h15 h17
    have r0' := r0.fr hG (fun h => h)
    have r1' := r1.fr hG (fun h => h)
    have M0 := h0.kp hG
    have X0 := hx0.kp hG
    have kW := k0.trans hG
    clear hG r0 r1 h0 hx0 k0 al ac W
    have d0 := r1'.five
    go_wp2
    clear d0
    go_loopw [21, 7] (fun iv cv wr => ∃ k : Nat, k ≤ ms.length ∧ iv = .int .i64 k ∧ cv = .int .i64 ((act (ms.take k)).length : Nat) ∧ Kp w' wr) (fun iv _ _ => ms.length - (intOf iv).toNat)
    case atStart => exact ⟨0, Nat.zero_le _, rfl, rfl, Fr.refl _ _⟩
    case round =>
      obtain ⟨k, hk, rfl, rfl, hK⟩ := hrel
      have rr := r0'.fr hK (fun h => h)
      have rx := r1'.fr hK (fun h => h)
      have MM := M0.kp hK
      have XX := X0.kp hK
      have i5 := ints_kp _ _ _ h5 hK
      have i6 := ints_kp _ _ _ h6 hK
      have hKw := kW.trans hK
      by_cases hlt : k < ms.length
      · obtain ⟨xb, rfl, hxb, q0, q1, q2⟩ := XX.get k hlt
        have k1 : (0 : Int) ≤ (k : Int) := by omega
        have k2 : (k : Int) < (ms.length : Int) := by omega
        have fk := fun w h => fa k w h hlt
        have hs5 : (serials ms)[k]? = some (.int .i64 (ms[k].serial : Int)) := by simp [serials, hlt]
        have hac := Lib.hid (act_succ ms k hlt)
        have hag := act_get ms k hlt
        have hal : (act (ms.take k)).length ≤ 16 := Nat.le_trans (List.length_filter_le _ _) (by rw [List.length_take]; omega)
        clear fa fn
        generalize ms[k] = m at *
        obtain ⟨s, jj, st⟩ := m
        simp only [Mb.val] at *
        have d0 := rr.five
        have hgl : g < wr.heap.size := rr.lt
        go_wp2_with fail
        clear d0 hgl
        refine callsAt ?_
        intro W2 hW2
        obtain ⟨n2, hn2⟩ : ∃ n2, n2 = wr.heap.size := ⟨_, rfl⟩
        rw [← hn2]
        have q3 : Row W2 n2 103 [.int .i64 s, .int .u64 jj, .int .i64 st] := by rw [hn2, hW2]; exact Row.new wr _ _
        have hK2 : Kp wr W2 := by rw [hW2]; exact (Fr.refl _ wr).alloc _
        clear hW2 hn2 q0 q1 q2 hxb
        refine (fk _ (MM.kp hK2)).mono ?_
        rintro en w3 ⟨rfl, hk3⟩
        have q4 := q3.fr hk3 (fun h => h)
        have hK3 := hK2.trans hk3
        clear fk q3 hk3 hK2 W2
        have c4 := q4.three
        go_wp2_with fail
        refine codeAt ?_
        intro W4 hW4
        obtain ⟨n4, hn4⟩ : ∃ n4, n4 = w3.heap.size := ⟨_, rfl⟩
        rw [← hn4]
        have q5 : Row W4 n4 72 [.int .i64 s, .int .u64 jj, .int .i64 st] := by rw [hn4, hW4]; exact Row.new w3 _ _
        have q6 := q4.alloc (.cells #[.int .i64 s, .int .u64 jj, .int .i64 st] 72)
        rw [← hW4] at q6
        have hK4 : Kp wr W4 := by rw [hW4]; exact hK3.alloc _
        have i5' := ints_kp _ _ _ i5 hK4
        have i6' := ints_kp _ _ _ i6 hK4
        have hKe := hK.trans hK4
        clear hW4 hn4 q4 c4 hK3 w3 i5 i6 rr rx MM XX hKw hK hK4 wr
        obtain ⟨a5, c5, rfl, hc5, hm5, g5⟩ := own_slice i5'
        obtain ⟨b5, rfl, hb5, hcell5⟩ := g5 k _ hs5
        clear g5 hs5 hm5
        apply (fun (c0 : Value) (c1 : Value) (c2 : Value) (c3 : Value) (c4 : Value) (c5 : Value) (c6 : Value) (c7 : Value) (c8 : Value) (c9 : Value) (c10 : Value) (c11 : Value) (c12 : Value) (c13 : Value) (c14 : Value) (c15 : Value) (c16 : Value) (c17 : Value) (c18 : Value) (c19 : Value) (c20 : Value) (c21 : Value) (c22 : Value) (c23 : Value) hm hok hf hfl hch hcl hp hrefl hg hk hfin => Tbl.wp_chain (fun _ _ => True) (fun _ w' => Kp W4 w') [] [false, false, false, false, false, false, false, false, false, false, false, false, false, false, false, false, false, false, false, false, false, false, false, false, false, false, false, false, false, false, false, false, false, true, true, true, true, true, true, true, true, true, true, true, true, true, true, true, true, true, true, true, true, true, true, true, true, false, false, false, false, false, false, false, false, false, false, false, false, false, false, false, false, false, false, false, false, false, false, false, false, false, false, false, false, false, false, false, false, false, false, false, false, false, false, false, false] [Tbl.Is c0, Tbl.Is c1, Tbl.Is c2, Tbl.Is c3, Tbl.Is c4, Tbl.Is c5, Tbl.Is c6, Tbl.Is c7, Tbl.Is c8, Tbl.Is c9, Tbl.Is c10, Tbl.Is c11, Tbl.Is c12, Tbl.Is c13, Tbl.Is c14, Tbl.Is c15, Tbl.Is c16, Tbl.Is c17, Tbl.Is c18, Tbl.Is c19, Tbl.Is c20, Tbl.Is c21, Tbl.Is c22, Tbl.Is c23] hm hok hf hfl hch hcl hp hrefl hg hk hfin)
        case hm => rfl
        case hok => kernel_rfl
        case hf => kernel_rfl
        case hfl => rfl
        case hch => kernel_rfl
        case hcl => kernel_rfl
        case hrefl =>
          exact fun _ => trivial
        case hg =>
          exact (Fr.refl _ W4).drew
        case hk =>
          refine Tbl.keepC_cons (c := none) (by kernel_rfl) ?_ ?_
          · refine Tbl.keepC_no ?_
            intro U w K kc hg hs hK
            clear hs
            simp only [Tbl.mixL_true, Tbl.mixL_false, Tbl.mixL_nil, Nat.reduceAdd, Nat.zero_add]
            go_simp
            exact hK _ _ rfl hg (trivial)
          refine Tbl.keepC_cons (c := none) (by kernel_rfl) ?_ ?_
          · refine Tbl.keepC_no ?_
            intro U w K kc hg hs hK
            clear hs
            simp only [Tbl.mixL_true, Tbl.mixL_false, Tbl.mixL_nil, Nat.reduceAdd, Nat.zero_add]
            go_simp
            exact hK _ _ rfl hg (trivial)
          refine Tbl.keepC_cons (c := none) (by kernel_rfl) ?_ ?_
          · refine Tbl.keepC_no ?_
            intro U w K kc hg hs hK
            have h34 : U 34 = _ := (hs 34 (by decide)).1 1 (by kernel_rfl) (by kernel_rfl)
            clear hs
            simp only [Tbl.mixL_true, Tbl.mixL_false, Tbl.mixL_nil, Nat.reduceAdd, Nat.zero_add]
            go_simp
            exact hK _ _ rfl hg (trivial)
          refine Tbl.keepC_cons (c := none) (by kernel_rfl) ?_ ?_
          · refine Tbl.keepC_no ?_
            intro U w K kc hg hs hK
            have h33 : U 33 = _ := (hs 33 (by decide)).1 0 (by kernel_rfl) (by kernel_rfl)
            have h35 : U 35 = _ := (hs 35 (by decide)).1 2 (by kernel_rfl) (by kernel_rfl)
            clear hs
            simp only [Tbl.mixL_true, Tbl.mixL_false, Tbl.mixL_nil, Nat.reduceAdd, Nat.zero_add]
            go_simp
            exact hK _ _ rfl hg (trivial)
          refine Tbl.keepC_cons (c := none) (by kernel_rfl) ?_ ?_
          · refine Tbl.keepC_no ?_
            intro U w K kc hg hs hK
            have h36 : U 36 = _ := (hs 36 (by decide)).1 3 (by kernel_rfl) (by kernel_rfl)
            clear hs
            simp only [Tbl.mixL_true, Tbl.mixL_false, Tbl.mixL_nil, Nat.reduceAdd, Nat.zero_add]
            go_simp
            exact hK _ _ rfl hg (trivial)
          refine Tbl.keepC_cons (c := none) (by kernel_rfl) ?_ ?_
          · refine Tbl.keepC_no ?_
            intro U w K kc hg hs hK
            have h37 : U 37 = _ := (hs 37 (by decide)).1 4 (by kernel_rfl) (by kernel_rfl)
            clear hs
            simp only [Tbl.mixL_true, Tbl.mixL_false, Tbl.mixL_nil, Nat.reduceAdd, Nat.zero_add]
            go_simp
            exact hK _ _ rfl hg (trivial)
          refine Tbl.keepC_cons (c := none) (by kernel_rfl) ?_ ?_
          · refine Tbl.keepC_no ?_
            intro U w K kc hg hs hK
            have h37 : U 37 = _ := (hs 37 (by decide)).1 4 (by kernel_rfl) (by kernel_rfl)
            clear hs
            simp only [Tbl.mixL_true, Tbl.mixL_false, Tbl.mixL_nil, Nat.reduceAdd, Nat.zero_add]
            go_simp
            exact hK _ _ rfl hg (trivial)
          refine Tbl.keepC_cons (c := none) (by kernel_rfl) ?_ ?_
          · refine Tbl.keepC_no ?_
            intro U w K kc hg hs hK
            have h38 : U 38 = _ := (hs 38 (by decide)).1 5 (by kernel_rfl) (by kernel_rfl)
            have h39 : U 39 = _ := (hs 39 (by decide)).1 6 (by kernel_rfl) (by kernel_rfl)
            have h37 : U 37 = _ := (hs 37 (by decide)).1 4 (by kernel_rfl) (by kernel_rfl)
            clear hs
            simp only [Tbl.mixL_true, Tbl.mixL_false, Tbl.mixL_nil, Nat.reduceAdd, Nat.zero_add]
            go_simp
            exact hK _ _ rfl hg (trivial)
          refine Tbl.keepC_cons (c := none) (by kernel_rfl) ?_ ?_
          · refine Tbl.keepC_no ?_
            intro U w K kc hg hs hK
            have h40 : U 40 = _ := (hs 40 (by decide)).1 7 (by kernel_rfl) (by kernel_rfl)
            have h37 : U 37 = _ := (hs 37 (by decide)).1 4 (by kernel_rfl) (by kernel_rfl)
            clear hs
            simp only [Tbl.mixL_true, Tbl.mixL_false, Tbl.mixL_nil, Nat.reduceAdd, Nat.zero_add]
            have d0 := (hg.cell (p := ⟨b5, k, none⟩) hb5 (fun h => h)).trans hcell5
            go_simp
            exact hK _ _ rfl hg (trivial)
          refine Tbl.keepC_cons (c := none) (by kernel_rfl) ?_ ?_
          · refine Tbl.keepC_no ?_
            intro U w K kc hg hs hK
            have h37 : U 37 = _ := (hs 37 (by decide)).1 4 (by kernel_rfl) (by kernel_rfl)
            clear hs
            simp only [Tbl.mixL_true, Tbl.mixL_false, Tbl.mixL_nil, Nat.reduceAdd, Nat.zero_add]
            go_simp
            exact hK _ _ rfl hg (trivial)
          refine Tbl.keepC_cons (c := none) (by kernel_rfl) ?_ ?_
          · refine Tbl.keepC_no ?_
            intro U w K kc hg hs hK
            have h42 : U 42 = _ := (hs 42 (by decide)).1 9 (by kernel_rfl) (by kernel_rfl)
            have h37 : U 37 = _ := (hs 37 (by decide)).1 4 (by kernel_rfl) (by kernel_rfl)
            clear hs
            simp only [Tbl.mixL_true, Tbl.mixL_false, Tbl.mixL_nil, Nat.reduceAdd, Nat.zero_add]
            have d0 := (q6.fr hg (fun h => h)).three
            go_simp
            exact hK _ _ rfl hg (trivial)
          refine Tbl.keepC_cons (c := none) (by kernel_rfl) ?_ ?_
          · refine Tbl.keepC_no ?_
            intro U w K kc hg hs hK
            have h41 : U 41 = _ := (hs 41 (by decide)).1 8 (by kernel_rfl) (by kernel_rfl)
            have h43 : U 43 = _ := (hs 43 (by decide)).1 10 (by kernel_rfl) (by kernel_rfl)
            have h37 : U 37 = _ := (hs 37 (by decide)).1 4 (by kernel_rfl) (by kernel_rfl)
            clear hs
            simp only [Tbl.mixL_true, Tbl.mixL_false, Tbl.mixL_nil, Nat.reduceAdd, Nat.zero_add]
            go_simp
            exact hK _ _ rfl hg (trivial)
          refine Tbl.keepC_cons (c := none) (by kernel_rfl) ?_ ?_
          · refine Tbl.keepC_no ?_
            intro U w K kc hg hs hK
            have h37 : U 37 = _ := (hs 37 (by decide)).1 4 (by kernel_rfl) (by kernel_rfl)
            have h44 : U 44 = _ := (hs 44 (by decide)).1 11 (by kernel_rfl) (by kernel_rfl)
            clear hs
            simp only [Tbl.mixL_true, Tbl.mixL_false, Tbl.mixL_nil, Nat.reduceAdd, Nat.zero_add]
            go_simp
            exact hK _ _ rfl hg (trivial)
          refine Tbl.keepC_cons (c := none) (by kernel_rfl) ?_ ?_
          · refine Tbl.keepC_no ?_
            intro U w K kc hg hs hK
            have h45 : U 45 = _ := (hs 45 (by decide)).1 12 (by kernel_rfl) (by kernel_rfl)
            clear hs
            simp only [Tbl.mixL_true, Tbl.mixL_false, Tbl.mixL_nil, Nat.reduceAdd, Nat.zero_add]
            go_simp
            exact hK _ _ rfl hg (trivial)
          refine Tbl.keepC_cons (c := none) (by kernel_rfl) ?_ ?_
          · refine Tbl.keepC_no ?_
            intro U w K kc hg hs hK
            have h46 : U 46 = _ := (hs 46 (by decide)).1 13 (by kernel_rfl) (by kernel_rfl)
            clear hs
            simp only [Tbl.mixL_true, Tbl.mixL_false, Tbl.mixL_nil, Nat.reduceAdd, Nat.zero_add]
            go_simp
            exact hK _ _ rfl hg (trivial)
          refine Tbl.keepC_cons (c := none) (by kernel_rfl) ?_ ?_
          · refine Tbl.keepC_no ?_
            intro U w K kc hg hs hK
            have h47 : U 47 = _ := (hs 47 (by decide)).1 14 (by kernel_rfl) (by kernel_rfl)
            have h46 : U 46 = _ := (hs 46 (by decide)).1 13 (by kernel_rfl) (by kernel_rfl)
            clear hs
            simp only [Tbl.mixL_true, Tbl.mixL_false, Tbl.mixL_nil, Nat.reduceAdd, Nat.zero_add]
            go_simp
            exact hK _ _ rfl hg (trivial)
          refine Tbl.keepC_cons (c := none) (by kernel_rfl) ?_ ?_
          · refine Tbl.keepC_no ?_
            intro U w K kc hg hs hK
            have h46 : U 46 = _ := (hs 46 (by decide)).1 13 (by kernel_rfl) (by kernel_rfl)
            have h48 : U 48 = _ := (hs 48 (by decide)).1 15 (by kernel_rfl) (by kernel_rfl)
            clear hs
            simp only [Tbl.mixL_true, Tbl.mixL_false, Tbl.mixL_nil, Nat.reduceAdd, Nat.zero_add]
            go_simp
            exact hK _ _ rfl hg (trivial)
          refine Tbl.keepC_cons (c := none) (by kernel_rfl) ?_ ?_
          · refine Tbl.keepC_no ?_
            intro U w K kc hg hs hK
            have h49 : U 49 = _ := (hs 49 (by decide)).1 16 (by kernel_rfl) (by kernel_rfl)
            clear hs
            simp only [Tbl.mixL_true, Tbl.mixL_false, Tbl.mixL_nil, Nat.reduceAdd, Nat.zero_add]
            go_simp
            exact hK _ _ rfl hg (trivial)
          refine Tbl.keepC_cons (c := none) (by kernel_rfl) ?_ ?_
          · refine Tbl.keepC_no ?_
            intro U w K kc hg hs hK
            have h50 : U 50 = _ := (hs 50 (by decide)).1 17 (by kernel_rfl) (by kernel_rfl)
            clear hs
            simp only [Tbl.mixL_true, Tbl.mixL_false, Tbl.mixL_nil, Nat.reduceAdd, Nat.zero_add]
            go_simp
            exact hK _ _ rfl hg (trivial)
          refine Tbl.keepC_cons (c := none) (by kernel_rfl) ?_ ?_
          · refine Tbl.keepC_no ?_
            intro U w K kc hg hs hK
            have h51 : U 51 = _ := (hs 51 (by decide)).1 18 (by kernel_rfl) (by kernel_rfl)
            have h50 : U 50 = _ := (hs 50 (by decide)).1 17 (by kernel_rfl) (by kernel_rfl)
            clear hs
            simp only [Tbl.mixL_true, Tbl.mixL_false, Tbl.mixL_nil, Nat.reduceAdd, Nat.zero_add]
            have d0 := (q5.fr hg (fun h => h)).three
            go_simp
            exact hK _ _ rfl hg (trivial)
          refine Tbl.keepC_cons (c := none) (by kernel_rfl) ?_ ?_
          · refine Tbl.keepC_no ?_
            intro U w K kc hg hs hK
            have h50 : U 50 = _ := (hs 50 (by decide)).1 17 (by kernel_rfl) (by kernel_rfl)
            clear hs
            simp only [Tbl.mixL_true, Tbl.mixL_false, Tbl.mixL_nil, Nat.reduceAdd, Nat.zero_add]
            go_simp
            exact hK _ _ rfl hg (trivial)
          refine Tbl.keepC_cons (c := none) (by kernel_rfl) ?_ ?_
          · refine Tbl.keepC_no ?_
            intro U w K kc hg hs hK
            have h53 : U 53 = _ := (hs 53 (by decide)).1 20 (by kernel_rfl) (by kernel_rfl)
            have h50 : U 50 = _ := (hs 50 (by decide)).1 17 (by kernel_rfl) (by kernel_rfl)
            clear hs
            simp only [Tbl.mixL_true, Tbl.mixL_false, Tbl.mixL_nil, Nat.reduceAdd, Nat.zero_add]
            have d0 := (q6.fr hg (fun h => h)).three
            go_simp
            exact hK _ _ rfl hg (trivial)
          refine Tbl.keepC_cons (c := none) (by kernel_rfl) ?_ ?_
          · refine Tbl.keepC_no ?_
            intro U w K kc hg hs hK
            have h52 : U 52 = _ := (hs 52 (by decide)).1 19 (by kernel_rfl) (by kernel_rfl)
            have h54 : U 54 = _ := (hs 54 (by decide)).1 21 (by kernel_rfl) (by kernel_rfl)
            have h50 : U 50 = _ := (hs 50 (by decide)).1 17 (by kernel_rfl) (by kernel_rfl)
            clear hs
            simp only [Tbl.mixL_true, Tbl.mixL_false, Tbl.mixL_nil, Nat.reduceAdd, Nat.zero_add]
            go_simp
            exact hK _ _ rfl hg (trivial)
          refine Tbl.keepC_cons (c := none) (by kernel_rfl) ?_ ?_
          · refine Tbl.keepC_no ?_
            intro U w K kc hg hs hK
            have h50 : U 50 = _ := (hs 50 (by decide)).1 17 (by kernel_rfl) (by kernel_rfl)
            have h55 : U 55 = _ := (hs 55 (by decide)).1 22 (by kernel_rfl) (by kernel_rfl)
            clear hs
            simp only [Tbl.mixL_true, Tbl.mixL_false, Tbl.mixL_nil, Nat.reduceAdd, Nat.zero_add]
            go_simp
            exact hK _ _ rfl hg (trivial)
          exact Tbl.keepC_nil
        case hp =>
          refine Tbl.table_stable _ ?_
          refine Tbl.stable_is ?_
          refine Tbl.stable_is ?_
          refine Tbl.stable_is ?_
          refine Tbl.stable_is ?_
          refine Tbl.stable_is ?_
          refine Tbl.stable_is ?_
          refine Tbl.stable_is ?_
          refine Tbl.stable_is ?_
          refine Tbl.stable_is ?_
          refine Tbl.stable_is ?_
          refine Tbl.stable_is ?_
          refine Tbl.stable_is ?_
          refine Tbl.stable_is ?_
          refine Tbl.stable_is ?_
          refine Tbl.stable_is ?_
          refine Tbl.stable_is ?_
          refine Tbl.stable_is ?_
          refine Tbl.stable_is ?_
          refine Tbl.stable_is ?_
          refine Tbl.stable_is ?_
          refine Tbl.stable_is ?_
          refine Tbl.stable_is ?_
          refine Tbl.stable_is ?_
          refine Tbl.stable_is ?_
          exact Tbl.stable_nil
        case hfin =>
          intro U w' hG hp
          try simp only [List.length_cons, List.length_nil, Nat.reduceAdd, Nat.zero_add] at hG
          have h33 : U 33 = _ := hp 0 33 (by kernel_rfl)
          have h34 : U 34 = _ := hp 1 34 (by kernel_rfl)
          have h35 : U 35 = _ := hp 2 35 (by kernel_rfl)
          have h36 : U 36 = _ := hp 3 36 (by kernel_rfl)
          have h37 : U 37 = _ := hp 4 37 (by kernel_rfl)
          have h38 : U 38 = _ := hp 5 38 (by kernel_rfl)
          have h39 : U 39 = _ := hp 6 39 (by kernel_rfl)
          have h40 : U 40 = _ := hp 7 40 (by kernel_rfl)
          have h41 : U 41 = _ := hp 8 41 (by kernel_rfl)
          have h42 : U 42 = _ := hp 9 42 (by kernel_rfl)
          have h43 : U 43 = _ := hp 10 43 (by kernel_rfl)
          have h44 : U 44 = _ := hp 11 44 (by kernel_rfl)
          have h45 : U 45 = _ := hp 12 45 (by kernel_rfl)
          have h46 : U 46 = _ := hp 13 46 (by kernel_rfl)
          have h47 : U 47 = _ := hp 14 47 (by kernel_rfl)
          have h48 : U 48 = _ := hp 15 48 (by kernel_rfl)
          have h49 : U 49 = _ := hp 16 49 (by kernel_rfl)
          have h50 : U 50 = _ := hp 17 50 (by kernel_rfl)
          have h51 : U 51 = _ := hp 18 51 (by kernel_rfl)
          have h52 : U 52 = _ := hp 19 52 (by kernel_rfl)
          have h53 : U 53 = _ := hp 20 53 (by kernel_rfl)
          have h54 : U 54 = _ := hp 21 54 (by kernel_rfl)
          have h55 : U 55 = _ := hp 22 55 (by kernel_rfl)
          have h56 : U 56 = _ := hp 23 56 (by kernel_rfl)
          clear hp
          simp only [Tbl.mixL_true, Tbl.mixL_false, Tbl.mixL_nil, Nat.reduceAdd, Nat.zero_add]
          rw [h33]
          rw [h34]
          rw [h35]
          rw [h36]
          rw [h37]
          rw [h38]
          rw [h39]
          rw [h40]
          rw [h41]
          rw [h42]
          rw [h43]
          rw [h44]
          rw [h45]
          rw [h46]
          rw [h47]
          rw [h48]
          rw [h49]
          rw [h50]
          rw [h51]
          rw [h52]
          rw [h53]
          rw [h54]
          rw [h55]
          rw [h56]
          clear h33
          clear h34
          clear h35
          clear h36
          clear h37
          clear h38
          clear h39
          clear h40
          clear h41
          clear h42
          clear h43
          clear h44
          clear h45
          clear h46
          clear h47
          clear h48
          clear h49
          clear h50
          clear h51
          clear h52
          clear h53
          clear h54
          clear h55
          clear h56
          have hKe2 := hKe.trans hG
          have q7 := q6.fr hG (fun h => h)
          have i6'' := ints_kp _ _ _ i6' hG
          clear hG hKe q5 q6 i5' i6' hb5 hcell5 hc5 W4
          have d0 := q7.three
          by_cases hst : st = 1
          · subst hst
            obtain ⟨hag1, hag2⟩ := hag rfl
            rw [if_pos rfl] at hac
            obtain ⟨a6, c6, rfl, hc6, hm6, g6⟩ := own_slice i6''
            obtain ⟨b6, rfl, hb6, hcell6⟩ := g6 _ _ hag1
            clear g6 hm6 hag1
            have z0 : (0 : Int) ≤ ((act (ms.take k)).length : Int) := by omega
            have z1 : ((act (ms.take k)).length : Int) < ((act ms).length : Int) := by omega
            go_wp2_with fail
            apply (fun (c0 : Value) (c1 : Value) (c2 : Value) (c3 : Value) (c4 : Value) (c5 : Value) (c6 : Value) (c7 : Value) (c8 : Value) (c9 : Value) (c10 : Value) (c11 : Value) (c12 : Value) hm hok hf hfl hch hcl hp hrefl hg hk hfin => Tbl.wp_chain (fun _ _ => True) (fun _ wq => Kp w' wq) [] [false, false, false, false, false, false, false, false, false, false, false, false, false, false, false, false, false, false, false, false, false, false, false, false, false, false, false, false, false, false, false, false, false, false, false, false, false, false, false, false, false, false, false, false, false, false, false, false, false, false, false, false, false, false, false, false, false, false, false, false, true, true, true, true, true, true, true, true, true, true, true, true, true, false, false, false, false, false, false, false, false, false, false, false, false, false, false, false, false, false, false, false, false, false, false, false, false] [Tbl.Is c0, Tbl.Is c1, Tbl.Is c2, Tbl.Is c3, Tbl.Is c4, Tbl.Is c5, Tbl.Is c6, Tbl.Is c7, Tbl.Is c8, Tbl.Is c9, Tbl.Is c10, Tbl.Is c11, Tbl.Is c12] hm hok hf hfl hch hcl hp hrefl hg hk hfin)
            case hm => rfl
            case hok => kernel_rfl
            case hf => kernel_rfl
            case hfl => rfl
            case hch => kernel_rfl
            case hcl => kernel_rfl
            case hrefl =>
              exact fun _ => trivial
            case hg =>
              exact (Fr.refl _ w').drew
            case hk =>
              refine Tbl.keepC_cons (c := none) (by kernel_rfl) ?_ ?_
              · refine Tbl.keepC_no ?_
                intro U w K kc hg hs hK
                clear hs
                simp only [Tbl.mixL_true, Tbl.mixL_false, Tbl.mixL_nil, Nat.reduceAdd, Nat.zero_add]
                go_simp
                exact hK _ _ rfl hg (trivial)
              refine Tbl.keepC_cons (c := none) (by kernel_rfl) ?_ ?_
              · refine Tbl.keepC_no ?_
                intro U w K kc hg hs hK
                clear hs
                simp only [Tbl.mixL_true, Tbl.mixL_false, Tbl.mixL_nil, Nat.reduceAdd, Nat.zero_add]
                go_simp
                exact hK _ _ rfl hg (trivial)
              refine Tbl.keepC_cons (c := none) (by kernel_rfl) ?_ ?_
              · refine Tbl.keepC_no ?_
                intro U w K kc hg hs hK
                have h61 : U 61 = _ := (hs 61 (by decide)).1 1 (by kernel_rfl) (by kernel_rfl)
                clear hs
                simp only [Tbl.mixL_true, Tbl.mixL_false, Tbl.mixL_nil, Nat.reduceAdd, Nat.zero_add]
                go_simp
                exact hK _ _ rfl hg (trivial)
              refine Tbl.keepC_cons (c := none) (by kernel_rfl) ?_ ?_
              · refine Tbl.keepC_no ?_
                intro U w K kc hg hs hK
                have h60 : U 60 = _ := (hs 60 (by decide)).1 0 (by kernel_rfl) (by kernel_rfl)
                have h62 : U 62 = _ := (hs 62 (by decide)).1 2 (by kernel_rfl) (by kernel_rfl)
                clear hs
                simp only [Tbl.mixL_true, Tbl.mixL_false, Tbl.mixL_nil, Nat.reduceAdd, Nat.zero_add]
                go_simp
                exact hK _ _ rfl hg (trivial)
              refine Tbl.keepC_cons (c := none) (by kernel_rfl) ?_ ?_
              · refine Tbl.keepC_no ?_
                intro U w K kc hg hs hK
                have h63 : U 63 = _ := (hs 63 (by decide)).1 3 (by kernel_rfl) (by kernel_rfl)
                clear hs
                simp only [Tbl.mixL_true, Tbl.mixL_false, Tbl.mixL_nil, Nat.reduceAdd, Nat.zero_add]
                go_simp
                exact hK _ _ rfl hg (trivial)
              refine Tbl.keepC_cons (c := none) (by kernel_rfl) ?_ ?_
              · refine Tbl.keepC_no ?_
                intro U w K kc hg hs hK
                have h64 : U 64 = _ := (hs 64 (by decide)).1 4 (by kernel_rfl) (by kernel_rfl)
                clear hs
                simp only [Tbl.mixL_true, Tbl.mixL_false, Tbl.mixL_nil, Nat.reduceAdd, Nat.zero_add]
                go_simp
                exact hK _ _ rfl hg (trivial)
              refine Tbl.keepC_cons (c := none) (by kernel_rfl) ?_ ?_
              · refine Tbl.keepC_no ?_
                intro U w K kc hg hs hK
                have h64 : U 64 = _ := (hs 64 (by decide)).1 4 (by kernel_rfl) (by kernel_rfl)
                clear hs
                simp only [Tbl.mixL_true, Tbl.mixL_false, Tbl.mixL_nil, Nat.reduceAdd, Nat.zero_add]
                go_simp
                exact hK _ _ rfl hg (trivial)
              refine Tbl.keepC_cons (c := none) (by kernel_rfl) ?_ ?_
              · refine Tbl.keepC_no ?_
                intro U w K kc hg hs hK
                have h65 : U 65 = _ := (hs 65 (by decide)).1 5 (by kernel_rfl) (by kernel_rfl)
                have h66 : U 66 = _ := (hs 66 (by decide)).1 6 (by kernel_rfl) (by kernel_rfl)
                have h64 : U 64 = _ := (hs 64 (by decide)).1 4 (by kernel_rfl) (by kernel_rfl)
                clear hs
                simp only [Tbl.mixL_true, Tbl.mixL_false, Tbl.mixL_nil, Nat.reduceAdd, Nat.zero_add]
                go_simp
                exact hK _ _ rfl hg (trivial)
              refine Tbl.keepC_cons (c := none) (by kernel_rfl) ?_ ?_
              · refine Tbl.keepC_no ?_
                intro U w K kc hg hs hK
                have h67 : U 67 = _ := (hs 67 (by decide)).1 7 (by kernel_rfl) (by kernel_rfl)
                have h64 : U 64 = _ := (hs 64 (by decide)).1 4 (by kernel_rfl) (by kernel_rfl)
                clear hs
                simp only [Tbl.mixL_true, Tbl.mixL_false, Tbl.mixL_nil, Nat.reduceAdd, Nat.zero_add]
                have d1 := (hg.cell (p := ⟨b6, (act (ms.take k)).length, none⟩) hb6 (fun h => h)).trans hcell6
                go_simp
                exact hK _ _ rfl hg (trivial)
              refine Tbl.keepC_cons (c := none) (by kernel_rfl) ?_ ?_
              · refine Tbl.keepC_no ?_
                intro U w K kc hg hs hK
                have h64 : U 64 = _ := (hs 64 (by decide)).1 4 (by kernel_rfl) (by kernel_rfl)
                clear hs
                simp only [Tbl.mixL_true, Tbl.mixL_false, Tbl.mixL_nil, Nat.reduceAdd, Nat.zero_add]
                go_simp
                exact hK _ _ rfl hg (trivial)
              refine Tbl.keepC_cons (c := none) (by kernel_rfl) ?_ ?_
              · refine Tbl.keepC_no ?_
                intro U w K kc hg hs hK
                have h69 : U 69 = _ := (hs 69 (by decide)).1 9 (by kernel_rfl) (by kernel_rfl)
                have h64 : U 64 = _ := (hs 64 (by decide)).1 4 (by kernel_rfl) (by kernel_rfl)
                clear hs
                simp only [Tbl.mixL_true, Tbl.mixL_false, Tbl.mixL_nil, Nat.reduceAdd, Nat.zero_add]
                have d1 := (q7.fr hg (fun h => h)).three
                go_simp
                exact hK _ _ rfl hg (trivial)
              refine Tbl.keepC_cons (c := none) (by kernel_rfl) ?_ ?_
              · refine Tbl.keepC_no ?_
                intro U w K kc hg hs hK
                have h68 : U 68 = _ := (hs 68 (by decide)).1 8 (by kernel_rfl) (by kernel_rfl)
                have h70 : U 70 = _ := (hs 70 (by decide)).1 10 (by kernel_rfl) (by kernel_rfl)
                have h64 : U 64 = _ := (hs 64 (by decide)).1 4 (by kernel_rfl) (by kernel_rfl)
                clear hs
                simp only [Tbl.mixL_true, Tbl.mixL_false, Tbl.mixL_nil, Nat.reduceAdd, Nat.zero_add]
                go_simp
                exact hK _ _ rfl hg (trivial)
              refine Tbl.keepC_cons (c := none) (by kernel_rfl) ?_ ?_
              · refine Tbl.keepC_no ?_
                intro U w K kc hg hs hK
                have h64 : U 64 = _ := (hs 64 (by decide)).1 4 (by kernel_rfl) (by kernel_rfl)
                have h71 : U 71 = _ := (hs 71 (by decide)).1 11 (by kernel_rfl) (by kernel_rfl)
                clear hs
                simp only [Tbl.mixL_true, Tbl.mixL_false, Tbl.mixL_nil, Nat.reduceAdd, Nat.zero_add]
                go_simp
                exact hK _ _ rfl hg (trivial)
              exact Tbl.keepC_nil
            case hp =>
              refine Tbl.table_stable _ ?_
              refine Tbl.stable_is ?_
              refine Tbl.stable_is ?_
              refine Tbl.stable_is ?_
              refine Tbl.stable_is ?_
              refine Tbl.stable_is ?_
              refine Tbl.stable_is ?_
              refine Tbl.stable_is ?_
              refine Tbl.stable_is ?_
              refine Tbl.stable_is ?_
              refine Tbl.stable_is ?_
              refine Tbl.stable_is ?_
              refine Tbl.stable_is ?_
              refine Tbl.stable_is ?_
              exact Tbl.stable_nil
            case hfin =>
              intro U w' hG hp
              try simp only [List.length_cons, List.length_nil, Nat.reduceAdd, Nat.zero_add] at hG
              have h60 : U 60 = _ := hp 0 60 (by kernel_rfl)
              have h61 : U 61 = _ := hp 1 61 (by kernel_rfl)
              have h62 : U 62 = _ := hp 2 62 (by kernel_rfl)
              have h63 : U 63 = _ := hp 3 63 (by kernel_rfl)
              have h64 : U 64 = _ := hp 4 64 (by kernel_rfl)
              have h65 : U 65 = _ := hp 5 65 (by kernel_rfl)
              have h66 : U 66 = _ := hp 6 66 (by kernel_rfl)
              have h67 : U 67 = _ := hp 7 67 (by kernel_rfl)
              have h68 : U 68 = _ := hp 8 68 (by kernel_rfl)
              have h69 : U 69 = _ := hp 9 69 (by kernel_rfl)
              have h70 : U 70 = _ := hp 10 70 (by kernel_rfl)
              have h71 : U 71 = _ := hp 11 71 (by kernel_rfl)
              have h72 : U 72 = _ := hp 12 72 (by kernel_rfl)
              clear hp
              simp only [Tbl.mixL_true, Tbl.mixL_false, Tbl.mixL_nil, Nat.reduceAdd, Nat.zero_add]
              rw [h60]
              rw [h61]
              rw [h62]
              rw [h63]
              rw [h64]
              rw [h65]
              rw [h66]
              rw [h67]
              rw [h68]
              rw [h69]
              rw [h70]
              rw [h71]
              rw [h72]
              clear h60
              clear h61
              clear h62
              clear h63
              clear h64
              clear h65
              clear h66
              clear h67
              clear h68
              clear h69
              clear h70
              clear h71
              clear h72
              go_wp2
              refine ⟨⟨k + 1, by omega, rfl, ?_, hKe2.trans hG⟩, by simp [intOf]; omega⟩
              rw [hac.out, List.length_append]
              rfl
          · have hst' : ¬ (st : Int) = 1 := by omega
            rw [if_neg hst, List.append_nil] at hac
            go_wp2
            exact ⟨⟨k + 1, by omega, rfl, by rw [hac.out], hKe2⟩, by simp [intOf]; omega⟩
      · have hlt' : (ms.length : Int) ≤ k := by omega
        have hkl : k = ms.length := by omega
        subst hkl
        rw [List.take_length]
        obtain ⟨a5, c5, rfl, _, _, _⟩ := own_slice i5
        obtain ⟨a6, c6, rfl, _, _, _⟩ := own_slice i6
        have dd := rr.five
        go_wp2_with fail
        refine (fn _ MM).mono ?_
        rintro en w3 ⟨rfl, hk3⟩
        have dx := (rx.fr hk3 (fun h => h)).five
        have hlt3 := (rx.fr hk3 (fun h => h)).lt
        go_wp2
        go_ret
        exact ⟨rfl, (hKw.trans hk3).alloc _⟩
end Go.Proofs.Ytecjailgiknfcaa

/-
  The roster, part 7: slices.Delete, Remove, Drain, Active.
-/
import Derived.Test.YtecjailgiknfcaaRosterAwake
import Derived.Test.YtecjailgiknfcaaChain
set_option linter.unusedVariables false
set_option linter.unusedSimpArgs false
namespace Go.Proofs.Ytecjailgiknfcaa
open Go.RowKit

def zero3 : List Value := [Value.int .i64 0, Value.int .u64 0, Value.int .i64 0]
theorem clear_member (w : World) (b o c : Nat) (ty : TypeId) (cur : Array Value) (hR : w.heap[b]? = some (.cells cur 72 (0, 0))) (ho : o + 3 ≤ cur.size) :
    (Builtin.clear_ #[49] ty #[.slice (some ⟨b, o, none⟩) 1 c]).run Try.prog w = .ok (.tuple #[]) (w.setRow b (cur.toList.take o ++ zero3 ++ cur.toList.drop (o + 3)).toArray) := by
  have hv : ∀ w : World, (zeroValue 72).run Try.prog w = .ok (.agg #[.int .i64 0, .int .u64 0, .int .i64 0]) w := fun w => by kernel_rfl
  have hst := run_storeCells_at Try.prog b o 72 zero3 0 cur w hR (by rw [Nat.add_zero]; exact ho) (by simp [zero3, Value.oneCell'])
  have hzc : (Builtin.zeroCells #[Value.int .i64 0, .int .u64 0, .int .i64 0] 1).toList = zero3 := by simp [Builtin.zeroCells, zero3]; rfl
  have hl : zero3.length = 3 := rfl
  rw [Nat.add_zero, hl] at hst
  simp [Builtin.clear_, run_underlying Try.underlying49, hv, Value.cells, hzc, hst]

set_option maxHeartbeats 4000000 in
set_option maxRecDepth 100000 in
theorem delete_any (v : Value) (ms : List Mb) (i : Nat) (w : World) (h : Mem 72 w v ms) (hi : i < ms.length) (hl : ms.length ≤ 1000) :
    Calls Try.prog 64 #[v, .int .i64 i, .int .i64 (i + 1 : Nat)] w fun e w' =>
      ∃ v', e = .returned v' ∧ (Mem 72 w' v' (ms.eraseIdx i) ∧ Fr (fun k => v.ownBlock = some k) w w' ∧ v'.ownBlock = v.ownBlock) := by
  obtain ⟨i0, hi0, hz0, hzs, hzb⟩ := info_parts infoMember
  have t49 := run_underlying (P := Try.prog) Try.underlying49
  rcases h.parts with ⟨rfl, rfl⟩ | ⟨b, c, row, rfl, hR, hrl, hnc, hcm, hrt, _⟩
  · simp at hi
  have hc3 : c ≤ 9223372036854775807 := hcm
  have k0 : (0 : Int) ≤ (i : Int) := by omega
  have k1 : (i : Int) < (ms.length : Int) := by omega
  have k2 : (i : Int) + 1 ≤ (ms.length : Int) := by omega
  have k3 : ¬ (i : Int) = (i : Int) + 1 := by omega
  have k4 : i ≤ c := by omega
  have k5 : (0 : Int) ≤ (i : Int) + 1 := by omega
  have k6 : (i : Int) ≤ (i : Int) + 1 := by omega
  have h1n : ms.length - (ms.length - 1) = 1 := by omega
  have kz : ((i : Int) + 1).toNat = i + 1 := by omega
  have nw : ∀ (ad : Addr), (i + 1 < ms.length → ad = ⟨b, (i + 1) * 3, none⟩) → ∀ j u, (flat (ms.drop (i + 1)))[j]? = some u → w.drew.cell? (ad.add j) = some u := fun ad had j u hj => by
    have hjl : j < (flat (ms.drop (i + 1))).length := by
      rcases Nat.lt_or_ge j (flat (ms.drop (i + 1))).length with h | h
      · exact h
      · rw [List.getElem?_eq_none h] at hj; cases hj
    rw [flat_length, List.length_drop] at hjl
    rw [had (by omega), Addr.add_lit, hR.drew.cell, ← hj, ← flat_drop, ← hrt, List.getElem?_drop, List.getElem?_take, if_pos (by omega)]
  have ap : ∀ (ad : Addr) (cs : Nat), (i + 1 < ms.length → ad = ⟨b, (i + 1) * 3, none⟩) → _ := fun ad cs had => run_append_room (P := Try.prog) w.drew 49 49 72 i0 Try.underlying49 hi0 b i c row.toArray hR.drew ad (ms.length - (i + 1)) cs (flat (ms.drop (i + 1)))
    (by rw [flat_length, List.length_drop, hzs]) (nw ad had) (flat_one _) (by omega) (by rw [flat_length, List.length_drop, hzs, List.size_toArray, hrl, ← Nat.add_mul]; exact Nat.mul_le_mul_right 3 (by omega))
  rw [hzs, show i + (ms.length - (i + 1)) = ms.length - 1 by omega] at ap
  obtain ⟨row1, hrow1⟩ : ∃ r, r = (row.toArray.toList.take (i * 3) ++ flat (ms.drop (i + 1)) ++ row.toArray.toList.drop (i * 3 + (flat (ms.drop (i + 1))).length)).toArray := ⟨_, rfl⟩
  rw [← hrow1] at ap
  have HROW := Lib.hid hrow1
  clear hrow1 nw
  have HRT := Lib.hid hrt
  clear hrt
  have hs1 : row1.size = c * 3 := by
    rw [HROW.out, List.size_toArray, List.length_append, List.length_append, List.length_take, List.length_drop, flat_length, List.length_drop, List.toList_toArray, hrl]
    omega
  have hrl1 : row1.toList.length = c * 3 := by rw [Array.length_toList, hs1]
  have HM : ∀ _ : Unit, Mem 72 (((w.drew.setRow b row1).setRow b (row1.toList.take ((ms.length - 1) * 3) ++ (zero3 ++ row1.toList.drop ((ms.length - 1) * 3 + 3))).toArray)) (.slice (some ⟨b, 0, none⟩) (ms.length - 1) c) (ms.eraseIdx i) := fun _ => by
    have hr2 := (hR.drew.over row1.toList).over (row1.toList.take ((ms.length - 1) * 3) ++ (zero3 ++ row1.toList.drop ((ms.length - 1) * 3 + 3)))
    rw [Array.toArray_toList] at hr2
    have hel : (ms.eraseIdx i).length = ms.length - 1 := List.length_eraseIdx_of_lt hi
    have hm := Mem.of_row (ms := ms.eraseIdx i) (c := c) hr2 (by
      rw [List.length_append, List.length_append, List.length_take, List.length_drop, hrl1, show zero3.length = 3 from rfl]; omega) (by omega) hcm (by
      rw [hel, List.take_append_of_le_length (by rw [List.length_take, hrl1]; omega), List.take_take, Nat.min_self, HROW.out, List.toList_toArray, List.eraseIdx_eq_take_drop_succ, flat_append, ← flat_take, ← HRT.out, List.take_take, Nat.min_eq_left (by omega)]
      have e : (ms.length - 1) * 3 = (row.take (i * 3) ++ flat (ms.drop (i + 1))).length := by rw [List.length_append, List.length_take, flat_length, List.length_drop, hrl]; omega
      rw [e, List.take_left' rfl])
    rwa [hel] at hm
  rcases Decidable.em (c = i + 1) with hc | hc
  · subst hc
    have hap := ap ⟨b, 0, none⟩ 0 (fun h => by omega)
    rw [show ms.length - (i + 1) = 0 by omega] at hap
    clear ap
    go_enter Try.func64, Try.ntmps64
    go_wp2_with fail
    apply (fun (c0 : Value) (c1 : Value) (c2 : Value) (c3 : Value) (c4 : Value) (c5 : Value) (c6 : Value) (c7 : Value) hm hok hf hfl hch hcl hp hrefl hg hk hfin => Tbl.wp_chain (fun _ _ => True) (fun k w' => Hid (w' = match k with | 0 => w.drew | _ => w.drew.setRow b row1)) [6] [true, false, false, false, false, false, false, false, false, false, false, false, false, false, false, false, false, false, false, false, true, true, true, true, true, true, true, false, false, false, false, false, false] [Tbl.Is c0, Tbl.Is c1, Tbl.Is c2, Tbl.Is c3, Tbl.Is c4, Tbl.Is c5, Tbl.Is c6, Tbl.Is c7] hm hok hf hfl hch hcl hp hrefl hg hk hfin)
    case hm => rfl
    case hok => kernel_rfl
    case hf => kernel_rfl
    case hfl => rfl
    case hch => kernel_rfl
    case hcl => kernel_rfl
    case hrefl =>
      exact fun _ => trivial
    case hg =>
      exact rfl
    case hk =>
      refine Tbl.keepC_cons (c := none) (by kernel_rfl) ?_ ?_
      · refine Tbl.keepC_no ?_
        intro U w K k hg hs hK
        have h0 : U 0 = _ := Tbl.slot_base (hs 0 (by decide)) (by kernel_rfl)
        clear hs
        simp only [Tbl.mixL_true, Tbl.mixL_false, Tbl.mixL_nil, Nat.reduceAdd, Nat.zero_add]
        go_simp
        exact hK _ _ rfl hg (trivial)
      refine Tbl.keepC_cons (c := none) (by kernel_rfl) ?_ ?_
      · refine Tbl.keepC_no ?_
        intro U w K k hg hs hK
        clear hs
        simp only [Tbl.mixL_true, Tbl.mixL_false, Tbl.mixL_nil, Nat.reduceAdd, Nat.zero_add]
        go_simp
        exact hK _ _ rfl hg (trivial)
      refine Tbl.keepC_cons (c := none) (by kernel_rfl) ?_ ?_
      · refine Tbl.keepC_no ?_
        intro U w K k hg hs hK
        have h20 : U 20 = _ := (hs 20 (by decide)).1 0 (by kernel_rfl) (by kernel_rfl)
        have h21 : U 21 = _ := (hs 21 (by decide)).1 1 (by kernel_rfl) (by kernel_rfl)
        clear hs
        simp only [Tbl.mixL_true, Tbl.mixL_false, Tbl.mixL_nil, Nat.reduceAdd, Nat.zero_add]
        go_simp
        exact hK _ _ rfl hg (trivial)
      refine Tbl.keepC_cons (c := none) (by kernel_rfl) ?_ ?_
      · refine Tbl.keepC_no ?_
        intro U w K k hg hs hK
        have h0 : U 0 = _ := Tbl.slot_base (hs 0 (by decide)) (by kernel_rfl)
        clear hs
        simp only [Tbl.mixL_true, Tbl.mixL_false, Tbl.mixL_nil, Nat.reduceAdd, Nat.zero_add]
        go_simp
        exact hK _ _ rfl hg (trivial)
      refine Tbl.keepC_cons (c := none) (by kernel_rfl) ?_ ?_
      · refine Tbl.keepC_no ?_
        intro U w K k hg hs hK
        clear hs
        simp only [Tbl.mixL_true, Tbl.mixL_false, Tbl.mixL_nil, Nat.reduceAdd, Nat.zero_add]
        go_simp
        exact hK _ _ rfl hg (trivial)
      refine Tbl.keepC_cons (c := none) (by kernel_rfl) ?_ ?_
      · refine Tbl.keepC_no ?_
        intro U w K k hg hs hK
        have h23 : U 23 = _ := (hs 23 (by decide)).1 3 (by kernel_rfl) (by kernel_rfl)
        have h24 : U 24 = _ := (hs 24 (by decide)).1 4 (by kernel_rfl) (by kernel_rfl)
        clear hs
        simp only [Tbl.mixL_true, Tbl.mixL_false, Tbl.mixL_nil, Nat.reduceAdd, Nat.zero_add]
        go_simp
        exact hK _ _ rfl hg (trivial)
      refine Tbl.keepC_cons (c := some 0) (by kernel_rfl) ?_ ?_
      · refine Tbl.keepC_at 0 ?_
        intro U w K hg hs hK
        have h22 : U 22 = _ := (hs 22 (by decide)).1 2 (by kernel_rfl) (by kernel_rfl)
        have h25 : U 25 = _ := (hs 25 (by decide)).1 5 (by kernel_rfl) (by kernel_rfl)
        clear hs
        simp only [Tbl.mixL_true, Tbl.mixL_false, Tbl.mixL_nil, Nat.reduceAdd, Nat.zero_add]
        rw [if_pos (by simp [Region.wanted])]
        rw [hg.out]
        exact Tbl.gives_append (.tmp 22) (.tmp 25) 49 rfl h22 h25 hap (hK _ _ rfl rfl trivial)
      refine Tbl.keepC_cons (c := none) (by kernel_rfl) ?_ ?_
      · refine Tbl.keepC_no ?_
        intro U w K k hg hs hK
        have h26 : U 26 = _ := (hs 26 (by decide)).1 6 (by kernel_rfl) (by kernel_rfl)
        clear hs
        simp only [Tbl.mixL_true, Tbl.mixL_false, Tbl.mixL_nil, Nat.reduceAdd, Nat.zero_add]
        go_simp
        exact hK _ _ rfl hg (trivial)
      exact Tbl.keepC_nil
    case hp =>
      refine Tbl.table_stable _ ?_
      refine Tbl.stable_is ?_
      refine Tbl.stable_is ?_
      refine Tbl.stable_is ?_
      refine Tbl.stable_is ?_
      refine Tbl.stable_is ?_
      refine Tbl.stable_is ?_
      refine Tbl.stable_is ?_
      refine Tbl.stable_is ?_
      exact Tbl.stable_nil
    case hfin =>
      intro U w' hG hp
      simp only [List.length_cons, List.length_nil, Nat.reduceAdd, Nat.zero_add] at hG
      have h0 : U 0 = _ := hp 7 0 (by kernel_rfl)
      have h20 : U 20 = _ := hp 0 20 (by kernel_rfl)
      have h21 : U 21 = _ := hp 1 21 (by kernel_rfl)
      have h22 : U 22 = _ := hp 2 22 (by kernel_rfl)
      have h23 : U 23 = _ := hp 3 23 (by kernel_rfl)
      have h24 : U 24 = _ := hp 4 24 (by kernel_rfl)
      have h25 : U 25 = _ := hp 5 25 (by kernel_rfl)
      have h26 : U 26 = _ := hp 6 26 (by kernel_rfl)
      clear hp
      simp only [Tbl.mixL_true, Tbl.mixL_false, Tbl.mixL_nil, Nat.reduceAdd, Nat.zero_add]
      rw [h0]
      rw [h20]
      rw [h21]
      rw [h22]
      rw [h23]
      rw [h24]
      rw [h25]
      rw [h26]
      clear h0
      clear h20
      clear h21
      clear h22
      clear h23
      clear h24
      clear h25
      clear h26
      have hG2 : w' = w.drew.setRow b row1 := hG
      subst hG2
      clear hG
      have cl := fun cc ty => clear_member (w.drew.setRow b row1) b ((ms.length - 1) * 3) cc ty row1 (setRow_heap w.drew b _ _ _ _ hR.drew) (by rw [hs1]; omega)
      go_wp2_with (simp only [cl])
      go_ret
      exact ⟨_, rfl, HM (), ((Fr.refl (fun k => some b = some k) w).drew.setRow b (fun _ => rfl) _).setRow b (fun _ => rfl) _, rfl⟩
  · have hap := ap ⟨b, (i + 1) * 3, none⟩ (c - (i + 1)) (fun h => rfl)
    clear ap
    go_enter Try.func64, Try.ntmps64
    go_wp2_with fail
    apply (fun (c0 : Value) (c1 : Value) (c2 : Value) (c3 : Value) (c4 : Value) (c5 : Value) (c6 : Value) (c7 : Value) hm hok hf hfl hch hcl hp hrefl hg hk hfin => Tbl.wp_chain (fun _ _ => True) (fun k w' => Hid (w' = match k with | 0 => w.drew | _ => w.drew.setRow b row1)) [6] [true, false, false, false, false, false, false, false, false, false, false, false, false, false, false, false, false, false, false, false, true, true, true, true, true, true, true, false, false, false, false, false, false] [Tbl.Is c0, Tbl.Is c1, Tbl.Is c2, Tbl.Is c3, Tbl.Is c4, Tbl.Is c5, Tbl.Is c6, Tbl.Is c7] hm hok hf hfl hch hcl hp hrefl hg hk hfin)
    case hm => rfl
    case hok => kernel_rfl
    case hf => kernel_rfl
    case hfl => rfl
    case hch => kernel_rfl
    case hcl => kernel_rfl
    case hrefl =>
      exact fun _ => trivial
    case hg =>
      exact rfl
    case hk =>
      refine Tbl.keepC_cons (c := none) (by kernel_rfl) ?_ ?_
      · refine Tbl.keepC_no ?_
        intro U w K k hg hs hK
        have h0 : U 0 = _ := Tbl.slot_base (hs 0 (by decide)) (by kernel_rfl)
        clear hs
        simp only [Tbl.mixL_true, Tbl.mixL_false, Tbl.mixL_nil, Nat.reduceAdd, Nat.zero_add]
        go_simp
        exact hK _ _ rfl hg (trivial)
      refine Tbl.keepC_cons (c := none) (by kernel_rfl) ?_ ?_
      · refine Tbl.keepC_no ?_
        intro U w K k hg hs hK
        clear hs
        simp only [Tbl.mixL_true, Tbl.mixL_false, Tbl.mixL_nil, Nat.reduceAdd, Nat.zero_add]
        go_simp
        exact hK _ _ rfl hg (trivial)
      refine Tbl.keepC_cons (c := none) (by kernel_rfl) ?_ ?_
      · refine Tbl.keepC_no ?_
        intro U w K k hg hs hK
        have h20 : U 20 = _ := (hs 20 (by decide)).1 0 (by kernel_rfl) (by kernel_rfl)
        have h21 : U 21 = _ := (hs 21 (by decide)).1 1 (by kernel_rfl) (by kernel_rfl)
        clear hs
        simp only [Tbl.mixL_true, Tbl.mixL_false, Tbl.mixL_nil, Nat.reduceAdd, Nat.zero_add]
        go_simp
        exact hK _ _ rfl hg (trivial)
      refine Tbl.keepC_cons (c := none) (by kernel_rfl) ?_ ?_
      · refine Tbl.keepC_no ?_
        intro U w K k hg hs hK
        have h0 : U 0 = _ := Tbl.slot_base (hs 0 (by decide)) (by kernel_rfl)
        clear hs
        simp only [Tbl.mixL_true, Tbl.mixL_false, Tbl.mixL_nil, Nat.reduceAdd, Nat.zero_add]
        go_simp
        exact hK _ _ rfl hg (trivial)
      refine Tbl.keepC_cons (c := none) (by kernel_rfl) ?_ ?_
      · refine Tbl.keepC_no ?_
        intro U w K k hg hs hK
        clear hs
        simp only [Tbl.mixL_true, Tbl.mixL_false, Tbl.mixL_nil, Nat.reduceAdd, Nat.zero_add]
        go_simp
        exact hK _ _ rfl hg (trivial)
      refine Tbl.keepC_cons (c := none) (by kernel_rfl) ?_ ?_
      · refine Tbl.keepC_no ?_
        intro U w K k hg hs hK
        have h23 : U 23 = _ := (hs 23 (by decide)).1 3 (by kernel_rfl) (by kernel_rfl)
        have h24 : U 24 = _ := (hs 24 (by decide)).1 4 (by kernel_rfl) (by kernel_rfl)
        clear hs
        simp only [Tbl.mixL_true, Tbl.mixL_false, Tbl.mixL_nil, Nat.reduceAdd, Nat.zero_add]
        go_simp
        exact hK _ _ rfl hg (trivial)
      refine Tbl.keepC_cons (c := some 0) (by kernel_rfl) ?_ ?_
      · refine Tbl.keepC_at 0 ?_
        intro U w K hg hs hK
        have h22 : U 22 = _ := (hs 22 (by decide)).1 2 (by kernel_rfl) (by kernel_rfl)
        have h25 : U 25 = _ := (hs 25 (by decide)).1 5 (by kernel_rfl) (by kernel_rfl)
        clear hs
        simp only [Tbl.mixL_true, Tbl.mixL_false, Tbl.mixL_nil, Nat.reduceAdd, Nat.zero_add]
        rw [if_pos (by simp [Region.wanted])]
        rw [hg.out]
        exact Tbl.gives_append (.tmp 22) (.tmp 25) 49 rfl h22 h25 hap (hK _ _ rfl rfl trivial)
      refine Tbl.keepC_cons (c := none) (by kernel_rfl) ?_ ?_
      · refine Tbl.keepC_no ?_
        intro U w K k hg hs hK
        have h26 : U 26 = _ := (hs 26 (by decide)).1 6 (by kernel_rfl) (by kernel_rfl)
        clear hs
        simp only [Tbl.mixL_true, Tbl.mixL_false, Tbl.mixL_nil, Nat.reduceAdd, Nat.zero_add]
        go_simp
        exact hK _ _ rfl hg (trivial)
      exact Tbl.keepC_nil
    case hp =>
      refine Tbl.table_stable _ ?_
      refine Tbl.stable_is ?_
      refine Tbl.stable_is ?_
      refine Tbl.stable_is ?_
      refine Tbl.stable_is ?_
      refine Tbl.stable_is ?_
      refine Tbl.stable_is ?_
      refine Tbl.stable_is ?_
      refine Tbl.stable_is ?_
      exact Tbl.stable_nil
    case hfin =>
      intro U w' hG hp
      simp only [List.length_cons, List.length_nil, Nat.reduceAdd, Nat.zero_add] at hG
      have h0 : U 0 = _ := hp 7 0 (by kernel_rfl)
      have h20 : U 20 = _ := hp 0 20 (by kernel_rfl)
      have h21 : U 21 = _ := hp 1 21 (by kernel_rfl)
      have h22 : U 22 = _ := hp 2 22 (by kernel_rfl)
      have h23 : U 23 = _ := hp 3 23 (by kernel_rfl)
      have h24 : U 24 = _ := hp 4 24 (by kernel_rfl)
      have h25 : U 25 = _ := hp 5 25 (by kernel_rfl)
      have h26 : U 26 = _ := hp 6 26 (by kernel_rfl)
      clear hp
      simp only [Tbl.mixL_true, Tbl.mixL_false, Tbl.mixL_nil, Nat.reduceAdd, Nat.zero_add]
      rw [h0]
      rw [h20]
      rw [h21]
      rw [h22]
      rw [h23]
      rw [h24]
      rw [h25]
      rw [h26]
      clear h0
      clear h20
      clear h21
      clear h22
      clear h23
      clear h24
      clear h25
      clear h26
      have hG2 : w' = w.drew.setRow b row1 := hG
      subst hG2
      clear hG
      have cl := fun cc ty => clear_member (w.drew.setRow b row1) b ((ms.length - 1) * 3) cc ty row1 (setRow_heap w.drew b _ _ _ _ hR.drew) (by rw [hs1]; omega)
      go_wp2_with (simp only [cl])
      go_ret
      exact ⟨_, rfl, HM (), ((Fr.refl (fun k => some b = some k) w).drew.setRow b (fun _ => rfl) _).setRow b (fun _ => rfl) _, rfl⟩
end Go.Proofs.Ytecjailgiknfcaa

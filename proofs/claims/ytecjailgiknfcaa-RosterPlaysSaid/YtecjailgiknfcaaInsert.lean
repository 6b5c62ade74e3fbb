/-
  The walk through slices.Insert of one roster.Member (three cells).
-/
import Derived.Test.YtecjailgiknfcaaMem
import Derived.Deep.RegionLaw
set_option linter.unusedVariables false
namespace Go.Proofs.Ytecjailgiknfcaa
open Go.RowKit

theorem infoMember : (Try.prog.info? 72).map (fun i => (i.zero, i.size, i.bytes)) = some (some (.agg #[.int .i64 0, .int .u64 0, .int .i64 0]), 3, 24) := by kernel_rfl
theorem sizeMember (w : World) : (Go.sizeOf 72).run Try.prog w = .ok 3 w := by kernel_rfl

set_option maxHeartbeats 2000000 in
set_option maxRecDepth 100000 in
/-- In the midst, where there is room: in place. -/
theorem insert_shift (b n c i vb vc : Nat) (tv : TypeId) (cur vs : List Value) (w : World) (hi : i < n) (hroom : n + 1 ≤ c) (hc63 : c ≤ 9223372036854775807) (hvb : vb ≠ b)
    (hcl : cur.length = c * 3) (hvl : vs.length = 3) (hR : Row w b 72 cur) (hV : Row w vb tv vs) (h1c : ∀ v ∈ cur.take (n * 3), v.oneCell' = true) (h1v : ∀ v ∈ vs, v.oneCell' = true) :
    Calls Try.prog 60 #[.slice (some ⟨b, 0, none⟩) n c, .int .i64 i, .slice (some ⟨vb, 0, none⟩) 1 vc] w fun e w' =>
      e = .returned (.slice (some ⟨b, 0, none⟩) (n + 1 : Nat) c) ∧ (Row w' b 72 (splice (splice cur (i * 3 + 3) ((cur.take (n * 3)).drop (i * 3))) (i * 3) vs) ∧ Fr (fun k => k = b) w w') := by
  have t49 := run_underlying (P := Try.prog) Try.underlying49
  have hz2 : ¬ ((i : Int) = (n : Int)) := by omega
  have hsz : (Try.prog.info? 72).map (·.size) = some 3 := by
    obtain ⟨i0, hi0, h0, h1, h2⟩ := info_parts infoMember
    rw [hi0]; simp [h1]
  have hsa : w.shape? vb = some (tv, 3) := by rw [World.shape?, hV]; simp [hvl]
  have hsb : w.shape? b = some (72, c * 3) := by rw [World.shape?, hR]; simp [hcl]
  have hov : ∀ lb cb, (callFunc 72 #[.slice (some ⟨vb, 0, none⟩) 1 vc, .slice (some ⟨b, (i + 1) * 3, none⟩) lb cb]).run Try.prog w = .ok (.value (.bool false)) w := fun lb cb => by
    rw [run_callFunc_extern Try.func72 (by kernel_rfl) (by kernel_rfl) (by kernel_rfl) (e := Extern.SlicesOverlaps.overlaps #[49, 49] #[4]) (by kernel_rfl),
      Lib.run_overlaps_apart w 49 4 72 Try.underlying49 3 sizeMember ⟨vb, 0, none⟩ ⟨b, (i + 1) * 3, none⟩ 1 vc lb cb hvb tv 72 3 (c * 3) hsa hsb (by omega) (hV.frozen 0) (hV.frozen 3)]
    rfl
  obtain ⟨xs, hxs⟩ : ∃ xs, xs = (cur.take (n * 3)).drop (i * 3) := ⟨_, rfl⟩
  have hxl : xs.length = (n - i) * 3 := by rw [hxs, List.length_drop, List.length_take, hcl, Nat.sub_mul]; omega
  have hxc : ∀ j v, xs[j]? = some v → w.cell? ⟨b, i * 3 + j, none⟩ = some v := fun j v hj => by
    rw [hR.cell, ← hj, hxs, List.getElem?_drop, List.getElem?_take]
    have : j < xs.length := by
      rcases Nat.lt_or_ge j xs.length with h | h
      · exact h
      · rw [List.getElem?_eq_none h] at hj; cases hj
    rw [if_pos (by rw [hxl, Nat.sub_mul] at this; omega)]
  have h1x : ∀ v ∈ xs, v.oneCell' = true := fun v hv => h1c v (by rw [hxs] at hv; exact List.mem_of_mem_drop hv)
  rw [← hxs]
  have HX := Lib.hid hxs
  clear hxs
  obtain ⟨cur1, hcur1⟩ : ∃ cur1, cur1 = splice cur (i * 3 + 3) xs := ⟨_, rfl⟩
  have hc1 : cur1.length = c * 3 := by rw [hcur1, length_splice _ _ _ (by rw [hxl, hcl, Nat.sub_mul]; omega), hcl]
  have hcp1 : ∀ ty dc sc, (Builtin.copy_ #[49, 49] ty #[.slice (some ⟨b, (i + 1) * 3, none⟩) (n - i) dc, .slice (some ⟨b, i * 3, none⟩) (n + 1 - i) sc]).run Try.prog w.drew = .ok (goInt (n - i : Nat)) (w.drew.setRow b cur1.toArray) := fun ty dc sc => by
    have h := run_copy_rowK w.drew 49 49 ty 72 3 b ((i + 1) * 3) (n - i) dc ⟨b, i * 3, none⟩ (n + 1 - i) sc cur 72 xs Try.underlying49 hsz hR.drew
      (by rw [hxl]; congr 1; simp only [Nat.min_def]; split <;> omega) (fun j v hj => by rw [Addr.add_lit]; exact hxc j v hj) (by rw [hxl, hcl, Nat.sub_mul]; omega) h1x
    rw [h, hcur1, show (i + 1) * 3 = i * 3 + 3 by omega, show Nat.min (n + 1 - i) (n - i) = n - i by simp only [Nat.min_def]; split <;> omega]
  have hcp2 : ∀ ty dc, (Builtin.copy_ #[49, 49] ty #[.slice (some ⟨b, i * 3, none⟩) (n + 1 - i) dc, .slice (some ⟨vb, 0, none⟩) 1 vc]).run Try.prog (w.drew.setRow b cur1.toArray) = .ok (goInt (1 : Nat)) ((w.drew.setRow b cur1.toArray).setRow b (splice cur1 (i * 3) vs).toArray) := fun ty dc => by
    have h := run_copy_rowK (w.drew.setRow b cur1.toArray) 49 49 ty 72 3 b (i * 3) (n + 1 - i) dc ⟨vb, 0, none⟩ 1 vc cur1 72 vs Try.underlying49 hsz (hR.drew.over _)
      (by rw [hvl, show Nat.min 1 (n + 1 - i) = 1 by simp only [Nat.min_def]; split <;> omega]) (fun j v hj => by rw [Addr.add_lit, Nat.zero_add, (hV.drew.setOther hvb _).cell, hj]) (by rw [hvl, hc1]; omega) h1v
    rw [h, show Nat.min 1 (n + 1 - i) = 1 by simp only [Nat.min_def]; split <;> omega]
  rw [← hcur1]
  have HC := Lib.hid hcur1
  clear hcur1
  have hi2 : (i : Int) ≤ (n : Int) := by omega
  have hb1 : (0 : Int) ≤ (i : Int) + 1 := by omega
  have htn : ((i : Int) + 1).toNat = i + 1 := by omega
  have hb2 : ¬ (c = i + 1) := by omega
  have hb4 : ¬ (c = i) := by omega
  have hw1 : IntKind.i64.wrap ((i : Int) + 1) = (i : Int) + 1 := by rw [IntKind.wrap_i64]; omega
  have mixed : (Try.prog).follows Departure.mixedOrders = true := by kernel_rfl
  have hb3 : (i : Int) ≤ (n : Int) + 1 := by omega
  go_enter Try.func60, Try.ntmps60
  go_wp2_with (simp only [hov])
  go_region_law_o (refine step_copy_runI rfl _ _ 49 49 rfl _ _ (by simp [Act.eval, Act.put]) (by simp [Act.eval, Act.put]) (hcp1 _ _ _) ?_)
  go_wp2_with (at_builtin; refine wpList_copy_runI _ rfl _ _ 49 49 rfl _ _ rfl rfl (hcp2 _ _) ?_)
  go_ret
  exact ⟨rfl, (hR.drew.over _).over _, Fr.setRow (S := fun k => k = b) (Fr.setRow (S := fun k => k = b) (Fr.refl _ _).drew b (fun _ => rfl) _) b (fun _ => rfl) _⟩

set_option maxHeartbeats 2000000 in
set_option maxRecDepth 100000 in
/-- In the midst, where there is no room: a new row. -/
theorem insert_grow (b n c i vb vc : Nat) (tv : TypeId) (cur vs : List Value) (w : World) (hi : i < n) (hnc : n ≤ c) (hroom : c < n + 1) (hbig : n + 1 ≤ 1000000) (hvb : vb ≠ b)
    (hcl : cur.length = c * 3) (hvl : vs.length = 3) (hR : Row w b 72 cur) (hV : Row w vb tv vs) (h1c : ∀ v ∈ cur.take (n * 3), v.oneCell' = true) (h1v : ∀ v ∈ vs, v.oneCell' = true) :
    Calls Try.prog 60 #[.slice (some ⟨b, 0, none⟩) n c, .int .i64 i, .slice (some ⟨vb, 0, none⟩) 1 vc] w fun e w' =>
      ∃ c' row, e = .returned (.slice (some ⟨w.heap.size, 0, none⟩) (n + 1 : Nat) c') ∧ (n + 1 ≤ c' ∧ c' ≤ maxLen ∧ row.length = c' * 3 ∧ row.take ((n + 1) * 3) = cur.take (i * 3) ++ (vs ++ (cur.take (n * 3)).drop (i * 3)) ∧ Row w' w.heap.size 72 row ∧ Fr (fun _ => False) w w') := by
  have t49 := run_underlying (P := Try.prog) Try.underlying49
  have hz2 : ¬ ((i : Int) = (n : Int)) := by omega
  obtain ⟨i0, hi0, hz0, hzs, hzb⟩ := info_parts infoMember
  have hsz : (Try.prog.info? 72).map (·.size) = some 3 := by rw [hi0]; simp [hzs]
  have hkk : (n : Int) + 1 - (i : Int) = ((n + 1 - i : Nat) : Int) := by omega
  have hik : i + (n + 1 - i) = n + 1 := by omega
  obtain ⟨ys, hys⟩ : ∃ ys, ys = cur.take (i * 3) := ⟨_, rfl⟩
  have hyl : ys.length = i * 3 := by rw [hys, List.length_take, hcl]; omega
  have hold : (Builtin.firstCells i0.size i (.slice (some ⟨b, 0, none⟩) i c)).run Try.prog w.drew = .ok ys.toArray w.drew := by
    rw [hzs]
    exact run_firstCells_some w.drew 3 i ⟨b, 0, none⟩ i c ys (by rw [hyl]) (fun j v hj => by
      rw [Addr.add_lit, hR.drew.cell, Nat.zero_add]
      rw [hys, List.getElem?_take] at hj
      split at hj
      · exact hj
      · cases hj)
  obtain ⟨G, hG⟩ : ∃ G, G = grownCap w (n + 1) c 72 := ⟨_, rfl⟩
  obtain ⟨ROW, hROW⟩ : ∃ ROW : Array Value, ROW = ys.toArray ++ Builtin.zeroCells #[.int .i64 0, .int .u64 0, .int .i64 0] (n + 1 - i) ++ Builtin.zeroCells #[.int .i64 0, .int .u64 0, .int .i64 0] (G - (n + 1)) := ⟨_, rfl⟩
  have hrz : ∀ ty, (Builtin.append_ #[49, 3] ty #[.slice (some ⟨b, 0, none⟩) i c, .int .i64 ((n : Int) + 1 - (i : Int))]).run Try.prog w =
      .ok (.slice (some ⟨w.heap.size, 0, none⟩) (n + 1 : Nat) G) (w.drew.alloc (.cells ROW 72)) := fun ty => by
    have h := Lib.run_append_grow_zeros w 49 3 ty 72 i0 _ .i64 .i64 Try.underlying49 Try.underlying3 hi0 hz0 (some ⟨b, 0, none⟩) i c ys hold (n + 1 - i) (by omega) (by omega) (by omega) (by omega) (by rw [hzb]; omega) (by rw [hzb, hik]; exact growslice_fits hroom (by omega))
    rw [hik, ← hG] at h
    rw [hkk, h, hROW]
    rfl
  have hGn : n + 1 ≤ G := by rw [hG]; exact grownCap_ge w _ _ _
  have hGm : G ≤ maxLen := by rw [hG]; exact grownCap_le_maxLen w (n + 1) c _ (by unfold maxLen; omega)
  have hG63 : G ≤ 9223372036854775807 := by unfold maxLen at hGm; omega
  have hz3s : ∀ k, (Builtin.zeroCells #[Value.int .i64 0, .int .u64 0, .int .i64 0] k).size = k * 3 := fun k => size_zeroCells _ k
  have hRl : ROW.toList.length = G * 3 := by
    rw [Array.length_toList, hROW, Array.size_append, Array.size_append, hz3s, hz3s, List.size_toArray, hyl]; omega
  have hRt : ROW.toList.take (i * 3) = ys := by
    rw [hROW, Array.toList_append, Array.toList_append, List.append_assoc, List.take_append_of_le_length (by simp [hyl])]
    simp [← hyl]
  have hbw : b ≠ w.heap.size := by have := hR.lt; omega
  have hvw : vb ≠ w.heap.size := by have := hV.lt; omega
  obtain ⟨N, hN⟩ : ∃ N, N = w.heap.size := ⟨_, rfl⟩
  have r0 : Row (w.alloc (.cells ROW 72)).drew N 72 ROW.toList := by rw [hN]; exact (Row.new w ROW _).drew
  have rb : Row (w.alloc (.cells ROW 72)).drew b 72 cur := (hR.alloc _).drew
  have rv : Row (w.alloc (.cells ROW 72)).drew vb tv vs := (hV.alloc _).drew
  have rF : Fr (fun _ => False) w (w.alloc (.cells ROW 72)).drew := ((Fr.refl _ _).alloc _).drew
  have hNlt : ¬ N < w.heap.size := by rw [hN]; exact Nat.lt_irrefl _
  rw [← hN] at hrz hbw hvw ⊢
  have hrz' : ∀ ty, (Builtin.append_ #[49, 3] ty #[.slice (some ⟨b, 0, none⟩) i c, .int .i64 ((n : Int) + 1 - (i : Int))]).run Try.prog w =
      .ok (.slice (some ⟨N, 0, none⟩) (n + 1 : Nat) G) (w.alloc (.cells ROW 72)).drew := hrz
  clear hrz
  generalize (w.alloc (.cells ROW 72)).drew = W at *
  obtain ⟨xs, hxs⟩ : ∃ xs, xs = (cur.take (n * 3)).drop (i * 3) := ⟨_, rfl⟩
  have hxl : xs.length = (n - i) * 3 := by rw [hxs, List.length_drop, List.length_take, hcl, Nat.sub_mul]; omega
  have hxc : ∀ j v, xs[j]? = some v → cur[i * 3 + j]? = some v := fun j v hj => by
    rw [← hj, hxs, List.getElem?_drop, List.getElem?_take]
    have : j < xs.length := by
      rcases Nat.lt_or_ge j xs.length with h | h
      · exact h
      · rw [List.getElem?_eq_none h] at hj; cases hj
    rw [if_pos (by rw [hxl, Nat.sub_mul] at this; omega)]
  have h1x : ∀ v ∈ xs, v.oneCell' = true := fun v hv => h1c v (by rw [hxs] at hv; exact List.mem_of_mem_drop hv)
  rw [← hxs, ← hys]
  have HX := Lib.hid hxs
  obtain ⟨row1, hrow1⟩ : ∃ row1, row1 = splice ROW.toList (i * 3) vs := ⟨_, rfl⟩
  have hl1 : row1.length = G * 3 := by rw [hrow1, length_splice _ _ _ (by rw [hvl, hRl]; omega), hRl]
  have hcpA : ∀ ty dc, (Builtin.copy_ #[49, 49] ty #[.slice (some ⟨N, i * 3, none⟩) (n + 1 - i) dc, .slice (some ⟨vb, 0, none⟩) 1 vc]).run Try.prog W = .ok (goInt (1 : Nat)) (W.setRow N row1.toArray) := fun ty dc => by
    have h := run_copy_rowK W 49 49 ty 72 3 N (i * 3) (n + 1 - i) dc ⟨vb, 0, none⟩ 1 vc ROW.toList 72 vs Try.underlying49 hsz r0
      (by rw [hvl, show Nat.min 1 (n + 1 - i) = 1 by simp only [Nat.min_def]; split <;> omega]) (fun j v hj => by rw [Addr.add_lit, Nat.zero_add, rv.cell, hj]) (by rw [hvl, hRl]; omega) h1v
    rw [h, hrow1, show Nat.min 1 (n + 1 - i) = 1 by simp only [Nat.min_def]; split <;> omega]
  have hcpB : ∀ ty dc sc, (Builtin.copy_ #[49, 49] ty #[.slice (some ⟨N, (i + 1) * 3, none⟩) (n - i) dc, .slice (some ⟨b, i * 3, none⟩) (n - i) sc]).run Try.prog (W.setRow N row1.toArray).drew = .ok (goInt (n - i : Nat)) ((W.setRow N row1.toArray).drew.setRow N (splice row1 ((i + 1) * 3) xs).toArray) := fun ty dc sc => by
    have h := run_copy_rowK (W.setRow N row1.toArray).drew 49 49 ty 72 3 N ((i + 1) * 3) (n - i) dc ⟨b, i * 3, none⟩ (n - i) sc row1 72 xs Try.underlying49 hsz (r0.over _).drew
      (by rw [hxl, show Nat.min (n - i) (n - i) = n - i by simp only [Nat.min_def]; split <;> omega]) (fun j v hj => by rw [Addr.add_lit, (rb.setOther hbw _).drew.cell, hxc j v hj]) (by rw [hxl, hl1, Nat.sub_mul]; omega) h1x
    rw [h, show Nat.min (n - i) (n - i) = n - i by simp only [Nat.min_def]; split <;> omega]
  have HROW := Lib.hid hrow1
  clear hrow1 hROW hG hN hold hkk hik hys hxs
  have hi2 : (i : Int) ≤ (n : Int) := by omega
  have hb1 : (0 : Int) ≤ (i : Int) + 1 := by omega
  have htn : ((i : Int) + 1).toNat = i + 1 := by omega
  have hGi : ¬ (G = i) := by omega
  have hGim : ¬ (G = i + 1) := by omega
  have hb4 : ¬ (c = i) := by omega
  have hw1 : IntKind.i64.wrap ((i : Int) + 1) = (i : Int) + 1 := by rw [IntKind.wrap_i64]; omega
  have mixed : (Try.prog).follows Departure.mixedOrders = true := by kernel_rfl
  have hb3 : (i : Int) ≤ (n : Int) + 1 := by omega
  go_enter Try.func60, Try.ntmps60
  go_wp2_with (first
    | (at_builtin; refine Lib.wpList_append_run _ rfl _ _ _ _ rfl _ _ rfl rfl _ _ (hrz' _) ?_)
    | (at_builtin; refine wpList_copy_runI _ rfl _ _ 49 49 rfl _ _ rfl rfl (hcpA _ _) ?_))
  go_region_law_o (refine step_copy_runI rfl _ _ 49 49 rfl _ _ (by simp [Act.eval, Act.put]) (by simp [Act.eval, Act.put]) (hcpB _ _ _) ?_)
  go_wp2
  go_ret
  refine ⟨G, _, rfl, hGn, hGm, ?_, ?_, (r0.over _).drew.over _, Fr.setRow (S := fun _ => False) (Fr.setRow (S := fun _ => False) rF N (fun h => hNlt h) _).drew N (fun h => hNlt h) _⟩
  · rw [length_splice _ _ _ (by rw [hxl, hl1, Nat.sub_mul]; omega), hl1]
  · have hx2 := HROW.out
    subst hx2
    simp only [splice]
    have e1 : (ROW.toList.take (i * 3)).length = i * 3 := by rw [hRt, hyl]
    rw [hRt] at e1 ⊢
    have e2 : (i + 1) * 3 = (ys ++ vs).length := by rw [List.length_append, hyl, hvl]; omega
    have e3 : (n + 1) * 3 = (ys ++ vs ++ xs).length := by rw [List.length_append, List.length_append, hyl, hvl, hxl, Nat.sub_mul]; omega
    rw [show ∀ u, ys ++ (vs ++ u) = (ys ++ vs) ++ u from fun u => (List.append_assoc _ _ _).symm, e2, List.take_left' rfl, e3, ← List.append_assoc (ys ++ vs) xs, List.take_left' rfl, List.append_assoc]
end Go.Proofs.Ytecjailgiknfcaa

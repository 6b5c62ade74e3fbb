/-
  The roster, part 9: Active; Same.
-/
import Derived.Test.YtecjailgiknfcaaRosterRef4
import Derived.Test.YtecjailgiknfcaaChain
set_option linter.unusedVariables false
set_option linter.unusedSimpArgs false
namespace Go.Proofs.Ytecjailgiknfcaa
open Go.RowKit

def act (ms : List Mb) : List Mb := ms.filter fun m => decide (m.state = 1)
theorem act_succ (ms : List Mb) (k : Nat) (h : k < ms.length) : act (ms.take (k + 1)) = act (ms.take k) ++ (if ms[k].state = 1 then [ms[k]] else []) := by
  rw [List.take_add_one, List.getElem?_eq_getElem h, act, act, List.filter_append]
  by_cases hq : ms[k].state = 1 <;> simp [hq]
theorem serials_append (xs ys : List Mb) : serials (xs ++ ys) = serials xs ++ serials ys := by simp [serials]

set_option maxHeartbeats 2000000 in
set_option maxRecDepth 100000 in
theorem active_any (R : Ro) (v : Value) (w : World) (h : Mem 72 w v R.ms) (hl : R.ms.length ≤ 1000) :
    Calls Try.prog 65 #[R.val v] w fun e w' => ∃ v', e = .returned v' ∧ (w'.ownsRow w.heap.size 3 1 v' (act R.ms).length (serials (act R.ms)) ∧ Kp w w') := by
  obtain ⟨c, e, l, j, ms⟩ := R
  simp only [Ro.val] at *
  obtain ⟨va, vc, rfl, hc1, hc2⟩ := h.slice
  clear hc1 hc2
  obtain ⟨i0, hi0, hz0, hzs, hzb⟩ := info_parts infoInt
  go_enter Try.func65, Try.ntmps65
  go_wp2
  go_loopw [3, 9] (fun out i wr => ∃ k : Nat, k ≤ ms.length ∧ i = .int .i64 k ∧ wr.ownsRow w.heap.size 3 1 out (act (ms.take k)).length (serials (act (ms.take k))) ∧ Kp w wr) (fun _ i _ => ms.length - (intOf i).toNat)
  case atStart => exact ⟨0, Nat.zero_le _, rfl, World.ownsRow_nil _ _ _ _, (Fr.refl _ w).alloc _⟩
  case round =>
    obtain ⟨k, hk, rfl, hown, hK⟩ := hrel
    by_cases hlt : k < ms.length
    · obtain ⟨bb, rfl, hbb, g0, g1, g2⟩ := (h.kp hK).get k hlt
      have k0 : (0 : Int) ≤ (k : Int) := by omega
      have k1 : (k : Int) < (ms.length : Int) := by omega
      have hser := Lib.hid (act_succ ms k hlt)
      have hle : (act (ms.take k)).length ≤ 1000 := Nat.le_trans (List.length_filter_le _ _) (by rw [List.length_take]; omega)
      generalize hls : act (ms.take k) = ls at *
      generalize ms[k] = m at *
      by_cases hq : m.state = 1
      · have hq' : (m.state : Int) = 1 := by omega
        rw [if_pos hq] at hser
        have hnew : ∀ j u, [Value.int .i64 (m.serial : Int)][j]? = some u → ((wr.alloc (.cells #[.int .i64 m.serial, .int .u64 m.join, .int .i64 1] 72)).alloc (.cells #[.int .i64 m.serial] 3)).cell? ((⟨wr.heap.size + 1, 0, none⟩ : Addr).add j) = some u := fun j u hj => by
          have := one_new (W := wr.alloc (.cells #[.int .i64 m.serial, .int .u64 m.join, .int .i64 1] 72)) (t := 3) j u hj
          rwa [show (wr.alloc (.cells #[.int .i64 m.serial, .int .u64 m.join, .int .i64 1] 72)).heap.size = wr.heap.size + 1 by simp] at this
        go_wp2_with (at_builtin; refine Hid.out ?_)
        unfold Hid
        refine wpList_append_own _ rfl _ _ 55 rfl w.heap.size 3 i0 _ 1 8 Try.underlying55 hi0 hz0 hzs hzb rfl (by decide) _ ls.length (serials ls) rfl ((hown.alloc _).alloc _)
          ⟨wr.heap.size + 1, 0, none⟩ 1 1 [.int .i64 m.serial] rfl rfl hnew (fun u hu => by simp at hu; subst hu; rfl) (by unfold maxLen; omega) (by omega) (by simp; have := hK.size; omega) ?_
        intro v' w' ho hg _
        have hK' : Kp w w' := (((hK.alloc _).alloc _).trans' (grown_fr hg) (fun i hi hs => by have := (hown.lt i hs.symm).1; omega))
        go_wp2
        refine ⟨⟨k + 1, by omega, rfl, ?_, hK'⟩, by simp [intOf]; omega⟩
        rw [hser.out, serials_append, List.length_append]
        exact ho
      · have hq' : ¬ (m.state : Int) = 1 := by omega
        rw [if_neg hq, List.append_nil] at hser
        go_wp2
        refine ⟨⟨k + 1, by omega, rfl, by rw [hser.out]; exact hown.alloc _, hK.alloc _⟩, by simp [intOf]; omega⟩
    · have hlt' : (ms.length : Int) ≤ k := by omega
      have hkl : k = ms.length := by omega
      subst hkl
      rw [List.take_length] at hown
      go_wp2
      go_ret
      exact ⟨_, rfl, hown, hK⟩

set_option maxHeartbeats 4000000 in
set_option maxRecDepth 100000 in
theorem same_any (R : Ro) (v x : Value) (w : World) (h : Mem 72 w v R.ms) (hx : Mem 103 w x R.ms) (hl : R.ms.length ≤ 1000) :
    Calls Try.prog 45 #[R.val v, R.val x] w fun e w' => e = .returned (.bool true) ∧ Kp w w' := by
  obtain ⟨c, e, l, j, ms⟩ := R
  simp only [Ro.val] at *
  obtain ⟨va, vc, rfl, hc1, hc2⟩ := h.slice
  obtain ⟨xa, xc, rfl, hd1, hd2⟩ := hx.slice
  clear hc1 hc2 hd1 hd2
  go_enter Try.func45, Try.ntmps45
  go_wp2_with fail
  have k0 : Kp w ((w.alloc (.cells #[.int .u64 c, .int .u64 e, .int .u64 l, .int .u64 j, .slice va ms.length vc] 51)).alloc (.cells #[.int .u64 c, .int .u64 e, .int .u64 l, .int .u64 j, .slice xa ms.length xc] 63)) := (box2 (Fr.refl _ _)).2.2.1
  have r0 : Row ((w.alloc (.cells #[.int .u64 c, .int .u64 e, .int .u64 l, .int .u64 j, .slice va ms.length vc] 51)).alloc (.cells #[.int .u64 c, .int .u64 e, .int .u64 l, .int .u64 j, .slice xa ms.length xc] 63)) w.heap.size 51 [.int .u64 c, .int .u64 e, .int .u64 l, .int .u64 j, .slice va ms.length vc] := (box2 (Fr.refl _ _)).1
  generalize hg : w.heap.size = g at *
  generalize ((w.alloc (.cells #[.int .u64 c, .int .u64 e, .int .u64 l, .int .u64 j, .slice va ms.length vc] 51)).alloc (.cells #[.int .u64 c, .int .u64 e, .int .u64 l, .int .u64 j, .slice xa ms.length xc] 63)) = W at *
  clear hg
  go_loopw [45] (fun i wr => ∃ k : Nat, k ≤ ms.length ∧ i = .int .i64 k ∧ Kp W wr) (fun i _ => ms.length - (intOf i).toNat)
  case atStart => exact ⟨0, Nat.zero_le _, rfl, Fr.refl _ _⟩
  case round =>
    obtain ⟨k, hk, rfl, hK⟩ := hrel
    have hK2 := k0.trans hK
    by_cases hlt : k < ms.length
    · obtain ⟨xb, rfl, hxb, q0, q1, q2⟩ := (hx.kp hK2).get k hlt
      obtain ⟨bb, rfl, hbb, g0, g1, g2⟩ := (h.kp hK2).get k hlt
      have k1 : (0 : Int) ≤ (k : Int) := by omega
      have k2 : (k : Int) < (ms.length : Int) := by omega
      have r1 := r0.fr hK (fun h => h)
      generalize ms[k] = m at *
      go_wp2_with fail
      refine codeAt ?_
      intro W2 hW2
      obtain ⟨n2, hn2⟩ : ∃ n2, n2 = wr.heap.size := ⟨_, rfl⟩
      rw [← hn2]
      have q3 : Row W2 n2 103 [.int .i64 m.serial, .int .u64 m.join, .int .i64 m.state] := by rw [hn2, hW2]; exact Row.new wr _ _
      have r2 : Row W2 g 51 [.int .u64 c, .int .u64 e, .int .u64 l, .int .u64 j, .slice (some ⟨bb, 0, none⟩) ms.length vc] := by rw [hW2]; exact r1.alloc _
      have hK3 : Kp wr W2 := by rw [hW2]; exact (Fr.refl _ wr).alloc _
      have e0 : W2.cell? ⟨bb, k * 3, none⟩ = some (.int .i64 m.serial) := by rw [hK3.cell (p := ⟨bb, k * 3, none⟩) hbb (fun h => h)]; exact g0
      have e1 : W2.cell? ⟨bb, k * 3 + 1, none⟩ = some (.int .u64 m.join) := by rw [hK3.cell (p := ⟨bb, k * 3 + 1, none⟩) hbb (fun h => h)]; exact g1
      have e2 : W2.cell? ⟨bb, k * 3 + 2, none⟩ = some (.int .i64 m.state) := by rw [hK3.cell (p := ⟨bb, k * 3 + 2, none⟩) hbb (fun h => h)]; exact g2
      have hb2 : bb < W2.heap.size := Nat.lt_of_lt_of_le hbb hK3.size
      have hKW : Kp W W2 := hK.trans hK3
      clear hW2 hn2 q0 q1 q2 g0 g1 g2 hbb hxb r1 hK hK2 hK3 h hx wr
      apply (fun (c0 : Value) (c1 : Value) (c2 : Value) (c3 : Value) (c4 : Value) (c5 : Value) (c6 : Value) (c7 : Value) (c8 : Value) (c9 : Value) (c10 : Value) (c11 : Value) (c12 : Value) hm hok hf hfl hch hcl hp hrefl hg hk hfin => Tbl.wp_chain (fun _ _ => True) (fun _ w' => Kp W2 w') [] [false, false, false, false, false, false, false, false, false, false, false, false, false, false, false, false, false, false, false, false, false, false, false, false, false, false, false, false, false, false, false, false, false, false, false, false, false, false, false, false, false, false, false, false, false, false, false, false, false, false, true, true, true, true, true, true, true, true, true, true, true, true, true, false] [Tbl.Is c0, Tbl.Is c1, Tbl.Is c2, Tbl.Is c3, Tbl.Is c4, Tbl.Is c5, Tbl.Is c6, Tbl.Is c7, Tbl.Is c8, Tbl.Is c9, Tbl.Is c10, Tbl.Is c11, Tbl.Is c12] hm hok hf hfl hch hcl hp hrefl hg hk hfin)
      case hm => rfl
      case hok => kernel_rfl
      case hf => kernel_rfl
      case hfl => rfl
      case hch => kernel_rfl
      case hcl => kernel_rfl
      case hrefl =>
        exact fun _ => trivial
      case hg =>
        exact (Fr.refl _ W2).drew
      case hk =>
        refine Tbl.keepC_cons (c := none) (by kernel_rfl) ?_ ?_
        · refine Tbl.keepC_no ?_
          intro U w K kc hg hs hK
          clear hs
          simp only [Tbl.mixL_true, Tbl.mixL_false, Tbl.mixL_nil, Nat.reduceAdd, Nat.zero_add]
          go_simp
          exact hK _ _ rfl hg (trivial)
        refine Tbl.keepC_cons (c := none) (by kernel_rfl) ?_ ?_
        · refine Tbl.keepC_no ?_
          intro U w K kc hg hs hK
          have h50 : U 50 = _ := (hs 50 (by decide)).1 0 (by kernel_rfl) (by kernel_rfl)
          clear hs
          simp only [Tbl.mixL_true, Tbl.mixL_false, Tbl.mixL_nil, Nat.reduceAdd, Nat.zero_add]
          have d0 := (r2.fr hg (fun h => h)).five
          go_simp
          exact hK _ _ rfl hg (trivial)
        refine Tbl.keepC_cons (c := none) (by kernel_rfl) ?_ ?_
        · refine Tbl.keepC_no ?_
          intro U w K kc hg hs hK
          clear hs
          simp only [Tbl.mixL_true, Tbl.mixL_false, Tbl.mixL_nil, Nat.reduceAdd, Nat.zero_add]
          go_simp
          exact hK _ _ rfl hg (trivial)
        refine Tbl.keepC_cons (c := none) (by kernel_rfl) ?_ ?_
        · refine Tbl.keepC_no ?_
          intro U w K kc hg hs hK
          have h51 : U 51 = _ := (hs 51 (by decide)).1 1 (by kernel_rfl) (by kernel_rfl)
          have h52 : U 52 = _ := (hs 52 (by decide)).1 2 (by kernel_rfl) (by kernel_rfl)
          clear hs
          simp only [Tbl.mixL_true, Tbl.mixL_false, Tbl.mixL_nil, Nat.reduceAdd, Nat.zero_add]
          go_simp
          exact hK _ _ rfl hg (trivial)
        refine Tbl.keepC_cons (c := none) (by kernel_rfl) ?_ ?_
        · refine Tbl.keepC_no ?_
          intro U w K kc hg hs hK
          have h53 : U 53 = _ := (hs 53 (by decide)).1 3 (by kernel_rfl) (by kernel_rfl)
          clear hs
          simp only [Tbl.mixL_true, Tbl.mixL_false, Tbl.mixL_nil, Nat.reduceAdd, Nat.zero_add]
          have d0 := (hg.cell (p := ⟨bb, k * 3, none⟩) hb2 (fun h => h)).trans e0
          have d1 := (hg.cell (p := ⟨bb, k * 3 + 1, none⟩) hb2 (fun h => h)).trans e1
          have d2 := (hg.cell (p := ⟨bb, k * 3 + 2, none⟩) hb2 (fun h => h)).trans e2
          go_simp
          exact hK _ _ rfl hg (trivial)
        refine Tbl.keepC_cons (c := none) (by kernel_rfl) ?_ ?_
        · refine Tbl.keepC_no ?_
          intro U w K kc hg hs hK
          clear hs
          simp only [Tbl.mixL_true, Tbl.mixL_false, Tbl.mixL_nil, Nat.reduceAdd, Nat.zero_add]
          go_simp
          exact hK _ _ rfl hg (trivial)
        refine Tbl.keepC_cons (c := none) (by kernel_rfl) ?_ ?_
        · refine Tbl.keepC_no ?_
          intro U w K kc hg hs hK
          have h55 : U 55 = _ := (hs 55 (by decide)).1 5 (by kernel_rfl) (by kernel_rfl)
          clear hs
          simp only [Tbl.mixL_true, Tbl.mixL_false, Tbl.mixL_nil, Nat.reduceAdd, Nat.zero_add]
          have d0 := (q3.fr hg (fun h => h)).three
          go_simp
          exact hK _ _ rfl hg (trivial)
        refine Tbl.keepC_cons (c := none) (by kernel_rfl) ?_ ?_
        · refine Tbl.keepC_no ?_
          intro U w K kc hg hs hK
          clear hs
          simp only [Tbl.mixL_true, Tbl.mixL_false, Tbl.mixL_nil, Nat.reduceAdd, Nat.zero_add]
          go_simp
          exact hK _ _ rfl hg (trivial)
        refine Tbl.keepC_cons (c := none) (by kernel_rfl) ?_ ?_
        · refine Tbl.keepC_no ?_
          intro U w K kc hg hs hK
          have h57 : U 57 = _ := (hs 57 (by decide)).1 7 (by kernel_rfl) (by kernel_rfl)
          clear hs
          simp only [Tbl.mixL_true, Tbl.mixL_false, Tbl.mixL_nil, Nat.reduceAdd, Nat.zero_add]
          have d0 := (q3.fr hg (fun h => h)).three
          go_simp
          exact hK _ _ rfl hg (trivial)
        refine Tbl.keepC_cons (c := none) (by kernel_rfl) ?_ ?_
        · refine Tbl.keepC_no ?_
          intro U w K kc hg hs hK
          clear hs
          simp only [Tbl.mixL_true, Tbl.mixL_false, Tbl.mixL_nil, Nat.reduceAdd, Nat.zero_add]
          go_simp
          exact hK _ _ rfl hg (trivial)
        refine Tbl.keepC_cons (c := none) (by kernel_rfl) ?_ ?_
        · refine Tbl.keepC_no ?_
          intro U w K kc hg hs hK
          have h59 : U 59 = _ := (hs 59 (by decide)).1 9 (by kernel_rfl) (by kernel_rfl)
          clear hs
          simp only [Tbl.mixL_true, Tbl.mixL_false, Tbl.mixL_nil, Nat.reduceAdd, Nat.zero_add]
          have d0 := (q3.fr hg (fun h => h)).three
          go_simp
          exact hK _ _ rfl hg (trivial)
        refine Tbl.keepC_cons (c := none) (by kernel_rfl) ?_ ?_
        · refine Tbl.keepC_no ?_
          intro U w K kc hg hs hK
          have h56 : U 56 = _ := (hs 56 (by decide)).1 6 (by kernel_rfl) (by kernel_rfl)
          have h58 : U 58 = _ := (hs 58 (by decide)).1 8 (by kernel_rfl) (by kernel_rfl)
          have h60 : U 60 = _ := (hs 60 (by decide)).1 10 (by kernel_rfl) (by kernel_rfl)
          clear hs
          simp only [Tbl.mixL_true, Tbl.mixL_false, Tbl.mixL_nil, Nat.reduceAdd, Nat.zero_add]
          go_simp
          exact hK _ _ rfl hg (trivial)
        refine Tbl.keepC_cons (c := none) (by kernel_rfl) ?_ ?_
        · refine Tbl.keepC_no ?_
          intro U w K kc hg hs hK
          have h54 : U 54 = _ := (hs 54 (by decide)).1 4 (by kernel_rfl) (by kernel_rfl)
          have h61 : U 61 = _ := (hs 61 (by decide)).1 11 (by kernel_rfl) (by kernel_rfl)
          clear hs
          simp only [Tbl.mixL_true, Tbl.mixL_false, Tbl.mixL_nil, Nat.reduceAdd, Nat.zero_add]
          go_simp
          exact hK _ _ rfl hg (trivial)
        exact Tbl.keepC_nil
      case hp =>
        refine Tbl.table_stable _ ?_
        refine Tbl.stable_is ?_
        refine Tbl.stable_is ?_
        refine Tbl.stable_is ?_
        refine Tbl.stable_is ?_
        refine Tbl.stable_is ?_
        refine Tbl.stable_is ?_
        refine Tbl.stable_is ?_
        refine Tbl.stable_is ?_
        refine Tbl.stable_is ?_
        refine Tbl.stable_is ?_
        refine Tbl.stable_is ?_
        refine Tbl.stable_is ?_
        refine Tbl.stable_is ?_
        exact Tbl.stable_nil
      case hfin =>
        intro U w' hG hp
        try simp only [List.length_cons, List.length_nil, Nat.reduceAdd, Nat.zero_add] at hG
        have h50 : U 50 = _ := hp 0 50 (by kernel_rfl)
        have h51 : U 51 = _ := hp 1 51 (by kernel_rfl)
        have h52 : U 52 = _ := hp 2 52 (by kernel_rfl)
        have h53 : U 53 = _ := hp 3 53 (by kernel_rfl)
        have h54 : U 54 = _ := hp 4 54 (by kernel_rfl)
        have h55 : U 55 = _ := hp 5 55 (by kernel_rfl)
        have h56 : U 56 = _ := hp 6 56 (by kernel_rfl)
        have h57 : U 57 = _ := hp 7 57 (by kernel_rfl)
        have h58 : U 58 = _ := hp 8 58 (by kernel_rfl)
        have h59 : U 59 = _ := hp 9 59 (by kernel_rfl)
        have h60 : U 60 = _ := hp 10 60 (by kernel_rfl)
        have h61 : U 61 = _ := hp 11 61 (by kernel_rfl)
        have h62 : U 62 = _ := hp 12 62 (by kernel_rfl)
        clear hp
        simp only [Tbl.mixL_true, Tbl.mixL_false, Tbl.mixL_nil, Nat.reduceAdd, Nat.zero_add]
        rw [h50]
        rw [h51]
        rw [h52]
        rw [h53]
        rw [h54]
        rw [h55]
        rw [h56]
        rw [h57]
        rw [h58]
        rw [h59]
        rw [h60]
        rw [h61]
        rw [h62]
        clear h50
        clear h51
        clear h52
        clear h53
        clear h54
        clear h55
        clear h56
        clear h57
        clear h58
        clear h59
        clear h60
        clear h61
        clear h62
        go_wp2
        exact ⟨⟨k + 1, by omega, rfl, hKW.trans hG⟩, by simp [intOf]; omega⟩
    · have hlt' : (ms.length : Int) ≤ k := by omega
      go_wp2
      go_ret
      exact ⟨rfl, hK2⟩
end Go.Proofs.Ytecjailgiknfcaa

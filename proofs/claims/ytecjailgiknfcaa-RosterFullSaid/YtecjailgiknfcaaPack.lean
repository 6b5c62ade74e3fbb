/-
  The roster, Pack: as many bytes as there are.
-/
import Derived.Test.YtecjailgiknfcaaRoster2
import Derived.Test.YtecjailgiknfcaaSt
import Derived.Test.YtecjailgiknfcaaChain
import Derived.Test.YtecjailgiknfcaaOctet1
set_option linter.unusedVariables false
set_option linter.unusedSimpArgs false
namespace Go.Proofs.Ytecjailgiknfcaa
open Go.RowKit

/-- So many bytes stand in the builder at block b, behind k numbers. -/
def Pk (b : Nat) (W : World) (n0 : Nat) (ns : List Nat) (k : Nat) (w' : World) : Prop := ∃ l : List UInt8, l.length = n0 + (ns.take k).sum ∧ Bld 84 b b l w' ∧ Kept b b W w'
section
variable {b : Nat} {W w w' : World} {n0 : Nat} {ns : List Nat} {k : Nat}
theorem Pk.row (h : Pk b W n0 ns k w) {g : Nat} {t : TypeId} {row : List Value} (hr : Row W g t row) (hg : g ≠ b) (ht : t ≠ 5) : Row w g t row := by
  obtain ⟨_, _, _, _, ho⟩ := h
  exact ho g _ hr (fun e => hg (Option.some.inj e)) (fun c fz e => ht (by injection e))
theorem Pk.mem (h : Pk b W n0 ns k w) {v : Value} {ms : List Mb} (hm : Mem 72 W v ms) (hb : v.ownBlock ≠ some b) : Mem 72 w v ms := by
  rcases hm.parts with ⟨rfl, rfl⟩ | ⟨b', c, row, rfl, hR, h1, h2, h3, h4, _⟩
  · exact Mem.nil _ _
  · exact Mem.of_row (h.row hR (fun e => hb (by rw [← e]; rfl)) (by decide)) h1 h2 h3 h4
theorem pkNum (x n : Nat) (h : Pk b W n0 ns k w) (hn : ns[k]? = some n) (h8 : n ≤ 8) (hx : x < 18446744073709551616) (hs : n0 + (ns.take k).sum ≤ 1000000) :
    Calls Try.prog 49 #[self b, .int .u64 x, .int .i64 n] w fun e w' => e = .returned (self b) ∧ Pk b W n0 ns (k + 1) w' := by
  obtain ⟨l, hl, hb, hB⟩ := h
  refine (outNum b b l x n w hb (by omega) hx).mono ?_
  rintro e w' ⟨rfl, hb', hk⟩
  refine ⟨rfl, _, ?_, hb', hB.trans hk⟩
  rw [List.length_append, hl, Oc.be_length]
  have e1 : Oc.clamp (n : Int) = n := by unfold Oc.clamp; omega
  have e2 : (ns.take (k + 1)).sum = (ns.take k).sum + n := by
    rw [List.take_add_one, hn]; simp
  rw [e1, e2]; omega
end

set_option maxHeartbeats 4000000 in
set_option maxRecDepth 100000 in
theorem pack_any (R : Ro) (v : Value) (w : World) (h : Mem 72 w v R.ms) (hl : R.ms.length ≤ 1000) (hc : R.cache ≤ 1000000) (he : R.epoch ≤ 1000000) (hle : R.lease ≤ 100000000) (hj : R.joins ≤ 1000000)
    (hm : ∀ m ∈ R.ms, m.serial ≤ 1000 ∧ m.join ≤ 1000000 ∧ m.state ≤ 2) :
    Calls Try.prog 36 #[R.val v] w fun e w' => ∃ s : ByteArray, e = .returned (.string s) ∧ (s.size = 33 + 11 * R.ms.length ∧ Kp w w') := by
  obtain ⟨c, ep, l, j, ms⟩ := R
  simp only [Ro.val] at *
  obtain ⟨va, vc, rfl, hc1, hc2⟩ := h.slice
  clear hc1 hc2
  go_enter Try.func36, Try.ntmps36
  go_wp2_with fail
  refine codeAt ?_
  intro W hW
  have hb0 : Bld 84 (w.heap.size + 1) (w.heap.size + 1) [] W := by
    subst hW
    have := Lib.IsBuilderF.of (Lib.fresh_isBuilder 84 5 (w.alloc (Obj.cells #[.int .u64 c, .int .u64 ep, .int .u64 l, .int .u64 j, .slice va ms.length vc] 51)))
    simpa [Bld, Lib.byteCells] using this
  have hR : Row W w.heap.size 51 [.int .u64 c, .int .u64 ep, .int .u64 l, .int .u64 j, .slice va ms.length vc] := by subst hW; exact (Row.new w _ _).alloc _
  have hKW : Kp w W := by subst hW; exact ((Fr.refl _ w).alloc _).alloc _
  have hM := h.kp hKW
  obtain ⟨g, HG⟩ : ∃ g, g = w.heap.size := ⟨_, rfl⟩
  rw [← HG] at hb0 hR ⊢
  have hgw := hKW.size
  rw [← HG] at hgw
  have hO : Row W (g + 1) 84 [.pointer none, .slice none 0 0] := by
    rw [HG]
    subst hW
    have := Row.new (w.alloc (Obj.cells #[.int .u64 c, .int .u64 ep, .int .u64 l, .int .u64 j, .slice va ms.length vc] 51)) #[.pointer none, .slice none 0 0] 84
    simpa using this
  have hne := hM.ne hO (by decide)
  have hw : IntKind.u64.wrap (ms.length : Int) = ms.length := by simp [IntKind.wrap, IntKind.bits, IntKind.signed]; omega
  have p0 : Pk (g + 1) W 0 [8, 8, 8, 8, 1] 0 W.drew := ⟨[], rfl, hb0.drew, (Below.refl _ _).drew, (Lib.OthersKept.refl _ _ _).drew⟩
  have HGW := Lib.hid HG
  clear HG hW hO h
  have gg : g < g + 1 := Nat.lt_succ_self g
  apply (fun (c0 : Value) (c1 : Value) (c2 : Value) (c3 : Value) (c4 : Value) (c5 : Value) (c6 : Value) (c7 : Value) (c8 : Value) (c9 : Value) (c10 : Value) (c11 : Value) (c12 : Value) (c13 : Value) (c14 : Value) (c15 : Value) (c16 : Value) hm hok hf hfl hch hcl hp hrefl hg hk hfin => Tbl.wp_chain (fun _ _ => True) (Pk (g + 1) W 0 [8, 8, 8, 8, 1]) [2, 5, 8, 11, 16] [false, false, false, false, false, false, true, true, true, true, true, true, true, true, true, true, true, true, true, true, true, true, true, false, false, false, false, false, false, false, false, false, false, false, false, false, false, false, false, false, false, false, false] [Tbl.Is c0, Tbl.Is c1, Tbl.Is c2, Tbl.Is c3, Tbl.Is c4, Tbl.Is c5, Tbl.Is c6, Tbl.Is c7, Tbl.Is c8, Tbl.Is c9, Tbl.Is c10, Tbl.Is c11, Tbl.Is c12, Tbl.Is c13, Tbl.Is c14, Tbl.Is c15, Tbl.Is c16] hm hok hf hfl hch hcl hp hrefl hg hk hfin)
  case hm => rfl
  case hok => kernel_rfl
  case hf => kernel_rfl
  case hfl => rfl
  case hch => kernel_rfl
  case hcl => kernel_rfl
  case hrefl =>
    exact fun _ => trivial
  case hg =>
    exact p0
  case hk =>
    refine Tbl.keepC_cons (c := none) (by kernel_rfl) ?_ ?_
    · refine Tbl.keepC_no ?_
      intro U w K k hg hs hK
      clear hs
      simp only [Tbl.mixL_true, Tbl.mixL_false, Tbl.mixL_nil, Nat.reduceAdd, Nat.zero_add]
      go_simp
      exact hK _ _ rfl hg (trivial)
    refine Tbl.keepC_cons (c := none) (by kernel_rfl) ?_ ?_
    · refine Tbl.keepC_no ?_
      intro U w K k hg hs hK
      have h6 : U 6 = _ := (hs 6 (by decide)).1 0 (by kernel_rfl) (by kernel_rfl)
      clear hs
      simp only [Tbl.mixL_true, Tbl.mixL_false, Tbl.mixL_nil, Nat.reduceAdd, Nat.zero_add]
      have d0 := (hg.row hR (by omega) (by decide)).five
      go_simp
      exact hK _ _ rfl hg (trivial)
    refine Tbl.keepC_cons (c := some 0) (by kernel_rfl) ?_ ?_
    · refine Tbl.keepC_at 0 ?_
      intro U w K hg hs hK
      have h7 : U 7 = _ := (hs 7 (by decide)).1 1 (by kernel_rfl) (by kernel_rfl)
      clear hs
      simp only [Tbl.mixL_true, Tbl.mixL_false, Tbl.mixL_nil, Nat.reduceAdd, Nat.zero_add]
      go_simp
      refine (pkNum c 8 hg rfl (by omega) (by omega) (by decide)).mono ?_
      rintro e w' ⟨rfl, h'⟩
      exact hK _ _ rfl h' trivial
    refine Tbl.keepC_cons (c := none) (by kernel_rfl) ?_ ?_
    · refine Tbl.keepC_no ?_
      intro U w K k hg hs hK
      clear hs
      simp only [Tbl.mixL_true, Tbl.mixL_false, Tbl.mixL_nil, Nat.reduceAdd, Nat.zero_add]
      go_simp
      exact hK _ _ rfl hg (trivial)
    refine Tbl.keepC_cons (c := none) (by kernel_rfl) ?_ ?_
    · refine Tbl.keepC_no ?_
      intro U w K k hg hs hK
      have h9 : U 9 = _ := (hs 9 (by decide)).1 3 (by kernel_rfl) (by kernel_rfl)
      clear hs
      simp only [Tbl.mixL_true, Tbl.mixL_false, Tbl.mixL_nil, Nat.reduceAdd, Nat.zero_add]
      have d0 := (hg.row hR (by omega) (by decide)).five
      go_simp
      exact hK _ _ rfl hg (trivial)
    refine Tbl.keepC_cons (c := some 1) (by kernel_rfl) ?_ ?_
    · refine Tbl.keepC_at 1 ?_
      intro U w K hg hs hK
      have h8 : U 8 = _ := (hs 8 (by decide)).1 2 (by kernel_rfl) (by kernel_rfl)
      have h10 : U 10 = _ := (hs 10 (by decide)).1 4 (by kernel_rfl) (by kernel_rfl)
      clear hs
      simp only [Tbl.mixL_true, Tbl.mixL_false, Tbl.mixL_nil, Nat.reduceAdd, Nat.zero_add]
      go_simp
      refine (pkNum ep 8 hg rfl (by omega) (by omega) (by decide)).mono ?_
      rintro e w' ⟨rfl, h'⟩
      exact hK _ _ rfl h' trivial
    refine Tbl.keepC_cons (c := none) (by kernel_rfl) ?_ ?_
    · refine Tbl.keepC_no ?_
      intro U w K k hg hs hK
      clear hs
      simp only [Tbl.mixL_true, Tbl.mixL_false, Tbl.mixL_nil, Nat.reduceAdd, Nat.zero_add]
      go_simp
      exact hK _ _ rfl hg (trivial)
    refine Tbl.keepC_cons (c := none) (by kernel_rfl) ?_ ?_
    · refine Tbl.keepC_no ?_
      intro U w K k hg hs hK
      have h12 : U 12 = _ := (hs 12 (by decide)).1 6 (by kernel_rfl) (by kernel_rfl)
      clear hs
      simp only [Tbl.mixL_true, Tbl.mixL_false, Tbl.mixL_nil, Nat.reduceAdd, Nat.zero_add]
      have d0 := (hg.row hR (by omega) (by decide)).five
      go_simp
      exact hK _ _ rfl hg (trivial)
    refine Tbl.keepC_cons (c := some 2) (by kernel_rfl) ?_ ?_
    · refine Tbl.keepC_at 2 ?_
      intro U w K hg hs hK
      have h11 : U 11 = _ := (hs 11 (by decide)).1 5 (by kernel_rfl) (by kernel_rfl)
      have h13 : U 13 = _ := (hs 13 (by decide)).1 7 (by kernel_rfl) (by kernel_rfl)
      clear hs
      simp only [Tbl.mixL_true, Tbl.mixL_false, Tbl.mixL_nil, Nat.reduceAdd, Nat.zero_add]
      go_simp
      refine (pkNum l 8 hg rfl (by omega) (by omega) (by decide)).mono ?_
      rintro e w' ⟨rfl, h'⟩
      exact hK _ _ rfl h' trivial
    refine Tbl.keepC_cons (c := none) (by kernel_rfl) ?_ ?_
    · refine Tbl.keepC_no ?_
      intro U w K k hg hs hK
      clear hs
      simp only [Tbl.mixL_true, Tbl.mixL_false, Tbl.mixL_nil, Nat.reduceAdd, Nat.zero_add]
      go_simp
      exact hK _ _ rfl hg (trivial)
    refine Tbl.keepC_cons (c := none) (by kernel_rfl) ?_ ?_
    · refine Tbl.keepC_no ?_
      intro U w K k hg hs hK
      have h15 : U 15 = _ := (hs 15 (by decide)).1 9 (by kernel_rfl) (by kernel_rfl)
      clear hs
      simp only [Tbl.mixL_true, Tbl.mixL_false, Tbl.mixL_nil, Nat.reduceAdd, Nat.zero_add]
      have d0 := (hg.row hR (by omega) (by decide)).five
      go_simp
      exact hK _ _ rfl hg (trivial)
    refine Tbl.keepC_cons (c := some 3) (by kernel_rfl) ?_ ?_
    · refine Tbl.keepC_at 3 ?_
      intro U w K hg hs hK
      have h14 : U 14 = _ := (hs 14 (by decide)).1 8 (by kernel_rfl) (by kernel_rfl)
      have h16 : U 16 = _ := (hs 16 (by decide)).1 10 (by kernel_rfl) (by kernel_rfl)
      clear hs
      simp only [Tbl.mixL_true, Tbl.mixL_false, Tbl.mixL_nil, Nat.reduceAdd, Nat.zero_add]
      go_simp
      refine (pkNum j 8 hg rfl (by omega) (by omega) (by decide)).mono ?_
      rintro e w' ⟨rfl, h'⟩
      exact hK _ _ rfl h' trivial
    refine Tbl.keepC_cons (c := none) (by kernel_rfl) ?_ ?_
    · refine Tbl.keepC_no ?_
      intro U w K k hg hs hK
      clear hs
      simp only [Tbl.mixL_true, Tbl.mixL_false, Tbl.mixL_nil, Nat.reduceAdd, Nat.zero_add]
      go_simp
      exact hK _ _ rfl hg (trivial)
    refine Tbl.keepC_cons (c := none) (by kernel_rfl) ?_ ?_
    · refine Tbl.keepC_no ?_
      intro U w K k hg hs hK
      have h18 : U 18 = _ := (hs 18 (by decide)).1 12 (by kernel_rfl) (by kernel_rfl)
      clear hs
      simp only [Tbl.mixL_true, Tbl.mixL_false, Tbl.mixL_nil, Nat.reduceAdd, Nat.zero_add]
      have d0 := (hg.row hR (by omega) (by decide)).five
      go_simp
      exact hK _ _ rfl hg (trivial)
    refine Tbl.keepC_cons (c := none) (by kernel_rfl) ?_ ?_
    · refine Tbl.keepC_no ?_
      intro U w K k hg hs hK
      have h19 : U 19 = _ := (hs 19 (by decide)).1 13 (by kernel_rfl) (by kernel_rfl)
      clear hs
      simp only [Tbl.mixL_true, Tbl.mixL_false, Tbl.mixL_nil, Nat.reduceAdd, Nat.zero_add]
      go_simp
      exact hK _ _ rfl hg (trivial)
    refine Tbl.keepC_cons (c := none) (by kernel_rfl) ?_ ?_
    · refine Tbl.keepC_no ?_
      intro U w K k hg hs hK
      have h20 : U 20 = _ := (hs 20 (by decide)).1 14 (by kernel_rfl) (by kernel_rfl)
      clear hs
      simp only [Tbl.mixL_true, Tbl.mixL_false, Tbl.mixL_nil, Nat.reduceAdd, Nat.zero_add]
      go_simp
      exact hK _ _ rfl hg (trivial)
    refine Tbl.keepC_cons (c := some 4) (by kernel_rfl) ?_ ?_
    · refine Tbl.keepC_at 4 ?_
      intro U w K hg hs hK
      have h17 : U 17 = _ := (hs 17 (by decide)).1 11 (by kernel_rfl) (by kernel_rfl)
      have h21 : U 21 = _ := (hs 21 (by decide)).1 15 (by kernel_rfl) (by kernel_rfl)
      clear hs
      simp only [Tbl.mixL_true, Tbl.mixL_false, Tbl.mixL_nil, Nat.reduceAdd, Nat.zero_add]
      go_simp
      refine (pkNum ms.length 1 hg rfl (by omega) (by omega) (by decide)).mono ?_
      rintro e w' ⟨rfl, h'⟩
      exact hK _ _ rfl h' trivial
    exact Tbl.keepC_nil
  case hp =>
    refine Tbl.table_stable _ ?_
    refine Tbl.stable_is ?_
    refine Tbl.stable_is ?_
    refine Tbl.stable_is ?_
    refine Tbl.stable_is ?_
    refine Tbl.stable_is ?_
    refine Tbl.stable_is ?_
    refine Tbl.stable_is ?_
    refine Tbl.stable_is ?_
    refine Tbl.stable_is ?_
    refine Tbl.stable_is ?_
    refine Tbl.stable_is ?_
    refine Tbl.stable_is ?_
    refine Tbl.stable_is ?_
    refine Tbl.stable_is ?_
    refine Tbl.stable_is ?_
    refine Tbl.stable_is ?_
    refine Tbl.stable_is ?_
    exact Tbl.stable_nil
  case hfin =>
    intro U w' hG hp
    simp only [List.length_cons, List.length_nil, Nat.reduceAdd, Nat.zero_add] at hG
    have h6 : U 6 = _ := hp 0 6 (by kernel_rfl)
    have h7 : U 7 = _ := hp 1 7 (by kernel_rfl)
    have h8 : U 8 = _ := hp 2 8 (by kernel_rfl)
    have h9 : U 9 = _ := hp 3 9 (by kernel_rfl)
    have h10 : U 10 = _ := hp 4 10 (by kernel_rfl)
    have h11 : U 11 = _ := hp 5 11 (by kernel_rfl)
    have h12 : U 12 = _ := hp 6 12 (by kernel_rfl)
    have h13 : U 13 = _ := hp 7 13 (by kernel_rfl)
    have h14 : U 14 = _ := hp 8 14 (by kernel_rfl)
    have h15 : U 15 = _ := hp 9 15 (by kernel_rfl)
    have h16 : U 16 = _ := hp 10 16 (by kernel_rfl)
    have h17 : U 17 = _ := hp 11 17 (by kernel_rfl)
    have h18 : U 18 = _ := hp 12 18 (by kernel_rfl)
    have h19 : U 19 = _ := hp 13 19 (by kernel_rfl)
    have h20 : U 20 = _ := hp 14 20 (by kernel_rfl)
    have h21 : U 21 = _ := hp 15 21 (by kernel_rfl)
    have h22 : U 22 = _ := hp 16 22 (by kernel_rfl)
    clear hp
    simp only [Tbl.mixL_true, Tbl.mixL_false, Tbl.mixL_nil, Nat.reduceAdd, Nat.zero_add]
    rw [h6]
    rw [h7]
    rw [h8]
    rw [h9]
    rw [h10]
    rw [h11]
    rw [h12]
    rw [h13]
    rw [h14]
    rw [h15]
    rw [h16]
    rw [h17]
    rw [h18]
    rw [h19]
    rw [h20]
    rw [h21]
    rw [h22]
    clear h6
    clear h7
    clear h8
    clear h9
    clear h10
    clear h11
    clear h12
    clear h13
    clear h14
    clear h15
    clear h16
    clear h17
    clear h18
    clear h19
    clear h20
    clear h21
    clear h22
    clear p0 hb0
    have hG' : Pk (g + 1) W (33 + 11 * 0) [] 0 w' := hG
    clear hG
    have d0 := (hG'.row hR (by omega) (by decide)).five
    go_wp2
    clear d0
    go_loopw [26] (fun i wr => ∃ k : Nat, k ≤ ms.length ∧ i = .int .i64 k ∧ Pk (g + 1) W (33 + 11 * k) [] 0 wr) (fun i _ => ms.length - (intOf i).toNat)
    case atStart => exact ⟨0, Nat.zero_le _, rfl, hG'⟩
    case round =>
      clear hG'
      obtain ⟨k, hk, rfl, hP⟩ := hrel
      by_cases hlt : k < ms.length
      · have hMr := hP.mem hM hne
        obtain ⟨bb, rfl, hbb, g0, g1, g2⟩ := hMr.get k hlt
        have k0 : (0 : Int) ≤ (k : Int) := by omega
        have k1 : (k : Int) < (ms.length : Int) := by omega
        obtain ⟨q1, q2, q3⟩ := hm ms[k] (List.getElem_mem hlt)
        generalize ms[k] = m at *
        go_wp2_with fail
        refine codeAt ?_
        intro W2 hW2
        obtain ⟨n2, hn2⟩ : ∃ n2, n2 = wr.heap.size := ⟨_, rfl⟩
        rw [← hn2]
        have hgn : n2 ≠ g + 1 := by
          obtain ⟨_, _, hb, _⟩ := hP
          have := hb.lt; omega
        have hR2 : Row W2 n2 72 [.int .i64 m.serial, .int .u64 m.join, .int .i64 m.state] := by rw [hn2, hW2]; exact Row.new wr _ _
        have hP2 : Pk (g + 1) W2 (33 + 11 * k) [2, 8, 1] 0 W2.drew := by
          obtain ⟨l', hl', hb, hB⟩ := hP
          exact ⟨l', hl', by rw [hW2]; exact (hb.alloc _).drew, (Below.refl _ _).drew, (Lib.OthersKept.refl _ _ _).drew⟩
        have hKd : Kept (g + 1) (g + 1) W W2 := by
          obtain ⟨l', hl', hb, hB⟩ := hP
          rw [hW2]
          exact ⟨hB.1.alloc (Nat.le_of_lt hb.lt) _, hB.2.alloc _⟩
        have hw2 : IntKind.u64.wrap (m.serial : Int) = m.serial := by simp [IntKind.wrap, IntKind.bits, IntKind.signed]; omega
        have hw3 : IntKind.u64.wrap (m.state : Int) = m.state := by simp [IntKind.wrap, IntKind.bits, IntKind.signed]; omega
        clear hW2 hP hn2 hMr g0 g1 g2 hbb wr
        apply (fun (c0 : Value) (c1 : Value) (c2 : Value) (c3 : Value) (c4 : Value) (c5 : Value) (c6 : Value) (c7 : Value) (c8 : Value) (c9 : Value) (c10 : Value) hm hok hf hfl hch hcl hp hrefl hg hk hfin => Tbl.wp_chain (fun _ _ => True) (Pk (g + 1) W2 (33 + 11 * k) [2, 8, 1]) [3, 6, 10] [false, false, false, false, false, false, false, false, false, false, false, false, false, false, false, false, false, false, false, false, false, false, false, false, false, false, false, false, false, false, true, true, true, true, true, true, true, true, true, true, true, false, false] [Tbl.Is c0, Tbl.Is c1, Tbl.Is c2, Tbl.Is c3, Tbl.Is c4, Tbl.Is c5, Tbl.Is c6, Tbl.Is c7, Tbl.Is c8, Tbl.Is c9, Tbl.Is c10] hm hok hf hfl hch hcl hp hrefl hg hk hfin)
        case hm => rfl
        case hok => kernel_rfl
        case hf => kernel_rfl
        case hfl => rfl
        case hch => kernel_rfl
        case hcl => kernel_rfl
        case hrefl =>
          exact fun _ => trivial
        case hg =>
          exact hP2
        case hk =>
          refine Tbl.keepC_cons (c := none) (by kernel_rfl) ?_ ?_
          · refine Tbl.keepC_no ?_
            intro U w K k hg hs hK
            clear hs
            simp only [Tbl.mixL_true, Tbl.mixL_false, Tbl.mixL_nil, Nat.reduceAdd, Nat.zero_add]
            go_simp
            exact hK _ _ rfl hg (trivial)
          refine Tbl.keepC_cons (c := none) (by kernel_rfl) ?_ ?_
          · refine Tbl.keepC_no ?_
            intro U w K k hg hs hK
            have h30 : U 30 = _ := (hs 30 (by decide)).1 0 (by kernel_rfl) (by kernel_rfl)
            clear hs
            simp only [Tbl.mixL_true, Tbl.mixL_false, Tbl.mixL_nil, Nat.reduceAdd, Nat.zero_add]
            have d0 := (hg.row hR2 hgn (by decide)).three
            go_simp
            exact hK _ _ rfl hg (trivial)
          refine Tbl.keepC_cons (c := none) (by kernel_rfl) ?_ ?_
          · refine Tbl.keepC_no ?_
            intro U w K k hg hs hK
            have h31 : U 31 = _ := (hs 31 (by decide)).1 1 (by kernel_rfl) (by kernel_rfl)
            clear hs
            simp only [Tbl.mixL_true, Tbl.mixL_false, Tbl.mixL_nil, Nat.reduceAdd, Nat.zero_add]
            go_simp
            exact hK _ _ rfl hg (trivial)
          refine Tbl.keepC_cons (c := some 0) (by kernel_rfl) ?_ ?_
          · refine Tbl.keepC_at 0 ?_
            intro U w K hg hs hK
            have h32 : U 32 = _ := (hs 32 (by decide)).1 2 (by kernel_rfl) (by kernel_rfl)
            clear hs
            simp only [Tbl.mixL_true, Tbl.mixL_false, Tbl.mixL_nil, Nat.reduceAdd, Nat.zero_add]
            go_simp
            refine (pkNum m.serial 2 hg rfl (by omega) (by omega) (by simp; omega)).mono ?_
            rintro e w' ⟨rfl, h'⟩
            exact hK _ _ rfl h' trivial
          refine Tbl.keepC_cons (c := none) (by kernel_rfl) ?_ ?_
          · refine Tbl.keepC_no ?_
            intro U w K k hg hs hK
            clear hs
            simp only [Tbl.mixL_true, Tbl.mixL_false, Tbl.mixL_nil, Nat.reduceAdd, Nat.zero_add]
            go_simp
            exact hK _ _ rfl hg (trivial)
          refine Tbl.keepC_cons (c := none) (by kernel_rfl) ?_ ?_
          · refine Tbl.keepC_no ?_
            intro U w K k hg hs hK
            have h34 : U 34 = _ := (hs 34 (by decide)).1 4 (by kernel_rfl) (by kernel_rfl)
            clear hs
            simp only [Tbl.mixL_true, Tbl.mixL_false, Tbl.mixL_nil, Nat.reduceAdd, Nat.zero_add]
            have d0 := (hg.row hR2 hgn (by decide)).three
            go_simp
            exact hK _ _ rfl hg (trivial)
          refine Tbl.keepC_cons (c := some 1) (by kernel_rfl) ?_ ?_
          · refine Tbl.keepC_at 1 ?_
            intro U w K hg hs hK
            have h33 : U 33 = _ := (hs 33 (by decide)).1 3 (by kernel_rfl) (by kernel_rfl)
            have h35 : U 35 = _ := (hs 35 (by decide)).1 5 (by kernel_rfl) (by kernel_rfl)
            clear hs
            simp only [Tbl.mixL_true, Tbl.mixL_false, Tbl.mixL_nil, Nat.reduceAdd, Nat.zero_add]
            go_simp
            refine (pkNum m.join 8 hg rfl (by omega) (by omega) (by simp; omega)).mono ?_
            rintro e w' ⟨rfl, h'⟩
            exact hK _ _ rfl h' trivial
          refine Tbl.keepC_cons (c := none) (by kernel_rfl) ?_ ?_
          · refine Tbl.keepC_no ?_
            intro U w K k hg hs hK
            clear hs
            simp only [Tbl.mixL_true, Tbl.mixL_false, Tbl.mixL_nil, Nat.reduceAdd, Nat.zero_add]
            go_simp
            exact hK _ _ rfl hg (trivial)
          refine Tbl.keepC_cons (c := none) (by kernel_rfl) ?_ ?_
          · refine Tbl.keepC_no ?_
            intro U w K k hg hs hK
            have h37 : U 37 = _ := (hs 37 (by decide)).1 7 (by kernel_rfl) (by kernel_rfl)
            clear hs
            simp only [Tbl.mixL_true, Tbl.mixL_false, Tbl.mixL_nil, Nat.reduceAdd, Nat.zero_add]
            have d0 := (hg.row hR2 hgn (by decide)).three
            go_simp
            exact hK _ _ rfl hg (trivial)
          refine Tbl.keepC_cons (c := none) (by kernel_rfl) ?_ ?_
          · refine Tbl.keepC_no ?_
            intro U w K k hg hs hK
            have h38 : U 38 = _ := (hs 38 (by decide)).1 8 (by kernel_rfl) (by kernel_rfl)
            clear hs
            simp only [Tbl.mixL_true, Tbl.mixL_false, Tbl.mixL_nil, Nat.reduceAdd, Nat.zero_add]
            go_simp
            exact hK _ _ rfl hg (trivial)
          refine Tbl.keepC_cons (c := some 2) (by kernel_rfl) ?_ ?_
          · refine Tbl.keepC_at 2 ?_
            intro U w K hg hs hK
            have h36 : U 36 = _ := (hs 36 (by decide)).1 6 (by kernel_rfl) (by kernel_rfl)
            have h39 : U 39 = _ := (hs 39 (by decide)).1 9 (by kernel_rfl) (by kernel_rfl)
            clear hs
            simp only [Tbl.mixL_true, Tbl.mixL_false, Tbl.mixL_nil, Nat.reduceAdd, Nat.zero_add]
            go_simp
            refine (pkNum m.state 1 hg rfl (by omega) (by omega) (by simp; omega)).mono ?_
            rintro e w' ⟨rfl, h'⟩
            exact hK _ _ rfl h' trivial
          exact Tbl.keepC_nil
        case hp =>
          refine Tbl.table_stable _ ?_
          refine Tbl.stable_is ?_
          refine Tbl.stable_is ?_
          refine Tbl.stable_is ?_
          refine Tbl.stable_is ?_
          refine Tbl.stable_is ?_
          refine Tbl.stable_is ?_
          refine Tbl.stable_is ?_
          refine Tbl.stable_is ?_
          refine Tbl.stable_is ?_
          refine Tbl.stable_is ?_
          refine Tbl.stable_is ?_
          exact Tbl.stable_nil
        case hfin =>
          intro U w' hG hp
          simp only [List.length_cons, List.length_nil, Nat.reduceAdd, Nat.zero_add] at hG
          have h30 : U 30 = _ := hp 0 30 (by kernel_rfl)
          have h31 : U 31 = _ := hp 1 31 (by kernel_rfl)
          have h32 : U 32 = _ := hp 2 32 (by kernel_rfl)
          have h33 : U 33 = _ := hp 3 33 (by kernel_rfl)
          have h34 : U 34 = _ := hp 4 34 (by kernel_rfl)
          have h35 : U 35 = _ := hp 5 35 (by kernel_rfl)
          have h36 : U 36 = _ := hp 6 36 (by kernel_rfl)
          have h37 : U 37 = _ := hp 7 37 (by kernel_rfl)
          have h38 : U 38 = _ := hp 8 38 (by kernel_rfl)
          have h39 : U 39 = _ := hp 9 39 (by kernel_rfl)
          have h40 : U 40 = _ := hp 10 40 (by kernel_rfl)
          clear hp
          simp only [Tbl.mixL_true, Tbl.mixL_false, Tbl.mixL_nil, Nat.reduceAdd, Nat.zero_add]
          rw [h30]
          rw [h31]
          rw [h32]
          rw [h33]
          rw [h34]
          rw [h35]
          rw [h36]
          rw [h37]
          rw [h38]
          rw [h39]
          rw [h40]
          clear h30
          clear h31
          clear h32
          clear h33
          clear h34
          clear h35
          clear h36
          clear h37
          clear h38
          clear h39
          clear h40
          go_wp2
          obtain ⟨l', hl', hb, hB⟩ := hG
          refine ⟨⟨k + 1, by omega, rfl, l', ?_, hb, hKd.trans hB⟩, by simp [intOf]; omega⟩
          rw [hl']
          simp
          omega
      · have hlt' : (ms.length : Int) ≤ k := by omega
        have hkl : k = ms.length := by omega
        subst hkl
        obtain ⟨l', hl', hb, hB⟩ := hP
        go_wp2_with fail
        refine (outBytes (g + 1) (g + 1) l' wr hb).mono ?_
        rintro e w4 ⟨rfl, hb4, hk4⟩
        have hF := hB.trans hk4
        go_wp2
        go_ret
        refine ⟨_, rfl, ?_, hKW.trans' (Fr.of_below (S := fun i => g + 1 ≤ i) hF.1 (fun i hi _ => hi)) (fun i hi hs => by have := HGW.out; omega)⟩
        show l'.toArray.size = _
        rw [List.size_toArray, hl']
        simp
end Go.Proofs.Ytecjailgiknfcaa

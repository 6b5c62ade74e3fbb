/-
  The walks of the statements SumTable, SumLinear, SumTells.
-/
import Derived.Test.YtecjailgiknfcaaSumLaws
import Derived.Test.YtecjailgiknfcaaBase
import Derived.Test.YtecjailgiknfcaaGrow
import Derived.Deep.RegionHeld3
namespace Go.Proofs.Ytecjailgiknfcaa
open Go.RowKit

theorem tabXor (i k : Nat) (hi : i < 256) (hk : k < 256) : ∃ ix : Nat, bits .xor .u8 (i : Int) (k : Int) = (ix : Int) ∧ ix < 256 ∧ Sm.tab ix = Sm.tab i ^^^ Sm.tab k :=
  ⟨i ^^^ k, u8_xor_nat i k hi hk, Nat.xor_lt_two_pow (n := 8) (by omega) (by omega), Sm.tab_xor _ _⟩

theorem refOn_one (c : UInt8) (i : Nat) (hi : c.toNat = i) (w : World) :
    Calls Try.prog 16 #[.int .u32 0, .string ⟨#[c]⟩] w fun e w' => e = .returned (.int .u32 ((Sm.tab i).toNat : Int)) ∧ w = w' := by
  have h := refOn 0#32 ⟨#[c]⟩ w (by unfold maxLen; show 1 ≤ _; omega)
  have e : Sm.on 0#32 (⟨#[c]⟩ : ByteArray).data.toList = Sm.tab i := by
    subst hi
    show Sm.it 8 (0#32 ^^^ _) = Sm.it 8 _
    rw [BitVec.zero_xor]
  rw [e] at h
  exact h

/-- A slice of one byte in a block of its own. -/
def OneByte (c : UInt8) (v : Value) (w : World) : Prop := ∃ b, v = .slice (some ⟨b, 0, none⟩) 1 1 ∧ w.cell? ⟨b, 0, none⟩ = some (.int .u8 (c.toNat : Int)) ∧ b < w.heap.size
theorem oneByte_stable (c : UInt8) (v : Value) (w w' : World) (h : OneByte c v w) (hs : Below w.heap.size w w') : OneByte c v w' := by
  obtain ⟨b, hv, hc, hb⟩ := h
  exact ⟨b, hv, by rw [hs.cell (p := ⟨b, 0, none⟩) hb, hc], Nat.lt_of_lt_of_le hb hs.size⟩

set_option maxRecDepth 100000 in
set_option maxHeartbeats 2000000 in
theorem sumTable_any (c : UInt8) (X : Sm.B32) (w : World) :
    Calls Try.prog 4 #[.int .u8 (c.toNat : Int), .int .u32 (X.toNat : Int)] w fun e w' => e = .returned (.bool true) ∧ Below w.heap.size w w' := by
  obtain ⟨i, hci, hi⟩ : ∃ i : Nat, Hid (c.toNat = i) ∧ i < 256 := ⟨_, rfl, c.toNat_lt⟩
  have hconv : ∀ (b : Nat) (w' : World), w'.cell? ⟨b, 0, none⟩ = some (.int .u8 (i : Int)) → (convert 29 9 (.slice (some ⟨b, 0, none⟩) 1 1)).run Try.prog w' = .ok (.string ⟨#[c]⟩) w' := fun b w' h => conv_one c b 1 w' (by rw [hci.out]; exact h)
  rw [hci.out]
  obtain ⟨k, hk, hklt⟩ : ∃ k : Nat, (X.toNat : Int) % 256 = (k : Int) ∧ k < 256 := ⟨X.toNat % 256, by omega, by omega⟩
  obtain ⟨ix, hix, hixlt, htx⟩ := tabXor i k hi hklt
  go_enter Try.func4, Try.ntmps4
  go_upto_region 5 with (first | (go_at_call 14; refine (sum_awake _).mono ?_; rintro e w1 ⟨rfl, hB⟩) | (go_at_call 15; refine (table _).mono ?_; rintro e w2 ⟨rfl, hC⟩) | (refine wpList_store_row rfl 26 _ _ rfl _ (Sm.tabTo 256) rfl rfl 26 _ (heap_alloc_last _ _) tab_info tab_old (Sm.tabTo_one 256) ?_))
  have ht : TabAt (w2.alloc (Obj.cells (Sm.tabTo 256) 26)) w2.heap.size := heap_alloc_last _ _
  have hB2 : Below w.heap.size w (w2.alloc (Obj.cells (Sm.tabTo 256) 26)) := (hB.trans (hC.mono hB.size)).alloc (Nat.le_trans hB.size hC.size) _
  have hlt : w2.heap.size < (w2.alloc (Obj.cells (Sm.tabTo 256) 26)).heap.size := by simp
  have hS := setRow_new w2 Try.zeroCells26 (Sm.tabTo 256) 26
  rw [hS]
  clear hS hB hC
  have hg : ∃ g, g = w2.heap.size := ⟨_, rfl⟩
  obtain ⟨g, hg⟩ := hg
  rw [← hg] at ht hlt
  rw [← hg]
  clear hg
  generalize w2.alloc (Obj.cells (Sm.tabTo 256) 26) = W at *
  have c1 := ht.cell i hi
  have c2 := ht.cell ix hixlt
  have c3 := ht.cell k hklt
  have c4 : W.cell? ⟨g, 0, none⟩ = some (.int .u32 0) := by rw [ht.cell 0 (by omega), Sm.tab_zero]; rfl
  have HTX := Lib.hid htx
  clear htx ht
  have hxx : bits .xor .u32 ((Sm.tab i).toNat : Int) ((Sm.tab k).toNat : Int) = ((Sm.tab ix).toNat : Int) := by rw [HTX.out, Sm.xor32]
  have i0 : (0 : Int) ≤ (i : Int) := by omega
  have i1 : (i : Int) < 256 := by omega
  have k0 : (0 : Int) ≤ (k : Int) := by omega
  have k1 : (k : Int) < 256 := by omega
  have x0 : (0 : Int) ≤ (ix : Int) := by omega
  have x1 : (ix : Int) < 256 := by omega
  apply (fun (c0 : Value) (c1 : Value) (c2 : Value) (c3 : Value) (c5 : Value) (c6 : Value) (c7 : Value) (c8 : Value) (c9 : Value) (c10 : Value) (c11 : Value) (c12 : Value) (c13 : Value) (c14 : Value) (c15 : Value) (c16 : Value) (c17 : Value) (c18 : Value) (c19 : Value) (c20 : Value) (c21 : Value) (c22 : Value) (c23 : Value) (c24 : Value) (c25 : Value) (c26 : Value) (c27 : Value) (c28 : Value) hm hok hf hfl hG hp hrefl hg hk hfin => Tbl.wp_region (fun w w' => Below w.heap.size w w') (fun w' => Below W.heap.size W w') [false, false, false, false, true, false, false, false, false, false, false, false, true, true, true, true, true, true, true, true, true, true, true, true, true, true, true, true, true, true, true, true, true, true, true, true, true, true, true, true] [Tbl.Is c0, Tbl.Is c1, Tbl.Is c2, Tbl.Is c3, OneByte c, Tbl.Is c5, Tbl.Is c6, Tbl.Is c7, Tbl.Is c8, Tbl.Is c9, Tbl.Is c10, Tbl.Is c11, Tbl.Is c12, Tbl.Is c13, Tbl.Is c14, Tbl.Is c15, Tbl.Is c16, Tbl.Is c17, Tbl.Is c18, Tbl.Is c19, Tbl.Is c20, Tbl.Is c21, Tbl.Is c22, Tbl.Is c23, Tbl.Is c24, Tbl.Is c25, Tbl.Is c26, Tbl.Is c27, Tbl.Is c28] hm hok hf hfl hG hp hrefl hg hk hfin)
  case hm => rfl
  case hok => kernel_rfl
  case hf => kernel_rfl
  case hfl => rfl
  case hrefl =>
    exact fun w => Below.refl _ _
  case hG =>
    exact fun w w' h h' => h.trans (h'.mono h.size)
  case hg =>
    exact (Below.refl _ _).drew
  case hk =>
    refine Tbl.keep_cons ?_ ?_
    · intro U w K hg hs hK
      clear hs
      simp only [Tbl.mixL_true, Tbl.mixL_false, Tbl.mixL_nil, Nat.reduceAdd, Nat.zero_add]
      go_simp
      exact hK _ _ rfl (Below.refl _ _)
    refine Tbl.keep_cons ?_ ?_
    · intro U w K hg hs hK
      have h12 : U 12 = _ := (hs 12 (by decide)).1 0 (by kernel_rfl) (by kernel_rfl)
      clear hs
      simp only [Tbl.mixL_true, Tbl.mixL_false, Tbl.mixL_nil, Nat.reduceAdd, Nat.zero_add]
      go_simp
      exact hK _ _ rfl (Below.refl _ _)
    refine Tbl.keep_cons ?_ ?_
    · intro U w K hg hs hK
      have h13 : U 13 = _ := (hs 13 (by decide)).1 1 (by kernel_rfl) (by kernel_rfl)
      clear hs
      simp only [Tbl.mixL_true, Tbl.mixL_false, Tbl.mixL_nil, Nat.reduceAdd, Nat.zero_add]
      have c1' := (hg.cell (p := ⟨g, i, none⟩) hlt).trans c1
      go_simp
      exact hK _ _ rfl (Below.refl _ _)
    refine Tbl.keep_cons ?_ ?_
    · intro U w K hg hs hK
      clear hs
      simp only [Tbl.mixL_true, Tbl.mixL_false, Tbl.mixL_nil, Nat.reduceAdd, Nat.zero_add]
      go_simp
      exact hK _ _ rfl (Below.refl _ _)
    refine Tbl.keep_cons ?_ ?_
    · intro U w K hg hs hK
      have h15 : U 15 = _ := (hs 15 (by decide)).1 3 (by kernel_rfl) (by kernel_rfl)
      clear hs
      simp only [Tbl.mixL_true, Tbl.mixL_false, Tbl.mixL_nil, Nat.reduceAdd, Nat.zero_add]
      go_simp
      exact hK _ _ ⟨_, rfl, by rw [hci.out]; simp, by simp⟩ ((Below.refl _ _).alloc (Nat.le_refl _) _)
    refine Tbl.keep_cons ?_ ?_
    · intro U w K hg hs hK
      have h16 : (OneByte c) (U 16) w := (hs 16 (by decide)).1 4 (by kernel_rfl) (by kernel_rfl)
      clear hs
      simp only [Tbl.mixL_true, Tbl.mixL_false, Tbl.mixL_nil, Nat.reduceAdd, Nat.zero_add]
      obtain ⟨b, hb, hc, hlt⟩ := h16
      have hcv := conv_one c b 1 w hc
      simp only [hb]
      go_simp
      exact hK _ _ rfl (Below.refl _ _)
    refine Tbl.keep_cons ?_ ?_
    · intro U w K hg hs hK
      have h17 : U 17 = _ := (hs 17 (by decide)).1 5 (by kernel_rfl) (by kernel_rfl)
      clear hs
      simp only [Tbl.mixL_true, Tbl.mixL_false, Tbl.mixL_nil, Nat.reduceAdd, Nat.zero_add]
      go_simp
      refine (refOn_one c i hci.out _).mono ?_
      rintro e w' ⟨rfl, rfl⟩
      exact hK _ _ rfl (Below.refl _ _)
    refine Tbl.keep_cons ?_ ?_
    · intro U w K hg hs hK
      have h14 : U 14 = _ := (hs 14 (by decide)).1 2 (by kernel_rfl) (by kernel_rfl)
      have h18 : U 18 = _ := (hs 18 (by decide)).1 6 (by kernel_rfl) (by kernel_rfl)
      clear hs
      simp only [Tbl.mixL_true, Tbl.mixL_false, Tbl.mixL_nil, Nat.reduceAdd, Nat.zero_add]
      go_simp
      exact hK _ _ rfl (Below.refl _ _)
    refine Tbl.keep_cons ?_ ?_
    · intro U w K hg hs hK
      have h19 : U 19 = _ := (hs 19 (by decide)).1 7 (by kernel_rfl) (by kernel_rfl)
      clear hs
      simp only [Tbl.mixL_true, Tbl.mixL_false, Tbl.mixL_nil, Nat.reduceAdd, Nat.zero_add]
      go_simp
      exact hK _ _ rfl (Below.refl _ _)
    refine Tbl.keep_cons ?_ ?_
    · intro U w K hg hs hK
      have h20 : U 20 = _ := (hs 20 (by decide)).1 8 (by kernel_rfl) (by kernel_rfl)
      clear hs
      simp only [Tbl.mixL_true, Tbl.mixL_false, Tbl.mixL_nil, Nat.reduceAdd, Nat.zero_add]
      go_simp
      exact hK _ _ rfl (Below.refl _ _)
    refine Tbl.keep_cons ?_ ?_
    · intro U w K hg hs hK
      have h20 : U 20 = _ := (hs 20 (by decide)).1 8 (by kernel_rfl) (by kernel_rfl)
      clear hs
      simp only [Tbl.mixL_true, Tbl.mixL_false, Tbl.mixL_nil, Nat.reduceAdd, Nat.zero_add]
      go_simp
      exact hK _ _ rfl (Below.refl _ _)
    refine Tbl.keep_cons ?_ ?_
    · intro U w K hg hs hK
      have h21 : U 21 = _ := (hs 21 (by decide)).1 9 (by kernel_rfl) (by kernel_rfl)
      have h22 : U 22 = _ := (hs 22 (by decide)).1 10 (by kernel_rfl) (by kernel_rfl)
      have h20 : U 20 = _ := (hs 20 (by decide)).1 8 (by kernel_rfl) (by kernel_rfl)
      clear hs
      simp only [Tbl.mixL_true, Tbl.mixL_false, Tbl.mixL_nil, Nat.reduceAdd, Nat.zero_add]
      go_simp
      exact hK _ _ rfl (Below.refl _ _)
    refine Tbl.keep_cons ?_ ?_
    · intro U w K hg hs hK
      have h23 : U 23 = _ := (hs 23 (by decide)).1 11 (by kernel_rfl) (by kernel_rfl)
      have h20 : U 20 = _ := (hs 20 (by decide)).1 8 (by kernel_rfl) (by kernel_rfl)
      clear hs
      simp only [Tbl.mixL_true, Tbl.mixL_false, Tbl.mixL_nil, Nat.reduceAdd, Nat.zero_add]
      go_simp
      exact hK _ _ rfl (Below.refl _ _)
    refine Tbl.keep_cons ?_ ?_
    · intro U w K hg hs hK
      have h24 : U 24 = _ := (hs 24 (by decide)).1 12 (by kernel_rfl) (by kernel_rfl)
      have h20 : U 20 = _ := (hs 20 (by decide)).1 8 (by kernel_rfl) (by kernel_rfl)
      clear hs
      simp only [Tbl.mixL_true, Tbl.mixL_false, Tbl.mixL_nil, Nat.reduceAdd, Nat.zero_add]
      have c2' := (hg.cell (p := ⟨g, ix, none⟩) hlt).trans c2
      go_simp
      exact hK _ _ rfl (Below.refl _ _)
    refine Tbl.keep_cons ?_ ?_
    · intro U w K hg hs hK
      have h20 : U 20 = _ := (hs 20 (by decide)).1 8 (by kernel_rfl) (by kernel_rfl)
      clear hs
      simp only [Tbl.mixL_true, Tbl.mixL_false, Tbl.mixL_nil, Nat.reduceAdd, Nat.zero_add]
      go_simp
      exact hK _ _ rfl (Below.refl _ _)
    refine Tbl.keep_cons ?_ ?_
    · intro U w K hg hs hK
      have h26 : U 26 = _ := (hs 26 (by decide)).1 14 (by kernel_rfl) (by kernel_rfl)
      have h20 : U 20 = _ := (hs 20 (by decide)).1 8 (by kernel_rfl) (by kernel_rfl)
      clear hs
      simp only [Tbl.mixL_true, Tbl.mixL_false, Tbl.mixL_nil, Nat.reduceAdd, Nat.zero_add]
      go_simp
      exact hK _ _ rfl (Below.refl _ _)
    refine Tbl.keep_cons ?_ ?_
    · intro U w K hg hs hK
      have h27 : U 27 = _ := (hs 27 (by decide)).1 15 (by kernel_rfl) (by kernel_rfl)
      have h20 : U 20 = _ := (hs 20 (by decide)).1 8 (by kernel_rfl) (by kernel_rfl)
      clear hs
      simp only [Tbl.mixL_true, Tbl.mixL_false, Tbl.mixL_nil, Nat.reduceAdd, Nat.zero_add]
      have c1' := (hg.cell (p := ⟨g, i, none⟩) hlt).trans c1
      go_simp
      exact hK _ _ rfl (Below.refl _ _)
    refine Tbl.keep_cons ?_ ?_
    · intro U w K hg hs hK
      have h20 : U 20 = _ := (hs 20 (by decide)).1 8 (by kernel_rfl) (by kernel_rfl)
      clear hs
      simp only [Tbl.mixL_true, Tbl.mixL_false, Tbl.mixL_nil, Nat.reduceAdd, Nat.zero_add]
      go_simp
      exact hK _ _ rfl (Below.refl _ _)
    refine Tbl.keep_cons ?_ ?_
    · intro U w K hg hs hK
      have h29 : U 29 = _ := (hs 29 (by decide)).1 17 (by kernel_rfl) (by kernel_rfl)
      have h20 : U 20 = _ := (hs 20 (by decide)).1 8 (by kernel_rfl) (by kernel_rfl)
      clear hs
      simp only [Tbl.mixL_true, Tbl.mixL_false, Tbl.mixL_nil, Nat.reduceAdd, Nat.zero_add]
      go_simp
      exact hK _ _ rfl (Below.refl _ _)
    refine Tbl.keep_cons ?_ ?_
    · intro U w K hg hs hK
      have h30 : U 30 = _ := (hs 30 (by decide)).1 18 (by kernel_rfl) (by kernel_rfl)
      have h20 : U 20 = _ := (hs 20 (by decide)).1 8 (by kernel_rfl) (by kernel_rfl)
      clear hs
      simp only [Tbl.mixL_true, Tbl.mixL_false, Tbl.mixL_nil, Nat.reduceAdd, Nat.zero_add]
      have c3' := (hg.cell (p := ⟨g, k, none⟩) hlt).trans c3
      go_simp
      exact hK _ _ rfl (Below.refl _ _)
    refine Tbl.keep_cons ?_ ?_
    · intro U w K hg hs hK
      have h28 : U 28 = _ := (hs 28 (by decide)).1 16 (by kernel_rfl) (by kernel_rfl)
      have h31 : U 31 = _ := (hs 31 (by decide)).1 19 (by kernel_rfl) (by kernel_rfl)
      have h20 : U 20 = _ := (hs 20 (by decide)).1 8 (by kernel_rfl) (by kernel_rfl)
      clear hs
      simp only [Tbl.mixL_true, Tbl.mixL_false, Tbl.mixL_nil, Nat.reduceAdd, Nat.zero_add]
      go_simp
      exact hK _ _ rfl (Below.refl _ _)
    refine Tbl.keep_cons ?_ ?_
    · intro U w K hg hs hK
      have h25 : U 25 = _ := (hs 25 (by decide)).1 13 (by kernel_rfl) (by kernel_rfl)
      have h32 : U 32 = _ := (hs 32 (by decide)).1 20 (by kernel_rfl) (by kernel_rfl)
      have h20 : U 20 = _ := (hs 20 (by decide)).1 8 (by kernel_rfl) (by kernel_rfl)
      clear hs
      simp only [Tbl.mixL_true, Tbl.mixL_false, Tbl.mixL_nil, Nat.reduceAdd, Nat.zero_add]
      go_simp
      exact hK _ _ rfl (Below.refl _ _)
    refine Tbl.keep_cons ?_ ?_
    · intro U w K hg hs hK
      have h20 : U 20 = _ := (hs 20 (by decide)).1 8 (by kernel_rfl) (by kernel_rfl)
      have h33 : U 33 = _ := (hs 33 (by decide)).1 21 (by kernel_rfl) (by kernel_rfl)
      clear hs
      simp only [Tbl.mixL_true, Tbl.mixL_false, Tbl.mixL_nil, Nat.reduceAdd, Nat.zero_add]
      go_simp
      exact hK _ _ rfl (Below.refl _ _)
    refine Tbl.keep_cons ?_ ?_
    · intro U w K hg hs hK
      have h34 : U 34 = _ := (hs 34 (by decide)).1 22 (by kernel_rfl) (by kernel_rfl)
      clear hs
      simp only [Tbl.mixL_true, Tbl.mixL_false, Tbl.mixL_nil, Nat.reduceAdd, Nat.zero_add]
      go_simp
      exact hK _ _ rfl (Below.refl _ _)
    refine Tbl.keep_cons ?_ ?_
    · intro U w K hg hs hK
      have h35 : U 35 = _ := (hs 35 (by decide)).1 23 (by kernel_rfl) (by kernel_rfl)
      clear hs
      simp only [Tbl.mixL_true, Tbl.mixL_false, Tbl.mixL_nil, Nat.reduceAdd, Nat.zero_add]
      go_simp
      exact hK _ _ rfl (Below.refl _ _)
    refine Tbl.keep_cons ?_ ?_
    · intro U w K hg hs hK
      have h36 : U 36 = _ := (hs 36 (by decide)).1 24 (by kernel_rfl) (by kernel_rfl)
      have h35 : U 35 = _ := (hs 35 (by decide)).1 23 (by kernel_rfl) (by kernel_rfl)
      clear hs
      simp only [Tbl.mixL_true, Tbl.mixL_false, Tbl.mixL_nil, Nat.reduceAdd, Nat.zero_add]
      have c4' := (hg.cell (p := ⟨g, 0, none⟩) hlt).trans c4
      go_simp
      exact hK _ _ rfl (Below.refl _ _)
    refine Tbl.keep_cons ?_ ?_
    · intro U w K hg hs hK
      have h37 : U 37 = _ := (hs 37 (by decide)).1 25 (by kernel_rfl) (by kernel_rfl)
      have h35 : U 35 = _ := (hs 35 (by decide)).1 23 (by kernel_rfl) (by kernel_rfl)
      clear hs
      simp only [Tbl.mixL_true, Tbl.mixL_false, Tbl.mixL_nil, Nat.reduceAdd, Nat.zero_add]
      go_simp
      exact hK _ _ rfl (Below.refl _ _)
    refine Tbl.keep_cons ?_ ?_
    · intro U w K hg hs hK
      have h35 : U 35 = _ := (hs 35 (by decide)).1 23 (by kernel_rfl) (by kernel_rfl)
      have h38 : U 38 = _ := (hs 38 (by decide)).1 26 (by kernel_rfl) (by kernel_rfl)
      clear hs
      simp only [Tbl.mixL_true, Tbl.mixL_false, Tbl.mixL_nil, Nat.reduceAdd, Nat.zero_add]
      go_simp
      exact hK _ _ rfl (Below.refl _ _)
    refine Tbl.keep_cons ?_ ?_
    · intro U w K hg hs hK
      have h39 : U 39 = _ := (hs 39 (by decide)).1 27 (by kernel_rfl) (by kernel_rfl)
      clear hs
      simp only [Tbl.mixL_true, Tbl.mixL_false, Tbl.mixL_nil, Nat.reduceAdd, Nat.zero_add]
      go_simp
      exact hK _ _ rfl (Below.refl _ _)
    exact Tbl.keep_nil
  case hp =>
    refine Tbl.table_stable _ ?_
    refine Tbl.stable_is ?_
    refine Tbl.stable_is ?_
    refine Tbl.stable_is ?_
    refine Tbl.stable_is ?_
    refine ⟨oneByte_stable c, ?_⟩
    refine Tbl.stable_is ?_
    refine Tbl.stable_is ?_
    refine Tbl.stable_is ?_
    refine Tbl.stable_is ?_
    refine Tbl.stable_is ?_
    refine Tbl.stable_is ?_
    refine Tbl.stable_is ?_
    refine Tbl.stable_is ?_
    refine Tbl.stable_is ?_
    refine Tbl.stable_is ?_
    refine Tbl.stable_is ?_
    refine Tbl.stable_is ?_
    refine Tbl.stable_is ?_
    refine Tbl.stable_is ?_
    refine Tbl.stable_is ?_
    refine Tbl.stable_is ?_
    refine Tbl.stable_is ?_
    refine Tbl.stable_is ?_
    refine Tbl.stable_is ?_
    refine Tbl.stable_is ?_
    refine Tbl.stable_is ?_
    refine Tbl.stable_is ?_
    refine Tbl.stable_is ?_
    refine Tbl.stable_is ?_
    exact Tbl.stable_nil
  case hfin =>
    intro U w' hG hp
    have h4 : U 4 = _ := hp 28 4 (by kernel_rfl)
    have h12 : U 12 = _ := hp 0 12 (by kernel_rfl)
    have h13 : U 13 = _ := hp 1 13 (by kernel_rfl)
    have h14 : U 14 = _ := hp 2 14 (by kernel_rfl)
    have h15 : U 15 = _ := hp 3 15 (by kernel_rfl)
    have h16 : (OneByte c) (U 16) w' := hp 4 16 (by kernel_rfl)
    have h17 : U 17 = _ := hp 5 17 (by kernel_rfl)
    have h18 : U 18 = _ := hp 6 18 (by kernel_rfl)
    have h19 : U 19 = _ := hp 7 19 (by kernel_rfl)
    have h20 : U 20 = _ := hp 8 20 (by kernel_rfl)
    have h21 : U 21 = _ := hp 9 21 (by kernel_rfl)
    have h22 : U 22 = _ := hp 10 22 (by kernel_rfl)
    have h23 : U 23 = _ := hp 11 23 (by kernel_rfl)
    have h24 : U 24 = _ := hp 12 24 (by kernel_rfl)
    have h25 : U 25 = _ := hp 13 25 (by kernel_rfl)
    have h26 : U 26 = _ := hp 14 26 (by kernel_rfl)
    have h27 : U 27 = _ := hp 15 27 (by kernel_rfl)
    have h28 : U 28 = _ := hp 16 28 (by kernel_rfl)
    have h29 : U 29 = _ := hp 17 29 (by kernel_rfl)
    have h30 : U 30 = _ := hp 18 30 (by kernel_rfl)
    have h31 : U 31 = _ := hp 19 31 (by kernel_rfl)
    have h32 : U 32 = _ := hp 20 32 (by kernel_rfl)
    have h33 : U 33 = _ := hp 21 33 (by kernel_rfl)
    have h34 : U 34 = _ := hp 22 34 (by kernel_rfl)
    have h35 : U 35 = _ := hp 23 35 (by kernel_rfl)
    have h36 : U 36 = _ := hp 24 36 (by kernel_rfl)
    have h37 : U 37 = _ := hp 25 37 (by kernel_rfl)
    have h38 : U 38 = _ := hp 26 38 (by kernel_rfl)
    have h39 : U 39 = _ := hp 27 39 (by kernel_rfl)
    clear hp
    simp only [Tbl.mixL_true, Tbl.mixL_false, Tbl.mixL_nil, Nat.reduceAdd, Nat.zero_add]
    rw [h4]
    rw [h12]
    rw [h13]
    rw [h14]
    rw [h15]
    generalize U 16 = u16 at *
    rw [h17]
    rw [h18]
    rw [h19]
    rw [h20]
    rw [h21]
    rw [h22]
    rw [h23]
    rw [h24]
    rw [h25]
    rw [h26]
    rw [h27]
    rw [h28]
    rw [h29]
    rw [h30]
    rw [h31]
    rw [h32]
    rw [h33]
    rw [h34]
    rw [h35]
    rw [h36]
    rw [h37]
    rw [h38]
    rw [h39]
    clear h4
    clear h12
    clear h13
    clear h14
    clear h15
    clear h17
    clear h18
    clear h19
    clear h20
    clear h21
    clear h22
    clear h23
    clear h24
    clear h25
    clear h26
    clear h27
    clear h28
    clear h29
    clear h30
    clear h31
    clear h32
    clear h33
    clear h34
    clear h35
    clear h36
    clear h37
    clear h38
    clear h39
    go_wp2
    go_ret
    exact ⟨rfl, hB2.trans (hG.mono hB2.size)⟩

theorem u8_of {n : Int} (h : (Lit.int .u8 n).wf = true) : ∃ c : UInt8, n = (c.toNat : Int) := by
  simp only [Lit.wf, Bool.and_eq_true, decide_eq_true_eq] at h
  have h1 : (0 : Int) ≤ n := h.1
  have h2 : n ≤ 255 := h.2
  refine ⟨UInt8.ofNat n.toNat, ?_⟩
  rw [UInt8.toNat_ofNat']
  omega
theorem u32_of {n : Int} (h : (Lit.int .u32 n).wf = true) : ∃ x : Sm.B32, n = (x.toNat : Int) := by
  simp only [Lit.wf, Bool.and_eq_true, decide_eq_true_eq] at h
  have h1 : (0 : Int) ≤ n := h.1
  have h2 : n ≤ 4294967295 := h.2
  refine ⟨BitVec.ofNat 32 n.toNat, ?_⟩
  rw [BitVec.toNat_ofNat]
  omega
theorem sumTable_row (a0 a1 : Int) (w0 : (Lit.int .u8 a0).wf = true) (w1 : (Lit.int .u32 a1).wf = true) (w : World) :
    Calls Try.prog 4 #[.int .u8 a0, .int .u32 a1] w fun e w' => e = .returned (.bool true) ∧ Below w.heap.size w w' := by
  obtain ⟨c, rfl⟩ := u8_of w0
  obtain ⟨x, rfl⟩ := u32_of w1
  exact sumTable_any c x w

end Go.Proofs.Ytecjailgiknfcaa

/-
  strings.Trim of noughts; In.Left, In.Num, In.Zero.
-/
import Derived.Test.YtecjailgiknfcaaDoorInTake
import Derived.Test.YtecjailgiknfcaaDoorGrow
import Derived.Test.YtecjailgiknfcaaDoorChain
set_option linter.unusedVariables false
set_option linter.unusedSimpArgs false
namespace Go.Proofs.YtecjailgiknfcaaDoor
open Go.RowKit

theorem size_of_list {t : ByteArray} {l : List UInt8} (h : t.data.toList = l) : t.size = l.length := by rw [← h]; simp
theorem byte_at {t : ByteArray} {l : List UInt8} (h : t.data.toList = l) (k : Nat) (hk : k < t.size) : l[k]? = some t[k] := by
  subst h
  have : k < t.data.toList.length := by simpa using hk
  rw [List.getElem?_eq_getElem this]
  rfl

set_option maxHeartbeats 2000000 in
set_option maxRecDepth 100000 in
theorem trimRight_any (s : ByteArray) (w : World) (hs : s.size ≤ maxLen) :
    Calls Tryd.prog 37 #[.string s, .int .u8 0] w fun e w' => ∃ (t : ByteArray) (k : Nat), e = .returned (.string t) ∧ (k ≤ s.size ∧ t.data.toList = s.data.toList.take k ∧ (∀ j x, k ≤ j → s.data.toList[j]? = some x → x = 0) ∧ (∀ x, 0 < k → s.data.toList[k - 1]? = some x → x ≠ 0) ∧ w' = w) := by
  have hs' : s.size ≤ 9223372036854775807 := hs
  go_enter Tryd.func37, Tryd.ntmps37
  go_wp2
  go_loopw [0] (fun v wr => ∃ (t : ByteArray) (k : Nat), v = .string t ∧ k ≤ s.size ∧ t.data.toList = s.data.toList.take k ∧ (∀ j x, k ≤ j → s.data.toList[j]? = some x → x = 0) ∧ wr = w) (fun v _ => match v with | .string t => t.size | _ => 0)
  case atStart =>
    refine ⟨s, s.size, rfl, Nat.le_refl _, ?_, fun j x hj hx => ?_, rfl⟩
    · rw [List.take_of_length_le (by simp)]
    · rw [List.getElem?_eq_none (by simpa using hj)] at hx; cases hx
  case round =>
    obtain ⟨t, k, rfl, hk, ht, hz, hww⟩ := hrel
    subst hww
    have hsz : t.size = k := by rw [size_of_list ht, List.length_take]; simp; omega
    have HT := Lib.hid ht
    have HZ := Lib.hid hz
    by_cases h0 : 0 < t.size
    · have h0' : (0 : Int) < (t.size : Int) := by omega
      have hk1 : k - 1 < t.size := by omega
      have hb := byte_at ht (k - 1) hk1
      rw [List.getElem?_take, if_pos (by omega)] at hb
      have HB := Lib.hid hb
      clear hb ht hz
      by_cases hx : t[k - 1] = 0
      · have hx' : (t[k - 1].toNat : Int) = 0 := by rw [hx]; rfl
        go_wp2
        refine ⟨⟨t.extract 0 (k - 1), k - 1, rfl, by omega, ?_, fun j x hj hjx => ?_, by trivial⟩, by simp; omega⟩
        · rw [ByteArray.data_extract, Array.toList_extract, HT.out, List.extract_eq_take_drop, List.drop_zero, Nat.sub_zero, List.take_take, Nat.min_eq_left (by omega)]
        · by_cases e : j = k - 1
          · subst e
            rw [HB.out] at hjx
            rw [← Option.some.inj hjx, hx]
          · exact HZ.out j x (by omega) hjx
      · have hx' : ¬ (t[k - 1].toNat : Int) = 0 := fun e => hx (by apply UInt8.toNat.inj; simpa using e)
        go_wp2
        go_ret
        refine ⟨t, k, rfl, hk, HT.out, HZ.out, fun x _ hjx => ?_, by trivial⟩
        rw [HB.out] at hjx
        rw [← Option.some.inj hjx]
        exact hx
    · have h0' : (t.size : Int) ≤ 0 := by omega
      clear ht hz
      go_wp2
      go_ret
      refine ⟨t, k, rfl, hk, HT.out, HZ.out, fun x hk0 => by omega, by trivial⟩

set_option maxHeartbeats 2000000 in
set_option maxRecDepth 100000 in
theorem trimLeft_any (s : ByteArray) (w : World) (hs : s.size ≤ maxLen) :
    Calls Tryd.prog 36 #[.string s, .int .u8 0] w fun e w' => ∃ (t : ByteArray) (k : Nat), e = .returned (.string t) ∧ (k ≤ s.size ∧ t.data.toList = s.data.toList.drop k ∧ (∀ j x, j < k → s.data.toList[j]? = some x → x = 0) ∧ w' = w) := by
  have hs' : s.size ≤ 9223372036854775807 := hs
  go_enter Tryd.func36, Tryd.ntmps36
  go_wp2
  go_loopw [0] (fun v wr => ∃ (t : ByteArray) (k : Nat), v = .string t ∧ k ≤ s.size ∧ t.data.toList = s.data.toList.drop k ∧ (∀ j x, j < k → s.data.toList[j]? = some x → x = 0) ∧ wr = w) (fun v _ => match v with | .string t => t.size | _ => 0)
  case atStart => exact ⟨s, 0, rfl, Nat.zero_le _, rfl, fun j x hj _ => by omega, rfl⟩
  case round =>
    obtain ⟨t, k, rfl, hk, ht, hz, hww⟩ := hrel
    subst hww
    have hsz : t.size = s.size - k := by rw [size_of_list ht, List.length_drop]; simp
    have HT := Lib.hid ht
    have HZ := Lib.hid hz
    by_cases h0 : 0 < t.size
    · have h0' : (0 : Int) < (t.size : Int) := by omega
      have h1' : (1 : Int) ≤ (t.size : Int) := by omega
      have hb := byte_at ht 0 h0
      rw [List.getElem?_drop, Nat.add_zero] at hb
      have HB := Lib.hid hb
      have HSZ := Lib.hid hsz
      clear hb ht hz hsz
      by_cases hx : t[0] = 0
      · have hx' : (t[0].toNat : Int) = 0 := by rw [hx]; rfl
        go_wp2
        refine ⟨⟨t.extract 1 t.size, k + 1, rfl, by have := HSZ.out; omega, ?_, fun j x hj hjx => ?_, by trivial⟩, by simp; omega⟩
        · rw [ByteArray.data_extract, Array.toList_extract, HT.out]
          simp
          rw [HSZ.out]
          apply List.take_of_length_le
          simp
          omega
        · by_cases e : j = k
          · subst e
            rw [HB.out] at hjx
            rw [← Option.some.inj hjx, hx]
          · exact HZ.out j x (by omega) hjx
      · have hx' : ¬ (t[0].toNat : Int) = 0 := fun e => hx (by apply UInt8.toNat.inj; simpa using e)
        go_wp2
        go_ret
        exact ⟨t, k, rfl, hk, HT.out, HZ.out, by trivial⟩
    · have h0' : (t.size : Int) ≤ 0 := by omega
      clear ht hz
      go_wp2
      go_ret
      exact ⟨t, k, rfl, hk, HT.out, HZ.out, by trivial⟩

/-- Noughts alone. -/
def Noughts (s : ByteArray) : Prop := ∀ x ∈ s.data.toList, x = 0
instance (s : ByteArray) : Decidable (Noughts s) := by unfold Noughts; infer_instance

def Right (s : ByteArray) (v : Value) (w : World) : Prop := ∃ (t : ByteArray) (k : Nat), v = .string t ∧ (k ≤ s.size ∧ t.data.toList = s.data.toList.take k ∧ (∀ j x, k ≤ j → s.data.toList[j]? = some x → x = 0) ∧ (∀ x, 0 < k → s.data.toList[k - 1]? = some x → x ≠ 0))
def Whole (s : ByteArray) (v : Value) (w : World) : Prop := ∃ t : ByteArray, v = .string t ∧ (t = ByteArray.empty ↔ Noughts s)
theorem whole (s t t2 : ByteArray) (k k2 : Nat) (hk : k ≤ s.size) (ht : t.data.toList = s.data.toList.take k) (hz : ∀ j x, k ≤ j → s.data.toList[j]? = some x → x = 0) (hl : ∀ x, 0 < k → s.data.toList[k - 1]? = some x → x ≠ 0)
    (hk2 : k2 ≤ t.size) (ht2 : t2.data.toList = t.data.toList.drop k2) (hz2 : ∀ j x, j < k2 → t.data.toList[j]? = some x → x = 0) : t2 = ByteArray.empty ↔ Noughts s := by
  have hsz : t.size = k := by rw [size_of_list ht, List.length_take]; simp; omega
  have hsl : s.data.toList.length = s.size := by simp
  constructor
  · intro he
    have h0 : k2 = k := by
      have := size_of_list ht2
      rw [he, List.length_drop] at this
      have e1 : t.data.toList.length = t.size := by simp
      rw [e1, hsz] at this
      have e2 : ByteArray.empty.size = 0 := rfl
      omega
    intro x hx
    obtain ⟨j, hj, rfl⟩ := List.getElem_of_mem hx
    have hjs : s.data.toList[j]? = some s.data.toList[j] := List.getElem?_eq_getElem hj
    rcases Nat.lt_or_ge j k with h | h
    · exact hz2 j _ (by omega) (by rw [ht, List.getElem?_take, if_pos h]; exact hjs)
    · exact hz j _ h hjs
  · intro hn
    have hk0 : k = 0 := by
      rcases Nat.eq_zero_or_pos k with h | h
      · exact h
      · have hj : k - 1 < s.data.toList.length := by omega
        have hjs : s.data.toList[k - 1]? = some s.data.toList[k - 1] := List.getElem?_eq_getElem hj
        exact (hl _ h hjs (hn _ (List.getElem_mem hj))).elim
    apply ByteArray.ext
    apply Array.ext'
    rw [ht2, ht, hk0]
    simp
set_option maxHeartbeats 2000000 in
set_option maxRecDepth 100000 in
theorem trim_any (s : ByteArray) (w : World) (hs : s.size ≤ maxLen) :
    Calls Tryd.prog 32 #[.string s, .string ⟨#[0]⟩] w fun e w' => ∃ t : ByteArray, e = .returned (.string t) ∧ ((t = ByteArray.empty ↔ Noughts s) ∧ Fr (fun _ => False) w w') := by
  by_cases h0 : s.data.toList = []
  · have hE : s.toList.isEmpty = true := by rw [ByteArray.toList_eq, h0]; rfl
    have hN : Noughts s := fun x hx => by rw [h0] at hx; cases hx
    have hs0 : s = ByteArray.empty := by
      apply ByteArray.ext
      apply Array.ext'
      exact h0
    go_enter Tryd.func32, Tryd.ntmps32
    go_wp2
    go_ret
    exact ⟨s, rfl, ⟨fun _ => hN, fun _ => hs0⟩, Fr.refl _ _⟩
  · have hE : s.toList.isEmpty = false := by
      rw [ByteArray.toList_eq]
      cases hl : s.data.toList with
      | nil => exact (h0 hl).elim
      | cons a l => rfl
    go_enter Tryd.func32, Tryd.ntmps32
    go_wp2_with fail
    apply (fun (c0 : Value) (c1 : Value) (c2 : Value) (c4 : Value) (c5 : Value) hm hok hf hfl hch hcl hp hrefl hg hk hfin => Tbl.wp_chain (fun _ _ => True) (fun _ wq => Hid (wq = w.drew)) [] [false, false, false, false, true, false, false, false, false, false, false, false, false, false, false, false, false, false, false, false, false, false, true, true, true, true, true, true, true, false, false, false, false, false, false, false, false, false, false, false, false, false, false] [Tbl.Is c0, Tbl.Is c1, Tbl.Is c2, Right s, Tbl.Is c4, Tbl.Is c5, Whole s, Whole s] hm hok hf hfl hch hcl hp hrefl hg hk hfin)
    case hm => rfl
    case hok => kernel_rfl
    case hf => kernel_rfl
    case hfl => rfl
    case hch => kernel_rfl
    case hcl => kernel_rfl
    case hrefl =>
      exact fun _ => trivial
    case hg =>
      exact rfl
    case hk =>
      refine Tbl.keepC_cons (c := none) (by kernel_rfl) ?_ ?_
      · refine Tbl.keepC_no ?_
        intro U w K kc hg hs hK
        clear hs
        simp only [Tbl.mixL_true, Tbl.mixL_false, Tbl.mixL_nil, Nat.reduceAdd, Nat.zero_add]
        go_simp
        exact hK _ _ rfl hg (trivial)
      refine Tbl.keepC_cons (c := none) (by kernel_rfl) ?_ ?_
      · refine Tbl.keepC_no ?_
        intro U w K kc hg hs hK
        clear hs
        simp only [Tbl.mixL_true, Tbl.mixL_false, Tbl.mixL_nil, Nat.reduceAdd, Nat.zero_add]
        go_simp
        exact hK _ _ rfl hg (trivial)
      refine Tbl.keepC_cons (c := none) (by kernel_rfl) ?_ ?_
      · refine Tbl.keepC_no ?_
        intro U w K kc hg hs hK
        have h23 : U 23 = _ := (hs 23 (by decide)).1 1 (by kernel_rfl) (by kernel_rfl)
        clear hs
        simp only [Tbl.mixL_true, Tbl.mixL_false, Tbl.mixL_nil, Nat.reduceAdd, Nat.zero_add]
        go_simp
        exact hK _ _ rfl hg (trivial)
      refine Tbl.keepC_cons (c := none) (by kernel_rfl) ?_ ?_
      · refine Tbl.keepC_no ?_
        intro U w K kc hg hs hK
        have h22 : U 22 = _ := (hs 22 (by decide)).1 0 (by kernel_rfl) (by kernel_rfl)
        have h24 : U 24 = _ := (hs 24 (by decide)).1 2 (by kernel_rfl) (by kernel_rfl)
        clear hs
        simp only [Tbl.mixL_true, Tbl.mixL_false, Tbl.mixL_nil, Nat.reduceAdd, Nat.zero_add]
        go_simp
        refine (trimRight_any s _ hs).mono ?_
        rintro en w2 ⟨t, k, rfl, h1, h2, h3, h4, rfl⟩
        exact hK _ _ ⟨t, k, rfl, h1, h2, h3, h4⟩ hg trivial
      refine Tbl.keepC_cons (c := none) (by kernel_rfl) ?_ ?_
      · refine Tbl.keepC_no ?_
        intro U w K kc hg hs hK
        clear hs
        simp only [Tbl.mixL_true, Tbl.mixL_false, Tbl.mixL_nil, Nat.reduceAdd, Nat.zero_add]
        go_simp
        exact hK _ _ rfl hg (trivial)
      refine Tbl.keepC_cons (c := none) (by kernel_rfl) ?_ ?_
      · refine Tbl.keepC_no ?_
        intro U w K kc hg hs hK
        have h26 : U 26 = _ := (hs 26 (by decide)).1 4 (by kernel_rfl) (by kernel_rfl)
        clear hs
        simp only [Tbl.mixL_true, Tbl.mixL_false, Tbl.mixL_nil, Nat.reduceAdd, Nat.zero_add]
        go_simp
        exact hK _ _ rfl hg (trivial)
      refine Tbl.keepC_cons (c := none) (by kernel_rfl) ?_ ?_
      · refine Tbl.keepC_no ?_
        intro U w K kc hg hs hK
        have h25 : (Right s) (U 25) w := (hs 25 (by decide)).1 3 (by kernel_rfl) (by kernel_rfl)
        obtain ⟨t, k, hv, hk, ht, hz, hlast⟩ := h25
        have h27 : U 27 = _ := (hs 27 (by decide)).1 5 (by kernel_rfl) (by kernel_rfl)
        clear hs
        simp only [Tbl.mixL_true, Tbl.mixL_false, Tbl.mixL_nil, Nat.reduceAdd, Nat.zero_add]
        go_simp
        have hts : t.size ≤ maxLen := by rw [size_of_list ht, List.length_take]; omega
        refine (trimLeft_any t _ hts).mono ?_
        rintro en w2 ⟨t2, k2, rfl, h1, h2, h3, rfl⟩
        exact hK _ _ ⟨t2, rfl, whole s t t2 k k2 hk ht hz hlast h1 h2 h3⟩ hg trivial
      refine Tbl.keepC_cons (c := none) (by kernel_rfl) ?_ ?_
      · refine Tbl.keepC_no ?_
        intro U w K kc hg hs hK
        have h28 : (Whole s) (U 28) w := (hs 28 (by decide)).1 6 (by kernel_rfl) (by kernel_rfl)
        clear hs
        simp only [Tbl.mixL_true, Tbl.mixL_false, Tbl.mixL_nil, Nat.reduceAdd, Nat.zero_add]
        go_simp
        exact hK _ _ h28 hg trivial
      exact Tbl.keepC_nil
    case hp =>
      refine Tbl.table_stable _ ?_
      refine Tbl.stable_is ?_
      refine Tbl.stable_is ?_
      refine Tbl.stable_is ?_
      refine ⟨fun _ _ _ h _ => h, ?_⟩
      refine Tbl.stable_is ?_
      refine Tbl.stable_is ?_
      refine ⟨fun _ _ _ h _ => h, ?_⟩
      refine ⟨fun _ _ _ h _ => h, ?_⟩
      exact Tbl.stable_nil
    case hfin =>
      intro U w' hG hp
      try simp only [List.length_cons, List.length_nil, Nat.reduceAdd, Nat.zero_add] at hG
      have h4 : (Whole s) (U 4) w' := hp 7 4 (by kernel_rfl)
      have h22 : U 22 = _ := hp 0 22 (by kernel_rfl)
      have h23 : U 23 = _ := hp 1 23 (by kernel_rfl)
      have h24 : U 24 = _ := hp 2 24 (by kernel_rfl)
      have h25 : (Right s) (U 25) w' := hp 3 25 (by kernel_rfl)
      have h26 : U 26 = _ := hp 4 26 (by kernel_rfl)
      have h27 : U 27 = _ := hp 5 27 (by kernel_rfl)
      have h28 : (Whole s) (U 28) w' := hp 6 28 (by kernel_rfl)
      clear hp
      simp only [Tbl.mixL_true, Tbl.mixL_false, Tbl.mixL_nil, Nat.reduceAdd, Nat.zero_add]
      generalize U 4 = u4 at *
      rw [h22]
      rw [h23]
      rw [h24]
      generalize U 25 = u25 at *
      rw [h26]
      rw [h27]
      generalize U 28 = u28 at *
      clear h22
      clear h23
      clear h24
      clear h26
      clear h27
      obtain ⟨t, rfl, ht⟩ := h4
      go_wp2
      go_ret
      refine ⟨t, rfl, ht, ?_⟩
      rw [hG.out]
      exact (Fr.refl _ w).drew
end Go.Proofs.YtecjailgiknfcaaDoor

/-
  The walks of the statements SumLinear, SumTells.
-/
import Derived.Test.YtecjailgiknfcaaSumLaws2
import Derived.Laws.MakeOwn
import Derived.ChangeAlike
import Derived.Deep.OwnRows
namespace Go.Proofs.Ytecjailgiknfcaa
open Go.RowKit

/-- Bytes in a block of their own. -/
def BytesAt (w : World) (g : Nat) (l : List UInt8) : Prop := w.heap[g]? = some (.cells (l.map fun c => Value.int .u8 (c.toNat : Int)).toArray 5 (0, 0))
theorem BytesAt.cell {w : World} {g : Nat} {l : List UInt8} (h : BytesAt w g l) (j : Nat) (hj : j < l.length) : w.cell? ⟨g, j, none⟩ = some (.int .u8 (l[j].toNat : Int)) := by
  rw [cell_of_row w g j _ _ _ h]
  simp [hj]
theorem BytesAt.some {w : World} {g : Nat} {l : List UInt8} (h : BytesAt w g l) (j : Nat) (hj : j < l.length) : ∃ c : UInt8, w.cell? ⟨g, j, none⟩ = some (.int .u8 (c.toNat : Int)) := ⟨_, h.cell j hj⟩
theorem made_bytes (n : Nat) : madeCells #[Value.int .u8 0] n = ((List.replicate n (0 : UInt8)).map fun c => Value.int .u8 (c.toNat : Int)).toArray := by
  apply Array.ext'
  simp only [madeCells, List.map_replicate]
  rw [List.eq_replicate_iff]
  refine ⟨by simp, fun v hv => ?_⟩
  simp [Nat.mod_one] at hv
  rw [← hv.2]
  rfl
theorem BytesAt.frozen {w : World} {g : Nat} {l : List UInt8} (h : BytesAt w g l) (j : Nat) : w.frozen? ⟨g, j, none⟩ = false := frozen_of_row w g j _ _ h
theorem BytesAt.lt {w : World} {g : Nat} {l : List UInt8} (h : BytesAt w g l) : g < w.heap.size := (Array.getElem?_eq_some_iff.1 h).1
theorem BytesAt.set {w : World} {g : Nat} {l : List UInt8} (h : BytesAt w g l) (j : Nat) (c : UInt8) : BytesAt (w.setCell ⟨g, j, none⟩ (.int .u8 (c.toNat : Int))) g (l.set j c) := by
  unfold BytesAt at *
  rw [heap_setCell_same w g j _ _ _ h]
  congr 2
  apply Array.ext'
  rw [Array.toList_setIfInBounds, List.map_set]
theorem BytesAt.drewN {w : World} {g : Nat} {l : List UInt8} (h : BytesAt w g l) (n : Nat) : BytesAt (w.drewN n) g l := h
theorem BytesAt.below {w w' : World} {g : Nat} {l : List UInt8} (h : BytesAt w g l) (hb : Below w.heap.size w w') : BytesAt w' g l := by
  exact (hb.block g h.lt).trans h

def xor3 (a b c : List UInt8) : List UInt8 := List.zipWith (· ^^^ ·) (List.zipWith (· ^^^ ·) a b) c

theorem min_four (w : World) (ts : Array TypeId) (t : TypeId) (x y z : Nat) :
    (Builtin.min_ ts t #[.int .i64 (x : Int), .int .i64 (y : Int), .int .i64 (z : Int), .int .i64 60]).run Try.prog w = .ok (.int .i64 ((min (min (min x y) z) 60 : Nat) : Int)) w := by
  have e : ∀ p q : Nat, (if (q : Int) < (p : Int) then (q : Int) else (p : Int)) = ((min p q : Nat) : Int) := fun p q => by split <;> omega
  have e2 : ∀ p : Nat, (if (60 : Int) < (p : Int) then (60 : Int) else (p : Int)) = ((min p 60 : Nat) : Int) := fun p => by split <;> omega
  simp only [Builtin.min_, Builtin.min2, List.foldlM_cons, List.foldlM_nil, e, e2, Sem.run_bind, Sem.run_pure, Result.andThen_ok]

/-- The bytes that have been laid after k rounds. -/
def laid (l : List UInt8) (k : Nat) : List UInt8 := l.take k ++ List.replicate (l.length - k) 0
theorem laid_length (l : List UInt8) (k : Nat) (h : k ≤ l.length) : (laid l k).length = l.length := by unfold laid; simp; omega
theorem laid_set (l : List UInt8) (k : Nat) (h : k < l.length) : (laid l k).set k l[k] = laid l (k + 1) := by
  unfold laid
  have e : l.length - k = (l.length - (k + 1)) + 1 := by omega
  rw [e, List.replicate_succ, List.set_append]
  simp [Nat.min_eq_left (Nat.le_of_lt h)]
  rw [List.take_succ_eq_append_getElem h, List.append_assoc]
  rfl
theorem laid_zero (l : List UInt8) : laid l 0 = List.replicate l.length 0 := by simp [laid]
theorem laid_full (l : List UInt8) : laid l l.length = l := by simp [laid]

def take (s : ByteArray) (n : Nat) : List UInt8 := s.data.toList.take n
theorem xor3_length (a b c : ByteArray) (n : Nat) (ha : n ≤ a.size) (hb : n ≤ b.size) (hc : n ≤ c.size) : (xor3 (take a n) (take b n) (take c n)).length = n := by
  have h1 : a.data.toList.length = a.size := by simp
  have h2 : b.data.toList.length = b.size := by simp
  have h3 : c.data.toList.length = c.size := by simp
  unfold xor3 take
  rw [List.length_zipWith, List.length_zipWith, List.length_take, List.length_take, List.length_take]
  omega
theorem xor3_get (a b c : ByteArray) (n k : Nat) (ha : n ≤ a.size) (hb : n ≤ b.size) (hc : n ≤ c.size) (hk : k < n) :
    (xor3 (take a n) (take b n) (take c n))[k]? = some (a[k]'(by omega) ^^^ b[k]'(by omega) ^^^ c[k]'(by omega)) := by
  have e : ∀ (s : ByteArray) (h : n ≤ s.size), (s.data.toList.take n)[k]? = some (s[k]'(by omega)) := fun s h => by
    rw [List.getElem?_take_of_lt hk]
    have : k < s.data.toList.length := by simpa using (show k < s.size by omega)
    rw [List.getElem?_eq_getElem this]
    rfl
  unfold xor3 take
  simp only [List.getElem?_zipWith, e a ha, e b hb, e c hc]
theorem xor8 (x y : UInt8) : bits .xor .u8 (x.toNat : Int) (y.toNat : Int) = ((x ^^^ y).toNat : Int) := by
  rw [u8_xor_nat _ _ x.toNat_lt y.toNat_lt, UInt8.toNat_xor]

/-- A text's sum. -/
def sumOf (s : ByteArray) : Sm.B32 := Sm.crc s.data.toList
theorem of_str (b cap : Nat) (s : ByteArray) (w : World) (hs : s.size ≤ maxLen) (hb : b < w.heap.size) (hc : w.cell? ⟨b, 0, none⟩ = some (.string s)) :
    Calls Try.prog 18 #[.slice (some ⟨b, 0, none⟩) 1 cap] w fun e w' => e = .returned (.int .u32 ((sumOf s).toNat : Int)) ∧ Below w.heap.size w w' := of_one b cap s w hs hb hc
/-- A slice of one text in a block of its own. -/
def OneStr (s : ByteArray) (v : Value) (w : World) : Prop := ∃ b, v = .slice (some ⟨b, 0, none⟩) 1 1 ∧ w.cell? ⟨b, 0, none⟩ = some (.string s) ∧ b < w.heap.size
theorem oneStr_stable (s : ByteArray) (v : Value) (w w' : World) (h : OneStr s v w) (hs : Below w.heap.size w w') : OneStr s v w' := by
  obtain ⟨b, hv, hc, hb⟩ := h
  exact ⟨b, hv, by rw [hs.cell (p := ⟨b, 0, none⟩) hb, hc], Nat.lt_of_lt_of_le hb hs.size⟩

set_option maxRecDepth 100000 in
set_option maxHeartbeats 4000000 in
theorem sumLinear_any (a b c : ByteArray) (w : World) (_ha : a.size ≤ maxLen) (_hb : b.size ≤ maxLen) (_hc : c.size ≤ maxLen) :
    Calls Try.prog 6 #[.string a, .string b, .string c] w fun e w' => e = .returned (.bool true) ∧ Below w.heap.size w w' := by
  have hmin := min_four
  go_enter Try.func6, Try.ntmps6
  go_upto_region 3 with (first | (go_at_call 14; refine (sum_awake _).mono ?_; rintro e w1 ⟨rfl, hB⟩))
  go_cut [7] (fun v wx => wx = w1 ∧ ∃ n : Nat, n ≤ a.size ∧ n ≤ b.size ∧ n ≤ c.size ∧ n ≤ 60 ∧ v = .int .i64 n)
  case first =>
    go_wp2
    go_meet
    exact ⟨rfl, min a.size (min b.size (min c.size 60)), by omega, by omega, by omega, by omega, rfl⟩
  case rest =>
    obtain ⟨rfl, n, na, nb, nc, n60, rfl⟩ := hcut
    have hmk := run_make_row' (P := Try.prog) 29 5 (.int .u8 0) 1 Try.underlying29 (by kernel_rfl) rfl .i64 .i64 n (by omega) (by omega)
    clear hmin
    go_wp2
    obtain ⟨l, HL, HN, HGET⟩ : ∃ l, Hid (l = xor3 (take a n) (take b n) (take c n)) ∧ Hid (l.length = n) ∧ Hid (∀ k (hk : k < n), l[k]? = some (a[k]'(by omega) ^^^ b[k]'(by omega) ^^^ c[k]'(by omega))) :=
      ⟨_, rfl, xor3_length a b c n na nb nc, fun k hk => xor3_get a b c n k na nb nc hk⟩
    clear hmk
    have h0 : BytesAt (wc.alloc (Obj.cells (madeCells #[.int .u8 0] n) 5)) wc.heap.size (laid l 0) := by
      unfold BytesAt
      rw [heap_alloc_last, laid_zero, HN.out]
      rw [made_bytes]
    have hB1 : Below w.heap.size w (wc.alloc (Obj.cells (madeCells #[.int .u8 0] n) 5)) := hB.alloc hB.size _
    have hgb : w.heap.size ≤ wc.heap.size := hB.size
    obtain ⟨g, hg⟩ : ∃ g, g = wc.heap.size := ⟨_, rfl⟩
    rw [← hg] at h0 hgb ⊢
    clear hg
    generalize wc.alloc (Obj.cells (madeCells #[.int .u8 0] n) 5) = W at *
    clear hB
    go_loopw [23] (fun i wr => ∃ k : Nat, k ≤ n ∧ i = .int .i64 k ∧ BytesAt wr g (laid l k) ∧ Below w.heap.size w wr) (fun i _ => n - (intOf i).toNat)
    case atStart => exact ⟨0, Nat.zero_le _, rfl, h0, hB1⟩
    case round =>
      clear h0 hB1 W
      obtain ⟨k, hk, rfl, hA, hBr⟩ := hrel
      by_cases hlt : k < n
      · have hla := laid_length l k (by rw [HN.out]; omega)
        have hcell := hA.cell k (by rw [hla, HN.out]; exact hlt)
        have hfr := hA.frozen k
        obtain ⟨v, HV, hx1, hx2⟩ : ∃ v : UInt8, Hid (l[k]? = some v) ∧ bits .xor .u8 ((a[k]'(by omega)).toNat : Int) ((b[k]'(by omega)).toNat : Int) = (((a[k]'(by omega)).toNat ^^^ (b[k]'(by omega)).toNat : Nat) : Int) ∧
            bits .xor .u8 (((a[k]'(by omega)).toNat ^^^ (b[k]'(by omega)).toNat : Nat) : Int) ((c[k]'(by omega)).toNat : Int) = (v.toNat : Int) :=
          ⟨_, HGET.out k hlt, by rw [xor8, UInt8.toNat_xor], by rw [← UInt8.toNat_xor, xor8]⟩
        have i0 : (0 : Int) ≤ (k : Int) := by omega
        have i1 : (k : Int) < (n : Int) := by omega
        have ia : (k : Int) < (a.size : Int) := by omega
        have ib : (k : Int) < (b.size : Int) := by omega
        have ic : (k : Int) < (c.size : Int) := by omega
        go_wp2
        go_region
        go_wp2
        go_roundw
        case rel =>
          refine ⟨k + 1, by omega, by go_num, ?_, (hBr.setCell hgb _).drew⟩
          have h := hA.set k v
          have hk' : k < l.length := by rw [HN.out]; exact hlt
          have e : l[k] = v := by
            have := HV.out
            rw [List.getElem?_eq_getElem hk'] at this
            exact Option.some.inj this
          rw [← e, laid_set l k hk', e] at h
          exact h
        case measure => simp [intOf]; omega
      · obtain rfl : k = n := by omega
        rw [show laid l k = l by rw [← HN.out]; exact laid_full l] at hA
        have hA' : BytesAt wr g l := hA
        obtain ⟨sl, HSL, hslk⟩ : ∃ sl : ByteArray, Hid (sl.data.toList = l) ∧ sl.size = k := ⟨⟨l.toArray⟩, rfl, HN.out⟩
        have hgl := hA'.lt
        have hcv : ∀ w' : World, Below wr.heap.size wr w' → (convert 29 9 (.slice (some ⟨g, 0, none⟩) k k)).run Try.prog w' = .ok (.string sl) w' := fun w' hb => by
          have h := conv_bytes sl g 0 k w' (fun i hi => by
            have hi' : i < l.length := by rw [HN.out, ← hslk]; exact hi
            rw [Nat.zero_add, (hA'.below hb).cell i hi']
            congr 3
            have := HSL.out
            subst this
            rfl)
          rw [hslk] at h
          exact h
        have HCV := Lib.hid hcv
        obtain ⟨X, hx1, hx2⟩ : ∃ X : Sm.B32, bits .xor .u32 ((sumOf (a.extract 0 k)).toNat : Int) ((sumOf (b.extract 0 k)).toNat : Int) = (X.toNat : Int) ∧ bits .xor .u32 (X.toNat : Int) ((sumOf (c.extract 0 k)).toNat : Int) = ((sumOf sl).toNat : Int) := by
          refine ⟨sumOf (a.extract 0 k) ^^^ sumOf (b.extract 0 k), Sm.xor32 _ _, ?_⟩
          rw [Sm.xor32]
          have e : ∀ s : ByteArray, (s.extract 0 k).data.toList = take s k := fun s => by
            rw [ByteArray.data_extract]
            simp [take, List.extract_eq_take_drop]
          have h1 : (take a k).length = k := by unfold take; rw [List.length_take]; have : a.data.toList.length = a.size := by simp
                                                omega
          have h2 : (take b k).length = k := by unfold take; rw [List.length_take]; have : b.data.toList.length = b.size := by simp
                                                omega
          have h3 : (take c k).length = k := by unfold take; rw [List.length_take]; have : c.data.toList.length = c.size := by simp
                                                omega
          unfold sumOf
          rw [e, e, e, HSL.out, HL.out, Sm.crc_xor3 _ _ _ (by rw [h1, h2]) (by rw [h1, h3])]
          rfl
        have sa : (a.extract 0 k).size ≤ maxLen := by simp; unfold maxLen; omega
        have sb : (b.extract 0 k).size ≤ maxLen := by simp; unfold maxLen; omega
        have sc : (c.extract 0 k).size ≤ maxLen := by simp; unfold maxLen; omega
        have ss : sl.size ≤ maxLen := by unfold maxLen; omega
        have k0 : (0 : Int) ≤ (k : Int) := by omega
        have ka : (k : Int) ≤ (a.size : Int) := by omega
        have kb : (k : Int) ≤ (b.size : Int) := by omega
        have kc : (k : Int) ≤ (c.size : Int) := by omega
        clear hA hcv hslk
        go_wp2
        apply (fun (c0 : Value) (c1 : Value) (c2 : Value) (c4 : Value) (c5 : Value) (c6 : Value) (c7 : Value) (c9 : Value) (c10 : Value) (c11 : Value) (c12 : Value) (c13 : Value) (c15 : Value) (c16 : Value) (c17 : Value) (c18 : Value) (c20 : Value) (c21 : Value) (c22 : Value) hm hok hf hfl hG hp hrefl hg hk hfin => Tbl.wp_region (fun w w' => Below w.heap.size w w') (fun w' => Below wr.heap.size wr w') [false, false, false, false, false, false, true, false, false, false, false, false, false, false, false, false, false, false, false, false, false, false, false, false, false, false, false, false, false, false, false, false, false, false, false, false, false, false, false, false, false, true, true, true, true, true, true, true, true, true, true, true, true, true, true, true, true, true, true, true, true, true, true] [Tbl.Is c0, Tbl.Is c1, Tbl.Is c2, OneStr (a.extract 0 k), Tbl.Is c4, Tbl.Is c5, Tbl.Is c6, Tbl.Is c7, OneStr (b.extract 0 k), Tbl.Is c9, Tbl.Is c10, Tbl.Is c11, Tbl.Is c12, Tbl.Is c13, OneStr (c.extract 0 k), Tbl.Is c15, Tbl.Is c16, Tbl.Is c17, Tbl.Is c18, OneStr sl, Tbl.Is c20, Tbl.Is c21, Tbl.Is c22] hm hok hf hfl hG hp hrefl hg hk hfin)
        case hm => rfl
        case hok => kernel_rfl
        case hf => kernel_rfl
        case hfl => rfl
        case hrefl =>
          exact fun w => Below.refl _ _
        case hG =>
          exact fun w w' h h' => h.trans (h'.mono h.size)
        case hg =>
          exact (Below.refl _ _).drew
        case hk =>
          refine Tbl.keep_cons ?_ ?_
          · intro U w K hg hs hK
            clear hs
            simp only [Tbl.mixL_true, Tbl.mixL_false, Tbl.mixL_nil, Nat.reduceAdd, Nat.zero_add]
            go_simp
            exact hK _ _ rfl (Below.refl _ _)
          refine Tbl.keep_cons ?_ ?_
          · intro U w K hg hs hK
            clear hs
            simp only [Tbl.mixL_true, Tbl.mixL_false, Tbl.mixL_nil, Nat.reduceAdd, Nat.zero_add]
            go_simp
            exact hK _ _ rfl (Below.refl _ _)
          refine Tbl.keep_cons ?_ ?_
          · intro U w K hg hs hK
            have h41 : U 41 = _ := (hs 41 (by decide)).1 0 (by kernel_rfl) (by kernel_rfl)
            have h42 : U 42 = _ := (hs 42 (by decide)).1 1 (by kernel_rfl) (by kernel_rfl)
            clear hs
            simp only [Tbl.mixL_true, Tbl.mixL_false, Tbl.mixL_nil, Nat.reduceAdd, Nat.zero_add]
            go_simp
            exact hK _ _ rfl (Below.refl _ _)
          refine Tbl.keep_cons ?_ ?_
          · intro U w K hg hs hK
            have h43 : U 43 = _ := (hs 43 (by decide)).1 2 (by kernel_rfl) (by kernel_rfl)
            clear hs
            simp only [Tbl.mixL_true, Tbl.mixL_false, Tbl.mixL_nil, Nat.reduceAdd, Nat.zero_add]
            go_simp
            exact hK _ _ ⟨_, rfl, by simp, by simp⟩ ((Below.refl _ _).alloc (Nat.le_refl _) _)
          refine Tbl.keep_cons ?_ ?_
          · intro U w K hg hs hK
            have h44 : (OneStr (a.extract 0 k)) (U 44) w := (hs 44 (by decide)).1 3 (by kernel_rfl) (by kernel_rfl)
            clear hs
            simp only [Tbl.mixL_true, Tbl.mixL_false, Tbl.mixL_nil, Nat.reduceAdd, Nat.zero_add]
            obtain ⟨bb, hb, hc, hlt⟩ := h44
            simp only [hb]
            go_simp
            refine (of_str bb 1 _ _ sa hlt hc).mono ?_
            rintro e w2 ⟨rfl, hB⟩
            exact hK _ _ rfl hB
          refine Tbl.keep_cons ?_ ?_
          · intro U w K hg hs hK
            clear hs
            simp only [Tbl.mixL_true, Tbl.mixL_false, Tbl.mixL_nil, Nat.reduceAdd, Nat.zero_add]
            go_simp
            exact hK _ _ rfl (Below.refl _ _)
          refine Tbl.keep_cons ?_ ?_
          · intro U w K hg hs hK
            clear hs
            simp only [Tbl.mixL_true, Tbl.mixL_false, Tbl.mixL_nil, Nat.reduceAdd, Nat.zero_add]
            go_simp
            exact hK _ _ rfl (Below.refl _ _)
          refine Tbl.keep_cons ?_ ?_
          · intro U w K hg hs hK
            have h46 : U 46 = _ := (hs 46 (by decide)).1 5 (by kernel_rfl) (by kernel_rfl)
            have h47 : U 47 = _ := (hs 47 (by decide)).1 6 (by kernel_rfl) (by kernel_rfl)
            clear hs
            simp only [Tbl.mixL_true, Tbl.mixL_false, Tbl.mixL_nil, Nat.reduceAdd, Nat.zero_add]
            go_simp
            exact hK _ _ rfl (Below.refl _ _)
          refine Tbl.keep_cons ?_ ?_
          · intro U w K hg hs hK
            have h48 : U 48 = _ := (hs 48 (by decide)).1 7 (by kernel_rfl) (by kernel_rfl)
            clear hs
            simp only [Tbl.mixL_true, Tbl.mixL_false, Tbl.mixL_nil, Nat.reduceAdd, Nat.zero_add]
            go_simp
            exact hK _ _ ⟨_, rfl, by simp, by simp⟩ ((Below.refl _ _).alloc (Nat.le_refl _) _)
          refine Tbl.keep_cons ?_ ?_
          · intro U w K hg hs hK
            have h49 : (OneStr (b.extract 0 k)) (U 49) w := (hs 49 (by decide)).1 8 (by kernel_rfl) (by kernel_rfl)
            clear hs
            simp only [Tbl.mixL_true, Tbl.mixL_false, Tbl.mixL_nil, Nat.reduceAdd, Nat.zero_add]
            obtain ⟨bb, hb, hc, hlt⟩ := h49
            simp only [hb]
            go_simp
            refine (of_str bb 1 _ _ sb hlt hc).mono ?_
            rintro e w2 ⟨rfl, hB⟩
            exact hK _ _ rfl hB
          refine Tbl.keep_cons ?_ ?_
          · intro U w K hg hs hK
            have h45 : U 45 = _ := (hs 45 (by decide)).1 4 (by kernel_rfl) (by kernel_rfl)
            have h50 : U 50 = _ := (hs 50 (by decide)).1 9 (by kernel_rfl) (by kernel_rfl)
            clear hs
            simp only [Tbl.mixL_true, Tbl.mixL_false, Tbl.mixL_nil, Nat.reduceAdd, Nat.zero_add]
            go_simp
            exact hK _ _ rfl (Below.refl _ _)
          refine Tbl.keep_cons ?_ ?_
          · intro U w K hg hs hK
            clear hs
            simp only [Tbl.mixL_true, Tbl.mixL_false, Tbl.mixL_nil, Nat.reduceAdd, Nat.zero_add]
            go_simp
            exact hK _ _ rfl (Below.refl _ _)
          refine Tbl.keep_cons ?_ ?_
          · intro U w K hg hs hK
            clear hs
            simp only [Tbl.mixL_true, Tbl.mixL_false, Tbl.mixL_nil, Nat.reduceAdd, Nat.zero_add]
            go_simp
            exact hK _ _ rfl (Below.refl _ _)
          refine Tbl.keep_cons ?_ ?_
          · intro U w K hg hs hK
            have h52 : U 52 = _ := (hs 52 (by decide)).1 11 (by kernel_rfl) (by kernel_rfl)
            have h53 : U 53 = _ := (hs 53 (by decide)).1 12 (by kernel_rfl) (by kernel_rfl)
            clear hs
            simp only [Tbl.mixL_true, Tbl.mixL_false, Tbl.mixL_nil, Nat.reduceAdd, Nat.zero_add]
            go_simp
            exact hK _ _ rfl (Below.refl _ _)
          refine Tbl.keep_cons ?_ ?_
          · intro U w K hg hs hK
            have h54 : U 54 = _ := (hs 54 (by decide)).1 13 (by kernel_rfl) (by kernel_rfl)
            clear hs
            simp only [Tbl.mixL_true, Tbl.mixL_false, Tbl.mixL_nil, Nat.reduceAdd, Nat.zero_add]
            go_simp
            exact hK _ _ ⟨_, rfl, by simp, by simp⟩ ((Below.refl _ _).alloc (Nat.le_refl _) _)
          refine Tbl.keep_cons ?_ ?_
          · intro U w K hg hs hK
            have h55 : (OneStr (c.extract 0 k)) (U 55) w := (hs 55 (by decide)).1 14 (by kernel_rfl) (by kernel_rfl)
            clear hs
            simp only [Tbl.mixL_true, Tbl.mixL_false, Tbl.mixL_nil, Nat.reduceAdd, Nat.zero_add]
            obtain ⟨bb, hb, hc, hlt⟩ := h55
            simp only [hb]
            go_simp
            refine (of_str bb 1 _ _ sc hlt hc).mono ?_
            rintro e w2 ⟨rfl, hB⟩
            exact hK _ _ rfl hB
          refine Tbl.keep_cons ?_ ?_
          · intro U w K hg hs hK
            have h51 : U 51 = _ := (hs 51 (by decide)).1 10 (by kernel_rfl) (by kernel_rfl)
            have h56 : U 56 = _ := (hs 56 (by decide)).1 15 (by kernel_rfl) (by kernel_rfl)
            clear hs
            simp only [Tbl.mixL_true, Tbl.mixL_false, Tbl.mixL_nil, Nat.reduceAdd, Nat.zero_add]
            go_simp
            exact hK _ _ rfl (Below.refl _ _)
          refine Tbl.keep_cons ?_ ?_
          · intro U w K hg hs hK
            clear hs
            simp only [Tbl.mixL_true, Tbl.mixL_false, Tbl.mixL_nil, Nat.reduceAdd, Nat.zero_add]
            go_simp
            exact hK _ _ rfl (Below.refl _ _)
          refine Tbl.keep_cons ?_ ?_
          · intro U w K hg hs hK
            have h58 : U 58 = _ := (hs 58 (by decide)).1 17 (by kernel_rfl) (by kernel_rfl)
            clear hs
            simp only [Tbl.mixL_true, Tbl.mixL_false, Tbl.mixL_nil, Nat.reduceAdd, Nat.zero_add]
            have hcv := HCV.out _ hg
            go_simp
            exact hK _ _ rfl (Below.refl _ _)
          refine Tbl.keep_cons ?_ ?_
          · intro U w K hg hs hK
            have h59 : U 59 = _ := (hs 59 (by decide)).1 18 (by kernel_rfl) (by kernel_rfl)
            clear hs
            simp only [Tbl.mixL_true, Tbl.mixL_false, Tbl.mixL_nil, Nat.reduceAdd, Nat.zero_add]
            go_simp
            exact hK _ _ ⟨_, rfl, by simp, by simp⟩ ((Below.refl _ _).alloc (Nat.le_refl _) _)
          refine Tbl.keep_cons ?_ ?_
          · intro U w K hg hs hK
            have h60 : (OneStr sl) (U 60) w := (hs 60 (by decide)).1 19 (by kernel_rfl) (by kernel_rfl)
            clear hs
            simp only [Tbl.mixL_true, Tbl.mixL_false, Tbl.mixL_nil, Nat.reduceAdd, Nat.zero_add]
            obtain ⟨bb, hb, hc, hlt⟩ := h60
            simp only [hb]
            go_simp
            refine (of_str bb 1 _ _ ss hlt hc).mono ?_
            rintro e w2 ⟨rfl, hB⟩
            exact hK _ _ rfl hB
          refine Tbl.keep_cons ?_ ?_
          · intro U w K hg hs hK
            have h57 : U 57 = _ := (hs 57 (by decide)).1 16 (by kernel_rfl) (by kernel_rfl)
            have h61 : U 61 = _ := (hs 61 (by decide)).1 20 (by kernel_rfl) (by kernel_rfl)
            clear hs
            simp only [Tbl.mixL_true, Tbl.mixL_false, Tbl.mixL_nil, Nat.reduceAdd, Nat.zero_add]
            go_simp
            exact hK _ _ rfl (Below.refl _ _)
          refine Tbl.keep_cons ?_ ?_
          · intro U w K hg hs hK
            have h62 : U 62 = _ := (hs 62 (by decide)).1 21 (by kernel_rfl) (by kernel_rfl)
            clear hs
            simp only [Tbl.mixL_true, Tbl.mixL_false, Tbl.mixL_nil, Nat.reduceAdd, Nat.zero_add]
            go_simp
            exact hK _ _ rfl (Below.refl _ _)
          exact Tbl.keep_nil
        case hp =>
          refine Tbl.table_stable _ ?_
          refine Tbl.stable_is ?_
          refine Tbl.stable_is ?_
          refine Tbl.stable_is ?_
          refine ⟨oneStr_stable _, ?_⟩
          refine Tbl.stable_is ?_
          refine Tbl.stable_is ?_
          refine Tbl.stable_is ?_
          refine Tbl.stable_is ?_
          refine ⟨oneStr_stable _, ?_⟩
          refine Tbl.stable_is ?_
          refine Tbl.stable_is ?_
          refine Tbl.stable_is ?_
          refine Tbl.stable_is ?_
          refine Tbl.stable_is ?_
          refine ⟨oneStr_stable _, ?_⟩
          refine Tbl.stable_is ?_
          refine Tbl.stable_is ?_
          refine Tbl.stable_is ?_
          refine Tbl.stable_is ?_
          refine ⟨oneStr_stable _, ?_⟩
          refine Tbl.stable_is ?_
          refine Tbl.stable_is ?_
          refine Tbl.stable_is ?_
          exact Tbl.stable_nil
        case hfin =>
          intro U w' hG hp
          have h6 : U 6 = _ := hp 22 6 (by kernel_rfl)
          have h41 : U 41 = _ := hp 0 41 (by kernel_rfl)
          have h42 : U 42 = _ := hp 1 42 (by kernel_rfl)
          have h43 : U 43 = _ := hp 2 43 (by kernel_rfl)
          have h44 : (OneStr (a.extract 0 k)) (U 44) w' := hp 3 44 (by kernel_rfl)
          have h45 : U 45 = _ := hp 4 45 (by kernel_rfl)
          have h46 : U 46 = _ := hp 5 46 (by kernel_rfl)
          have h47 : U 47 = _ := hp 6 47 (by kernel_rfl)
          have h48 : U 48 = _ := hp 7 48 (by kernel_rfl)
          have h49 : (OneStr (b.extract 0 k)) (U 49) w' := hp 8 49 (by kernel_rfl)
          have h50 : U 50 = _ := hp 9 50 (by kernel_rfl)
          have h51 : U 51 = _ := hp 10 51 (by kernel_rfl)
          have h52 : U 52 = _ := hp 11 52 (by kernel_rfl)
          have h53 : U 53 = _ := hp 12 53 (by kernel_rfl)
          have h54 : U 54 = _ := hp 13 54 (by kernel_rfl)
          have h55 : (OneStr (c.extract 0 k)) (U 55) w' := hp 14 55 (by kernel_rfl)
          have h56 : U 56 = _ := hp 15 56 (by kernel_rfl)
          have h57 : U 57 = _ := hp 16 57 (by kernel_rfl)
          have h58 : U 58 = _ := hp 17 58 (by kernel_rfl)
          have h59 : U 59 = _ := hp 18 59 (by kernel_rfl)
          have h60 : (OneStr sl) (U 60) w' := hp 19 60 (by kernel_rfl)
          have h61 : U 61 = _ := hp 20 61 (by kernel_rfl)
          have h62 : U 62 = _ := hp 21 62 (by kernel_rfl)
          clear hp
          simp only [Tbl.mixL_true, Tbl.mixL_false, Tbl.mixL_nil, Nat.reduceAdd, Nat.zero_add]
          rw [h6]
          rw [h41]
          rw [h42]
          rw [h43]
          generalize U 44 = u44 at *
          rw [h45]
          rw [h46]
          rw [h47]
          rw [h48]
          generalize U 49 = u49 at *
          rw [h50]
          rw [h51]
          rw [h52]
          rw [h53]
          rw [h54]
          generalize U 55 = u55 at *
          rw [h56]
          rw [h57]
          rw [h58]
          rw [h59]
          generalize U 60 = u60 at *
          rw [h61]
          rw [h62]
          clear h6
          clear h41
          clear h42
          clear h43
          clear h45
          clear h46
          clear h47
          clear h48
          clear h50
          clear h51
          clear h52
          clear h53
          clear h54
          clear h56
          clear h57
          clear h58
          clear h59
          clear h61
          clear h62
          go_wp2
          go_ret
          exact ⟨rfl, hBr.trans (hG.mono hBr.size)⟩

theorem sumLinear_row (a0 a1 a2 : ByteArray) (w : World) (w0 : a0.size ≤ maxLen) (w1 : a1.size ≤ maxLen) (w2 : a2.size ≤ maxLen) :
    Calls Try.prog 6 #[.string a0, .string a1, .string a2] w fun e w' => e = .returned (.bool true) ∧ Below w.heap.size w w' := sumLinear_any a0 a1 a2 w w0 w1 w2

end Go.Proofs.Ytecjailgiknfcaa

/-
  In.Left, In.Zero, In.Num.
-/
import Derived.Test.YtecjailgiknfcaaDoorTrim
import Derived.Test.YtecjailgiknfcaaDoorSt
import Derived.Laws.IdiomStrings
import Derived.Laws.BitsLemmas
set_option linter.unusedVariables false
set_option linter.unusedSimpArgs false
namespace Go.Proofs.YtecjailgiknfcaaDoor
open Go.RowKit

theorem inLeft (b : Nat) (s : ByteArray) (w : World) (h : At w b (.string s)) :
    Calls Tryd.prog 33 #[.pointer (some ⟨b, 0, none⟩)] w fun e w' => e = .returned (.int .i64 s.size) ∧ w' = w := by
  obtain ⟨h1, h2, h3⟩ := h
  go_enter Tryd.func33, Tryd.ntmps33
  go_wp2
  go_ret
  exact ⟨rfl, rfl⟩

theorem neqEmpty (t : ByteArray) : (t.toList.isEmpty = true) ↔ t = ByteArray.empty := by
  rw [ByteArray.toList_eq]
  constructor
  · intro h
    apply ByteArray.ext
    apply Array.ext'
    exact List.isEmpty_iff.1 h
  · intro h; subst h; rfl

set_option maxHeartbeats 1000000 in
set_option maxRecDepth 100000 in
/-- Noughts to the end. -/
theorem inZero (b : Nat) (s : ByteArray) (w : World) (h : At w b (.string s)) (hs : s.size ≤ maxLen) :
    Calls Tryd.prog 17 #[.pointer (some ⟨b, 0, none⟩)] w fun e w' =>
      (e = (if Noughts s then .returned (.tuple #[]) else .panicked [{ v := brk 4, recovered := false }])) ∧ (At w' b (.string ByteArray.empty) ∧ Fr (fun k => k = b) w w') := by
  have hx : s.extract 0 s.size = s := by apply ByteArray.ext; simp
  have hy : s.extract s.size s.size = ByteArray.empty := by apply ByteArray.ext; simp
  go_enter Tryd.func17, Tryd.ntmps17
  go_wp2_with fail
  refine (inLeft b s w h).mono ?_
  rintro e w1 ⟨rfl, rfl⟩
  go_wp2_with fail
  refine (inRaw_ok b s s.size s.size _ h (by omega) (Nat.le_refl _)).mono ?_
  rintro e w2 ⟨rfl, rfl⟩
  rw [hx, hy]
  have hA := h.set (.string ByteArray.empty)
  have hF : Fr (fun k => k = b) w1 (w1.setCell ⟨b, 0, none⟩ (.string ByteArray.empty)) := (Fr.refl (fun k => k = b) w1).setCell _ (fun _ => rfl) _
  generalize w1.setCell ⟨b, 0, none⟩ (.string ByteArray.empty) = W at *
  clear hx hy
  go_wp2_with fail
  refine (trim_any s W hs).mono ?_
  rintro e w3 ⟨t, rfl, ht, hk⟩
  have hA3 := hA.fr hk (fun h => h)
  have hF3 : Fr (fun k => k = b) w1 w3 := hF.trans (hk.mono (fun _ _ h => h.elim))
  by_cases hn : Noughts s
  · have he := (neqEmpty t).2 (ht.2 hn)
    go_wp2
    go_end0
    exact ⟨rfl, hA3, hF3⟩
  · have he : t.toList.isEmpty = false := by
      cases hc : t.toList.isEmpty with
      | false => rfl
      | true => exact (hn (ht.1 ((neqEmpty t).1 hc))).elim
    go_wp2_with (go_at_call 25; refine (inFail_err _ 4 (by decide) _).mono ?_; rintro e w2 ⟨rfl, rfl⟩)
    exact ⟨rfl, rfl, hA3, hF3⟩

theorem wrapsU64 (n : Int) (h0 : 0 ≤ n) (h1 : n < 2 ^ 64) : IntKind.u64.wrap n = n := by simp [IntKind.wrap, IntKind.bits, IntKind.signed]; omega
/-- The number that bytes are, the first one the greatest. -/
def Oc.num (l : List UInt8) : Nat := l.foldl (fun x b => x * 256 + b.toNat) 0
theorem Oc.num_snoc (l : List UInt8) (b : UInt8) : Oc.num (l ++ [b]) = Oc.num l * 256 + b.toNat := by simp [Oc.num]
theorem Oc.num_lt' : ∀ (l : List UInt8) (x k : Nat), x < 256 ^ k → l.foldl (fun x b => x * 256 + b.toNat) x < 256 ^ (k + l.length)
  | [], x, k, h => by simpa using h
  | b :: l, x, k, h => by
    have hb := b.toNat_lt
    have := Oc.num_lt' l (x * 256 + b.toNat) (k + 1) (by rw [Nat.pow_succ]; omega)
    rw [List.foldl_cons, List.length_cons]
    rwa [show k + (l.length + 1) = k + 1 + l.length by omega]
theorem Oc.num_lt (l : List UInt8) : Oc.num l < 256 ^ l.length := by
  have := Oc.num_lt' l 0 0 (by simp)
  simpa [Oc.num] using this

set_option maxHeartbeats 4000000 in
set_option maxRecDepth 100000 in
theorem inNum_ok (b : Nat) (s : ByteArray) (n : Int) (m : Nat) (w : World) (h : At w b (.string s)) (hm : min (max n 0) 8 = (m : Int)) (hms : m ≤ s.size) :
    Calls Tryd.prog 16 #[.pointer (some ⟨b, 0, none⟩), .int .i64 n] w fun e w' => e = .returned (.int .u64 (Oc.num (s.data.toList.take m) : Nat)) ∧ (At w' b (.string (s.extract m s.size)) ∧ Fr (fun k => k = b) w w') := by
  have hm8 : m ≤ 8 := by omega
  have hcv : ∀ (w : World) (t : ByteArray), (convert 9 39 (.string t)).run Tryd.prog w = .ok (.slice (some ⟨w.heap.size, 0, none⟩) t.size (grownCap w t.size 0 5)) (w.drew.alloc (.cells (bytesRow t (grownCap w t.size 0 5)) 5 ((bytesRow t (grownCap w t.size 0 5)).size, (bytesRow t (grownCap w t.size 0 5)).size + 1))) := fun w t => run_bytes_of_string w 9 39 5 t Tryd.underlying9 Tryd.underlying39 Tryd.underlying5
  go_enter Tryd.func16, Tryd.ntmps16
  go_wp2_with fail
  refine (inRaw_ok b s m m _ h (by omega) hms).mono ?_
  rintro e w2 ⟨rfl, rfl⟩
  have hA := h.set (.string (s.extract m s.size))
  have hF : Fr (fun k => k = b) w (w.setCell ⟨b, 0, none⟩ (.string (s.extract m s.size))) := (Fr.refl (fun k => k = b) w).setCell _ (fun _ => rfl) _
  generalize w.setCell ⟨b, 0, none⟩ (.string (s.extract m s.size)) = W at *
  have hts : (s.extract 0 m).size = m := by simp; omega
  have htl : (s.extract 0 m).data.toList = s.data.toList.take m := by rw [ByteArray.data_extract, Array.toList_extract, List.extract_eq_take_drop]; simp
  generalize s.extract 0 m = t at *
  obtain ⟨C, hC⟩ : ∃ C, C = bytesRow t (grownCap W m 0 5) := ⟨_, rfl⟩
  have hcell : ∀ j, (hj : j < m) → (W.alloc (.cells C 5 (C.size, C.size + 1))).drew.cell? ⟨W.heap.size, j, none⟩ = some (.int .u8 (t[j].toNat : Int)) := fun j hj => by
    have hj' : j < t.data.size := by show j < t.size; omega
    have hw : (W.alloc (.cells C 5 (C.size, C.size + 1))).drew.heap[W.heap.size]? = some (.cells C 5 (C.size, C.size + 1)) := heap_alloc_new W _
    rw [cell_of_row _ W.heap.size j _ _ _ hw, hC]
    exact bytesRow_at t _ j hj'
  have hA2 := (hA.alloc (.cells C 5 (C.size, C.size + 1))).drew
  have hF2 : Fr (fun k => k = b) w (W.alloc (.cells C 5 (C.size, C.size + 1))).drew := (hF.alloc _).drew
  rw [hC] at hcell hA2 hF2
  clear hC C
  go_wp2
  refine codeAt ?_
  intro W3 hW3
  rw [← hW3] at hcell hA2 hF2
  have hbx : ∀ j, (hj : j < m) → t.data.toList[j]? = some t[j] := fun j hj => byte_at rfl j (by omega)
  have HTL := Lib.hid htl
  clear htl
  generalize W.heap.size = B at *
  clear hW3 hA hF hcv h
  go_loopw [5, 15] (fun xv iv wr => ∃ j : Nat, j ≤ m ∧ iv = .int .i64 j ∧ xv = .int .u64 (Oc.num (t.data.toList.take j) : Nat) ∧ wr = W3) (fun _ iv _ => m - (intOf iv).toNat)
  case atStart => exact ⟨0, Nat.zero_le _, rfl, rfl, rfl⟩
  case round =>
    obtain ⟨j, hj, rfl, rfl, hww⟩ := hrel
    subst hww
    by_cases hlt : j < m
    · have hc := hcell j hlt
      have hb := hbx j hlt
      have hs : Oc.num (t.data.toList.take (j + 1)) = Oc.num (t.data.toList.take j) * 256 + t[j].toNat := by
        rw [List.take_add_one, hb]; exact Oc.num_snoc _ _
      have hl := Oc.num_lt (t.data.toList.take j)
      have hl2 : Oc.num (t.data.toList.take j) < 72057594037927936 := Nat.lt_of_lt_of_le hl (by
        have : 256 ^ (t.data.toList.take j).length ≤ 256 ^ 7 := Nat.pow_le_pow_right (by decide) (by rw [List.length_take]; omega)
        exact this)
      have HS := Lib.hid hs
      have hbt := t[j].toNat_lt
      clear hs hb hl hcell hbx
      generalize Oc.num (t.data.toList.take j) = N at *
      generalize t[j].toNat = y at *
      have k0 : (0 : Int) ≤ (j : Int) := by omega
      have k1 : (j : Int) < (m : Int) := by omega
      have hor : bits .or .u64 ((N : Int) * 256) (y : Int) = (N : Int) * 256 + y := bits_join .u64 64 (by decide) wrapsU64 8 _ _ (by omega) (by omega) (by omega) (by omega) (by omega) (by omega)
      have hwr : IntKind.u64.wrap ((N : Int) * 256) = (N : Int) * 256 := wrapsU64 _ (by omega) (by omega)
      go_wp2
      refine ⟨⟨j + 1, by omega, rfl, by rw [HS.out]; rfl, by trivial⟩, by simp [intOf]; omega⟩
    · have hlt' : (m : Int) ≤ j := by omega
      have hjm : j = m := by omega
      subst hjm
      go_wp2
      go_ret
      exact ⟨by rw [← HTL.out, List.take_of_length_le (by simp; omega)]; rfl, hA2, hF2⟩
end Go.Proofs.YtecjailgiknfcaaDoor

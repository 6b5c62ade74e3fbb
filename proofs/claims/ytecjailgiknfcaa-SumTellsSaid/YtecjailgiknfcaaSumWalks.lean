/-
  The walks through layer 2 (sum) and the document's sums: what each call hands back, and that nothing that was there turns.
-/
import Derived.Test.YtecjailgiknfcaaRows
import Derived.Test.YtecjailgiknfcaaSumPure
import Derived.WalkKit
import Derived.WalkSpells
import Derived.WalkLawsBesides
import Derived.Lib.Hide
import Derived.Laws.Rows
import Derived.Laws.CopyOwn
import Derived.Deep.QuietTactic
import Derived.BigQuiet
import Derived.Deep.WholeRow
import Derived.Deep.Draws
namespace Go.Proofs.Ytecjailgiknfcaa
open Go.RowKit

theorem ret_u32 {a b : Int} (h : a = b) : Ending.returned (.int .u32 a) = .returned (.int .u32 b) := by rw [h]
theorem val_u32 {a b : Int} (h : a = b) : Value.int .u32 a = .int .u32 b := by rw [h]
theorem val_u8 {a b : Int} (h : a = b) : Value.int .u8 a = .int .u8 b := by rw [h]
theorem take_snoc (s : ByteArray) (k : Nat) (h : k < s.size) : s.data.toList.take (k + 1) = s.data.toList.take k ++ [s[k]] := by
  rw [List.take_succ_eq_append_getElem (by simpa using h)]; rfl

/-- Outer relation of the document's sum. -/
def OnRel (x : Sm.B32) (l : List UInt8) (k : Nat) (v : Value) : Prop := v = .int .u32 ((Sm.on x (l.take k)).toNat : Int)
def OnIn (Y : Sm.B32) (b : UInt8) (j : Nat) (v u : Value) : Prop := ∃ (X : Sm.B32) (c : Nat), Sm.RefIn Y b.toNat j X c ∧ v = .int .u32 (X.toNat : Int) ∧ u = .int .u8 (c : Int)

set_option maxHeartbeats 1000000 in
theorem refOn (x : Sm.B32) (s : ByteArray) (w : World) (hs : s.size ≤ maxLen) :
    Calls Try.prog 16 #[.int .u32 (x.toNat : Int), .string s] w fun e w' => e = .returned (.int .u32 ((Sm.on x s.data.toList).toNat : Int)) ∧ w = w' := by
  unfold maxLen at hs
  go_enter Try.func16, Try.ntmps16
  go_wp2
  go_loop [0, 5] (fun xx i => ∃ k : Nat, k ≤ s.size ∧ i = .int .i64 k ∧ OnRel x s.data.toList k xx) (fun _ i => s.size - (intOf i).toNat)
  case atStart => exact ⟨0, Nat.zero_le _, rfl, rfl⟩
  case round =>
    obtain ⟨k, hk, rfl, hr⟩ := hrel
    obtain ⟨Y, HY, rfl⟩ : ∃ Y : Sm.B32, Hid (Y = Sm.on x (s.data.toList.take k)) ∧ _ = Value.int .u32 (Y.toNat : Int) := ⟨_, rfl, hr⟩
    by_cases hlt : k < s.size
    · go_wp2
      go_loop [0, 6, 7] (fun xx b i => ∃ j : Nat, j ≤ 8 ∧ i = .int .i64 j ∧ OnIn Y s[k] j xx b) (fun _ _ i => 8 - (intOf i).toNat)
      case atStart => exact ⟨0, by omega, rfl, ⟨Y, _, Sm.RefIn.start _ _ s[k].toNat_lt, rfl, rfl⟩⟩
      case round =>
        obtain ⟨j, hj, rfl, X, c, hR, rfl, rfl⟩ := hrel
        have hc := hR.lt
        have hX := X.isLt
        by_cases hj8 : j < 8
        · by_cases he : X.toNat % 2 = c % 2
          · have hb : ((X.toNat : Int) % 2 != (c : Int) % 2) = false := by rw [bne_eq_false_iff_eq]; omega
            have HE : Hid (X.toNat % 2 = c % 2) := he
            clear he
            go_wp2
            go_round
            case rel =>
              refine ⟨j + 1, by omega, by go_num, ⟨X >>> 1, c / 2, hR.same HE.out, ?_, ?_⟩⟩
              · exact val_u32 (Sm.half32 X)
              · exact val_u8 (by omega)
            case measure => simp [intOf]; omega
          · have hb : ((X.toNat : Int) % 2 != (c : Int) % 2) = true := by rw [bne_iff_ne]; omega
            go_wp2
            go_round
            case rel =>
              refine ⟨j + 1, by omega, by go_num, ⟨(X >>> 1) ^^^ Sm.poly, c / 2, hR.other he, ?_, ?_⟩⟩
              · refine val_u32 ?_
                rw [Sm.half32, ← Sm.xor32]
                rfl
              · exact val_u8 (by omega)
            case measure => simp [intOf]; omega
        · obtain rfl : j = 8 := by omega
          go_wp2
          go_round
          case rel =>
            refine ⟨k + 1, by omega, by go_num, ?_⟩
            unfold OnRel
            rw [take_snoc s k hlt, Sm.on_snoc, ← HY.out, hR.done]
          case measure => simp [intOf]; omega
    · obtain rfl : k = s.size := by omega
      go_wp2
      go_ret
      refine ⟨ret_u32 ?_, rfl⟩
      rw [HY.out, List.take_of_length_le (by simp)]

set_option maxHeartbeats 1000000 in
theorem refOf (s : ByteArray) (w : World) (hs : s.size ≤ maxLen) :
    Calls Try.prog 19 #[.string s] w fun e w' => e = .returned (.int .u32 ((Sm.crc s.data.toList).toNat : Int)) ∧ w = w' := by
  go_enter Try.func19, Try.ntmps19
  go_wp2_with (go_at_call 16; refine (refOn Sm.ones s _ hs).mono ?_; rintro e w' ⟨rfl, rfl⟩)
  go_ret
  exact ⟨ret_u32 (Sm.not32 _), rfl⟩

set_option maxHeartbeats 1000000 in
theorem cut_long (s : ByteArray) (n : Nat) (w : World) (_hs : s.size ≤ maxLen) (h : n < s.size) :
    Calls Try.prog 17 #[.string s, .int .i64 n] w fun e w' => e = .returned (.string (s.extract 0 n)) ∧ w = w' := by
  unfold maxLen at _hs
  go_enter Try.func17, Try.ntmps17
  go_wp2
  go_ret
  exact ⟨rfl, rfl⟩

set_option maxHeartbeats 1000000 in
theorem cut_short (s : ByteArray) (n : Nat) (w : World) (_hs : s.size ≤ maxLen) (h : s.size ≤ n) :
    Calls Try.prog 17 #[.string s, .int .i64 n] w fun e w' => e = .returned (.string s) ∧ w = w' := by
  unfold maxLen at _hs
  go_enter Try.func17, Try.ntmps17
  go_wp2
  go_ret
  exact ⟨rfl, rfl⟩

/-- What is cut: at most n bytes. -/
theorem cut_any (s : ByteArray) (n : Nat) (w : World) (hs : s.size ≤ maxLen) :
    Calls Try.prog 17 #[.string s, .int .i64 n] w fun e w' => e = .returned (.string (s.extract 0 n)) ∧ w = w' := by
  by_cases h : n < s.size
  · exact cut_long s n w hs h
  · refine (cut_short s n w hs (by omega)).mono fun e w' ⟨he, hw⟩ => ⟨?_, hw⟩
    rw [he]
    congr 2
    apply ByteArray.ext
    rw [ByteArray.data_extract]
    exact (Array.extract_eq_self_iff.2 (.inr ⟨rfl, by have : s.data.size = s.size := rfl; omega⟩)).symm

/-- The table's world after k rounds. -/
def TabRel (w wr : World) (k : Nat) : Prop := ∃ Z cs, Z.size = 256 ∧ cs = Sm.tabTo k ∧ wr = (w.alloc (Obj.cells Z 26)).alloc (Obj.cells cs 26)

def TabIn (k j : Nat) (v : Value) : Prop := ∃ X : Sm.B32, X = Sm.it j (BitVec.ofNat 32 k) ∧ v = .int .u32 (X.toNat : Int)

set_option maxRecDepth 100000 in
set_option maxHeartbeats 1000000 in
theorem table (w : World) :
    Calls Try.prog 15 #[] w fun e w' => e = .returned (.agg (Sm.tabTo 256)) ∧ Below w.heap.size w w' := by
  go_enter Try.func15, Try.ntmps15
  go_wp2
  go_loopw [5] (fun i wr => ∃ k : Nat, k ≤ 256 ∧ i = .int .i64 k ∧ TabRel w wr k) (fun i _ => 256 - (intOf i).toNat)
  case atStart => exact ⟨0, by omega, rfl, _, _, by kernel_rfl, by kernel_rfl, rfl⟩
  case round =>
    obtain ⟨k, hk, rfl, Z, cs, hz, hcs, rfl⟩ := hrel
    have HZ := Lib.hid hz
    clear hz
    have hcell : k < 256 → ∃ v, cs[k]? = some v := fun h => ⟨_, by rw [hcs]; exact Sm.tabTo_get k k h⟩
    have HCS := Lib.hid hcs
    clear hcs
    by_cases hlt : k < 256
    · obtain ⟨v, hv⟩ := hcell hlt
      clear hcell
      go_wp2
      go_loop [3, 4, 10] (fun x _ i => ∃ j : Nat, j ≤ 8 ∧ i = .int .i64 j ∧ TabIn k j x) (fun _ _ i => 8 - (intOf i).toNat)
      case atStart => exact ⟨0, by omega, rfl, BitVec.ofNat 32 k, rfl, val_u32 (by rw [BitVec.toNat_ofNat]; omega)⟩
      case round =>
        obtain ⟨j, hj, rfl, X, hX, rfl⟩ := hrel
        have HX := Lib.hid hX
        clear hX
        by_cases hj8 : j < 8
        · go_wp2
          go_round
          case rel =>
            refine ⟨j + 1, by omega, by go_num, Sm.step X, ?_, ?_⟩
            · rw [HX.out, Sm.it_one]
            · exact val_u32 (Sm.step32 X)
          case measure => simp [intOf]; omega
        · obtain rfl : j = 8 := by omega
          go_wp2
          go_roundw
          case rel =>
            refine ⟨k + 1, by omega, by go_num, Z, _, HZ.out, ?_, rfl⟩
            rw [HCS.out, HX.out, ← Sm.tabTo_set]
            rfl
          case measure => simp [intOf]; omega
    · obtain rfl : k = 256 := by omega
      clear hcell hk hlt
      have hsz : cs.size = 256 := by rw [HCS.out, Sm.tabTo_size]
      have h1 : cs.all (·.oneCell') = true := by rw [HCS.out]; exact Sm.tabTo_one 256
      have HSZ := Lib.hid hsz
      clear hsz
      have hZ1 := heap_alloc2_old w (Obj.cells Z 26) (Obj.cells cs 26)
      have hg1 := heap_alloc2_new w (Obj.cells Z 26) (Obj.cells cs 26)
      have hB : Below w.heap.size w ((w.alloc (Obj.cells Z 26)).alloc (Obj.cells cs 26)) := ((Below.refl _ _).alloc (Nat.le_refl _) _).alloc (by simp) _
      have hE : Hid (cs = Sm.tabTo 256) := HCS
      generalize (w.alloc (Obj.cells Z 26)).alloc (Obj.cells cs 26) = W at *
      go_wp2_with fail
      refine wp_load_row 26 _ rfl (w.heap.size + 1) rfl 26 cs (0, 0) _ hg1 Try.underlying26 rfl (by rw [HSZ.out]; kernel_rfl) ?_
      go_wp2_with (refine wpList_store_row rfl 26 _ _ rfl w.heap.size cs rfl rfl 26 Z hZ1 (by rw [HSZ.out]; kernel_rfl) (by rw [HSZ.out, HZ.out]) h1 ?_)
      go_wp2_with fail
      refine bodyPost_ret (v := .agg cs) (results_cell_row rfl _ _ w.heap.size 26 cs (0, 0) _ rfl (setRow_heap W _ Z cs _ _ hZ1) Try.underlying26 rfl (by rw [HSZ.out]; kernel_rfl)) rfl ⟨by rw [hE.out], ?_⟩
      exact below_setRow hB (Nat.le_refl _) cs

/-- The table lies in block g. -/
def TabAt (w : World) (g : Nat) : Prop := w.heap[g]? = some (.cells (Sm.tabTo 256) 26 (0, 0))
theorem TabAt.drewN {w : World} {g : Nat} (h : TabAt w g) (n : Nat) : TabAt (w.drewN n) g := h
theorem TabAt.cell {w : World} {g : Nat} (h : TabAt w g) (j : Nat) (hj : j < 256) : w.cell? ⟨g, j, none⟩ = some (.int .u32 ((Sm.tab j).toNat : Int)) := by
  rw [cell_of_row w g j _ _ _ h, Sm.tabTo_get256 j hj]

def RunRel (x : Sm.B32) (l : List UInt8) (w wr : World) (k : Nat) (v : Value) : Prop := ∃ X n, X = Sm.on x (l.take k) ∧ v = .int .u32 (X.toNat : Int) ∧ wr = w.drewN n

set_option maxRecDepth 100000 in
set_option maxHeartbeats 1000000 in
theorem run_any (g : Nat) (x : Sm.B32) (s : ByteArray) (w : World) (hs : s.size ≤ maxLen) (ht : TabAt w g) :
    Calls Try.prog 48 #[.pointer (some ⟨g, 0, none⟩), .int .u32 (x.toNat : Int), .string s] w fun e w' => e = .returned (.int .u32 ((Sm.on x s.data.toList).toNat : Int)) ∧ ∃ n, w' = w.drewN n := by
  unfold maxLen at hs
  go_enter Try.func48, Try.ntmps48
  go_wp2
  go_loopw [1, 10] (fun v i wr => ∃ k : Nat, k ≤ s.size ∧ i = .int .i64 k ∧ RunRel x s.data.toList w wr k v) (fun _ i _ => s.size - (intOf i).toNat)
  case atStart => exact ⟨0, Nat.zero_le _, rfl, x, 0, rfl, rfl, rfl⟩
  case round =>
    obtain ⟨k, hk, rfl, X, n, hX, rfl, rfl⟩ := hrel
    have HX := Lib.hid hX
    clear hX
    by_cases hlt : k < s.size
    · obtain ⟨idx, hidx, hlo, htab⟩ := Sm.tabIdx X s[k]
      have hc := ht.cell idx hlo
      have HT := Lib.hid htab
      clear htab
      go_wp2
      go_quiet (fail)
      go_wp2
      go_roundw
      case rel =>
        refine ⟨k + 1, by omega, by go_num, Sm.byte X s[k], n + nq, ?_, ?_, ?_⟩
        · rw [take_snoc s k hlt, Sm.on_snoc, ← HX.out]
        · exact val_u32 (by rw [HT.out, Sm.down32, Sm.xor32])
        · rfl
      case measure => simp [intOf]; omega
    · obtain rfl : k = s.size := by omega
      go_wp2
      go_ret
      refine ⟨ret_u32 ?_, n, rfl⟩
      rw [HX.out, List.take_of_length_le (by simp)]

/-- Texts that lie one behind the other from the head of a block on. -/
def StrsAt (w : World) (v : Value) (l : List ByteArray) : Prop :=
  (v = .slice none 0 0 ∧ l = []) ∨ ∃ b cap, v = .slice (some ⟨b, 0, none⟩) l.length cap ∧ b < w.heap.size ∧ ∀ (j : Nat) (h : j < l.length), w.cell? ⟨b, j, none⟩ = some (.string l[j])

def flat (l : List ByteArray) : List UInt8 := l.flatMap (·.data.toList)
def OfRel (l : List ByteArray) (w wr : World) (k : Nat) (v : Value) : Prop := ∃ X n, X = Sm.on Sm.ones (flat (l.take k)) ∧ v = .int .u32 (X.toNat : Int) ∧ wr = w.drewN n
theorem flat_snoc (l : List ByteArray) (k : Nat) (h : k < l.length) : flat (l.take (k + 1)) = flat (l.take k) ++ l[k].data.toList := by
  unfold flat
  rw [List.take_succ_eq_append_getElem h, List.flatMap_append]
  simp
theorem belowN {B : Nat} {a w : World} (h : Below B a w) (n : Nat) : Below B a (w.drewN n) := ⟨h.os, h.tape, h.output, h.size, h.block⟩

theorem tab_info : (Try.prog.info? 26).map (·.size) = some (Sm.tabTo 256).size := by rw [Sm.tabTo_size]; kernel_rfl
theorem tab_old : (Try.zeroCells26).size = (Sm.tabTo 256).size := by rw [Sm.tabTo_size]; kernel_rfl
theorem setRow_new (w : World) (c c' : Array Value) (t : TypeId) : (w.alloc (.cells c t)).setRow w.heap.size c' = w.alloc (.cells c' t) := World.setRow_alloc_new w c c' t

set_option maxRecDepth 100000 in
set_option maxHeartbeats 1000000 in
theorem of_some (b cap : Nat) (l : List ByteArray) (w : World) (hb : b < w.heap.size) (hl : l.length ≤ maxLen) (hs : ∀ x ∈ l, x.size ≤ maxLen)
    (hc : ∀ (j : Nat) (h : j < l.length), w.cell? ⟨b, j, none⟩ = some (.string l[j])) :
    Calls Try.prog 18 #[.slice (some ⟨b, 0, none⟩) l.length cap] w fun e w' => e = .returned (.int .u32 ((Sm.crc (flat l)).toNat : Int)) ∧ Below w.heap.size w w' := by
  have hl' := hl
  unfold maxLen at hl'
  go_enter Try.func18, Try.ntmps18
  go_wp2_with (first | (go_at_call 15; refine (table _).mono ?_; rintro e w1 ⟨rfl, hB⟩) | (refine wpList_store_row rfl 26 _ _ rfl _ (Sm.tabTo 256) rfl rfl 26 _ (heap_alloc_last _ _) tab_info tab_old (Sm.tabTo_one 256) ?_))
  have ht : TabAt (w1.alloc (Obj.cells (Sm.tabTo 256) 26)) w1.heap.size := heap_alloc_last _ _
  have hc' : ∀ (j : Nat) (h : j < l.length), (w1.alloc (Obj.cells (Sm.tabTo 256) 26)).cell? ⟨b, j, none⟩ = some (.string l[j]) := fun j h => by
    have := hB.size
    rw [World.cell?_alloc_lt _ _ _ (by show b < _; omega), hB.cell (p := ⟨b, j, none⟩) hb, hc j h]
  have hB2 : Below w.heap.size w (w1.alloc (Obj.cells (Sm.tabTo 256) 26)) := hB.alloc hB.size _
  have hS := setRow_new w1 Try.zeroCells26 (Sm.tabTo 256) 26
  rw [hS]
  clear hS hB hc hb
  have hg : ∃ g, g = w1.heap.size := ⟨_, rfl⟩
  obtain ⟨g, hg⟩ := hg
  rw [← hg] at ht
  rw [← hg]
  clear hg
  generalize w1.alloc (Obj.cells (Sm.tabTo 256) 26) = W at *
  clear w1
  go_wp2
  go_loopw [4, 10] (fun v i wr => ∃ k : Nat, k ≤ l.length ∧ i = .int .i64 k ∧ OfRel l W wr k v) (fun _ i _ => l.length - (intOf i).toNat)
  case atStart => exact ⟨0, Nat.zero_le _, rfl, Sm.ones, 0, rfl, rfl, rfl⟩
  case round =>
    obtain ⟨k, hk, rfl, X, n, hX, rfl, rfl⟩ := hrel
    have HX := Lib.hid hX
    clear hX
    by_cases hlt : k < l.length
    · have hck := hc' k hlt
      have hsk := hs l[k] (List.getElem_mem hlt)
      clear hc' hs
      have HS := Lib.hid (flat_snoc l k hlt)
      generalize hlk : l[k] = s at *
      clear hlk
      go_wp2_with (go_at_call 48; refine (run_any g X s _ hsk (ht.drewN n)).mono ?_; rintro e w2 ⟨rfl, m, rfl⟩)
      go_roundw
      case rel =>
        refine ⟨k + 1, by omega, by go_num, _, n + m, ?_, rfl, rfl⟩
        rw [HS.out, Sm.on_append, ← HX.out]
      case measure => simp [intOf]; omega
    · obtain rfl : k = l.length := by omega
      clear hc' hs
      go_wp2
      go_ret
      refine ⟨ret_u32 ?_, belowN hB2 n⟩
      rw [HX.out, List.take_of_length_le (Nat.le_refl _)]
      exact Sm.max32 _

set_option maxRecDepth 100000 in
set_option maxHeartbeats 1000000 in
theorem of_none (w : World) :
    Calls Try.prog 18 #[.slice none 0 0] w fun e w' => e = .returned (.int .u32 0) ∧ Below w.heap.size w w' := by
  go_enter Try.func18, Try.ntmps18
  go_wp2_with (first | (go_at_call 15; refine (table _).mono ?_; rintro e w1 ⟨rfl, hB⟩) | (refine wpList_store_row rfl 26 _ _ rfl _ (Sm.tabTo 256) rfl rfl 26 _ (heap_alloc_last _ _) tab_info tab_old (Sm.tabTo_one 256) ?_))
  have hB2 : Below w.heap.size w (w1.alloc (Obj.cells (Sm.tabTo 256) 26)) := hB.alloc hB.size _
  have hS := setRow_new w1 Try.zeroCells26 (Sm.tabTo 256) 26
  rw [hS]
  clear hS hB
  generalize hg : w1.heap.size = g
  clear hg
  generalize w1.alloc (Obj.cells (Sm.tabTo 256) 26) = W at *
  clear w1
  go_wp2
  go_loop [4, 10] (fun x i => x = .int .u32 4294967295 ∧ i = .int .i64 0) (fun _ _ => 0)
  case atStart => exact ⟨rfl, rfl⟩
  case round =>
    obtain ⟨rfl, rfl⟩ := hrel
    go_wp2
    go_ret
    exact ⟨rfl, hB2⟩

/-- A text's sum, of texts that lie one behind the other. -/
theorem of_any (v : Value) (l : List ByteArray) (w : World) (hl : l.length ≤ maxLen) (hs : ∀ x ∈ l, x.size ≤ maxLen) (h : StrsAt w v l) :
    Calls Try.prog 18 #[v] w fun e w' => e = .returned (.int .u32 ((Sm.crc (flat l)).toNat : Int)) ∧ Below w.heap.size w w' := by
  rcases h with ⟨rfl, rfl⟩ | ⟨b, cap, rfl, hb, hc⟩
  · exact of_none w
  · exact of_some b cap l w hb hl hs hc

set_option maxRecDepth 100000 in
set_option maxHeartbeats 1000000 in
theorem sumOn (x : Sm.B32) (s : ByteArray) (w : World) (hs : s.size ≤ maxLen) :
    Calls Try.prog 20 #[.int .u32 (x.toNat : Int), .string s] w fun e w' => e = .returned (.int .u32 ((~~~ Sm.on (~~~ x) s.data.toList).toNat : Int)) ∧ Below w.heap.size w w' := by
  obtain ⟨Y, hY, hm⟩ : ∃ Y : Sm.B32, Y = ~~~ x ∧ bits .xor .u32 IntKind.u32.max (x.toNat : Int) = (Y.toNat : Int) := ⟨_, rfl, Sm.max32 x⟩
  have HY := Lib.hid hY
  clear hY
  go_enter Try.func20, Try.ntmps20
  go_wp2_with (first | (go_at_call 15; refine (table _).mono ?_; rintro e w1 ⟨rfl, hB⟩) | (refine wpList_store_row rfl 26 _ _ rfl _ (Sm.tabTo 256) rfl rfl 26 _ (heap_alloc_last _ _) tab_info tab_old (Sm.tabTo_one 256) ?_))
  have ht : TabAt (w1.alloc (Obj.cells (Sm.tabTo 256) 26)) w1.heap.size := heap_alloc_last _ _
  have hB2 : Below w.heap.size w (w1.alloc (Obj.cells (Sm.tabTo 256) 26)) := hB.alloc hB.size _
  have hS := setRow_new w1 Try.zeroCells26 (Sm.tabTo 256) 26
  rw [hS]
  clear hS hB
  have hg : ∃ g, g = w1.heap.size := ⟨_, rfl⟩
  obtain ⟨g, hg⟩ := hg
  rw [← hg] at ht
  rw [← hg]
  clear hg
  generalize w1.alloc (Obj.cells (Sm.tabTo 256) 26) = W at *
  clear w1
  go_wp2_with (go_at_call 48; refine (run_any g Y s _ hs ht).mono ?_; rintro e w2 ⟨rfl, m, rfl⟩)
  go_ret
  exact ⟨ret_u32 (by rw [← HY.out]; exact Sm.max32 _), belowN hB2 m⟩

end Go.Proofs.Ytecjailgiknfcaa

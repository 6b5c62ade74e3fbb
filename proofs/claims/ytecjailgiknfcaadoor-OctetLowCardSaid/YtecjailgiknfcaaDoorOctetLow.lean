/-
  The walk of the statement OctetLow.
-/
import Derived.Test.YtecjailgiknfcaaDoorInNum
import Derived.Test.YtecjailgiknfcaaDoorFill
import Derived.Test.YtecjailgiknfcaaDoorSt
set_option linter.unusedVariables false
set_option linter.unusedSimpArgs false
namespace Go.Proofs.YtecjailgiknfcaaDoor
open Go.RowKit

set_option maxRecDepth 100000 in
set_option maxHeartbeats 800000 in
theorem octet_awake (w : World) : Calls Tryd.prog 6 #[] w fun e w' => e = .returned (.bool true) ∧ Below w.heap.size w w' := by
  go_enter Tryd.func6, Tryd.ntmps6
  go_wp2_with fail
  have hb0 : Bld 43 w.heap.size w.heap.size [] (w.alloc (Obj.cells #[Value.pointer none, Value.slice none 0 0] 43)) := Lib.IsBuilderF.of (Lib.fresh_isBuilder _ _ w)
  have hB0 : Below w.heap.size w (w.alloc (Obj.cells #[Value.pointer none, Value.slice none 0 0] 43)) := (Below.refl _ _).alloc (Nat.le_refl _) _
  refine (outNum w.heap.size w.heap.size [] 258 2 _ hb0 (by simp) (by omega)).mono ?_
  rintro e w1 ⟨rfl, hb1, hk1⟩
  go_wp2_with fail
  refine (outText w.heap.size w.heap.size _ ⟨#[97]⟩ _ hb1 (by decide) (by decide)).mono ?_
  rintro e w2 ⟨rfl, hb2, hk2⟩
  go_wp2_with fail
  refine (outBytes w.heap.size w.heap.size _ _ hb2).mono ?_
  rintro e w3 ⟨he, hb3, hk3⟩
  have e1 : (⟨([] ++ Oc.be 258 (Oc.clamp 2) ++ Oc.text (⟨#[97]⟩ : ByteArray).data.toList).toArray⟩ : ByteArray) = ⟨#[1, 2, 0, 1, 97]⟩ := by decide
  rw [e1] at he
  subst he
  go_wp2
  go_ret
  exact ⟨rfl, hB0.trans (hk1.1.trans (hk2.1.trans hk3.1))⟩

theorem Bld.fr {T : TypeId} {B b : Nat} {l : List UInt8} {w w' : World} {S : Nat → Prop} (h : Bld T B b l w) (k : Fr S w w') (hS : ∀ i, S i → i ≠ b ∧ ∃ t row, Row w i t row ∧ t ≠ 5) : Bld T B b l w' := by
  have one : ∀ p, BldAt T B b p l w → BldAt T B b p l w' := fun p h => by
    obtain ⟨hB, v, hb, hown, hne⟩ := h
    refine ⟨hB, v, ?_, ?_, hne⟩
    · have hlt : b < w.heap.size := (Array.getElem?_eq_some_iff.1 hb).1
      rw [k.block b hlt (fun hs => (hS b hs).1 rfl)]
      exact hb
    · unfold World.ownsRowF at hown ⊢
      refine ⟨hown.1, hown.2.imp (fun h => h) (fun ⟨g, cap, cur, fz, h1, h2, h3, h4⟩ => ⟨g, cap, cur, fz, h1, h2, ?_, h4⟩)⟩
      have hlt : g < w.heap.size := (Array.getElem?_eq_some_iff.1 h3).1
      rw [k.block g hlt (fun hs => ?_)]
      · exact h3
      · obtain ⟨_, t, row, hr, ht⟩ := hS g hs
        have h5 := hr.symm.trans h3
        simp only [Option.some.injEq, Obj.cells.injEq] at h5
        exact ht h5.2.1
  exact h.imp (one _) (one _)

theorem Oc.num_cons (b : UInt8) (l : List UInt8) : Oc.num (b :: l) = b.toNat * 256 ^ l.length + Oc.num l := by
  have gen : ∀ (l : List UInt8) (x : Nat), l.foldl (fun x b => x * 256 + b.toNat) x = x * 256 ^ l.length + Oc.num l := by
    intro l
    induction l with
    | nil => intro x; simp [Oc.num]
    | cons a l ih =>
      intro x
      have h1 : Oc.num (a :: l) = a.toNat * 256 ^ l.length + Oc.num l := by
        show List.foldl _ (0 * 256 + a.toNat) l = _
        rw [ih, Nat.zero_mul, Nat.zero_add]
      rw [List.foldl_cons, ih, h1, List.length_cons, Nat.pow_succ, Nat.add_mul, Nat.mul_assoc, Nat.mul_comm 256, Nat.add_assoc]
  show List.foldl _ (0 * 256 + b.toNat) l = _
  rw [gen, Nat.zero_mul, Nat.zero_add]
theorem Oc.num_be (x k : Nat) : Oc.num (Oc.be x k) = x % 256 ^ k := by
  induction k with
  | zero => simp [Oc.be, Oc.num, Nat.mod_one]
  | succ k ih =>
    rw [Oc.be, Oc.num_cons, ih, Oc.be_length, Nat.mod_pow_succ, UInt8.toNat_ofNat', Nat.pow_mul]
    simp only [show (2 : Nat) ^ 8 = 256 from rfl, Nat.mod_mod]
    rw [Nat.add_comm, Nat.mul_comm]

/-- What is taken inside. -/
theorem low_inner (b bk bg k : Nat) (s : ByteArray) (w : World) (h : At w b (.string s)) (hk : At w bk (.int .i64 k)) (hg : Row w bg 37 [.int .u64 0]) (hk8 : k ≤ 8) (hks : k ≤ s.size) (hs : s.size ≤ maxLen)
    (hz : Noughts (s.extract k s.size)) (h1 : b ≠ bk) (h2 : b ≠ bg) (h3 : bk ≠ bg) :
    Calls Tryd.prog 15 #[.pointer (some ⟨b, 0, none⟩), .pointer (some ⟨bk, 0, none⟩), .pointer (some ⟨bg, 0, none⟩)] w fun e w' =>
      e = .returned (.tuple #[]) ∧ (At w' b (.string ByteArray.empty) ∧ Row w' bg 37 [.int .u64 (Oc.num (s.data.toList.take k) : Nat)] ∧ Fr (fun i => i = b ∨ i = bg) w w') := by
  obtain ⟨k1, k2, k3⟩ := hk
  go_enter Tryd.func15, Tryd.ntmps15
  go_wp2_with fail
  refine (inNum_ok b s k k w h (by omega) hks).mono ?_
  rintro e w2 ⟨rfl, hA, hF⟩
  have hg2 := hg.fr hF (fun h => h2 h.symm)
  have hF2 : Fr (fun i => i = b ∨ i = bg) w w2 := hF.mono (fun _ _ h => .inl h)
  have hg3 := hg2.set 0 (.int .u64 (Oc.num (s.data.toList.take k) : Nat))
  have hA3 := hA.other (c := bg) (fun e => h2 e.symm) (.int .u64 (Oc.num (s.data.toList.take k) : Nat))
  have hF3 : Fr (fun i => i = b ∨ i = bg) w (w2.setCell ⟨bg, 0, none⟩ (.int .u64 (Oc.num (s.data.toList.take k) : Nat))) := hF2.setCell _ (fun _ => .inr rfl) _
  have g1 := hg2.cell 0
  have g2 := hg2.frozen 0
  simp only [List.getElem?_cons_zero] at g1
  go_wp2_with fail
  refine (inZero b (s.extract k s.size) _ hA3 (by have : (s.extract k s.size).size = s.size - k := by simp
                                                  omega)).mono ?_
  rintro e w4 ⟨he, hA4, hF4⟩
  rw [if_pos hz] at he
  subst he
  have hg4 := hg3.fr hF4 (fun h => h2 h.symm)
  go_wp2
  go_end0
  exact ⟨rfl, hA4, hg4, hF3.trans (hF4.mono (fun _ _ h => .inl h))⟩

theorem Kept.row {B b : Nat} {w w' : World} (h : Kept B b w w') {i : Nat} {t : TypeId} {row : List Value} (hr : Row w i t row) (hi : i ≠ b) (ht : t ≠ 5) : Row w' i t row :=
  h.2 i _ hr (fun e => hi (Option.some.inj e)) (fun c fz e => ht (by injection e))
set_option maxHeartbeats 8000000 in
set_option maxRecDepth 100000 in
theorem octetLow_any (x : Nat) (n fill : Int) (w : World) (hx : x < 18446744073709551616) :
    Calls Tryd.prog 4 #[.int .u64 x, .int .i64 n, .int .i64 fill] w fun e w' => e = .returned (.bool true) ∧ Below w.heap.size w w' := by
  obtain ⟨k, hk, hk8⟩ : ∃ k : Nat, max 0 (min n 8) = (k : Int) ∧ k ≤ 8 := ⟨(max 0 (min n 8)).toNat, by omega, by omega⟩
  obtain ⟨F, hF, hF64⟩ : ∃ F : Nat, max 0 (min fill 64) = (F : Int) ∧ F ≤ 64 := ⟨(max 0 (min fill 64)).toNat, by omega, by omega⟩
  have hck : Oc.clamp n = k := by unfold Oc.clamp; omega
  go_enter Tryd.func4, Tryd.ntmps4
  go_wp2_with fail
  refine (octet_awake _).mono ?_
  rintro e w1 ⟨rfl, hB⟩
  go_wp2_with fail
  refine callsAt ?_
  intro W0 hW0
  obtain ⟨g, hg⟩ : ∃ g, g = w1.heap.size := ⟨_, rfl⟩
  have hb0 : Bld 43 g g [] W0 := by
    rw [hW0, hg]
    exact Bld.alloc (Lib.IsBuilderF.of (Lib.fresh_isBuilder 43 5 w1)) _
  have hR0 : Row W0 (g + 1) 3 [.int .i64 k] := by
    rw [hW0, hg]
    have := Row.new (w1.alloc (Obj.cells #[Value.pointer none, Value.slice none 0 0] 43)) #[.int .i64 k] 3
    simpa using this
  have hK0 : Fr (fun _ => False) w W0 := by rw [hW0]; exact ((Fr.of_same hB).alloc _).alloc _
  have hgw : w.heap.size ≤ g := by rw [hg]; exact hB.size
  rw [← hg]
  clear hW0 hg hB
  refine (outNum g g [] x n W0 hb0 (by simp) (by omega)).mono ?_
  rintro e w2 ⟨rfl, hb2, hk2⟩
  rw [hck, List.nil_append] at hb2
  have hR2 := hk2.row hR0 (by omega) (by decide)
  go_wp2_with fail
  refine (outFill g g _ F w2 hb2 (by rw [Oc.be_length]; omega) (by omega)).mono ?_
  rintro e w3 ⟨rfl, hb3, hk3⟩
  rw [Oc.be_length] at hb3
  have hR3 := hk3.row hR2 (by omega) (by decide)
  obtain ⟨z, hz⟩ : ∃ z, z = (if F = 0 then 0 else Oc.fill F k) := ⟨_, rfl⟩
  rw [← hz] at hb3
  obtain ⟨L, hL⟩ : ∃ L, L = Oc.be x k ++ List.replicate z (0 : UInt8) := ⟨_, rfl⟩
  rw [← hL] at hb3
  go_wp2_with fail
  refine (outBytes g g L w3 hb3).mono ?_
  rintro e w4 ⟨rfl, hb4, hk4⟩
  have hR4 := hk4.row hR3 (by omega) (by decide)
  have hK4 : Fr (fun _ => False) w w4 := hK0.trans' ((Fr.of_below (S := fun i => g ≤ i) hk2.1 (fun i hi _ => hi)).trans ((Fr.of_below (S := fun i => g ≤ i) hk3.1 (fun i hi _ => hi)).trans (Fr.of_below (S := fun i => g ≤ i) hk4.1 (fun i hi _ => hi)))) (fun i hi hs => by omega)
  have hz64 : z ≤ 64 := by
    rw [hz]
    split
    · omega
    · have := Oc.fill_lt F k (by omega); omega
  have hLl : L.length = k + z := by rw [hL, List.length_append, Oc.be_length, List.length_replicate]
  have HL := Lib.hid hL
  have HZ := Lib.hid hz
  clear hL hz hk2 hk3 hk4 hb2 hb3 hR0 hR2 hR3 hb0 hK0
  go_wp2_with fail
  refine callsAt ?_
  intro W5 hW5
  obtain ⟨G, hG⟩ : ∃ G, G = w4.heap.size := ⟨_, rfl⟩
  have hRG : Row W5 G 37 [.int .u64 0] := by rw [hW5, hG]; exact Row.new w4 _ _
  have hR5 : Row W5 (g + 1) 3 [.int .i64 k] := by rw [hW5]; exact hR4.alloc _
  have hb5 : Bld 43 g g L W5 := by rw [hW5]; exact hb4.alloc _
  have hK5 : Fr (fun _ => False) w W5 := by rw [hW5]; exact hK4.alloc _
  have hgG : g + 1 < G := by rw [hG]; exact hR4.lt
  rw [← hG]
  clear hW5 hG hR4 hb4 hK4 w4
  have hnum : Oc.num (L.take k) = x % 256 ^ k := by
    rw [HL.out, List.take_append_of_le_length (by rw [Oc.be_length]; omega), List.take_of_length_le (by rw [Oc.be_length]; omega), Oc.num_be]
  have hsz : (⟨L.toArray⟩ : ByteArray).size = k + z := by show L.toArray.size = _; rw [List.size_toArray, hLl]
  have hno : Noughts ((⟨L.toArray⟩ : ByteArray).extract k (⟨L.toArray⟩ : ByteArray).size) := by
    intro y hy
    rw [ByteArray.data_extract, Array.toList_extract, List.extract_eq_take_drop] at hy
    have hy2 : y ∈ L.drop k := List.mem_of_mem_take hy
    rw [HL.out, List.drop_append_of_le_length (by rw [Oc.be_length]; omega), List.drop_of_length_le (by rw [Oc.be_length]; omega), List.nil_append] at hy2
    exact List.eq_of_mem_replicate hy2
  have hat1 : At W5 (g + 1) (.int .i64 k) := ⟨hR5.cell 0, hR5.frozen 0, hR5.lt⟩
  refine (take_any ⟨L.toArray⟩ 15 #[.pointer (some ⟨g + 1, 0, none⟩), .pointer (some ⟨G, 0, none⟩)] (fun i => i = G) (fun d w' => d = .ok ByteArray.empty ∧ Row w' G 37 [.int .u64 (Oc.num (L.take k) : Nat)]) W5 (fun i h => by rw [h]; exact hRG.lt) (fun d u v h hf => ⟨h.1, h.2.fr hf (fun h => absurd hRG.lt (by omega))⟩) (fun p W => by simp [go_sem]) (fun W hbw hzw hA => ?_)).mono ?_
  · have f0 : Fr (fun _ => False) W5 W := Fr.of_same hbw
    refine (low_inner (W5.heap.size + 2) (g + 1) G k ⟨L.toArray⟩ W hA (hat1.fr f0 (fun h => h)) (hRG.fr f0 (fun h => h)) hk8 (by rw [hsz]; omega) (by rw [hsz]; unfold maxLen; omega) hno (by have := hR5.lt; omega) (by have := hRG.lt; omega) (by omega)).mono ?_
    rintro e w' ⟨rfl, a1, a2, f⟩
    exact ⟨.ok _, ⟨rfl, a1⟩, ⟨rfl, a2⟩, f⟩
  rintro e w6 ⟨d, hd, ⟨rfl, hG6⟩, hF6⟩
  have hd' : e = .returned (.tuple #[.string ByteArray.empty, .int .i64 0]) := hd
  subst hd'
  have hat6 := hat1.fr hF6 (by omega)
  have hb6 := hb5.fr hF6 (fun i hi => by subst hi; exact ⟨by omega, _, _, hRG, by decide⟩)
  have hK6 : Fr (fun _ => False) w w6 := hK5.trans' hF6 (fun i hi hs => by omega)
  have hR6 := hR5.fr hF6 (by omega)
  obtain ⟨hk1, hk2, hk3⟩ := hat6
  have hz2 : (if F = 0 then 0 else Oc.fill F L.length) = 0 := by
    split
    · rfl
    · rename_i h0
      have h1 := Oc.fill_mod F k z (by omega) (by rw [HZ.out, if_neg h0]; exact Nat.le_refl _)
      have h2 := h1.2 (by rw [HZ.out, if_neg h0])
      have h3 := Oc.fill_mod F L.length 0 (by omega) (Nat.zero_le _)
      rw [hLl, Nat.add_zero] at h3
      rw [hLl]
      exact (h3.1 h2).symm
  have hmod : F = 0 ∨ ((k : Int) + (z : Int)) % (F : Int) = 0 := by
    rcases Nat.eq_zero_or_pos F with h0 | h0
    · exact .inl h0
    · right
      have h1 := Oc.fill_mod F k z h0 (by rw [HZ.out, if_neg (by omega)]; exact Nat.le_refl _)
      have h2 := h1.2 (by rw [HZ.out, if_neg (by omega)])
      have : ((k : Int) + (z : Int)) % (F : Int) = (((k + z) % F : Nat) : Int) := by simp
      rw [this, h2]; rfl
  have hLi : (L.length : Int) = (k : Int) + (z : Int) := by omega
  have ofl := outFill g g L F w6 hb6 (by omega) (by omega)
  rw [hz2, List.replicate_zero, List.append_nil] at ofl
  clear hz2 HL HZ hno hat1 hR5 hRG hb5 hK5 hF6 hd hb6
  rw [hnum] at hG6
  clear hnum hck
  rcases (show k = 0 ∨ k = 1 ∨ k = 2 ∨ k = 3 ∨ k = 4 ∨ k = 5 ∨ k = 6 ∨ k = 7 ∨ k = 8 by omega) with rfl | rfl | rfl | rfl | rfl | rfl | rfl | rfl | rfl
  · have hm : bits .and .u64 (x : Int) 0 = (x : Int) % 1 := by
      have := bits_mask .u64 64 (by decide) wrapsU64 0 (by decide) (x : Int) (by omega) (by omega)
      simpa using this
    go_wp2_with fail
    refine ofl.mono ?_
    rintro e w7 ⟨rfl, hb7, hk7⟩
    have hR7 := hk7.row hR6 (by omega) (by decide)
    have hG7 := hk7.row hG6 (by omega) (by decide)
    go_wp2_with fail
    refine (outBytes g g L w7 hb7).mono ?_
    rintro e w8 ⟨rfl, hb8, hk8'⟩
    have hR8 := hk8'.row hR7 (by omega) (by decide)
    have hG8 := hk8'.row hG7 (by omega) (by decide)
    have hK8 : Fr (fun _ => False) w w8 := hK6.trans' ((Fr.of_below (S := fun i => g ≤ i) hk7.1 (fun i hi _ => hi)).trans (Fr.of_below (S := fun i => g ≤ i) hk8'.1 (fun i hi _ => hi))) (fun i hi hs => by omega)
    have u1 := hR8.cell 0
    have u2 := hG8.cell 0
    simp only [List.getElem?_cons_zero] at u1 u2
    rcases Nat.eq_zero_or_pos F with h0 | h0
    · subst h0
      go_wp2
      go_ret
      exact ⟨rfl, hK8.below (Nat.le_refl _) (fun _ _ h => h)⟩
    · have hm2 := hmod.resolve_left (by omega)
      have h0' : ¬ (F : Int) = 0 := by omega
      have hq : ((F : Int) == 0 || (z : Int) % (F : Int) == 0) = true := by
        rw [Bool.or_eq_true]
        right
        simpa using hm2
      have HQ := Lib.hid hq
      clear hq hm2 hmod
      go_wp2
      go_ret
      refine ⟨?_, hK8.below (Nat.le_refl _) (fun _ _ h => h)⟩
      have hq := HQ.out
      first | exact congrArg (fun b => Ending.returned (Value.bool b)) hq | (simp [h0'] at hq; simp [hq])
  · have hm : bits .and .u64 (x : Int) 255 = (x : Int) % 256 := by
      have := bits_mask .u64 64 (by decide) wrapsU64 8 (by decide) (x : Int) (by omega) (by omega)
      simpa using this
    go_wp2_with fail
    refine ofl.mono ?_
    rintro e w7 ⟨rfl, hb7, hk7⟩
    have hR7 := hk7.row hR6 (by omega) (by decide)
    have hG7 := hk7.row hG6 (by omega) (by decide)
    go_wp2_with fail
    refine (outBytes g g L w7 hb7).mono ?_
    rintro e w8 ⟨rfl, hb8, hk8'⟩
    have hR8 := hk8'.row hR7 (by omega) (by decide)
    have hG8 := hk8'.row hG7 (by omega) (by decide)
    have hK8 : Fr (fun _ => False) w w8 := hK6.trans' ((Fr.of_below (S := fun i => g ≤ i) hk7.1 (fun i hi _ => hi)).trans (Fr.of_below (S := fun i => g ≤ i) hk8'.1 (fun i hi _ => hi))) (fun i hi hs => by omega)
    have u1 := hR8.cell 0
    have u2 := hG8.cell 0
    simp only [List.getElem?_cons_zero] at u1 u2
    rcases Nat.eq_zero_or_pos F with h0 | h0
    · subst h0
      go_wp2
      go_ret
      exact ⟨rfl, hK8.below (Nat.le_refl _) (fun _ _ h => h)⟩
    · have hm2 := hmod.resolve_left (by omega)
      have h0' : ¬ (F : Int) = 0 := by omega
      have hq : ((F : Int) == 0 || (1 + (z : Int)) % (F : Int) == 0) = true := by
        rw [Bool.or_eq_true]
        right
        simpa using hm2
      have HQ := Lib.hid hq
      clear hq hm2 hmod
      go_wp2
      go_ret
      refine ⟨?_, hK8.below (Nat.le_refl _) (fun _ _ h => h)⟩
      have hq := HQ.out
      first | exact congrArg (fun b => Ending.returned (Value.bool b)) hq | (simp [h0'] at hq; simp [hq])
  · have hm : bits .and .u64 (x : Int) 65535 = (x : Int) % 65536 := by
      have := bits_mask .u64 64 (by decide) wrapsU64 16 (by decide) (x : Int) (by omega) (by omega)
      simpa using this
    go_wp2_with fail
    refine ofl.mono ?_
    rintro e w7 ⟨rfl, hb7, hk7⟩
    have hR7 := hk7.row hR6 (by omega) (by decide)
    have hG7 := hk7.row hG6 (by omega) (by decide)
    go_wp2_with fail
    refine (outBytes g g L w7 hb7).mono ?_
    rintro e w8 ⟨rfl, hb8, hk8'⟩
    have hR8 := hk8'.row hR7 (by omega) (by decide)
    have hG8 := hk8'.row hG7 (by omega) (by decide)
    have hK8 : Fr (fun _ => False) w w8 := hK6.trans' ((Fr.of_below (S := fun i => g ≤ i) hk7.1 (fun i hi _ => hi)).trans (Fr.of_below (S := fun i => g ≤ i) hk8'.1 (fun i hi _ => hi))) (fun i hi hs => by omega)
    have u1 := hR8.cell 0
    have u2 := hG8.cell 0
    simp only [List.getElem?_cons_zero] at u1 u2
    rcases Nat.eq_zero_or_pos F with h0 | h0
    · subst h0
      go_wp2
      go_ret
      exact ⟨rfl, hK8.below (Nat.le_refl _) (fun _ _ h => h)⟩
    · have hm2 := hmod.resolve_left (by omega)
      have h0' : ¬ (F : Int) = 0 := by omega
      have hq : ((F : Int) == 0 || (2 + (z : Int)) % (F : Int) == 0) = true := by
        rw [Bool.or_eq_true]
        right
        simpa using hm2
      have HQ := Lib.hid hq
      clear hq hm2 hmod
      go_wp2
      go_ret
      refine ⟨?_, hK8.below (Nat.le_refl _) (fun _ _ h => h)⟩
      have hq := HQ.out
      first | exact congrArg (fun b => Ending.returned (Value.bool b)) hq | (simp [h0'] at hq; simp [hq])
  · have hm : bits .and .u64 (x : Int) 16777215 = (x : Int) % 16777216 := by
      have := bits_mask .u64 64 (by decide) wrapsU64 24 (by decide) (x : Int) (by omega) (by omega)
      simpa using this
    go_wp2_with fail
    refine ofl.mono ?_
    rintro e w7 ⟨rfl, hb7, hk7⟩
    have hR7 := hk7.row hR6 (by omega) (by decide)
    have hG7 := hk7.row hG6 (by omega) (by decide)
    go_wp2_with fail
    refine (outBytes g g L w7 hb7).mono ?_
    rintro e w8 ⟨rfl, hb8, hk8'⟩
    have hR8 := hk8'.row hR7 (by omega) (by decide)
    have hG8 := hk8'.row hG7 (by omega) (by decide)
    have hK8 : Fr (fun _ => False) w w8 := hK6.trans' ((Fr.of_below (S := fun i => g ≤ i) hk7.1 (fun i hi _ => hi)).trans (Fr.of_below (S := fun i => g ≤ i) hk8'.1 (fun i hi _ => hi))) (fun i hi hs => by omega)
    have u1 := hR8.cell 0
    have u2 := hG8.cell 0
    simp only [List.getElem?_cons_zero] at u1 u2
    rcases Nat.eq_zero_or_pos F with h0 | h0
    · subst h0
      go_wp2
      go_ret
      exact ⟨rfl, hK8.below (Nat.le_refl _) (fun _ _ h => h)⟩
    · have hm2 := hmod.resolve_left (by omega)
      have h0' : ¬ (F : Int) = 0 := by omega
      have hq : ((F : Int) == 0 || (3 + (z : Int)) % (F : Int) == 0) = true := by
        rw [Bool.or_eq_true]
        right
        simpa using hm2
      have HQ := Lib.hid hq
      clear hq hm2 hmod
      go_wp2
      go_ret
      refine ⟨?_, hK8.below (Nat.le_refl _) (fun _ _ h => h)⟩
      have hq := HQ.out
      first | exact congrArg (fun b => Ending.returned (Value.bool b)) hq | (simp [h0'] at hq; simp [hq])
  · have hm : bits .and .u64 (x : Int) 4294967295 = (x : Int) % 4294967296 := by
      have := bits_mask .u64 64 (by decide) wrapsU64 32 (by decide) (x : Int) (by omega) (by omega)
      simpa using this
    go_wp2_with fail
    refine ofl.mono ?_
    rintro e w7 ⟨rfl, hb7, hk7⟩
    have hR7 := hk7.row hR6 (by omega) (by decide)
    have hG7 := hk7.row hG6 (by omega) (by decide)
    go_wp2_with fail
    refine (outBytes g g L w7 hb7).mono ?_
    rintro e w8 ⟨rfl, hb8, hk8'⟩
    have hR8 := hk8'.row hR7 (by omega) (by decide)
    have hG8 := hk8'.row hG7 (by omega) (by decide)
    have hK8 : Fr (fun _ => False) w w8 := hK6.trans' ((Fr.of_below (S := fun i => g ≤ i) hk7.1 (fun i hi _ => hi)).trans (Fr.of_below (S := fun i => g ≤ i) hk8'.1 (fun i hi _ => hi))) (fun i hi hs => by omega)
    have u1 := hR8.cell 0
    have u2 := hG8.cell 0
    simp only [List.getElem?_cons_zero] at u1 u2
    rcases Nat.eq_zero_or_pos F with h0 | h0
    · subst h0
      go_wp2
      go_ret
      exact ⟨rfl, hK8.below (Nat.le_refl _) (fun _ _ h => h)⟩
    · have hm2 := hmod.resolve_left (by omega)
      have h0' : ¬ (F : Int) = 0 := by omega
      have hq : ((F : Int) == 0 || (4 + (z : Int)) % (F : Int) == 0) = true := by
        rw [Bool.or_eq_true]
        right
        simpa using hm2
      have HQ := Lib.hid hq
      clear hq hm2 hmod
      go_wp2
      go_ret
      refine ⟨?_, hK8.below (Nat.le_refl _) (fun _ _ h => h)⟩
      have hq := HQ.out
      first | exact congrArg (fun b => Ending.returned (Value.bool b)) hq | (simp [h0'] at hq; simp [hq])
  · have hm : bits .and .u64 (x : Int) 1099511627775 = (x : Int) % 1099511627776 := by
      have := bits_mask .u64 64 (by decide) wrapsU64 40 (by decide) (x : Int) (by omega) (by omega)
      simpa using this
    go_wp2_with fail
    refine ofl.mono ?_
    rintro e w7 ⟨rfl, hb7, hk7⟩
    have hR7 := hk7.row hR6 (by omega) (by decide)
    have hG7 := hk7.row hG6 (by omega) (by decide)
    go_wp2_with fail
    refine (outBytes g g L w7 hb7).mono ?_
    rintro e w8 ⟨rfl, hb8, hk8'⟩
    have hR8 := hk8'.row hR7 (by omega) (by decide)
    have hG8 := hk8'.row hG7 (by omega) (by decide)
    have hK8 : Fr (fun _ => False) w w8 := hK6.trans' ((Fr.of_below (S := fun i => g ≤ i) hk7.1 (fun i hi _ => hi)).trans (Fr.of_below (S := fun i => g ≤ i) hk8'.1 (fun i hi _ => hi))) (fun i hi hs => by omega)
    have u1 := hR8.cell 0
    have u2 := hG8.cell 0
    simp only [List.getElem?_cons_zero] at u1 u2
    rcases Nat.eq_zero_or_pos F with h0 | h0
    · subst h0
      go_wp2
      go_ret
      exact ⟨rfl, hK8.below (Nat.le_refl _) (fun _ _ h => h)⟩
    · have hm2 := hmod.resolve_left (by omega)
      have h0' : ¬ (F : Int) = 0 := by omega
      have hq : ((F : Int) == 0 || (5 + (z : Int)) % (F : Int) == 0) = true := by
        rw [Bool.or_eq_true]
        right
        simpa using hm2
      have HQ := Lib.hid hq
      clear hq hm2 hmod
      go_wp2
      go_ret
      refine ⟨?_, hK8.below (Nat.le_refl _) (fun _ _ h => h)⟩
      have hq := HQ.out
      first | exact congrArg (fun b => Ending.returned (Value.bool b)) hq | (simp [h0'] at hq; simp [hq])
  · have hm : bits .and .u64 (x : Int) 281474976710655 = (x : Int) % 281474976710656 := by
      have := bits_mask .u64 64 (by decide) wrapsU64 48 (by decide) (x : Int) (by omega) (by omega)
      simpa using this
    go_wp2_with fail
    refine ofl.mono ?_
    rintro e w7 ⟨rfl, hb7, hk7⟩
    have hR7 := hk7.row hR6 (by omega) (by decide)
    have hG7 := hk7.row hG6 (by omega) (by decide)
    go_wp2_with fail
    refine (outBytes g g L w7 hb7).mono ?_
    rintro e w8 ⟨rfl, hb8, hk8'⟩
    have hR8 := hk8'.row hR7 (by omega) (by decide)
    have hG8 := hk8'.row hG7 (by omega) (by decide)
    have hK8 : Fr (fun _ => False) w w8 := hK6.trans' ((Fr.of_below (S := fun i => g ≤ i) hk7.1 (fun i hi _ => hi)).trans (Fr.of_below (S := fun i => g ≤ i) hk8'.1 (fun i hi _ => hi))) (fun i hi hs => by omega)
    have u1 := hR8.cell 0
    have u2 := hG8.cell 0
    simp only [List.getElem?_cons_zero] at u1 u2
    rcases Nat.eq_zero_or_pos F with h0 | h0
    · subst h0
      go_wp2
      go_ret
      exact ⟨rfl, hK8.below (Nat.le_refl _) (fun _ _ h => h)⟩
    · have hm2 := hmod.resolve_left (by omega)
      have h0' : ¬ (F : Int) = 0 := by omega
      have hq : ((F : Int) == 0 || (6 + (z : Int)) % (F : Int) == 0) = true := by
        rw [Bool.or_eq_true]
        right
        simpa using hm2
      have HQ := Lib.hid hq
      clear hq hm2 hmod
      go_wp2
      go_ret
      refine ⟨?_, hK8.below (Nat.le_refl _) (fun _ _ h => h)⟩
      have hq := HQ.out
      first | exact congrArg (fun b => Ending.returned (Value.bool b)) hq | (simp [h0'] at hq; simp [hq])
  · have hm : bits .and .u64 (x : Int) 72057594037927935 = (x : Int) % 72057594037927936 := by
      have := bits_mask .u64 64 (by decide) wrapsU64 56 (by decide) (x : Int) (by omega) (by omega)
      simpa using this
    go_wp2_with fail
    refine ofl.mono ?_
    rintro e w7 ⟨rfl, hb7, hk7⟩
    have hR7 := hk7.row hR6 (by omega) (by decide)
    have hG7 := hk7.row hG6 (by omega) (by decide)
    go_wp2_with fail
    refine (outBytes g g L w7 hb7).mono ?_
    rintro e w8 ⟨rfl, hb8, hk8'⟩
    have hR8 := hk8'.row hR7 (by omega) (by decide)
    have hG8 := hk8'.row hG7 (by omega) (by decide)
    have hK8 : Fr (fun _ => False) w w8 := hK6.trans' ((Fr.of_below (S := fun i => g ≤ i) hk7.1 (fun i hi _ => hi)).trans (Fr.of_below (S := fun i => g ≤ i) hk8'.1 (fun i hi _ => hi))) (fun i hi hs => by omega)
    have u1 := hR8.cell 0
    have u2 := hG8.cell 0
    simp only [List.getElem?_cons_zero] at u1 u2
    rcases Nat.eq_zero_or_pos F with h0 | h0
    · subst h0
      go_wp2
      go_ret
      exact ⟨rfl, hK8.below (Nat.le_refl _) (fun _ _ h => h)⟩
    · have hm2 := hmod.resolve_left (by omega)
      have h0' : ¬ (F : Int) = 0 := by omega
      have hq : ((F : Int) == 0 || (7 + (z : Int)) % (F : Int) == 0) = true := by
        rw [Bool.or_eq_true]
        right
        simpa using hm2
      have HQ := Lib.hid hq
      clear hq hm2 hmod
      go_wp2
      go_ret
      refine ⟨?_, hK8.below (Nat.le_refl _) (fun _ _ h => h)⟩
      have hq := HQ.out
      first | exact congrArg (fun b => Ending.returned (Value.bool b)) hq | (simp [h0'] at hq; simp [hq])
  · have hm : (x : Int) % 18446744073709551616 = (x : Int) := by omega
    go_wp2_with fail
    refine ofl.mono ?_
    rintro e w7 ⟨rfl, hb7, hk7⟩
    have hR7 := hk7.row hR6 (by omega) (by decide)
    have hG7 := hk7.row hG6 (by omega) (by decide)
    go_wp2_with fail
    refine (outBytes g g L w7 hb7).mono ?_
    rintro e w8 ⟨rfl, hb8, hk8'⟩
    have hR8 := hk8'.row hR7 (by omega) (by decide)
    have hG8 := hk8'.row hG7 (by omega) (by decide)
    have hK8 : Fr (fun _ => False) w w8 := hK6.trans' ((Fr.of_below (S := fun i => g ≤ i) hk7.1 (fun i hi _ => hi)).trans (Fr.of_below (S := fun i => g ≤ i) hk8'.1 (fun i hi _ => hi))) (fun i hi hs => by omega)
    have u1 := hR8.cell 0
    have u2 := hG8.cell 0
    simp only [List.getElem?_cons_zero] at u1 u2
    rcases Nat.eq_zero_or_pos F with h0 | h0
    · subst h0
      go_wp2
      go_ret
      exact ⟨rfl, hK8.below (Nat.le_refl _) (fun _ _ h => h)⟩
    · have hm2 := hmod.resolve_left (by omega)
      have h0' : ¬ (F : Int) = 0 := by omega
      have hq : ((F : Int) == 0 || (8 + (z : Int)) % (F : Int) == 0) = true := by
        rw [Bool.or_eq_true]
        right
        simpa using hm2
      have HQ := Lib.hid hq
      clear hq hm2 hmod
      go_wp2
      go_ret
      refine ⟨?_, hK8.below (Nat.le_refl _) (fun _ _ h => h)⟩
      have hq := HQ.out
      first | exact congrArg (fun b => Ending.returned (Value.bool b)) hq | (simp [h0'] at hq; simp [hq])
end Go.Proofs.YtecjailgiknfcaaDoor

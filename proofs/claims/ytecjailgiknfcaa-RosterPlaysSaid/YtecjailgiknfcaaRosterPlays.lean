/-
  The walk of the statement RosterPlays.
-/
import Derived.Test.YtecjailgiknfcaaRosterLooks
import Derived.Test.YtecjailgiknfcaaRosterPure
import Derived.Deep.DeepCutAuto
import Derived.Deep.CutBlock
set_option linter.unusedVariables false
set_option linter.unusedSimpArgs false
namespace Go.Proofs.Ytecjailgiknfcaa
open Go.RowKit

theorem addBlock (a : Addr) (i : Nat) : (a.add i).block = a.block := by unfold Addr.add; split <;> rfl
theorem addAdd (a : Addr) (i j : Nat) : (a.add i).add j = a.add (i + j) := by unfold Addr.add; by_cases hi : i = 0 <;> by_cases hj : j = 0 <;> simp [hi, hj, Nat.add_assoc]
theorem i64_and15 (n : Int) : bits .and .i64 n 15 = n % 16 := by
  have h127 : (BitVec.ofInt 64 15).toNat = 2 ^ 4 - 1 := by decide
  have key : (BitVec.ofInt 64 n &&& BitVec.ofInt 64 15).toNat = (n % ((2 ^ 64 : Nat) : Int)).toNat % 2 ^ 4 := by
    rw [BitVec.toNat_and, BitVec.toNat_ofInt, h127, Nat.and_two_pow_sub_one_eq_mod]
  show IntKind.i64.wrap ((BitVec.ofInt 64 n &&& BitVec.ofInt 64 15).toNat : Nat) = n % 16
  rw [key, IntKind.wrap_i64]
  omega
def HoldsT (tr tm : TypeId) (w : World) (g : Nat) (R : Ro) : Prop := ∃ v, Row w g tr (R.row v) ∧ Mem tm w v R.ms
/-- A struct of five cells lies there, whatever it holds. -/
def Lies (tr : TypeId) (w : World) (g : Nat) : Prop := ∃ row, Row w g tr row ∧ row.length = 5
/-- Blocks that are known whole keep their kind and size. -/
def Kinds (w w' : World) : Prop := ∀ b t row, Row w b t row → ∃ row', Row w' b t row' ∧ row'.length = row.length
theorem Kinds.refl (w : World) : Kinds w w := fun b t row h => ⟨row, h, rfl⟩
theorem Kinds.kp {w w' : World} (k : Kp w w') : Kinds w w' := fun b t row h => ⟨row, h.fr k (fun h => h), rfl⟩
theorem Kinds.st {w w' : World} {g : Nat} {t : TypeId} {row row' : List Value} (h : Row w g t row) (h' : Row w' g t row') (hl : row'.length = row.length) (k : Fr (fun i => i = g) w w') : Kinds w w' := fun b t2 r2 hr => by
  by_cases e : b = g
  · subst e
    have h1 := h.symm.trans hr
    simp only [Option.some.injEq, Obj.cells.injEq] at h1
    obtain ⟨h1, rfl, _⟩ := h1
    have : row = r2 := by simpa using h1
    subst this
    exact ⟨row', h', hl⟩
  · exact ⟨r2, hr.fr k e, rfl⟩
def PtrTo (tr : TypeId) (B : Nat) (v : Value) (w : World) : Prop := ∃ b, v = .pointer (some ⟨b, 0, none⟩) ∧ B ≤ b ∧ Lies tr w b
theorem ptr_stable {tr : TypeId} {B : Nat} (v : Value) (w w' : World) (h : PtrTo tr B v w) (k : Kinds w w') : PtrTo tr B v w' := by
  obtain ⟨b, hv, hb, row, hr, hl⟩ := h
  obtain ⟨row', hr', hl'⟩ := k _ _ _ hr
  exact ⟨b, hv, hb, row', hr', hl'.trans hl⟩

theorem own_fr {S : Nat → Prop} {w w' : World} {B : Nat} {e : TypeId} {sz n : Nat} {v : Value} {xs : List Value} (h : w.ownsRow B e sz v n xs) (k : Fr S w w') (hs : ∀ b, v.ownBlock = some b → ¬ S b) : w'.ownsRow B e sz v n xs := by
  refine ⟨h.1, ?_⟩
  rcases h.2 with hn | ⟨g, cap, cur, rfl, hb, hgg, rest⟩
  · exact .inl hn
  · exact .inr ⟨g, cap, cur, rfl, hb, (k.block g (Array.getElem?_eq_some_iff.1 hgg).1 (hs g rfl)).trans hgg, rest⟩
theorem step_zero {z0 N : Int} {R : Ro} (h : (stepF z0 R N).2 ≠ 0) : (stepF z0 R N).1 = Ro.zero := by
  unfold stepF addF drainF removeF at h ⊢
  split
  · rename_i h1
    rw [if_pos h1] at h
    split
    · rename_i h2
      rw [if_pos h2] at h
      split
      · rename_i m hm
        rw [hm] at h
        simp only at h
        split
        · rfl
        · rename_i h3; rw [if_neg h3] at h; exact (h rfl).elim
      · rfl
    · rfl
  · rename_i h1
    rw [if_neg h1] at h
    split
    · rename_i h2
      rw [if_pos h2] at h
      split
      · rename_i h3; rw [if_pos h3] at h; exact (h rfl).elim
      · rfl
    · rename_i h2
      rw [if_neg h2] at h
      split
      · rename_i h3; rw [if_pos h3] at h; exact (h rfl).elim
      · rename_i h3
        rw [if_neg h3] at h
        split
        · rename_i h4; rw [if_pos h4] at h; exact (h rfl).elim
        · rename_i h4
          rw [if_neg h4] at h
          split
          · rfl
          · rename_i h5
            rw [if_neg h5] at h
            split
            · rfl
            · rename_i h6
              rw [if_neg h6] at h
              split
              · rfl
              · rename_i h7; rw [if_neg h7] at h; exact (h rfl).elim
/-- Where the two rosters lie, behind k stores. -/
def Put2 (gx : Nat) (Q : Ro) (W : World) (k : Nat) (w : World) : Prop :=
  Fr (fun i => i = gx ∨ i = gx + 1) W w ∧ Lies 63 w gx ∧ Lies 51 w (gx + 1) ∧ (1 ≤ k → HoldsT 63 103 w gx Q) ∧ (2 ≤ k → HoldsT 51 72 w (gx + 1) Q)
theorem own_row {w : World} {B : Nat} {e : TypeId} {sz n : Nat} {v : Value} {xs : List Value} (h : w.ownsRow B e sz v n xs) {b : Nat} (hb : v.ownBlock = some b) : ∃ row, Row w b e row := by
  rcases h.2 with ⟨rfl, _⟩ | ⟨g, cap, cur, rfl, _, hgg, _⟩
  · simp [Value.ownBlock] at hb
  · simp only [Value.ownBlock, Option.some.injEq] at hb
    subst hb
    exact ⟨cur.toList, by rw [Row, Array.toArray_toList]; exact hgg⟩
/-- A roster by value; its members' slice lies elsewhere. -/
def RV (tm : TypeId) (b9 b10 : Nat) (Q : Ro) (v : Value) (w : World) : Prop := ∃ v', v = Q.val v' ∧ Mem tm w v' Q.ms ∧ v'.ownBlock ≠ some b9 ∧ v'.ownBlock ≠ some b10
theorem rv_stable {tm : TypeId} {b9 b10 : Nat} {Q : Ro} (v : Value) (w w' : World) (h : RV tm b9 b10 Q v w) (k : Fr (fun i => i = b9 ∨ i = b10) w w') : RV tm b9 b10 Q v w' := by
  obtain ⟨v', hv, hm, h9, h10⟩ := h
  exact ⟨v', hv, hm.fr k (fun b hb hs => hs.elim (fun e => h9 (e ▸ hb)) (fun e => h10 (e ▸ hb))), h9, h10⟩
theorem Lies.fr {S : Nat → Prop} {tr : TypeId} {w w' : World} {g : Nat} (h : Lies tr w g) (k : Fr S w w') (hs : ¬ S g) : Lies tr w' g := by
  obtain ⟨row, hr, hl⟩ := h; exact ⟨row, hr.fr k hs, hl⟩
theorem HoldsT.fr {S : Nat → Prop} {tr tm : TypeId} {w w' : World} {g : Nat} {R : Ro} (h : HoldsT tr tm w g R) (k : Fr S w w') (hs : ¬ S g) (hm : ∀ b, S b → ∃ t row, Row w b t row ∧ tm ≠ t) : HoldsT tr tm w' g R := by
  obtain ⟨v, hr, hv⟩ := h
  exact ⟨v, hr.fr k hs, hv.fr k (fun b hb hS => by obtain ⟨t, row, hq, ht⟩ := hm b hS; exact hv.ne hq ht hb)⟩
/-- Where the two new rosters lie, behind k steps. -/
def Two (b9 b10 : Nat) (Q : Ro) (W : World) (k : Nat) (w : World) : Prop :=
  Fr (fun i => i = b9 ∨ i = b10) W w ∧ Lies 63 w b9 ∧ Lies 51 w b10 ∧ (3 ≤ k → HoldsT 63 103 w b9 Q) ∧ (4 ≤ k → HoldsT 51 72 w b10 Q)
theorem Two.kp {b9 b10 : Nat} {Q : Ro} {W w w' : World} {k k' : Nat} (h : Two b9 b10 Q W k w) (q : Kp w w') (hk : k' ≤ 2) : Two b9 b10 Q W k' w' :=
  ⟨h.1.trans (q.mono (fun _ _ h => h.elim)), h.2.1.fr q (fun h => h), h.2.2.1.fr q (fun h => h), fun h => by omega, fun h => by omega⟩

/-- The calls that the statement is handed. -/
structure Script (w : World) (sl : Value) (n : Nat) : Prop where
  is : ∃ a c, sl = .slice a n c ∧ n ≤ c ∧ c ≤ maxLen
  each : ∀ a c, sl = .slice a n c → ∀ k, k < n → ∃ b o, a = some ⟨b, o, none⟩ ∧ b < w.heap.size ∧ ∃ z0 z1 : Int, w.cell? ⟨b, o + k * 2, none⟩ = some (.int .i64 z0) ∧ w.cell? ⟨b, o + k * 2 + 1, none⟩ = some (.int .i64 z1)

set_option maxHeartbeats 8000000 in
set_option maxRecDepth 100000 in
theorem rosterPlays_any (sl : Value) (n : Nat) (w : World) (hS : Script w sl n) :
    Calls Try.prog 11 #[sl] w fun e w' => e = .returned (.bool true) ∧ Below w.heap.size w w' := by
  obtain ⟨⟨a, c, rfl, hnc, hcm⟩, hE⟩ := hS
  have hE := hE a c rfl
  have hc3 : c ≤ 9223372036854775807 := hcm
  have hi51 : (Try.prog.info? 51).map (·.size) = some 5 := by kernel_rfl
  have hi63 : (Try.prog.info? 63).map (·.size) = some 5 := by kernel_rfl
  clear hcm
  go_enter Try.func11, Try.ntmps11
  go_wp2_with fail
  refine (roster_awake _).mono ?_
  rintro e w1 ⟨rfl, hB⟩
  go_wp2_with fail
  obtain ⟨gx, HG⟩ : ∃ gx, gx = w1.heap.size := ⟨_, rfl⟩
  have hsz := hB.size
  rw [← HG] at hsz ⊢
  have hX : HoldsT 63 103 ((w1.alloc (.cells #[.int .u64 1, .int .u64 0, .int .u64 0, .int .u64 0, .slice none 0 0] 63)).alloc (.cells #[.int .u64 1, .int .u64 0, .int .u64 0, .int .u64 0, .slice none 0 0] 51)) gx ⟨1, 0, 0, 0, []⟩ := ⟨_, by rw [HG]; exact (box2 (Fr.refl _ _)).1, Mem.nil _ _⟩
  have hO : HoldsT 51 72 ((w1.alloc (.cells #[.int .u64 1, .int .u64 0, .int .u64 0, .int .u64 0, .slice none 0 0] 63)).alloc (.cells #[.int .u64 1, .int .u64 0, .int .u64 0, .int .u64 0, .slice none 0 0] 51)) (gx + 1) ⟨1, 0, 0, 0, []⟩ := ⟨_, by rw [HG]; exact (box2 (Fr.refl _ _)).2.1, Mem.nil _ _⟩
  have hK : Kp w ((w1.alloc (.cells #[.int .u64 1, .int .u64 0, .int .u64 0, .int .u64 0, .slice none 0 0] 63)).alloc (.cells #[.int .u64 1, .int .u64 0, .int .u64 0, .int .u64 0, .slice none 0 0] 51)) := (hB.alloc _).alloc _
  clear HG hB
  go_loopw [5, 6] (fun jv iv wr => ∃ (i : Nat) (R : Ro) (js : List Nat), i ≤ n ∧ i ≤ 60 ∧ iv = .int .i64 i ∧ HoldsT 63 103 wr gx R ∧ HoldsT 51 72 wr (gx + 1) R ∧ R.Good i ∧
    wr.ownsRow (gx + 2) 48 1 jv js.length (u64s js) ∧ js.length ≤ i ∧ (∀ j ∈ js, j ≤ R.joins) ∧ Kp w wr) (fun _ iv _ => 60 - (intOf iv).toNat)
  case atStart => exact ⟨0, _, [], Nat.zero_le _, Nat.zero_le _, rfl, hX, hO, good_start, World.ownsRow_nil _ _ _ _, Nat.le_refl _, (fun j hj => by cases hj), hK⟩
  case round =>
    clear hX hO hK
    obtain ⟨i, R, js, hin, hi60, rfl, ⟨x, hXr, hXm⟩, ⟨v, hOr, hOm⟩, hG, hjs, hjl, hjle, hK⟩ := hrel
    obtain ⟨xa, xc, rfl, _, _⟩ := hXm.slice
    obtain ⟨oa, oc, rfl, _, _⟩ := hOm.slice
    have c0 := hXr.five
    have c1 := hOr.five
    by_cases hlt : i < n ∧ i < 60
    · obtain ⟨l1, l2⟩ := hlt
      have m1 : (i : Int) < (n : Int) := by omega
      have m2 : (i : Int) < 60 := by omega
      have m0 : (0 : Int) ≤ (i : Int) := by omega
      obtain ⟨ab, ao, rfl, had, z0, z1, e0, e1⟩ := hE i l1
      have hGd := hG
      have e0' := (hK.cell (p := ⟨ab, ao + i * 2, none⟩) had (fun h => h)).trans e0
      have e1' := (hK.cell (p := ⟨ab, ao + i * 2 + 1, none⟩) had (fun h => h)).trans e1
      clear e0 e1
      go_upto_region 11 with fail
      refine codeAt ?_
      intro W hW
      obtain ⟨ba, hba⟩ : ∃ ba, ba = wr.heap.size := ⟨_, rfl⟩
      have rA : Row W ba 66 [.int .i64 z0, .int .i64 z1] := by rw [hba, hW]; exact Row.new wr _ _
      have kA : Kp wr W := by rw [hW]; exact (Fr.refl _ wr).alloc _
      have hbg : gx + 2 ≤ ba := by have := hOr.lt; omega
      rw [← hba]
      have xR := hXr.fr kA (fun h => h)
      have oR := hOr.fr kA (fun h => h)
      have xM := hXm.kp kA
      have oM := hOm.kp kA
      have jO : W.ownsRow (gx + 2) 48 1 u5 js.length (u64s js) := World.ownsRow.kept hjs (fr_grown kA) (by cases hv : u5.ownBlock <;> simp)
      have kW := hK.trans kA
      clear hW hba e0' e1' kA hXr hOr hXm hOm hjs hK c0 c1 wr m0 had
      go_cut [42] (fun s42 wx => s42 = .bool (decide (2000 < z1 ∨ z1 < -2000)) ∧ wx = W)
      case first =>
        by_cases h1 : 2000 < z1
        · go_wp2
          go_meet
          case rel => exact ⟨by simp [h1], rfl⟩
        · have h1' : z1 ≤ 2000 := by omega
          by_cases h2 : z1 < -2000
          · go_wp2
            go_meet
            case rel => exact ⟨by simp [h2], rfl⟩
          · have h2' : -2000 ≤ z1 := by omega
            go_wp2
            go_meet
            case rel => exact ⟨by simp [h1', h2'], rfl⟩
      case rest =>
        obtain ⟨rfl, rfl⟩ := hcut
        go_upto_if 42 with fail
        go_cut [8] (fun s8 wx => ∃ N : Int, s8 = .int .i64 N ∧ -2000 ≤ N ∧ N ≤ 2000 ∧ wx = wc)
        case first =>
          by_cases h1 : 2000 < z1 ∨ z1 < -2000
          · have hb := i64_and15 z1
            rw [decide_eq_true h1]
            go_wp2
            go_meet
            case rel => exact ⟨z1 % 16, rfl, by omega, by omega, rfl⟩
          · rw [decide_eq_false h1]
            go_wp2
            go_meet
            case rel => exact ⟨z1, rfl, by omega, by omega, rfl⟩
        case rest =>
          obtain ⟨N, rfl, hN1, hN2, rfl⟩ := hcut
          go_wp2_with fail
          apply (fun (c0 : Value) (c1 : Value) (c4 : Value) (c5 : Value) hm hok hf hfl hch hcl hp hrefl hg hk hfin => Tbl.wp_chain (Kinds) (fun _ w' => Kp wc w') [] [false, false, false, false, false, false, false, false, false, true, true, false, false, false, false, false, false, false, false, false, false, false, false, false, false, false, false, false, false, false, false, false, false, false, false, false, false, false, false, false, false, false, false, false, false, true, true, false, false, false, false, false, false, false, false, false, false, false, false, false, false, false, false, false, false, false, false, false, false, false, false, false, false, false, false, false, false, false, false, false, false, false, false, false, false, false, false, false, false, false, false, false, false, false, false, false, false, false, false, false, false, false, false, false, false, false, false, false, false, false, false, false, false, false, false, false, false, false, false, false, false, false, false, false, false, false, false, false, false, false, false, false, false, false, false, false, false, false, false, false, false, false, false, false, false, false, false, false, false, false, false, false, false, false, false, false, false, false, false, false, false, false, false, false] [Tbl.Is c0, Tbl.Is c1, PtrTo 63 wc.heap.size, PtrTo 51 wc.heap.size, Tbl.Is c4, Tbl.Is c5] hm hok hf hfl hch hcl hp hrefl hg hk hfin)
          case hm => rfl
          case hok => kernel_rfl
          case hf => kernel_rfl
          case hfl => rfl
          case hch => kernel_rfl
          case hcl => kernel_rfl
          case hrefl =>
            exact Kinds.refl
          case hg =>
            exact (Fr.refl _ wc).drew
          case hk =>
            refine Tbl.keepC_cons (c := none) (by kernel_rfl) ?_ ?_
            · refine Tbl.keepC_no ?_
              intro U w K kc hg hs hK
              clear hs
              simp only [Tbl.mixL_true, Tbl.mixL_false, Tbl.mixL_nil, Nat.reduceAdd, Nat.zero_add]
              have d0 := (xR.fr hg (fun h => h)).five
              go_simp
              exact hK _ _ rfl hg (Kinds.refl _)
            refine Tbl.keepC_cons (c := none) (by kernel_rfl) ?_ ?_
            · refine Tbl.keepC_no ?_
              intro U w K kc hg hs hK
              clear hs
              simp only [Tbl.mixL_true, Tbl.mixL_false, Tbl.mixL_nil, Nat.reduceAdd, Nat.zero_add]
              have d0 := (oR.fr hg (fun h => h)).five
              go_simp
              exact hK _ _ rfl hg (Kinds.refl _)
            refine Tbl.keepC_cons (c := none) (by kernel_rfl) ?_ ?_
            · refine Tbl.keepC_no ?_
              intro U w K kc hg hs hK
              clear hs
              simp only [Tbl.mixL_true, Tbl.mixL_false, Tbl.mixL_nil, Nat.reduceAdd, Nat.zero_add]
              go_simp
              exact hK _ _ ⟨_, rfl, hg.size, _, Row.new w _ _, rfl⟩ (hg.alloc _) (Kinds.kp ((Fr.refl _ w).alloc _))
            refine Tbl.keepC_cons (c := none) (by kernel_rfl) ?_ ?_
            · refine Tbl.keepC_no ?_
              intro U w K kc hg hs hK
              clear hs
              simp only [Tbl.mixL_true, Tbl.mixL_false, Tbl.mixL_nil, Nat.reduceAdd, Nat.zero_add]
              go_simp
              exact hK _ _ ⟨_, rfl, hg.size, _, Row.new w _ _, rfl⟩ (hg.alloc _) (Kinds.kp ((Fr.refl _ w).alloc _))
            refine Tbl.keepC_cons (c := none) (by kernel_rfl) ?_ ?_
            · refine Tbl.keepC_no ?_
              intro U w K kc hg hs hK
              have h9 : (PtrTo 63 wc.heap.size) (U 9) w := (hs 9 (by decide)).1 2 (by kernel_rfl) (by kernel_rfl)
              have h45 : U 45 = _ := (hs 45 (by decide)).1 0 (by kernel_rfl) (by kernel_rfl)
              clear hs
              simp only [Tbl.mixL_true, Tbl.mixL_false, Tbl.mixL_nil, Nat.reduceAdd, Nat.zero_add]
              obtain ⟨b, hb, hB, row, hr, hl⟩ := h9
              rw [if_pos (by simp [Region.wanted])]
              refine Tbl.gives_stR 63 (.tmp 9) (.tmp 45) rfl b _ hb h45 _ _ hr hi63 (by simpa using hl) (by simp [Value.oneCell']) ?_
              have hF : Fr (fun k => k = b) w (w.setRow b #[.int .u64 R.cache, .int .u64 R.epoch, .int .u64 R.lease, .int .u64 R.joins, .slice xa R.ms.length xc]) := (Fr.refl (fun k => k = b) w).setRow b (fun _ => rfl) _
              exact hK _ _ rfl (hg.trans' hF (fun i hi hs => by omega)) (Kinds.st hr (hr.over [.int .u64 R.cache, .int .u64 R.epoch, .int .u64 R.lease, .int .u64 R.joins, .slice xa R.ms.length xc]) (by rw [hl]; rfl) hF)
            refine Tbl.keepC_cons (c := none) (by kernel_rfl) ?_ ?_
            · refine Tbl.keepC_no ?_
              intro U w K kc hg hs hK
              have h10 : (PtrTo 51 wc.heap.size) (U 10) w := (hs 10 (by decide)).1 3 (by kernel_rfl) (by kernel_rfl)
              have h46 : U 46 = _ := (hs 46 (by decide)).1 1 (by kernel_rfl) (by kernel_rfl)
              clear hs
              simp only [Tbl.mixL_true, Tbl.mixL_false, Tbl.mixL_nil, Nat.reduceAdd, Nat.zero_add]
              obtain ⟨b, hb, hB, row, hr, hl⟩ := h10
              rw [if_pos (by simp [Region.wanted])]
              refine Tbl.gives_stR 51 (.tmp 10) (.tmp 46) rfl b _ hb h46 _ _ hr hi51 (by simpa using hl) (by simp [Value.oneCell']) ?_
              have hF : Fr (fun k => k = b) w (w.setRow b #[.int .u64 R.cache, .int .u64 R.epoch, .int .u64 R.lease, .int .u64 R.joins, .slice oa R.ms.length oc]) := (Fr.refl (fun k => k = b) w).setRow b (fun _ => rfl) _
              exact hK _ _ rfl (hg.trans' hF (fun i hi hs => by omega)) (Kinds.st hr (hr.over [.int .u64 R.cache, .int .u64 R.epoch, .int .u64 R.lease, .int .u64 R.joins, .slice oa R.ms.length oc]) (by rw [hl]; rfl) hF)
            exact Tbl.keepC_nil
          case hp =>
            refine Tbl.table_stable _ ?_
            refine Tbl.stable_is ?_
            refine Tbl.stable_is ?_
            refine ⟨ptr_stable, ?_⟩
            refine ⟨ptr_stable, ?_⟩
            refine Tbl.stable_is ?_
            refine Tbl.stable_is ?_
            exact Tbl.stable_nil
          case hfin =>
            intro U w' hG hp
            try simp only [List.length_cons, List.length_nil, Nat.reduceAdd, Nat.zero_add] at hG
            have h9 : (PtrTo 63 wc.heap.size) (U 9) w' := hp 2 9 (by kernel_rfl)
            have h10 : (PtrTo 51 wc.heap.size) (U 10) w' := hp 3 10 (by kernel_rfl)
            have h45 : U 45 = _ := hp 0 45 (by kernel_rfl)
            have h46 : U 46 = _ := hp 1 46 (by kernel_rfl)
            clear hp
            simp only [Tbl.mixL_true, Tbl.mixL_false, Tbl.mixL_nil, Nat.reduceAdd, Nat.zero_add]
            generalize U 9 = u9 at *
            generalize U 10 = u10 at *
            rw [h45]
            rw [h46]
            clear h45
            clear h46
            obtain ⟨b9, rfl, hb9, row9, r9, l9⟩ := h9
            obtain ⟨b10, rfl, hb10, row10, r10, l10⟩ := h10
            have hgc : gx + 2 ≤ wc.heap.size := oR.lt
            have rA1 := rA.fr hG (fun h => h)
            have xR1 := xR.fr hG (fun h => h)
            have oR1 := oR.fr hG (fun h => h)
            have xM1 := xM.kp hG
            have oM1 := oM.kp hG
            have jO1 : w'.ownsRow (gx + 2) 48 1 u5 js.length (u64s js) := World.ownsRow.kept jO (fr_grown hG) (by cases hv : u5.ownBlock <;> simp)
            have kW1 := kW.trans hG
            have hba := rA.lt
            have hjw : ∀ b, u5.ownBlock = some b → b < wc.heap.size := fun b hb => (jO.lt b hb).2
            have hjb : ∀ b, u5.ownBlock = some b → gx + 2 ≤ b := fun b hb => (jO.lt b hb).1
            clear rA xR oR xM oM jO kW hG
            have hne : b9 ≠ b10 := fun e => by
              subst e
              have h1 := r9.symm.trans r10
              simp only [Option.some.injEq, Obj.cells.injEq] at h1
              exact absurd h1.2.1 (by decide)
            have ca := rA1.cell 0
            have cx := xR1.five
            have co := oR1.five
            obtain ⟨p, hp⟩ : ∃ p, p = stepF z0 R N := ⟨_, rfl⟩
            have hOk := hGd.ok (by omega)
            have rdr := fun w h => rdrain_any R (.slice xa R.ms.length xc) N w h hOk.len hOk.sorted (by have := hOk.epoch; omega)
            have odr := fun w h => drain_any R (.slice oa R.ms.length oc) N w h hOk.len hOk.sorted hOk.serials hN1 hN2 (by have := hOk.epoch; omega)
            have rrm := fun w h => rremove_any R (.slice xa R.ms.length xc) N w h hOk.len hOk.sorted (by have := hOk.epoch; omega)
            have orm := fun w h => remove_any R (.slice oa R.ms.length oc) N w h hOk.len hOk.sorted hOk.serials hN1 hN2 (by have := hOk.epoch; omega)
            have rad := fun w h => radd_any R (.slice xa R.ms.length xc) N w h hOk.len hOk.sorted (by have := hOk.epoch; omega) (by have := hOk.joins; omega)
            have oad := fun w h => add_any R (.slice oa R.ms.length oc) N w h hOk.len hOk.sorted hOk.serials hN1 hN2 (by have := hOk.epoch; omega) (by have := hOk.joins; omega)
            have rex := fun w h => rextend_any R (.slice xa R.ms.length xc) w h (by have := hOk.len; omega) (by have := hOk.epoch; omega) (by have := hOk.lease; omega)
            have oex := fun w h => extend_any R (.slice oa R.ms.length oc) w h (by have := hOk.len; omega) (by have := hOk.epoch; omega) (by have := hOk.lease; omega)
            have rfr := fun w h => rfresh_any R (.slice xa R.ms.length xc) w h (by have := hOk.len; omega) (by have := hOk.epoch; omega) (by have := hOk.cache.2; omega)
            have ofr := fun w h => fresh_any R (.slice oa R.ms.length oc) w h (by have := hOk.len; omega) (by have := hOk.epoch; omega) (by have := hOk.cache.2; omega)
            simp only [Ro.val] at rdr odr rrm orm rad oad rex oex rfr ofr
            have HP := Lib.hid hp
            go_upto_block 2 with fail
            go_cut [11, 12] (fun s11 s12 wx => s11 = .int .i64 (p.2 : Nat) ∧ s12 = .int .i64 (p.2 : Nat) ∧ HoldsT 63 103 wx b9 p.1 ∧ HoldsT 51 72 wx b10 p.1 ∧ Fr (fun k => k = b9 ∨ k = b10) w' wx)
            case first =>
              clear hG hE
              by_cases q1 : z0 = 1
              · have hp' : p = drainF R N := by rw [hp, stepF, if_pos q1]
                simp only [← hp'] at rdr odr
                clear hp hp' rrm orm rad oad rex oex rfr ofr HP
                subst q1
                go_wp2_with fail
                refine ((rdr) _ xM1 ).mono ?_
                rintro en w2 ⟨vx, rfl, mx, kx⟩
                simp only [Ro.val] at mx ⊢
                obtain ⟨ya, yc, rfl, _, _⟩ := mx.slice
                have s9 := r9.fr kx (fun h => h)
                have n9 := mx.ne s9 (by decide)
                go_wp2_with (with_reducible refine stop_store (x := Operand.tmp 9) 63 ?_)
                unfold Hid
                refine wpList_st _ _ _ _ s9 rfl rfl hi63 l9 rfl ?_
                intro w3 t9 k3
                unfold Hid
                have F3 : Fr (fun k => k = b9) w' w3 := (kx.mono (fun _ _ h => h.elim)).trans k3
                have mx3 := mx.fr k3 (fun b hb hs => n9 (hs ▸ hb))
                have o3 := oR1.fr F3 (fun h => by omega)
                have m3 := oM1.fr F3 (fun b hb hs => oM1.ne r9 (by decide) (hs ▸ hb))
                have s10 := r10.fr F3 (fun h => hne h.symm)
                have c3 := o3.five
                clear s9 mx kx k3
                go_wp2_with fail
                refine ((odr) _ m3 ).mono ?_
                rintro en w4 ⟨vo, rfl, mo, ko⟩
                simp only [Ro.val] at mo ⊢
                obtain ⟨za, zc, rfl, _, _⟩ := mo.slice
                have t10 := s10.fr ko (fun h => h)
                have n10 := mo.ne t10 (by decide)
                go_wp2_with (with_reducible refine stop_store (x := Operand.tmp 10) 51 ?_)
                unfold Hid
                refine wpList_st _ _ _ _ t10 rfl rfl hi51 l10 rfl ?_
                intro w5 t5 k5
                unfold Hid
                have F5 : Fr (fun k => k = b10) w3 w5 := (ko.mono (fun _ _ h => h.elim)).trans k5
                have Fall : Fr (fun k => k = b9 ∨ k = b10) w' w5 := (F3.mono (fun _ _ h => .inl h)).trans (F5.mono (fun _ _ h => .inr h))
                have X5 : HoldsT 63 103 w5 b9 p.1 := ⟨_, t9.fr F5 (fun h => hne h), mx3.fr F5 (fun b hb hs => mx3.ne (s10) (by decide) (hs ▸ hb))⟩
                have O5 : HoldsT 51 72 w5 b10 p.1 := ⟨_, t5, mo.fr k5 (fun b hb hs => n10 (hs ▸ hb))⟩
                clear c3 mo ko s10 t10 n10 F5 t5 k5 t9 mx3 o3 m3 F3
                go_wp2
                go_meet
                case rel => exact ⟨rfl, rfl, X5, O5, Fall⟩
              · by_cases q2 : z0 = 2
                · have hp' : p = removeF R N := by rw [hp, stepF, if_neg q1, if_pos q2]
                  simp only [← hp'] at rrm orm
                  clear hp hp' rdr odr rad oad rex oex rfr ofr HP q1
                  subst q2
                  go_wp2_with fail
                  refine ((rrm) _ xM1 ).mono ?_
                  rintro en w2 ⟨vx, rfl, mx, kx⟩
                  simp only [Ro.val] at mx ⊢
                  obtain ⟨ya, yc, rfl, _, _⟩ := mx.slice
                  have s9 := r9.fr kx (fun h => h)
                  have n9 := mx.ne s9 (by decide)
                  go_wp2_with (with_reducible refine stop_store (x := Operand.tmp 9) 63 ?_)
                  unfold Hid
                  refine wpList_st _ _ _ _ s9 rfl rfl hi63 l9 rfl ?_
                  intro w3 t9 k3
                  unfold Hid
                  have F3 : Fr (fun k => k = b9) w' w3 := (kx.mono (fun _ _ h => h.elim)).trans k3
                  have mx3 := mx.fr k3 (fun b hb hs => n9 (hs ▸ hb))
                  have o3 := oR1.fr F3 (fun h => by omega)
                  have m3 := oM1.fr F3 (fun b hb hs => oM1.ne r9 (by decide) (hs ▸ hb))
                  have s10 := r10.fr F3 (fun h => hne h.symm)
                  have c3 := o3.five
                  clear s9 mx kx k3
                  go_wp2_with fail
                  refine ((orm) _ m3 ).mono ?_
                  rintro en w4 ⟨vo, rfl, mo, ko⟩
                  simp only [Ro.val] at mo ⊢
                  obtain ⟨za, zc, rfl, _, _⟩ := mo.slice
                  have t10 := s10.fr ko (fun h => h)
                  have n10 := mo.ne t10 (by decide)
                  go_wp2_with (with_reducible refine stop_store (x := Operand.tmp 10) 51 ?_)
                  unfold Hid
                  refine wpList_st _ _ _ _ t10 rfl rfl hi51 l10 rfl ?_
                  intro w5 t5 k5
                  unfold Hid
                  have F5 : Fr (fun k => k = b10) w3 w5 := (ko.mono (fun _ _ h => h.elim)).trans k5
                  have Fall : Fr (fun k => k = b9 ∨ k = b10) w' w5 := (F3.mono (fun _ _ h => .inl h)).trans (F5.mono (fun _ _ h => .inr h))
                  have X5 : HoldsT 63 103 w5 b9 p.1 := ⟨_, t9.fr F5 (fun h => hne h), mx3.fr F5 (fun b hb hs => mx3.ne (s10) (by decide) (hs ▸ hb))⟩
                  have O5 : HoldsT 51 72 w5 b10 p.1 := ⟨_, t5, mo.fr k5 (fun b hb hs => n10 (hs ▸ hb))⟩
                  clear c3 mo ko s10 t10 n10 F5 t5 k5 t9 mx3 o3 m3 F3
                  go_wp2
                  go_meet
                  case rel => exact ⟨rfl, rfl, X5, O5, Fall⟩
                · by_cases q3 : z0 = 3
                  · have hp' : p = (extendF R, 0) := by rw [hp, stepF, if_neg q1, if_neg q2, if_pos q3]
                    subst hp'
                    clear hp rdr odr rrm orm rad oad rfr ofr HP q1 q2
                    subst q3
                    go_wp2_with fail
                    have x9 := xM1.ne r9 (by decide)
                    have x10 := xM1.ne r10 (by decide)
                    have o9 := oM1.ne r9 (by decide)
                    have o10 := oM1.ne r10 (by decide)
                    have T0 : Two b9 b10 (extendF R) w' 0 w'.drew := ⟨(Fr.refl _ _).drew, ⟨row9, r9, l9⟩, ⟨row10, r10, l10⟩, fun h => by omega, fun h => by omega⟩
                    apply (fun (c0 : Value) (c2 : Value) (c4 : Value) (c5 : Value) hm hok hf hfl hch hcl hp hrefl hg hk hfin => Tbl.wp_chain (Fr (fun i => i = b9 ∨ i = b10)) (Two b9 b10 (extendF R) w') [1, 3, 4, 5] [false, false, false, false, false, false, false, false, false, false, false, false, false, false, false, false, false, false, false, false, false, false, false, false, false, false, false, false, false, false, false, false, false, false, false, false, false, false, false, false, false, false, false, false, false, false, false, false, false, false, false, false, false, false, false, false, false, false, false, false, false, false, false, false, false, false, false, false, false, false, false, false, false, false, false, false, false, false, false, false, false, false, false, false, false, false, false, false, false, false, false, true, true, true, true, false, false, false, false, false, false, false, false, false, false, false, false, false, false, false, false, false, false, false, false, false, false, false, false, false, false, false, false, false, false, false, false, false, false, false, false, false, false, false, false, false, false, false, false, false, false, false, false, false, false, false, false, false, false, false, false, false, false, false, false, false, false, false, false, false, false, false, false, false] [Tbl.Is c0, RV 103 b9 b10 (extendF R), Tbl.Is c2, RV 72 b9 b10 (extendF R), Tbl.Is c4, Tbl.Is c5] hm hok hf hfl hch hcl hp hrefl hg hk hfin)
                    case hm => rfl
                    case hok => kernel_rfl
                    case hf => kernel_rfl
                    case hfl => rfl
                    case hch => kernel_rfl
                    case hcl => kernel_rfl
                    case hrefl =>
                      exact fun w => Fr.refl _ w
                    case hg =>
                      exact T0
                    case hk =>
                      refine Tbl.keepC_cons (c := none) (by kernel_rfl) ?_ ?_
                      · refine Tbl.keepC_no ?_
                        intro U w K kc hg hs hK
                        clear hs
                        simp only [Tbl.mixL_true, Tbl.mixL_false, Tbl.mixL_nil, Nat.reduceAdd, Nat.zero_add]
                        have d0 := (xR1.fr hg.1 (fun h => by omega)).five
                        go_simp
                        exact hK _ _ rfl hg (Fr.refl _ _)
                      refine Tbl.keepC_cons (c := some 0) (by kernel_rfl) ?_ ?_
                      · refine Tbl.keepC_at 0 ?_
                        intro U w K hg hs hK
                        have h91 : U 91 = _ := (hs 91 (by decide)).1 0 (by kernel_rfl) (by kernel_rfl)
                        clear hs
                        simp only [Tbl.mixL_true, Tbl.mixL_false, Tbl.mixL_nil, Nat.reduceAdd, Nat.zero_add]
                        go_simp
                        refine (rex _ (xM1.fr hg.1 (fun b hb hs => hs.elim (fun e => x9 (e ▸ hb)) (fun e => x10 (e ▸ hb))))).mono ?_
                        rintro en w2 ⟨vx, rfl, mx, kx⟩
                        have hT := hg.kp (k' := 1) kx (by omega)
                        obtain ⟨g9, y9, _⟩ := hT.2.1
                        obtain ⟨g10, y10, _⟩ := hT.2.2.1
                        have MX : RV 103 b9 b10 (extendF R) _ w2 := ⟨_, rfl, mx, Mem.ne mx y9 (by decide), Mem.ne mx y10 (by decide)⟩
                        exact hK _ _ MX hT (kx.mono (fun _ _ h => h.elim))
                      refine Tbl.keepC_cons (c := none) (by kernel_rfl) ?_ ?_
                      · refine Tbl.keepC_no ?_
                        intro U w K kc hg hs hK
                        clear hs
                        simp only [Tbl.mixL_true, Tbl.mixL_false, Tbl.mixL_nil, Nat.reduceAdd, Nat.zero_add]
                        have d0 := (oR1.fr hg.1 (fun h => by omega)).five
                        go_simp
                        exact hK _ _ rfl hg (Fr.refl _ _)
                      refine Tbl.keepC_cons (c := some 1) (by kernel_rfl) ?_ ?_
                      · refine Tbl.keepC_at 1 ?_
                        intro U w K hg hs hK
                        have h93 : U 93 = _ := (hs 93 (by decide)).1 2 (by kernel_rfl) (by kernel_rfl)
                        clear hs
                        simp only [Tbl.mixL_true, Tbl.mixL_false, Tbl.mixL_nil, Nat.reduceAdd, Nat.zero_add]
                        go_simp
                        refine (oex _ (oM1.fr hg.1 (fun b hb hs => hs.elim (fun e => o9 (e ▸ hb)) (fun e => o10 (e ▸ hb))))).mono ?_
                        rintro en w2 ⟨vx, rfl, mx, kx⟩
                        have hT := hg.kp (k' := 2) kx (by omega)
                        obtain ⟨g9, y9, _⟩ := hT.2.1
                        obtain ⟨g10, y10, _⟩ := hT.2.2.1
                        have MX : RV 72 b9 b10 (extendF R) _ w2 := ⟨_, rfl, mx, Mem.ne mx y9 (by decide), Mem.ne mx y10 (by decide)⟩
                        exact hK _ _ MX hT (kx.mono (fun _ _ h => h.elim))
                      refine Tbl.keepC_cons (c := some 2) (by kernel_rfl) ?_ ?_
                      · refine Tbl.keepC_at 2 ?_
                        intro U w K hg hs hK
                        have h92 : (RV 103 b9 b10 (extendF R)) (U 92) w := (hs 92 (by decide)).1 1 (by kernel_rfl) (by kernel_rfl)
                        clear hs
                        simp only [Tbl.mixL_true, Tbl.mixL_false, Tbl.mixL_nil, Nat.reduceAdd, Nat.zero_add]
                        obtain ⟨y, hy, hym, y9, y10⟩ := h92
                        obtain ⟨ya, yc, rfl, _, _⟩ := hym.slice
                        obtain ⟨g9, hr, hl⟩ := hg.2.1
                        rw [if_pos (by simp [Region.wanted])]
                        refine Tbl.gives_stR 63 (.tmp 9) (.tmp 92) rfl b9 _ rfl hy _ _ hr hi63 (by simpa using hl) (by simp [Value.oneCell']) ?_
                        have hF : ∀ cs, Fr (fun k => k = b9) w (w.setRow b9 cs) := fun cs => (Fr.refl (fun k => k = b9) w).setRow b9 (fun _ => rfl) _
                        exact hK _ _ rfl ⟨hg.1.trans ((hF _).mono (fun _ _ h => .inl h)), ⟨_, hr.over (Ro.row (extendF R) _), rfl⟩, hg.2.2.1.fr (hF _) (fun h => hne h.symm), fun _ => ⟨_, hr.over (Ro.row (extendF R) _), hym.fr (hF _) (fun b hb hs => y9 (hs ▸ hb))⟩, fun h => by omega⟩ ((hF _).mono (fun _ _ h => .inl h))
                      refine Tbl.keepC_cons (c := some 3) (by kernel_rfl) ?_ ?_
                      · refine Tbl.keepC_at 3 ?_
                        intro U w K hg hs hK
                        have h94 : (RV 72 b9 b10 (extendF R)) (U 94) w := (hs 94 (by decide)).1 3 (by kernel_rfl) (by kernel_rfl)
                        clear hs
                        simp only [Tbl.mixL_true, Tbl.mixL_false, Tbl.mixL_nil, Nat.reduceAdd, Nat.zero_add]
                        obtain ⟨y, hy, hym, y9, y10⟩ := h94
                        obtain ⟨ya, yc, rfl, _, _⟩ := hym.slice
                        obtain ⟨g10, hr, hl⟩ := hg.2.2.1
                        rw [if_pos (by simp [Region.wanted])]
                        refine Tbl.gives_stR 51 (.tmp 10) (.tmp 94) rfl b10 _ rfl hy _ _ hr hi51 (by simpa using hl) (by simp [Value.oneCell']) ?_
                        have hF : ∀ cs, Fr (fun k => k = b10) w (w.setRow b10 cs) := fun cs => (Fr.refl (fun k => k = b10) w).setRow b10 (fun _ => rfl) _
                        exact hK _ _ rfl ⟨hg.1.trans ((hF _).mono (fun _ _ h => .inr h)), hg.2.1.fr (hF _) hne, ⟨_, hr.over (Ro.row (extendF R) _), rfl⟩, fun _ => (hg.2.2.2.1 (by omega)).fr (hF _) hne (fun b hb => by subst hb; exact ⟨_, _, hr, by decide⟩), fun _ => ⟨_, hr.over (Ro.row (extendF R) _), hym.fr (hF _) (fun b hb hs => y10 (hs ▸ hb))⟩⟩ ((hF _).mono (fun _ _ h => .inr h))
                      exact Tbl.keepC_nil
                    case hp =>
                      refine Tbl.table_stable _ ?_
                      refine Tbl.stable_is ?_
                      refine ⟨rv_stable, ?_⟩
                      refine Tbl.stable_is ?_
                      refine ⟨rv_stable, ?_⟩
                      refine Tbl.stable_is ?_
                      refine Tbl.stable_is ?_
                      exact Tbl.stable_nil
                    case hfin =>
                      intro U w' hG hp
                      try simp only [List.length_cons, List.length_nil, Nat.reduceAdd, Nat.zero_add] at hG
                      have h91 : U 91 = _ := hp 0 91 (by kernel_rfl)
                      have h92 : (RV 103 b9 b10 (extendF R)) (U 92) w' := hp 1 92 (by kernel_rfl)
                      have h93 : U 93 = _ := hp 2 93 (by kernel_rfl)
                      have h94 : (RV 72 b9 b10 (extendF R)) (U 94) w' := hp 3 94 (by kernel_rfl)
                      clear hp
                      simp only [Tbl.mixL_true, Tbl.mixL_false, Tbl.mixL_nil, Nat.reduceAdd, Nat.zero_add]
                      rw [h91]
                      generalize U 92 = u92 at *
                      rw [h93]
                      generalize U 94 = u94 at *
                      clear h91
                      clear h93
                      obtain ⟨hGf, hG1, hG2, hG3, hG4⟩ := hG
                      go_wp2
                      go_meet
                      case rel => exact ⟨rfl, rfl, hG3 (by omega), hG4 (by omega), hGf⟩
                  · by_cases q4 : z0 = 4
                    · have hp' : p = (freshF R, 0) := by rw [hp, stepF, if_neg q1, if_neg q2, if_neg q3, if_pos q4]
                      subst hp'
                      clear hp rdr odr rrm orm rad oad rex oex HP q1 q2 q3
                      subst q4
                      go_wp2_with fail
                      have x9 := xM1.ne r9 (by decide)
                      have x10 := xM1.ne r10 (by decide)
                      have o9 := oM1.ne r9 (by decide)
                      have o10 := oM1.ne r10 (by decide)
                      have T0 : Two b9 b10 (freshF R) w' 0 w'.drew := ⟨(Fr.refl _ _).drew, ⟨row9, r9, l9⟩, ⟨row10, r10, l10⟩, fun h => by omega, fun h => by omega⟩
                      apply (fun (c0 : Value) (c2 : Value) (c4 : Value) (c5 : Value) hm hok hf hfl hch hcl hp hrefl hg hk hfin => Tbl.wp_chain (Fr (fun i => i = b9 ∨ i = b10)) (Two b9 b10 (freshF R) w') [1, 3, 4, 5] [false, false, false, false, false, false, false, false, false, false, false, false, false, false, false, false, false, false, false, false, false, false, false, false, false, false, false, false, false, false, false, false, false, false, false, false, false, false, false, false, false, false, false, false, false, false, false, false, false, false, false, false, false, false, false, false, false, false, false, false, false, false, false, false, false, false, false, false, false, false, false, false, false, false, false, false, false, false, false, false, false, false, false, false, false, false, false, false, false, false, false, false, false, false, false, false, false, true, true, true, true, false, false, false, false, false, false, false, false, false, false, false, false, false, false, false, false, false, false, false, false, false, false, false, false, false, false, false, false, false, false, false, false, false, false, false, false, false, false, false, false, false, false, false, false, false, false, false, false, false, false, false, false, false, false, false, false, false, false, false, false, false, false, false] [Tbl.Is c0, RV 103 b9 b10 (freshF R), Tbl.Is c2, RV 72 b9 b10 (freshF R), Tbl.Is c4, Tbl.Is c5] hm hok hf hfl hch hcl hp hrefl hg hk hfin)
                      case hm => rfl
                      case hok => kernel_rfl
                      case hf => kernel_rfl
                      case hfl => rfl
                      case hch => kernel_rfl
                      case hcl => kernel_rfl
                      case hrefl =>
                        exact fun w => Fr.refl _ w
                      case hg =>
                        exact T0
                      case hk =>
                        refine Tbl.keepC_cons (c := none) (by kernel_rfl) ?_ ?_
                        · refine Tbl.keepC_no ?_
                          intro U w K kc hg hs hK
                          clear hs
                          simp only [Tbl.mixL_true, Tbl.mixL_false, Tbl.mixL_nil, Nat.reduceAdd, Nat.zero_add]
                          have d0 := (xR1.fr hg.1 (fun h => by omega)).five
                          go_simp
                          exact hK _ _ rfl hg (Fr.refl _ _)
                        refine Tbl.keepC_cons (c := some 0) (by kernel_rfl) ?_ ?_
                        · refine Tbl.keepC_at 0 ?_
                          intro U w K hg hs hK
                          have h97 : U 97 = _ := (hs 97 (by decide)).1 0 (by kernel_rfl) (by kernel_rfl)
                          clear hs
                          simp only [Tbl.mixL_true, Tbl.mixL_false, Tbl.mixL_nil, Nat.reduceAdd, Nat.zero_add]
                          go_simp
                          refine (rfr _ (xM1.fr hg.1 (fun b hb hs => hs.elim (fun e => x9 (e ▸ hb)) (fun e => x10 (e ▸ hb))))).mono ?_
                          rintro en w2 ⟨rfl, kx⟩
                          have hT := hg.kp (k' := 1) kx (by omega)
                          obtain ⟨g9, y9, _⟩ := hT.2.1
                          obtain ⟨g10, y10, _⟩ := hT.2.2.1
                          have MX : RV 103 b9 b10 (freshF R) _ w2 := ⟨_, rfl, Mem.nil _ _, by simp [Value.ownBlock], by simp [Value.ownBlock]⟩
                          exact hK _ _ MX hT (kx.mono (fun _ _ h => h.elim))
                        refine Tbl.keepC_cons (c := none) (by kernel_rfl) ?_ ?_
                        · refine Tbl.keepC_no ?_
                          intro U w K kc hg hs hK
                          clear hs
                          simp only [Tbl.mixL_true, Tbl.mixL_false, Tbl.mixL_nil, Nat.reduceAdd, Nat.zero_add]
                          have d0 := (oR1.fr hg.1 (fun h => by omega)).five
                          go_simp
                          exact hK _ _ rfl hg (Fr.refl _ _)
                        refine Tbl.keepC_cons (c := some 1) (by kernel_rfl) ?_ ?_
                        · refine Tbl.keepC_at 1 ?_
                          intro U w K hg hs hK
                          have h99 : U 99 = _ := (hs 99 (by decide)).1 2 (by kernel_rfl) (by kernel_rfl)
                          clear hs
                          simp only [Tbl.mixL_true, Tbl.mixL_false, Tbl.mixL_nil, Nat.reduceAdd, Nat.zero_add]
                          go_simp
                          refine (ofr _ (oM1.fr hg.1 (fun b hb hs => hs.elim (fun e => o9 (e ▸ hb)) (fun e => o10 (e ▸ hb))))).mono ?_
                          rintro en w2 ⟨rfl, kx⟩
                          have hT := hg.kp (k' := 2) kx (by omega)
                          obtain ⟨g9, y9, _⟩ := hT.2.1
                          obtain ⟨g10, y10, _⟩ := hT.2.2.1
                          have MX : RV 72 b9 b10 (freshF R) _ w2 := ⟨_, rfl, Mem.nil _ _, by simp [Value.ownBlock], by simp [Value.ownBlock]⟩
                          exact hK _ _ MX hT (kx.mono (fun _ _ h => h.elim))
                        refine Tbl.keepC_cons (c := some 2) (by kernel_rfl) ?_ ?_
                        · refine Tbl.keepC_at 2 ?_
                          intro U w K hg hs hK
                          have h98 : (RV 103 b9 b10 (freshF R)) (U 98) w := (hs 98 (by decide)).1 1 (by kernel_rfl) (by kernel_rfl)
                          clear hs
                          simp only [Tbl.mixL_true, Tbl.mixL_false, Tbl.mixL_nil, Nat.reduceAdd, Nat.zero_add]
                          obtain ⟨y, hy, hym, y9, y10⟩ := h98
                          obtain ⟨ya, yc, rfl, _, _⟩ := hym.slice
                          obtain ⟨g9, hr, hl⟩ := hg.2.1
                          rw [if_pos (by simp [Region.wanted])]
                          refine Tbl.gives_stR 63 (.tmp 9) (.tmp 98) rfl b9 _ rfl hy _ _ hr hi63 (by simpa using hl) (by simp [Value.oneCell']) ?_
                          have hF : ∀ cs, Fr (fun k => k = b9) w (w.setRow b9 cs) := fun cs => (Fr.refl (fun k => k = b9) w).setRow b9 (fun _ => rfl) _
                          exact hK _ _ rfl ⟨hg.1.trans ((hF _).mono (fun _ _ h => .inl h)), ⟨_, hr.over (Ro.row (freshF R) _), rfl⟩, hg.2.2.1.fr (hF _) (fun h => hne h.symm), fun _ => ⟨_, hr.over (Ro.row (freshF R) _), hym.fr (hF _) (fun b hb hs => y9 (hs ▸ hb))⟩, fun h => by omega⟩ ((hF _).mono (fun _ _ h => .inl h))
                        refine Tbl.keepC_cons (c := some 3) (by kernel_rfl) ?_ ?_
                        · refine Tbl.keepC_at 3 ?_
                          intro U w K hg hs hK
                          have h100 : (RV 72 b9 b10 (freshF R)) (U 100) w := (hs 100 (by decide)).1 3 (by kernel_rfl) (by kernel_rfl)
                          clear hs
                          simp only [Tbl.mixL_true, Tbl.mixL_false, Tbl.mixL_nil, Nat.reduceAdd, Nat.zero_add]
                          obtain ⟨y, hy, hym, y9, y10⟩ := h100
                          obtain ⟨ya, yc, rfl, _, _⟩ := hym.slice
                          obtain ⟨g10, hr, hl⟩ := hg.2.2.1
                          rw [if_pos (by simp [Region.wanted])]
                          refine Tbl.gives_stR 51 (.tmp 10) (.tmp 100) rfl b10 _ rfl hy _ _ hr hi51 (by simpa using hl) (by simp [Value.oneCell']) ?_
                          have hF : ∀ cs, Fr (fun k => k = b10) w (w.setRow b10 cs) := fun cs => (Fr.refl (fun k => k = b10) w).setRow b10 (fun _ => rfl) _
                          exact hK _ _ rfl ⟨hg.1.trans ((hF _).mono (fun _ _ h => .inr h)), hg.2.1.fr (hF _) hne, ⟨_, hr.over (Ro.row (freshF R) _), rfl⟩, fun _ => (hg.2.2.2.1 (by omega)).fr (hF _) hne (fun b hb => by subst hb; exact ⟨_, _, hr, by decide⟩), fun _ => ⟨_, hr.over (Ro.row (freshF R) _), hym.fr (hF _) (fun b hb hs => y10 (hs ▸ hb))⟩⟩ ((hF _).mono (fun _ _ h => .inr h))
                        exact Tbl.keepC_nil
                      case hp =>
                        refine Tbl.table_stable _ ?_
                        refine Tbl.stable_is ?_
                        refine ⟨rv_stable, ?_⟩
                        refine Tbl.stable_is ?_
                        refine ⟨rv_stable, ?_⟩
                        refine Tbl.stable_is ?_
                        refine Tbl.stable_is ?_
                        exact Tbl.stable_nil
                      case hfin =>
                        intro U w' hG hp
                        try simp only [List.length_cons, List.length_nil, Nat.reduceAdd, Nat.zero_add] at hG
                        have h97 : U 97 = _ := hp 0 97 (by kernel_rfl)
                        have h98 : (RV 103 b9 b10 (freshF R)) (U 98) w' := hp 1 98 (by kernel_rfl)
                        have h99 : U 99 = _ := hp 2 99 (by kernel_rfl)
                        have h100 : (RV 72 b9 b10 (freshF R)) (U 100) w' := hp 3 100 (by kernel_rfl)
                        clear hp
                        simp only [Tbl.mixL_true, Tbl.mixL_false, Tbl.mixL_nil, Nat.reduceAdd, Nat.zero_add]
                        rw [h97]
                        generalize U 98 = u98 at *
                        rw [h99]
                        generalize U 100 = u100 at *
                        clear h97
                        clear h99
                        obtain ⟨hGf, hG1, hG2, hG3, hG4⟩ := hG
                        go_wp2
                        go_meet
                        case rel => exact ⟨rfl, rfl, hG3 (by omega), hG4 (by omega), hGf⟩
                    · have hp' : p = addF R N := by rw [hp, stepF, if_neg q1, if_neg q2, if_neg q3, if_neg q4]
                      simp only [← hp'] at rad oad
                      clear hp hp' rdr odr rrm orm rex oex rfr ofr HP
                      go_wp2_with fail
                      refine ((rad) _ xM1 ).mono ?_
                      rintro en w2 ⟨vx, rfl, mx, kx⟩
                      simp only [Ro.val] at mx ⊢
                      obtain ⟨ya, yc, rfl, _, _⟩ := mx.slice
                      have s9 := r9.fr kx (fun h => h)
                      have n9 := mx.ne s9 (by decide)
                      go_wp2_with (with_reducible refine stop_store (x := Operand.tmp 9) 63 ?_)
                      unfold Hid
                      refine wpList_st _ _ _ _ s9 rfl rfl hi63 l9 rfl ?_
                      intro w3 t9 k3
                      unfold Hid
                      have F3 : Fr (fun k => k = b9) w' w3 := (kx.mono (fun _ _ h => h.elim)).trans k3
                      have mx3 := mx.fr k3 (fun b hb hs => n9 (hs ▸ hb))
                      have o3 := oR1.fr F3 (fun h => by omega)
                      have m3 := oM1.fr F3 (fun b hb hs => oM1.ne r9 (by decide) (hs ▸ hb))
                      have s10 := r10.fr F3 (fun h => hne h.symm)
                      have c3 := o3.five
                      clear s9 mx kx k3
                      go_wp2_with fail
                      refine ((oad) _ m3 ).mono ?_
                      rintro en w4 ⟨vo, rfl, mo, ko⟩
                      simp only [Ro.val] at mo ⊢
                      obtain ⟨za, zc, rfl, _, _⟩ := mo.slice
                      have t10 := s10.fr ko (fun h => h)
                      have n10 := mo.ne t10 (by decide)
                      go_wp2_with (with_reducible refine stop_store (x := Operand.tmp 10) 51 ?_)
                      unfold Hid
                      refine wpList_st _ _ _ _ t10 rfl rfl hi51 l10 rfl ?_
                      intro w5 t5 k5
                      unfold Hid
                      have F5 : Fr (fun k => k = b10) w3 w5 := (ko.mono (fun _ _ h => h.elim)).trans k5
                      have Fall : Fr (fun k => k = b9 ∨ k = b10) w' w5 := (F3.mono (fun _ _ h => .inl h)).trans (F5.mono (fun _ _ h => .inr h))
                      have X5 : HoldsT 63 103 w5 b9 p.1 := ⟨_, t9.fr F5 (fun h => hne h), mx3.fr F5 (fun b hb hs => mx3.ne (s10) (by decide) (hs ▸ hb))⟩
                      have O5 : HoldsT 51 72 w5 b10 p.1 := ⟨_, t5, mo.fr k5 (fun b hb hs => n10 (hs ▸ hb))⟩
                      clear c3 mo ko s10 t10 n10 F5 t5 k5 t9 mx3 o3 m3 F3
                      go_wp2
                      go_meet
                      case rel => exact ⟨rfl, rfl, X5, O5, Fall⟩
            
            case rest =>
              obtain ⟨rfl, rfl, ⟨y, yr, ym⟩, ⟨z, zr, zm⟩, hF⟩ := hcut
              clear rdr odr rrm orm rad oad rex oex rfr ofr cx co hp
              have hz := fun h => step_zero (z0 := z0) (R := R) (N := N) h
              have hpl : p.1.ms.length ≤ 1000 := by
                by_cases h0 : p.2 = 0
                · have := (step_good hGd z0 N (by rw [← HP.out]; exact h0)).1.len
                  rw [← HP.out] at this; omega
                · have := hz (by rw [← HP.out]; exact h0)
                  rw [← HP.out] at this; rw [this]; exact Nat.zero_le _
              clear hz
              have xR2 := xR1.fr hF (fun h => by omega)
              have oR2 := oR1.fr hF (fun h => by omega)
              have xM2 := xM1.fr hF (fun b hb hs => hs.elim (fun e => xM1.ne r9 (by decide) (e ▸ hb)) (fun e => xM1.ne r10 (by decide) (e ▸ hb)))
              have oM2 := oM1.fr hF (fun b hb hs => hs.elim (fun e => oM1.ne r9 (by decide) (e ▸ hb)) (fun e => oM1.ne r10 (by decide) (e ▸ hb)))
              have rA2 := rA1.fr hF (fun h => by omega)
              have jO2 := own_fr jO1 hF (fun b hb hs => by have := hjw b hb; omega)
              have kW2 : Kp w wc := kW1.trans' hF (fun i hi hs => by omega)
              clear xR1 oR1 xM1 oM1 rA1 jO1 kW1 r9 r10 hF ca
              obtain ⟨ya, yc, rfl, _, _⟩ := ym.slice
              obtain ⟨za, zc, rfl, _, _⟩ := zm.slice
              have sm1 := fun w h h' => same_any p.1 (.slice za p.1.ms.length zc) (.slice ya p.1.ms.length yc) w h h' hpl
              have sm2 := fun w h h' => same_any R (.slice oa R.ms.length oc) (.slice xa R.ms.length xc) w h h' (by have := hOk.len; omega)
              simp only [Ro.val] at sm1 sm2
              have cy := yr.five
              have cz := zr.five
              go_wp2_with fail
              refine (sm1 _ zm ym).mono ?_
              rintro en w2 ⟨rfl, k2⟩
              have cx := (xR2.fr k2 (fun h => h)).five
              have co := (oR2.fr k2 (fun h => h)).five
              go_wp2_with fail
              refine (sm2 _ (oM2.kp k2) (xM2.kp k2)).mono ?_
              rintro en w3 ⟨rfl, k3⟩
              have k23 := k2.trans k3
              have xR3 := xR2.fr k23 (fun h => h)
              have oR3 := oR2.fr k23 (fun h => h)
              have xM3 := xM2.kp k23
              have oM3 := oM2.kp k23
              have rA3 := rA2.fr k23 (fun h => h)
              have jO3 := own_fr jO2 k23 (fun b hb hs => hs)
              have kW3 := kW2.trans k23
              have yr3 := yr.fr k23 (fun h => h)
              have zr3 := zr.fr k23 (fun h => h)
              have ym3 := ym.kp k23
              have zm3 := zm.kp k23
              clear cy cz cx co sm1 sm2 k2 k3 k23 xR2 oR2 xM2 oM2 rA2 jO2 kW2 yr zr ym zm
              by_cases h0 : p.2 = 0
              · have h0' : (p.2 : Int) = 0 := by omega
                obtain ⟨g1, g2, g3⟩ := step_good hGd z0 N (by rw [← HP.out]; exact h0)
                rw [← HP.out] at g1 g2 g3
                have G1 := Lib.hid g1
                have G3 := Lib.hid g3
                clear g1 g3
                go_wp2_with fail
                have yx := ym3.ne xR3 (by decide)
                have yo := ym3.ne oR3 (by decide)
                have zx := zm3.ne xR3 (by decide)
                have zo := zm3.ne oR3 (by decide)
                have P0 : Put2 gx p.1 w3 0 w3.drew := ⟨(Fr.refl _ _).drew, ⟨_, xR3, rfl⟩, ⟨_, oR3, rfl⟩, fun h => by omega, fun h => by omega⟩
                clear HP
                apply (fun (c0 : Value) (c1 : Value) (c2 : Value) (c3 : Value) hm hok hf hfl hch hcl hp hrefl hg hk hfin => Tbl.wp_chain (fun _ _ => True) (Put2 gx p.1 w3) [2, 3] [false, false, false, false, false, false, false, false, false, false, false, false, false, false, false, false, false, false, false, false, false, false, false, false, false, false, false, false, false, false, false, false, false, false, false, false, false, false, false, false, false, false, false, false, false, false, false, false, false, false, false, false, false, false, false, false, false, false, false, false, false, false, false, false, false, false, false, false, false, false, false, false, false, false, false, false, false, false, false, false, false, false, false, false, false, false, false, false, false, false, false, false, false, false, false, false, false, false, false, false, false, false, false, false, false, false, false, false, false, false, false, false, false, false, false, false, false, false, true, true, false, false, false, false, false, false, false, false, false, false, false, false, false, false, false, false, false, false, false, false, false, false, false, false, false, false, false, false, false, false, false, false, false, false, false, false, false, false, false, false, false, false, false, false] [Tbl.Is c0, Tbl.Is c1, Tbl.Is c2, Tbl.Is c3] hm hok hf hfl hch hcl hp hrefl hg hk hfin)
                case hm => rfl
                case hok => kernel_rfl
                case hf => kernel_rfl
                case hfl => rfl
                case hch => kernel_rfl
                case hcl => kernel_rfl
                case hrefl =>
                  exact fun _ => trivial
                case hg =>
                  exact P0
                case hk =>
                  refine Tbl.keepC_cons (c := none) (by kernel_rfl) ?_ ?_
                  · refine Tbl.keepC_no ?_
                    intro U w K kc hg hs hK
                    clear hs
                    simp only [Tbl.mixL_true, Tbl.mixL_false, Tbl.mixL_nil, Nat.reduceAdd, Nat.zero_add]
                    have d0 := (yr3.fr hg.1 (fun h => by omega)).five
                    go_simp
                    exact hK _ _ rfl hg (trivial)
                  refine Tbl.keepC_cons (c := none) (by kernel_rfl) ?_ ?_
                  · refine Tbl.keepC_no ?_
                    intro U w K kc hg hs hK
                    clear hs
                    simp only [Tbl.mixL_true, Tbl.mixL_false, Tbl.mixL_nil, Nat.reduceAdd, Nat.zero_add]
                    have d0 := (zr3.fr hg.1 (fun h => by omega)).five
                    go_simp
                    exact hK _ _ rfl hg (trivial)
                  refine Tbl.keepC_cons (c := some 0) (by kernel_rfl) ?_ ?_
                  · refine Tbl.keepC_at 0 ?_
                    intro U w K hg hs hK
                    have h118 : U 118 = _ := (hs 118 (by decide)).1 0 (by kernel_rfl) (by kernel_rfl)
                    clear hs
                    simp only [Tbl.mixL_true, Tbl.mixL_false, Tbl.mixL_nil, Nat.reduceAdd, Nat.zero_add]
                    obtain ⟨g9, hr, hl⟩ := hg.2.1
                    rw [if_pos (by simp [Region.wanted])]
                    have hm := ym3.fr hg.1 (fun b hb hs => hs.elim (fun e => yx (e ▸ hb)) (fun e => yo (e ▸ hb)))
                    refine Tbl.gives_stR 63 (.tmp 3) (.tmp 118) rfl gx _ rfl h118 _ _ hr hi63 (by simpa using hl) (by simp [Value.oneCell']) ?_
                    have hF : ∀ cs, Fr (fun k => k = gx) w (w.setRow gx cs) := fun cs => (Fr.refl (fun k => k = gx) w).setRow gx (fun _ => rfl) _
                    exact hK _ _ rfl ⟨hg.1.trans ((hF _).mono (fun _ _ h => .inl h)), ⟨_, hr.over (Ro.row p.1 _), rfl⟩, hg.2.2.1.fr (hF _) (by omega), fun _ => ⟨_, hr.over (Ro.row p.1 _), hm.fr (hF _) (fun b hb hs => yx (hs ▸ hb))⟩, fun h => by omega⟩ trivial
                  refine Tbl.keepC_cons (c := some 1) (by kernel_rfl) ?_ ?_
                  · refine Tbl.keepC_at 1 ?_
                    intro U w K hg hs hK
                    have h119 : U 119 = _ := (hs 119 (by decide)).1 1 (by kernel_rfl) (by kernel_rfl)
                    clear hs
                    simp only [Tbl.mixL_true, Tbl.mixL_false, Tbl.mixL_nil, Nat.reduceAdd, Nat.zero_add]
                    obtain ⟨g9, hr, hl⟩ := hg.2.2.1
                    rw [if_pos (by simp [Region.wanted])]
                    have hm := zm3.fr hg.1 (fun b hb hs => hs.elim (fun e => zx (e ▸ hb)) (fun e => zo (e ▸ hb)))
                    refine Tbl.gives_stR 51 (.tmp 4) (.tmp 119) rfl (gx + 1) _ rfl h119 _ _ hr hi51 (by simpa using hl) (by simp [Value.oneCell']) ?_
                    have hF : ∀ cs, Fr (fun k => k = gx + 1) w (w.setRow (gx + 1) cs) := fun cs => (Fr.refl (fun k => k = gx + 1) w).setRow (gx + 1) (fun _ => rfl) _
                    exact hK _ _ rfl ⟨hg.1.trans ((hF _).mono (fun _ _ h => .inr h)), hg.2.1.fr (hF _) (by omega), ⟨_, hr.over (Ro.row p.1 _), rfl⟩, fun _ => (hg.2.2.2.1 (by omega)).fr (hF _) (by omega) (fun b hb => by subst hb; exact ⟨_, _, hr, by decide⟩), fun _ => ⟨_, hr.over (Ro.row p.1 _), hm.fr (hF _) (fun b hb hs => zo (hs ▸ hb))⟩⟩ trivial
                  exact Tbl.keepC_nil
                case hp =>
                  refine Tbl.table_stable _ ?_
                  refine Tbl.stable_is ?_
                  refine Tbl.stable_is ?_
                  refine Tbl.stable_is ?_
                  refine Tbl.stable_is ?_
                  exact Tbl.stable_nil
                case hfin =>
                  intro U w' hG hp
                  try simp only [List.length_cons, List.length_nil, Nat.reduceAdd, Nat.zero_add] at hG
                  have h118 : U 118 = _ := hp 0 118 (by kernel_rfl)
                  have h119 : U 119 = _ := hp 1 119 (by kernel_rfl)
                  clear hp
                  simp only [Tbl.mixL_true, Tbl.mixL_false, Tbl.mixL_nil, Nat.reduceAdd, Nat.zero_add]
                  rw [h118]
                  rw [h119]
                  clear h118
                  clear h119
                  obtain ⟨hGf, _, _, hX, hO⟩ := hG
                  obtain ⟨yy, xr, xm⟩ := hX (by omega)
                  obtain ⟨zz, or', om⟩ := hO (by omega)
                  have rA4 := rA3.fr hGf (fun h => by omega)
                  have jO4 := own_fr jO3 hGf (fun b hb hs => by have := hjb b hb; omega)
                  have kW4 := kW3.trans' hGf (fun i hi hs => by omega)
                  clear hX hO hGf P0 yx yo zx zo yr3 zr3 ym3 zm3 xR3 oR3 xM3 oM3 rA3 jO3 kW3
                  have hOk4 := G1.out.ok (by omega)
                  have ck := check_ok p.1 zz w' om hOk4
                  have lk := fun w h h' => looks_any p.1 zz yy w h h' hOk4
                  have fd := fun w h => find_any p.1 zz N w h (by have := hOk4.len; omega) hOk4.sorted hOk4.serials hN1 hN2
                  simp only [Ro.val] at ck lk fd
                  obtain ⟨ya', yc', rfl, _, _⟩ := xm.slice
                  obtain ⟨za', zc', rfl, _, _⟩ := om.slice
                  have co := or'.five
                  go_wp2_with fail
                  refine ck.mono ?_
                  rintro en w5 ⟨rfl, k5⟩
                  clear co ck
                  have co := (or'.fr k5 (fun h => h)).five
                  have cx := (xr.fr k5 (fun h => h)).five
                  go_wp2_with fail
                  refine (lk _ (om.kp k5) (xm.kp k5)).mono ?_
                  rintro en w6 ⟨rfl, k6⟩
                  clear co cx lk
                  have k56 := k5.trans k6
                  have co := (or'.fr k56 (fun h => h)).five
                  go_wp2_with fail
                  refine (fd _ (om.kp k56)).mono ?_
                  rintro en w7 ⟨hfd, k7⟩
                  have k57 := k56.trans k7
                  have xr7 := xr.fr k57 (fun h => h)
                  have or7 := or'.fr k57 (fun h => h)
                  have xm7 := xm.kp k57
                  have om7 := om.kp k57
                  have rA7 := rA4.fr k57 (fun h => h)
                  have jO7 := own_fr jO4 k57 (fun b hb hs => hs)
                  have kW7 := kW4.trans k57
                  clear co fd k5 k6 k7 k56 k57 xr or' xm om rA4 jO4 kW4
                  have hjle' : ∀ j ∈ js, j ≤ p.1.joins := fun j hj => Nat.le_trans (hjle j hj) g2
                  rcases hfd with ⟨k, hk, hkn, rfl⟩ | ⟨hno, rfl⟩
                  · have HKN := Lib.hid hkn
                    clear hkn
                    simp only [Mb.val]
                    have ca := rA7.cell 0
                    have hb7 := rA7.lt
                    by_cases hz0 : z0 = 0
                    · subst hz0
                      obtain ⟨j1, k', hk', e1, e2⟩ := G3.out rfl
                      have hkk : k' = k := (pos_of hOk4.sorted hk' e1).symm.trans (pos_of hOk4.sorted hk HKN.out)
                      subst hkk
                      have hJ : p.1.ms[k'].join = R.joins + 1 := e2
                      clear e1 e2 HKN
                      generalize p.1.ms[k'] = mm at *
                      obtain ⟨s, J, st⟩ := mm
                      simp only at hJ ⊢
                      have HJ := Lib.hid hJ
                      have hJ2 : ∀ j ∈ js, j < J := fun j hj => by have := hjle j hj; omega
                      have hJ3 : J ≤ p.1.joins := by omega
                      clear hJ j1
                      obtain ⟨a5, c5, rfl, hc5, hm5, g5⟩ := own_slice jO7
                      go_wp2_with fail
                      refine codeAt ?_
                      intro W8 hW8
                      obtain ⟨b13, hb13⟩ : ∃ b13, b13 = w7.heap.size := ⟨_, rfl⟩
                      rw [← hb13]
                      have q13 : Row W8 b13 72 [.int .i64 s, .int .u64 J, .int .i64 st] := by rw [hb13, hW8]; exact Row.new w7 _ _
                      have kk8 : Kp w7 W8 := by rw [hW8]; exact (Fr.refl _ w7).alloc _
                      have xr8 := xr7.fr kk8 (fun h => h)
                      have or8 := or7.fr kk8 (fun h => h)
                      have xm8 := xm7.kp kk8
                      have om8 := om7.kp kk8
                      have jO8 := own_fr jO7 kk8 (fun b hb hs => hs)
                      have kW8 := kW7.trans kk8
                      clear hW8 hb13 kk8 xr7 or7 xm7 om7 rA7 jO7 kW7 ca hb7 hc5 hm5 g5 w7
                      go_loopw [150] (fun qv wx => ∃ q : Nat, q ≤ js.length ∧ qv = .int .i64 q ∧ wx = W8) (fun qv _ => js.length - (intOf qv).toNat)
                      case atStart => exact ⟨0, Nat.zero_le _, rfl, rfl⟩
                      case round =>
                        obtain ⟨q, hq, rfl, hww⟩ := hrel
                        subst hww
                        obtain ⟨i0, hi0, hz0, hzs, hzb⟩ := info_parts infoU64
                        by_cases hql : q < js.length
                        · obtain ⟨a6, c6, he, _, _, g6⟩ := own_slice jO8
                          simp only [Value.slice.injEq] at he
                          obtain ⟨rfl, -, rfl⟩ := he
                          obtain ⟨b6, rfl, hb6, hc6⟩ := g6 q (.int .u64 (js[q] : Nat)) (by simp [u64s, hql])
                          clear g6
                          have z1' : (0 : Int) ≤ (q : Int) := by omega
                          have z2' : (q : Int) < (js.length : Int) := by omega
                          have z3' : (js[q] : Int) < (J : Int) := by have := hJ2 js[q] (List.getElem_mem hql); omega
                          have d13 := q13.three
                          generalize js[q] = jq at *
                          go_wp2
                          exact ⟨⟨q + 1, by omega, rfl, by trivial⟩, by simp [intOf]; omega⟩
                        · have hql' : (js.length : Int) ≤ (q : Int) := by omega
                          have d13 := q13.three
                          have hmm : js.length + 1 ≤ maxLen := by unfold maxLen; omega
                          go_wp2_with (at_builtin; refine Hid.out ?_)
                          unfold Hid
                          refine wpList_append_own _ rfl _ _ 64 rfl (gx + 2) 48 i0 _ 1 8 Try.underlying64 hi0 hz0 hzs hzb rfl (by decide) _ js.length (u64s js) rfl (jO8.alloc _)
                            ⟨wr.heap.size, 0, none⟩ 1 1 [.int .u64 J] rfl rfl one_new (fun u hu => by simp at hu; subst hu; rfl) hmm (by omega) (by have := or8.lt; simp; omega) ?_
                          intro v' w9 ho hg9 _
                          have F9 : Fr (fun b => (Value.slice a5 js.length c5).ownBlock = some b) wr w9 := ((Fr.refl _ wr).alloc _).trans ((grown_fr hg9).mono (fun b hb hs => hs.symm))
                          have ox := xm8.ne xr8 (by decide)
                          go_wp2
                          refine ⟨⟨i + 1, p.1, js ++ [J], by omega, by omega, rfl, ⟨_, xr8.fr F9 (fun h => by have := hjb _ h; omega), xm8.fr F9 (fun b hb hs => ?_)⟩, ⟨_, or8.fr F9 (fun h => by have := hjb _ h; omega), om8.fr F9 (fun b hb hs => ?_)⟩, G1.out, ?_, by rw [List.length_append]; simp; omega, ?_, kW8.trans' F9 (fun b hb hs => by have := hjb _ hs; omega)⟩, by simp [intOf]; omega⟩
                          · obtain ⟨rw5, hr5⟩ := own_row jO8 hs
                            exact xm8.ne hr5 (by decide) hb
                          · obtain ⟨rw5, hr5⟩ := own_row jO8 hs
                            exact om8.ne hr5 (by decide) hb
                          · rw [List.length_append, u64s, List.map_append]; exact ho
                          · intro j hj
                            rcases List.mem_append.1 hj with hj | hj
                            · exact hjle' j hj
                            · simp at hj; subst hj; exact hJ3
                    · go_wp2
                      exact ⟨⟨i + 1, p.1, js, by omega, by omega, rfl, ⟨_, xr7.alloc _, xm7.alloc _⟩, ⟨_, or7.alloc _, om7.alloc _⟩, G1.out, jO7.alloc _, by omega, hjle', kW7.alloc _⟩, by simp [intOf]; omega⟩
                  · simp only [Mb.val]
                    go_wp2
                    exact ⟨⟨i + 1, p.1, js, by omega, by omega, rfl, ⟨_, xr7.alloc _, xm7.alloc _⟩, ⟨_, or7.alloc _, om7.alloc _⟩, G1.out, jO7.alloc _, by omega, hjle', kW7.alloc _⟩, by simp [intOf]; omega⟩
              · have h0' : ¬ (p.2 : Int) = 0 := by omega
                go_wp2
                exact ⟨⟨i + 1, R, js, by omega, by omega, rfl, ⟨_, xR3, xM3⟩, ⟨_, oR3, oM3⟩, hGd.more, jO3, by omega, hjle, kW3⟩, by simp [intOf]; omega⟩
    · by_cases l1 : i < n
      · have m1 : (i : Int) < (n : Int) := by omega
        have m2 : (60 : Int) ≤ (i : Int) := by omega
        go_wp2
        go_ret
        exact ⟨rfl, hK.below (Nat.le_refl _) (fun _ _ h => h)⟩
      · have m1 : (n : Int) ≤ (i : Int) := by omega
        go_wp2
        go_ret
        exact ⟨rfl, hK.below (Nat.le_refl _) (fun _ _ h => h)⟩
end Go.Proofs.Ytecjailgiknfcaa

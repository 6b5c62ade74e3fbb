/-
  The roster, part 1: members in rows of three cells; slices.Clone, next, the search.
-/
import Derived.Test.YtecjailgiknfcaaInsert
set_option linter.unusedVariables false
namespace Go.Proofs.Ytecjailgiknfcaa
open Go.RowKit

/-- A member; a roster without its slice's value. -/
structure Mb where
  serial : Nat
  join : Nat
  state : Nat
deriving DecidableEq
def Mb.cells (m : Mb) : List Value := [.int .i64 m.serial, .int .u64 m.join, .int .i64 m.state]
def Mb.val (m : Mb) : Value := .agg #[.int .i64 m.serial, .int .u64 m.join, .int .i64 m.state]
def flat (ms : List Mb) : List Value := ms.flatMap Mb.cells
theorem flat_nil : flat [] = [] := rfl
theorem flat_cons (m : Mb) (ms : List Mb) : flat (m :: ms) = m.cells ++ flat ms := rfl
theorem flat_append (xs ys : List Mb) : flat (xs ++ ys) = flat xs ++ flat ys := by simp [flat]
theorem flat_length (ms : List Mb) : (flat ms).length = ms.length * 3 := by
  induction ms with
  | nil => rfl
  | cons m ms ih => rw [flat_cons, List.length_append, ih, List.length_cons, Nat.add_mul]; simp [Mb.cells]; omega
theorem flat_take (ms : List Mb) (k : Nat) : (flat ms).take (k * 3) = flat (ms.take k) := by
  induction ms generalizing k with
  | nil => simp [flat]
  | cons m ms ih =>
    cases k with
    | zero => simp [flat]
    | succ k => rw [flat_cons, List.take_succ_cons, flat_cons, ← ih, show (k + 1) * 3 = m.cells.length + k * 3 by simp [Mb.cells]; omega, List.take_length_add_append]
theorem flat_drop (ms : List Mb) (k : Nat) : (flat ms).drop (k * 3) = flat (ms.drop k) := by
  induction ms generalizing k with
  | nil => simp [flat]
  | cons m ms ih =>
    cases k with
    | zero => simp
    | succ k => rw [flat_cons, List.drop_succ_cons, ← ih, show (k + 1) * 3 = m.cells.length + k * 3 by simp [Mb.cells]; omega, List.drop_length_add_append]
theorem flat_one (ms : List Mb) : ∀ v ∈ flat ms, v.oneCell' = true := by
  intro v hv
  simp only [flat, List.mem_flatMap] at hv
  obtain ⟨m, _, hm⟩ := hv
  simp only [Mb.cells, List.mem_cons, List.not_mem_nil, or_false] at hm
  rcases hm with rfl | rfl | rfl <;> rfl
theorem flat_at (ms : List Mb) (i : Nat) (h : i < ms.length) : (flat ms)[i * 3]? = some (.int .i64 (ms[i].serial : Int)) ∧ (flat ms)[i * 3 + 1]? = some (.int .u64 (ms[i].join : Int)) ∧ (flat ms)[i * 3 + 2]? = some (.int .i64 (ms[i].state : Int)) := by
  have e : ∀ j, (flat ms)[i * 3 + j]? = (flat (ms.drop i))[j]? := fun j => by rw [← flat_drop, List.getElem?_drop]
  have d : ms.drop i = ms[i] :: ms.drop (i + 1) := List.drop_eq_getElem_cons h
  refine ⟨?_, ?_, ?_⟩
  · have := e 0; rw [Nat.add_zero] at this; rw [this, d]; rfl
  · rw [e 1, d]; rfl
  · rw [e 2, d]; rfl

/-- Nothing that was there has turned. -/
abbrev Kp (w w' : World) : Prop := Fr (fun _ => False) w w'

/-- The members that v is the slice of, elements of type t. -/
def Mem (t : TypeId) (w : World) (v : Value) (ms : List Mb) : Prop := w.ownsRow 0 t 3 v ms.length (flat ms)
theorem grown_fr {w w' : World} {r : Option Nat} (h : w.grownBy w' r) : Fr (fun k => some k = r) w w' := ⟨h.os, h.tape, h.output, h.size, h.block⟩
theorem fr_grown {w w' : World} (h : Kp w w') : w.grownBy w' none := ⟨h.os, h.tape, h.output, h.size, fun k hk _ => h.block k hk (fun h => h)⟩
theorem fr_grownBy {w w' : World} {r : Option Nat} (h : Fr (fun k => some k = r) w w') : w.grownBy w' r := ⟨h.os, h.tape, h.output, h.size, h.block⟩
section
variable {t : TypeId} {w w' : World} {v : Value} {ms : List Mb}
theorem Mem.kp (h : Mem t w v ms) (k : Kp w w') : Mem t w' v ms := World.ownsRow.kept h (fr_grown k) (by cases hv : v.ownBlock <;> simp)
theorem Mem.alloc (h : Mem t w v ms) (o : Obj) : Mem t (w.alloc o) v ms := World.ownsRow.alloc h o
theorem Mem.drew (h : Mem t w v ms) : Mem t w.drew v ms := h
theorem Mem.nil (t : TypeId) (w : World) : Mem t w (.slice none 0 0) [] := World.ownsRow_nil w 0 t 3
/-- What a slice of members may be. -/
theorem Mem.parts (h : Mem t w v ms) : (v = .slice none 0 0 ∧ ms = []) ∨ ∃ b c row, v = .slice (some ⟨b, 0, none⟩) ms.length c ∧ Row w b t row ∧ row.length = c * 3 ∧ ms.length ≤ c ∧ c ≤ maxLen ∧ row.take (ms.length * 3) = flat ms ∧ (∀ j, j < ms.length * 3 → w.cell? ⟨b, j, none⟩ = (flat ms)[j]?) := by
  rcases h.2 with ⟨hv, hn⟩ | ⟨g, cap, cur, hv, _, hg, hn, hc, hs, ht⟩
  · exact .inl ⟨hv, List.length_eq_zero_iff.1 hn⟩
  · subst hv
    refine .inr ⟨g, cap, cur.toList, rfl, by rw [Row, Array.toArray_toList]; exact hg, by simpa using hs, hn, hc, ht, fun j hj => World.ownsRow.cellAt h j hj⟩
theorem Mem.slice (h : Mem t w v ms) : ∃ a c, v = .slice a ms.length c ∧ ms.length ≤ c ∧ c ≤ maxLen := by
  rcases h.parts with ⟨hv, h0⟩ | ⟨b, c, row, hv, _, _, h1, h2, _⟩
  · subst h0; exact ⟨_, _, hv, Nat.le_refl _, Nat.zero_le _⟩
  · exact ⟨_, _, hv, h1, h2⟩
/-- The element at k. -/
theorem Mem.get {a : Option Addr} {n c : Nat} (h : Mem t w (.slice a n c) ms) (k : Nat) (hk : k < ms.length) : ∃ b, a = some ⟨b, 0, none⟩ ∧ b < w.heap.size ∧ w.cell? ⟨b, k * 3, none⟩ = some (.int .i64 (ms[k].serial : Int)) ∧ w.cell? ⟨b, k * 3 + 1, none⟩ = some (.int .u64 (ms[k].join : Int)) ∧ w.cell? ⟨b, k * 3 + 2, none⟩ = some (.int .i64 (ms[k].state : Int)) := by
  rcases h.parts with ⟨_, rfl⟩ | ⟨b, c', row, hv, hR, _, _, _, _, hc⟩
  · simp at hk
  · simp only [Value.slice.injEq] at hv
    obtain ⟨f0, f1, f2⟩ := flat_at ms k hk
    exact ⟨b, hv.1, hR.lt, by rw [hc _ (by omega), f0], by rw [hc _ (by omega), f1], by rw [hc _ (by omega), f2]⟩
theorem Mem.fr {S : Nat → Prop} (h : Mem t w v ms) (k : Fr S w w') (hs : ∀ b, v.ownBlock = some b → ¬ S b) : Mem t w' v ms := by
  refine ⟨h.1, ?_⟩
  rcases h.2 with hn | ⟨g, cap, cur, rfl, hb, hgg, rest⟩
  · exact .inl hn
  · exact .inr ⟨g, cap, cur, rfl, hb, (k.block g (Array.getElem?_eq_some_iff.1 hgg).1 (hs g rfl)).trans hgg, rest⟩
theorem Mem.ne (h : Mem t w v ms) {b : Nat} {t' : TypeId} {row : List Value} (hr : Row w b t' row) (ht : t ≠ t') : v.ownBlock ≠ some b := by
  intro e
  rcases h.parts with ⟨rfl, _⟩ | ⟨b', c, row', rfl, hR, _⟩
  · simp [Value.ownBlock] at e
  · simp only [Value.ownBlock, Option.some.injEq] at e
    subst e
    have h1 := hR.symm.trans hr
    simp only [Option.some.injEq, Obj.cells.injEq] at h1
    exact ht h1.2.1
theorem Mem.lt (h : Mem t w v ms) : ∀ b, v.ownBlock = some b → b < w.heap.size := fun b hb => (World.ownsRow.lt h b hb).2
theorem Mem.of_row {b c : Nat} {row : List Value} (hr : Row w b t row) (hl : row.length = c * 3) (hn : ms.length ≤ c) (hc : c ≤ maxLen) (ht : row.take (ms.length * 3) = flat ms) : Mem t w (.slice (some ⟨b, 0, none⟩) ms.length c) ms :=
  ⟨flat_length ms, .inr ⟨b, c, row.toArray, rfl, Nat.zero_le _, hr, hn, hc, by simpa using hl, by simpa using ht⟩⟩
end

set_option maxHeartbeats 1000000 in
set_option maxRecDepth 100000 in
theorem clone_any (v : Value) (ms : List Mb) (w : World) (h : Mem 72 w v ms) (hl : ms.length ≤ 1000000) :
    Calls Try.prog 71 #[v] w fun e w' => ∃ v', e = .returned v' ∧ (Mem 72 w' v' ms ∧ Kp w w' ∧ (∀ b, v'.ownBlock = some b → w.heap.size ≤ b)) := by
  obtain ⟨i0, hi0, hz0, hzs, hzb⟩ := info_parts infoMember
  have t49 := run_underlying (P := Try.prog) Try.underlying49
  have q49 : ∀ (w : World) (a : Option Addr) (n c n' c' : Nat), (binOp .eql 49 (.slice a n c) (.slice none n' c')).run Try.prog w = .ok (.bool a.isNone) w := fun w a n c n' c' => Lib.run_eql_slice_nil w _ _ a n c n' c' Try.underlying49
  rcases h.parts with ⟨rfl, rfl⟩ | ⟨b, c, row, rfl, hR, hrl, hnc, hcm, hrt, hcell⟩
  · go_enter Try.func71, Try.ntmps71
    go_wp2
    go_ret
    exact ⟨_, rfl, Mem.nil _ _, Fr.refl _ _, fun b hb => by simp [Value.ownBlock] at hb⟩
  · have hb := hR.lt
    go_enter Try.func71, Try.ntmps71
    have hnews : ∀ j u, (flat ms)[j]? = some u → (w.alloc (.cells #[] 72)).cell? ((⟨b, 0, none⟩ : Addr).add j) = some u := fun j u hj => by
      have hjl : j < ms.length * 3 := by
        rw [← flat_length]
        rcases Nat.lt_or_ge j (flat ms).length with h | h
        · exact h
        · rw [List.getElem?_eq_none h] at hj; cases hj
      rw [Addr.add_lit, Nat.zero_add, (hR.alloc _).cell, ← hj, ← hrt, List.getElem?_take, if_pos hjl]
    have h63 : 0 + ms.length ≤ maxLen := by unfold maxLen; omega
    have hby : (0 + ms.length) * 24 ≤ 140737488355328 := by omega
    have hown : (w.alloc (.cells #[] 72)).ownsRow w.heap.size 72 3 (.slice (some ⟨w.heap.size, 0, none⟩) 0 0) 0 [] := World.ownsRow_made w #[] 0 (Nat.le_refl _) (by simp [maxLen]) (by simp)
    have hbs : w.heap.size ≤ (w.alloc (.cells #[] 72)).heap.size := by simp
    go_wp2_with (at_builtin; refine Hid.out ?_)
    unfold Hid
    refine (wpList_append_own _ rfl _ _ 49 rfl w.heap.size 72 i0 _ 3 24 Try.underlying49 hi0 hz0 hzs hzb rfl (by decide) _ 0 [] rfl hown
      ⟨b, 0, none⟩ ms.length c (flat ms) rfl (flat_length ms) hnews (flat_one ms) h63 hby hbs ?_)
    intro v' w' ho hg _
    go_wp2
    go_ret
    have hk : Kp w w' := ((Fr.refl (fun _ => False) w).alloc (.cells #[] 72)).trans' (grown_fr hg) (fun i hi hs => by
      have hs' : i = w.heap.size := Option.some.inj hs
      exact absurd hs' (Nat.ne_of_lt hi))
    refine ⟨v', rfl, ?_, hk, fun b hb => (ho.lt b hb).1⟩
    rw [Nat.zero_add, List.nil_append] at ho
    exact ⟨ho.1, ho.2.imp (fun h => h) (fun ⟨g, cap, cur, h1, h2, h3⟩ => ⟨g, cap, cur, h1, Nat.zero_le _, h3⟩)⟩

/-- A roster, but for its slice's value. -/
structure Ro where
  cache : Nat
  epoch : Nat
  lease : Nat
  joins : Nat
  ms : List Mb
def Ro.val (R : Ro) (v : Value) : Value := .agg #[.int .u64 R.cache, .int .u64 R.epoch, .int .u64 R.lease, .int .u64 R.joins, v]
def Ro.row (R : Ro) (v : Value) : List Value := [.int .u64 R.cache, .int .u64 R.epoch, .int .u64 R.lease, .int .u64 R.joins, v]
def Ro.next (R : Ro) : Ro := { R with epoch := R.epoch + 1 }
section
variable {w : World} {b : Nat} {t : TypeId} {x0 x1 x2 x3 x4 : Value}
theorem Row.five (h : Row w b t [x0, x1, x2, x3, x4]) : w.cell? ⟨b, 0, none⟩ = some x0 ∧ w.cell? ⟨b, 1, none⟩ = some x1 ∧ w.cell? ⟨b, 2, none⟩ = some x2 ∧ w.cell? ⟨b, 3, none⟩ = some x3 ∧ w.cell? ⟨b, 4, none⟩ = some x4 :=
  ⟨h.cell 0, h.cell 1, h.cell 2, h.cell 3, h.cell 4⟩
theorem Row.three (h : Row w b t [x0, x1, x2]) : w.cell? ⟨b, 0, none⟩ = some x0 ∧ w.cell? ⟨b, 1, none⟩ = some x1 ∧ w.cell? ⟨b, 2, none⟩ = some x2 :=
  ⟨h.cell 0, h.cell 1, h.cell 2⟩
theorem box1 {w w1 : World} {cs : Array Value} {t : TypeId} (k : Kp (w.alloc (.cells cs t)) w1) : Row w1 w.heap.size t cs.toList ∧ Kp w w1 ∧ w.heap.size + 1 ≤ w1.heap.size :=
  ⟨(Row.new w cs t).fr k (fun h => h), ((Fr.refl _ w).alloc _).trans k, by simpa using k.size⟩
theorem box2 {w w1 : World} {cs cs' : Array Value} {t t' : TypeId} (k : Kp ((w.alloc (.cells cs t)).alloc (.cells cs' t')) w1) : Row w1 w.heap.size t cs.toList ∧ Row w1 (w.heap.size + 1) t' cs'.toList ∧ Kp w w1 ∧ w.heap.size + 2 ≤ w1.heap.size :=
  ⟨((Row.new w cs t).alloc _).fr k (fun h => h), by have := (Row.new (w.alloc (.cells cs t)) cs' t').fr k (fun h => h); simpa using this, (((Fr.refl _ w).alloc _).alloc _).trans k, by simpa using k.size⟩
theorem Row.is (h : w.heap[b]? = some (.cells #[x0, x1, x2, x3, x4] t (0, 0))) : Row w b t [x0, x1, x2, x3, x4] := h
end

set_option maxHeartbeats 2000000 in
set_option maxRecDepth 100000 in
theorem next_any (R : Ro) (v : Value) (w : World) (h : Mem 72 w v R.ms) (hl : R.ms.length ≤ 1000000) (he : R.epoch ≤ 1000000) :
    Calls Try.prog 59 #[R.val v] w fun e w' => ∃ v', e = .returned (R.next.val v') ∧ (Mem 72 w' v' R.ms ∧ Kp w w' ∧ (∀ b, v'.ownBlock = some b → w.heap.size ≤ b)) := by
  obtain ⟨c, e, l, j, ms⟩ := R
  simp only [Ro.val, Ro.next] at *
  go_enter Try.func59, Try.ntmps59
  go_wp2_with fail
  refine (clone_any v ms _ ((h.alloc _).alloc _) hl).mono ?_
  rintro en w1 ⟨v', rfl, hm, hk, hfr⟩
  obtain ⟨p0, p1, hK, hsz⟩ := box2 hk
  have hfr' : ∀ b, v'.ownBlock = some b → w.heap.size + 2 ≤ b := fun b hb => by have := hfr b hb; simpa using this
  clear hk hfr
  have c0 := p0.five
  have c1 := p1.five
  have f0 := p0.frozen
  have f1 := p1.frozen
  obtain ⟨va, vc, rfl, _, _⟩ := hm.slice
  go_wp2
  have hF : ∀ {W}, Fr (fun k => w.heap.size ≤ k ∧ k < w.heap.size + 2) w1 W → Mem 72 W (.slice va ms.length vc) ms ∧ Kp w W := fun k =>
    ⟨hm.fr k (fun b hb hs => by have := hfr' b hb; omega), hK.trans' k (fun i hi hs => by omega)⟩
  refine ⟨rfl, .agg #[.int .u64 c, .int .u64 (e + 1 : Nat), .int .u64 l, .int .u64 j, .slice va ms.length vc], by simp [results, Try.results59, go_sem, c1], _, rfl, ?_⟩
  rw [← and_assoc]
  refine ⟨hF ?_, fun b hb => by have := hfr' b hb; omega⟩
  repeat' (first | with_reducible exact Fr.refl _ _ | refine Fr.setCell ?_ _ (fun _ => by simp) _)

theorem place1_any (m : Mb) (n : Int) (w : World) (h1 : m.serial ≤ 1000) (h2 : -2000 ≤ n) (h3 : n ≤ 2000) :
    Calls Try.prog 70 #[m.val, .int .i64 n] w fun e w' => e = .returned (.int .i64 ((m.serial : Int) - n)) ∧ Kp w w' := by
  obtain ⟨s, j, st⟩ := m
  simp only [Mb.val] at *
  have hw : wrap64 ((s : Int) - n) = (s : Int) - n := by unfold wrap64; omega
  go_enter Try.func70, Try.ntmps70
  go_wp2
  go_ret
  exact ⟨rfl, (Fr.refl _ w).alloc _⟩

/-- Where a serial stands, or would: as many are less. -/
def Below' (ms : List Mb) (n : Int) (i : Nat) : Prop := i ≤ ms.length ∧ (∀ j, (h : j < ms.length) → j < i → (ms[j].serial : Int) < n) ∧ (∀ j, (h : j < ms.length) → i ≤ j → n ≤ (ms[j].serial : Int))
def Sorted' (ms : List Mb) : Prop := ∀ i j, (hi : i < ms.length) → (hj : j < ms.length) → i < j → ms[i].serial < ms[j].serial
def Serials (ms : List Mb) : Prop := ∀ i, (hi : i < ms.length) → 1 ≤ ms[i].serial ∧ ms[i].serial ≤ 1000

set_option maxHeartbeats 2000000 in
set_option maxRecDepth 100000 in
theorem search_any (v : Value) (ms : List Mb) (n : Int) (w : World) (h : Mem 72 w v ms) (hl : ms.length ≤ 1000) (hs : Sorted' ms) (hr : Serials ms) (h2 : -2000 ≤ n) (h3 : n ≤ 2000) :
    Calls Try.prog 69 #[v, .int .i64 n, .func (.func 70) #[] #[]] w fun e w' =>
      ∃ i b, e = .returned (.tuple #[.int .i64 (i : Nat), .bool b]) ∧ (Below' ms n i ∧ (b = true ↔ ∃ h : i < ms.length, (ms[i].serial : Int) = n) ∧ Kp w w') := by
  obtain ⟨va, vc, rfl, hc1, hc2⟩ := h.slice
  have hc3 : vc ≤ 9223372036854775807 := hc2
  clear hc2
  go_enter Try.func69, Try.ntmps69
  go_wp2
  go_loopw [9, 10] (fun i j wr => ∃ a b : Nat, i = .int .i64 a ∧ j = .int .i64 b ∧ a ≤ b ∧ b ≤ ms.length ∧ (∀ k, (h : k < ms.length) → k < a → (ms[k].serial : Int) < n) ∧ (∀ k, (h : k < ms.length) → b ≤ k → n ≤ (ms[k].serial : Int)) ∧ Kp w wr) (fun i j _ => (intOf j).toNat - (intOf i).toNat)
  case atStart => exact ⟨0, ms.length, rfl, rfl, Nat.zero_le _, Nat.le_refl _, fun _ _ h => by omega, fun _ _ _ => by omega, Fr.refl _ _⟩
  case round =>
    obtain ⟨a, b, rfl, rfl, hab, hb, hlo, hhi, hK⟩ := hrel
    by_cases hlt : a < b
    · have hlt' : (a : Int) < b := by omega
      obtain ⟨m, hm, hma, hmb⟩ : ∃ m : Nat, ((a : Int) + b) / 2 = (m : Int) ∧ a ≤ m ∧ m < b := ⟨(a + b) / 2, by omega, by omega, by omega⟩
      have hml : m < ms.length := by omega
      obtain ⟨bb, rfl, hbb, g0, g1, g2⟩ := (h.kp hK).get m hml
      have k0 : (0 : Int) ≤ (m : Int) := by omega
      have k1 : (m : Int) < (ms.length : Int) := by omega
      have hs1 : ms[m].serial ≤ 1000 := (hr m hml).2
      go_wp2_with fail
      refine (place1_any ms[m] n wr hs1 h2 h3).mono ?_
      rintro e w1 ⟨rfl, hk⟩
      have hK1 := hK.trans hk
      by_cases hless : (ms[m].serial : Int) - n < 0
      · go_wp2
        refine ⟨⟨m + 1, b, rfl, rfl, by omega, hb, fun k hk hkm => ?_, hhi, hK1⟩, by simp [intOf]; omega⟩
        by_cases e : k = m
        · subst e; omega
        · have := hs k m hk hml (by omega); omega
      · have hge : (0 : Int) ≤ (ms[m].serial : Int) - n := by omega
        go_wp2
        refine ⟨⟨a, m, rfl, rfl, by omega, by omega, hlo, fun k hk hkm => ?_, hK1⟩, by simp [intOf]; omega⟩
        by_cases e : k = m
        · subst e; omega
        · have := hs m k hml hk (by omega); omega
    · have hlt' : (b : Int) ≤ a := by omega
      have hba : b = a := by omega
      subst hba
      have hB : Below' ms n b := ⟨hb, fun j h hj => hlo j h hj, fun j h hj => hhi j h hj⟩
      by_cases hal : b < ms.length
      · obtain ⟨bb, rfl, hbb, g0, g1, g2⟩ := (h.kp hK).get b hal
        have k0 : (0 : Int) ≤ (b : Int) := by omega
        have k1 : (b : Int) < (ms.length : Int) := by omega
        have hs1 : ms[b].serial ≤ 1000 := (hr b hal).2
        go_wp2_with fail
        refine (place1_any ms[b] n wr hs1 h2 h3).mono ?_
        rintro e w1 ⟨rfl, hk⟩
        have hK1 := hK.trans hk
        go_wp2
        go_ret2
        exact ⟨b, _, rfl, hB, ⟨fun hh => ⟨hal, by simp at hh; omega⟩, fun ⟨_, hh⟩ => by simp; omega⟩, hK1⟩
      · have k1 : (ms.length : Int) ≤ (b : Int) := by omega
        go_wp2
        go_ret2
        exact ⟨b, false, rfl, hB, by simp; omega, hK⟩
end Go.Proofs.Ytecjailgiknfcaa

/-
  The roster, part 5: Check.
-/
import Derived.Test.YtecjailgiknfcaaRoster4
set_option linter.unusedVariables false
set_option linter.unusedSimpArgs false
namespace Go.Proofs.Ytecjailgiknfcaa
open Go.RowKit

theorem own_slice {w : World} {base : Nat} {e : TypeId} {v : Value} {n : Nat} {xs : List Value} (h : w.ownsRow base e 1 v n xs) :
    ∃ a c, v = .slice a n c ∧ n ≤ c ∧ c ≤ maxLen ∧ ∀ k u, xs[k]? = some u → ∃ b, a = some ⟨b, 0, none⟩ ∧ b < w.heap.size ∧ w.cell? ⟨b, k, none⟩ = some u := by
  have hl := h.1
  rcases h.2 with ⟨rfl, rfl⟩ | ⟨g, cap, cur, rfl, hb, hg, hn, hc, hs, ht⟩
  · have e0 : xs = [] := List.length_eq_zero_iff.1 (by simpa using hl)
    subst e0
    exact ⟨none, 0, rfl, Nat.le_refl _, Nat.zero_le _, fun k u hk => by simp at hk⟩
  · refine ⟨_, cap, rfl, hn, hc, fun k u hk => ⟨g, rfl, (Array.getElem?_eq_some_iff.1 hg).1, ?_⟩⟩
    have hkl : k < xs.length := by
      rcases Nat.lt_or_ge k xs.length with h | h
      · exact h
      · rw [List.getElem?_eq_none h] at hk; cases hk
    rw [World.ownsRow.cellAt h k (by omega), hk]

def u64s (js : List Nat) : List Value := js.map fun j => .int .u64 (j : Nat)

set_option maxHeartbeats 1000000 in
set_option maxRecDepth 100000 in
theorem index_no (base : Nat) (v : Value) (js : List Nat) (x : Nat) (w : World) (h : w.ownsRow base 48 1 v js.length (u64s js)) (hx : x ∉ js) (hl : js.length ≤ 1000) :
    Calls Try.prog 74 #[v, .int .u64 x] w fun e w' => e = .returned (.int .i64 (-1)) ∧ w' = w := by
  obtain ⟨a, c, rfl, hc1, hc2, hcell⟩ := own_slice h
  clear hc1 hc2
  go_enter Try.func74, Try.ntmps74
  go_wp2
  go_loopw [8, 5] (fun i _ wr => ∃ k : Nat, k ≤ js.length ∧ i = .int .i64 k ∧ wr = w) (fun i _ _ => js.length - (intOf i).toNat)
  case atStart => exact ⟨0, Nat.zero_le _, rfl, rfl⟩
  case round =>
    obtain ⟨k, hk, rfl, hww⟩ := hrel
    subst hww
    by_cases hlt : k < js.length
    · obtain ⟨b, rfl, hb, g0⟩ := hcell k (.int .u64 (js[k] : Nat)) (by simp [u64s, hlt])
      have k0 : (0 : Int) ≤ (k : Int) := by omega
      have k1 : (k : Int) < (js.length : Int) := by omega
      have hne : ¬ (x : Int) = (js[k] : Int) := fun e => hx (by rw [show x = js[k] by omega]; exact List.getElem_mem hlt)
      generalize js[k] = y at *
      go_wp2
      exact ⟨⟨k + 1, by omega, rfl, by trivial⟩, by simp [intOf]; omega⟩
    · have hlt' : (js.length : Int) ≤ k := by omega
      go_wp2
      go_ret
      exact ⟨rfl, by trivial⟩
theorem contains_no (base : Nat) (v : Value) (js : List Nat) (x : Nat) (w : World) (h : w.ownsRow base 48 1 v js.length (u64s js)) (hx : x ∉ js) (hl : js.length ≤ 1000) :
    Calls Try.prog 61 #[v, .int .u64 x] w fun e w' => e = .returned (.bool false) ∧ w' = w := by
  go_enter Try.func61, Try.ntmps61
  go_wp2_with fail
  refine (index_no base v js x w h hx hl).mono ?_
  rintro e w' ⟨rfl, rfl⟩
  go_wp2
  go_ret
  exact ⟨rfl, rfl⟩

/-- Which rosters may be. -/
structure Ro.Ok (R : Ro) : Prop where
  cache : 1 ≤ R.cache ∧ R.cache ≤ 1000000
  epoch : R.epoch ≤ 1000000
  lease : R.lease ≤ 100000000
  joins : R.joins ≤ 1000000
  len : R.ms.length ≤ 16
  sorted : Sorted' R.ms
  serials : Serials R.ms
  join : ∀ i, (h : i < R.ms.length) → 1 ≤ R.ms[i].join ∧ R.ms[i].join ≤ R.joins
  apart : ∀ i j, (hi : i < R.ms.length) → (hj : j < R.ms.length) → i < j → R.ms[i].join ≠ R.ms[j].join
  state : ∀ i, (h : i < R.ms.length) → R.ms[i].state = 1 ∨ R.ms[i].state = 2

theorem infoU64 : (Try.prog.info? 48).map (fun i => (i.zero, i.size, i.bytes)) = some (some (.int .u64 0), 1, 8) := by kernel_rfl
def joinsOf (ms : List Mb) : List Nat := ms.map (·.join)
theorem joins_succ (ms : List Mb) (k : Nat) (h : k < ms.length) : u64s (joinsOf (ms.take (k + 1))) = u64s (joinsOf (ms.take k)) ++ [.int .u64 (ms[k].join : Int)] := by
  rw [List.take_add_one, List.getElem?_eq_getElem h, joinsOf, List.map_append, u64s, List.map_append]; rfl

set_option maxHeartbeats 4000000 in
set_option maxRecDepth 100000 in
theorem check_ok (R : Ro) (v : Value) (w : World) (h : Mem 72 w v R.ms) (hR : R.Ok) :
    Calls Try.prog 33 #[R.val v] w fun e w' => e = .returned (.int .i64 0) ∧ Kp w w' := by
  obtain ⟨h1, h2, h3, h4, h5, h6, h7, h8, h9, h10⟩ := hR
  obtain ⟨c, e, l, jn, ms⟩ := R
  simp only [Ro.val] at *
  obtain ⟨va, vc, rfl, hc1, hc2⟩ := h.slice
  clear hc1 hc2
  obtain ⟨i0, hi0, hz0, hzs, hzb⟩ := info_parts infoU64
  have e1 : ¬ (16 : Int) < (ms.length : Int) := by omega
  have e2 : ¬ (c : Int) = 0 := by omega
  go_enter Try.func33, Try.ntmps33
  go_wp2
  clear e1 e2
  have hb0 : ((c : Int) == 0) = false := by simp; omega
  obtain ⟨g, HG⟩ : ∃ g, g = w.heap.size := ⟨_, rfl⟩
  rw [← HG]
  go_loopw [3, 4, 5, 18] (fun bad last jv i wr => ∃ k last' : Nat, k ≤ ms.length ∧ i = .int .i64 k ∧ bad = .bool false ∧ last = .int .i64 last' ∧ (∀ m, (hm : m < ms.length) → k ≤ m → last' < ms[m].serial) ∧
    wr.ownsRow (g + 1) 48 1 jv k (u64s (joinsOf (ms.take k))) ∧ Kp (w.alloc (.cells #[.int .u64 c, .int .u64 e, .int .u64 l, .int .u64 jn, .slice va ms.length vc] 51)) wr) (fun _ _ _ i _ => ms.length - (intOf i).toNat)
  case atStart => exact ⟨0, 0, Nat.zero_le _, rfl, by rw [hb0], rfl, fun m hm _ => (h7 m hm).1, World.ownsRow_nil _ _ _ _, Fr.refl _ _⟩
  case round =>
    obtain ⟨k, last, hk, rfl, rfl, rfl, hlast, hown, hK1⟩ := hrel
    obtain ⟨p0, hK, hsz⟩ := box1 hK1
    rw [← HG] at p0 hsz
    have HGH := Lib.hid HG
    clear HG hb0
    by_cases hlt : k < ms.length
    · obtain ⟨bb, rfl, hbb, g0, g1, g2⟩ := (h.kp hK).get k hlt
      have k0 : (0 : Int) ≤ (k : Int) := by omega
      have k1 : (k : Int) < (ms.length : Int) := by omega
      have hser := Lib.hid (joins_succ ms k hlt)
      obtain ⟨s1, s2⟩ := h7 k hlt
      obtain ⟨j1, j2⟩ := h8 k hlt
      have hst := h10 k hlt
      have hls := hlast k hlt (Nat.le_refl _)
      have hnj : ms[k].join ∉ joinsOf (ms.take k) := by
        intro hmem
        simp only [joinsOf, List.mem_map] at hmem
        obtain ⟨m', hm', e⟩ := hmem
        obtain ⟨i, hi, rfl⟩ := List.getElem_of_mem hm'
        rw [List.length_take] at hi
        have := h9 i k (by omega) hlt (by omega)
        rw [List.getElem_take] at e
        exact this e
      have hnext : ∀ m, (hm : m < ms.length) → k + 1 ≤ m → ms[k].serial < ms[m].serial := fun m hm hkm => h6 k m hlt hm (by omega)
      generalize ms[k] = m at *
      obtain ⟨s, jj, st⟩ := m
      simp only at *
      have hd : decide (1 ≤ (s : Int) ∧ (s : Int) ≤ 1000) = true := by simp; omega
      have b1 : (last : Int) < (s : Int) := by omega
      have b2 : ¬ (jj : Int) = 0 := by omega
      have b3 : (jj : Int) ≤ (jn : Int) := by omega
      have hjl : (joinsOf (ms.take k)).length = k := by simp [joinsOf]; omega
      have hown' : wr.ownsRow (g + 1) 48 1 u5 (joinsOf (ms.take k)).length (u64s (joinsOf (ms.take k))) := by rw [hjl]; exact hown
      clear hjl
      rcases hst with rfl | rfl
      · go_wp2_with fail
        refine callsAt ?_
        intro W2 hW2
        have q2 : Row W2 wr.heap.size 72 [.int .i64 s, .int .u64 jj, .int .i64 1] := by rw [hW2]; exact Row.new wr _ _
        have p2 := p0.alloc (.cells #[.int .i64 s, .int .u64 jj, .int .i64 1] 72)
        rw [← hW2] at p2
        have hK2 : Kp (w.alloc (.cells #[.int .u64 c, .int .u64 e, .int .u64 l, .int .u64 jn, .slice (some ⟨bb, 0, none⟩) ms.length vc] 51)) W2 := by rw [hW2]; exact hK1.alloc _
        have hown2 : W2.ownsRow (g + 1) 48 1 u5 k (u64s (joinsOf (ms.take k))) := by rw [hW2]; exact hown.alloc _
        have hown3 : W2.ownsRow (g + 1) 48 1 u5 (joinsOf (ms.take k)).length (u64s (joinsOf (ms.take k))) := by rw [hW2]; exact hown'.alloc _
        have hsz2 : g + 1 ≤ W2.heap.size := by rw [hW2]; simp; omega
        generalize wr.heap.size = n2 at *
        clear hW2 g0 g1 g2 hbb p0 hK hown hown' hsz hK1 wr
        have c0 := p2.five
        have c2 := q2.three
        refine (serial_any s _ (by omega) (by omega)).mono ?_
        rintro en w2 ⟨rfl, rfl⟩
        rw [hd]
        go_wp2_with fail
        refine (contains_no (g + 1) u5 (joinsOf (ms.take k)) jj _ hown3 hnj (by simp [joinsOf]; omega)).mono ?_
        rintro en w2 ⟨rfl, rfl⟩
        go_wp2_with (at_builtin; refine Hid.out ?_)
        unfold Hid
        refine wpList_append_own _ rfl _ _ 64 rfl (g + 1) 48 i0 _ 1 8 Try.underlying64 hi0 hz0 hzs hzb rfl (by decide) _ k (u64s (joinsOf (ms.take k))) rfl (hown2.alloc _)
          ⟨w2.heap.size, 0, none⟩ 1 1 [.int .u64 jj] rfl rfl one_new (fun u hu => by simp at hu; subst hu; rfl) (by unfold maxLen; omega) (by omega) (by simp; omega) ?_
        intro v' w' ho hg _
        have hK' : Kp (w.alloc (.cells #[.int .u64 c, .int .u64 e, .int .u64 l, .int .u64 jn, .slice (some ⟨bb, 0, none⟩) ms.length vc] 51)) w' :=
          (hK2.alloc _).trans' (grown_fr hg) (fun i hi hs => by have := (hown2.lt i hs.symm).1; have := HGH.out; simp at hi; omega)
        go_wp2
        have hbad : (decide (s ≤ last) || (jj : Int) == 0 || decide (jn < jj)) = false := by simp; omega
        refine ⟨⟨k + 1, s, by omega, rfl, congrArg Value.bool hbad, rfl, hnext, by rw [hser.out]; exact ho, hK'⟩, by simp [intOf]; omega⟩
      · go_wp2_with fail
        refine callsAt ?_
        intro W2 hW2
        have q2 : Row W2 wr.heap.size 72 [.int .i64 s, .int .u64 jj, .int .i64 2] := by rw [hW2]; exact Row.new wr _ _
        have p2 := p0.alloc (.cells #[.int .i64 s, .int .u64 jj, .int .i64 2] 72)
        rw [← hW2] at p2
        have hK2 : Kp (w.alloc (.cells #[.int .u64 c, .int .u64 e, .int .u64 l, .int .u64 jn, .slice (some ⟨bb, 0, none⟩) ms.length vc] 51)) W2 := by rw [hW2]; exact hK1.alloc _
        have hown2 : W2.ownsRow (g + 1) 48 1 u5 k (u64s (joinsOf (ms.take k))) := by rw [hW2]; exact hown.alloc _
        have hown3 : W2.ownsRow (g + 1) 48 1 u5 (joinsOf (ms.take k)).length (u64s (joinsOf (ms.take k))) := by rw [hW2]; exact hown'.alloc _
        have hsz2 : g + 1 ≤ W2.heap.size := by rw [hW2]; simp; omega
        generalize wr.heap.size = n2 at *
        clear hW2 g0 g1 g2 hbb p0 hK hown hown' hsz hK1 wr
        have c0 := p2.five
        have c2 := q2.three
        refine (serial_any s _ (by omega) (by omega)).mono ?_
        rintro en w2 ⟨rfl, rfl⟩
        rw [hd]
        go_wp2_with fail
        refine (contains_no (g + 1) u5 (joinsOf (ms.take k)) jj _ hown3 hnj (by simp [joinsOf]; omega)).mono ?_
        rintro en w2 ⟨rfl, rfl⟩
        go_wp2_with (at_builtin; refine Hid.out ?_)
        unfold Hid
        refine wpList_append_own _ rfl _ _ 64 rfl (g + 1) 48 i0 _ 1 8 Try.underlying64 hi0 hz0 hzs hzb rfl (by decide) _ k (u64s (joinsOf (ms.take k))) rfl (hown2.alloc _)
          ⟨w2.heap.size, 0, none⟩ 1 1 [.int .u64 jj] rfl rfl one_new (fun u hu => by simp at hu; subst hu; rfl) (by unfold maxLen; omega) (by omega) (by simp; omega) ?_
        intro v' w' ho hg _
        have hK' : Kp (w.alloc (.cells #[.int .u64 c, .int .u64 e, .int .u64 l, .int .u64 jn, .slice (some ⟨bb, 0, none⟩) ms.length vc] 51)) w' :=
          (hK2.alloc _).trans' (grown_fr hg) (fun i hi hs => by have := (hown2.lt i hs.symm).1; have := HGH.out; simp at hi; omega)
        go_wp2
        have hbad : (decide (s ≤ last) || (jj : Int) == 0 || decide (jn < jj)) = false := by simp; omega
        refine ⟨⟨k + 1, s, by omega, rfl, congrArg Value.bool hbad, rfl, hnext, by rw [hser.out]; exact ho, hK'⟩, by simp [intOf]; omega⟩
    · have hlt' : (ms.length : Int) ≤ k := by omega
      go_wp2
      go_ret
      exact ⟨rfl, hK⟩
end Go.Proofs.Ytecjailgiknfcaa

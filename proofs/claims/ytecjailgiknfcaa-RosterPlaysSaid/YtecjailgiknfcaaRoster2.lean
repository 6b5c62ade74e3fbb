/-
  The roster, part 2: slices.Insert over members; place, serial, Find.
-/
import Derived.Test.YtecjailgiknfcaaRoster1
set_option linter.unusedVariables false
namespace Go.Proofs.Ytecjailgiknfcaa
open Go.RowKit

theorem List.splice_take {cur vs : List Value} {k : Nat} (h : k ≤ cur.length) : (splice cur k vs).take k = cur.take k := by
  unfold splice
  rw [List.take_append_of_le_length (by rw [List.length_take]; omega), List.take_take, Nat.min_self]

set_option maxHeartbeats 2000000 in
set_option maxRecDepth 100000 in
theorem insert_end (v : Value) (ms : List Mb) (m : Mb) (vb vc : Nat) (tv : TypeId) (w : World) (h : Mem 72 w v ms) (hl : ms.length ≤ 1000) (hV : Row w vb tv m.cells) :
    Calls Try.prog 60 #[v, .int .i64 ms.length, .slice (some ⟨vb, 0, none⟩) 1 vc] w fun e w' =>
      ∃ v', e = .returned v' ∧ (Mem 72 w' v' (ms ++ [m]) ∧ Fr (fun k => v.ownBlock = some k) w w') := by
  obtain ⟨i0, hi0, hz0, hzs, hzb⟩ := info_parts infoMember
  obtain ⟨va, vc', rfl, hc1, hc2⟩ := h.slice
  have hown : w.ownsRow 0 72 3 (.slice va ms.length vc') ms.length (flat ms) := h
  clear h
  have hc3 : vc' ≤ 9223372036854775807 := hc2
  have hnews : ∀ j u, m.cells[j]? = some u → w.cell? ((⟨vb, 0, none⟩ : Addr).add j) = some u := fun j u hj => by
    rw [Addr.add_lit, Nat.zero_add, hV.cell, hj]
  have h1 : ∀ u ∈ m.cells, u.oneCell' = true := fun u hu => flat_one [m] u (by simpa [flat] using hu)
  have h63 : ms.length + 1 ≤ maxLen := by unfold maxLen; omega
  have hby : (ms.length + 1) * 24 ≤ 140737488355328 := by omega
  have t49 := run_underlying (P := Try.prog) Try.underlying49
  have k0 : (0 : Int) ≤ (ms.length : Int) := by omega
  have k1 : (ms.length : Int) ≤ (vc' : Int) := by omega
  have hml : m.cells.length = 1 * 3 := rfl
  clear hc2
  rcases Decidable.em (vc' = ms.length) with rfl | hvc
  all_goals
    go_enter Try.func60, Try.ntmps60
    go_wp2_with (at_builtin; refine Hid.out ?_)
    unfold Hid
    refine wpList_append_own _ rfl _ _ 49 rfl 0 72 i0 _ 3 24 Try.underlying49 hi0 hz0 hzs hzb rfl (by decide) (.slice va ms.length _) ms.length (flat ms) rfl hown
      ⟨vb, 0, none⟩ 1 vc m.cells rfl hml hnews h1 h63 hby (Nat.zero_le _) ?_
    intro v' w' ho hg _
    go_wp2
    go_ret
    refine ⟨v', rfl, ?_, (grown_fr hg).mono (fun i hi hs => hs.symm)⟩
    unfold Mem
    rw [flat_append, List.length_append]
    simpa [flat] using ho

theorem shift_cells {cur vs xs : List Value} {i n : Nat} (hi : i < n) (hn : (n + 1) * 3 ≤ cur.length) (hv : vs.length = 3) (hx : xs.length = (n - i) * 3) :
    (splice (splice cur (i * 3 + 3) xs) (i * 3) vs).take ((n + 1) * 3) = cur.take (i * 3) ++ (vs ++ xs) := by
  have hl : (cur.take (i * 3 + 3)).length = i * 3 + 3 := by rw [List.length_take]; omega
  have e1 : (splice cur (i * 3 + 3) xs).take (i * 3) = cur.take (i * 3) := by
    unfold splice
    rw [List.take_append_of_le_length (by rw [hl]; omega), List.take_take, Nat.min_eq_left (by omega)]
  have e2 : (splice cur (i * 3 + 3) xs).drop (i * 3 + 3) = xs ++ cur.drop (i * 3 + 3 + xs.length) := List.drop_left' hl
  unfold splice at e1 e2 ⊢
  rw [e1, hv, e2]
  have e : (n + 1) * 3 = (cur.take (i * 3) ++ (vs ++ xs)).length := by rw [List.length_append, List.length_append, List.length_take, hv, hx, Nat.sub_mul]; omega
  rw [e, ← List.append_assoc vs xs, ← List.append_assoc (cur.take (i * 3)) (vs ++ xs), List.take_left' rfl]

theorem insert_any (v : Value) (ms : List Mb) (m : Mb) (i vb vc : Nat) (tv : TypeId) (w : World) (h : Mem 72 w v ms) (hi : i ≤ ms.length) (hl : ms.length ≤ 1000) (hV : Row w vb tv m.cells) (hvb : v.ownBlock ≠ some vb) :
    Calls Try.prog 60 #[v, .int .i64 i, .slice (some ⟨vb, 0, none⟩) 1 vc] w fun e w' =>
      ∃ v', e = .returned v' ∧ (Mem 72 w' v' (ms.take i ++ m :: ms.drop i) ∧ Fr (fun k => v.ownBlock = some k) w w') := by
  have hml : m.cells.length = 3 := rfl
  have h1m : ∀ u ∈ m.cells, u.oneCell' = true := fun u hu => flat_one [m] u (by simpa [flat] using hu)
  rcases Nat.lt_or_ge i ms.length with hi' | hi'
  · rcases h.parts with ⟨rfl, rfl⟩ | ⟨b, c, row, rfl, hR, hrl, hnc, hcm, hrt, _⟩
    · simp at hi'
    · have hvb' : vb ≠ b := fun e => hvb (by subst e; rfl)
      have h1c : ∀ u ∈ row.take (ms.length * 3), u.oneCell' = true := by rw [hrt]; exact flat_one ms
      have hfi : row.take (i * 3) = flat (ms.take i) := by
        rw [← flat_take, ← hrt, List.take_take, Nat.min_eq_left (by omega)]
      have hxs : (row.take (ms.length * 3)).drop (i * 3) = flat (ms.drop i) := by rw [hrt, flat_drop]
      have hxl : ((row.take (ms.length * 3)).drop (i * 3)).length = (ms.length - i) * 3 := by rw [hxs, flat_length, List.length_drop]
      have hfin : flat (ms.take i) ++ (m.cells ++ flat (ms.drop i)) = flat (ms.take i ++ m :: ms.drop i) := by rw [flat_append, flat_cons]
      have hlen : (ms.take i ++ m :: ms.drop i).length = ms.length + 1 := by
        rw [List.length_append, List.length_cons, List.length_take, List.length_drop]; omega
      rcases Nat.lt_or_ge c (ms.length + 1) with hc | hc
      · refine (insert_grow b ms.length c i vb vc tv row m.cells w hi' hnc hc (by omega) hvb' hrl hml hR hV h1c h1m).mono ?_
        rintro e w' ⟨c', row', rfl, h1, h2, h3, h4, h5, h6⟩
        refine ⟨_, rfl, ?_, h6.mono (fun _ _ h => h.elim)⟩
        rw [hfi, hxs, hfin] at h4
        have := Mem.of_row (ms := ms.take i ++ m :: ms.drop i) h5 h3 (by rw [hlen]; exact h1) h2 (by rw [hlen]; exact h4)
        rwa [hlen] at this
      · refine (insert_shift b ms.length c i vb vc tv row m.cells w hi' hc hcm hvb' hrl hml hR hV h1c h1m).mono ?_
        rintro e w' ⟨rfl, h1, h2⟩
        refine ⟨_, rfl, ?_, h2.mono (fun k _ hk => by subst hk; rfl)⟩
        have h4 := shift_cells (cur := row) (vs := m.cells) hi' (by rw [hrl]; omega) hml hxl
        rw [hfi] at h4
        have e4 := h4
        rw [hxs] at e4
        rw [hfin] at e4
        have := Mem.of_row (ms := ms.take i ++ m :: ms.drop i) h1 (by
          rw [length_splice, length_splice, hrl]
          · rw [hxl, hrl, Nat.sub_mul]; omega
          · rw [length_splice _ _ _ (by rw [hxl, hrl, Nat.sub_mul]; omega), hrl, hml]; omega) (by rw [hlen]; exact hc) hcm (by rw [hlen, hxs]; exact e4)
        rwa [hlen] at this
  · have e : i = ms.length := by omega
    subst e
    rw [List.take_length, List.drop_length]
    exact insert_end v ms m vb vc tv w h hl hV

theorem serial_any (n : Int) (w : World) (h2 : -2000 ≤ n) (h3 : n ≤ 2000) :
    Calls Try.prog 58 #[.int .i64 n] w fun e w' => e = .returned (.bool (decide (1 ≤ n ∧ n ≤ 1000))) ∧ w' = w := by
  by_cases h : 1 ≤ n
  · by_cases h' : n ≤ 1000
    · go_enter Try.func58, Try.ntmps58
      go_wp2
      go_ret
      exact ⟨by simp [h, h'], rfl⟩
    · have h'' : 1000 < n := by omega
      go_enter Try.func58, Try.ntmps58
      go_wp2
      go_ret
      exact ⟨by simp [h'], rfl⟩
  · have h'' : n < 1 := by omega
    go_enter Try.func58, Try.ntmps58
    go_wp2
    go_ret
    exact ⟨by simp; omega, rfl⟩

set_option maxHeartbeats 1000000 in
theorem place_any (R : Ro) (v : Value) (n : Int) (w : World) (h : Mem 72 w v R.ms) (hl : R.ms.length ≤ 1000) (hs : Sorted' R.ms) (hr : Serials R.ms) (h2 : -2000 ≤ n) (h3 : n ≤ 2000) :
    Calls Try.prog 57 #[R.val v, .int .i64 n] w fun e w' =>
      ∃ i b, e = .returned (.tuple #[.int .i64 (i : Nat), .bool b]) ∧ (Below' R.ms n i ∧ (b = true ↔ ∃ h : i < R.ms.length, (R.ms[i].serial : Int) = n) ∧ Kp w w') := by
  obtain ⟨c, e, l, j, ms⟩ := R
  simp only [Ro.val] at *
  go_enter Try.func57, Try.ntmps57
  go_wp2_with fail
  refine (search_any v ms n _ (h.alloc _) hl hs hr h2 h3).mono ?_
  rintro en w1 ⟨i, b, rfl, hb, hi, hk⟩
  obtain ⟨p0, hK, hsz⟩ := box1 hk
  go_wp2
  go_ret2
  exact ⟨i, b, rfl, hb, hi, hK⟩

theorem none_of {ms : List Mb} {n : Int} {i : Nat} (hs : Sorted' ms) (hb : Below' ms n i) (hn : ¬ ∃ h : i < ms.length, (ms[i].serial : Int) = n) : ∀ j, (h : j < ms.length) → (ms[j].serial : Int) ≠ n := by
  intro j hj e
  rcases Nat.lt_or_ge j i with h | h
  · have := hb.2.1 j hj h; omega
  · have hil : i < ms.length := by omega
    apply hn
    refine ⟨hil, ?_⟩
    have h1 := hb.2.2 i hil (Nat.le_refl _)
    rcases Nat.eq_or_lt_of_le h with h' | h'
    · subst h'; exact e
    · have := hs i j hil hj h'; omega

set_option maxHeartbeats 1000000 in
set_option maxRecDepth 100000 in
theorem find_any (R : Ro) (v : Value) (n : Int) (w : World) (h : Mem 72 w v R.ms) (hl : R.ms.length ≤ 1000) (hs : Sorted' R.ms) (hr : Serials R.ms) (h2 : -2000 ≤ n) (h3 : n ≤ 2000) :
    Calls Try.prog 47 #[R.val v, .int .i64 n] w fun e w' =>
      (((∃ i, ∃ h : i < R.ms.length, (R.ms[i].serial : Int) = n ∧ e = .returned (.tuple #[R.ms[i].val, .bool true])) ∨ ((∀ i, (h : i < R.ms.length) → (R.ms[i].serial : Int) ≠ n) ∧ e = .returned (.tuple #[Mb.val ⟨0, 0, 0⟩, .bool false])))) ∧ Kp w w' := by
  obtain ⟨c, e, l, j, ms⟩ := R
  have pl := place_any ⟨c, e, l, j, ms⟩ v n
  simp only [Ro.val] at *
  go_enter Try.func47, Try.ntmps47
  go_wp2_with fail
  refine (pl _ ((h.alloc _).alloc _) hl hs hr h2 h3).mono ?_
  rintro en w1 ⟨i, b, rfl, hb, hi, hk⟩
  obtain ⟨p0, p1, hK, hsz⟩ := box2 hk
  have c0 := p0.five
  have c1 := p1.three
  have f0 := p0.frozen
  have f1 := p1.frozen
  cases b with
  | false =>
    have hno := none_of hs hb (fun h => by simpa using hi.2 h)
    clear hi
    go_wp2
    refine ⟨rfl, .tuple #[.agg #[.int .i64 0, .int .u64 0, .int .i64 0], .bool false], by simp [results, Try.results47, go_sem, c1], .inr ⟨hno, rfl⟩, ?_⟩
    repeat' (first | with_reducible exact hK | refine Fr.setCell ?_ _ (fun h => absurd h (by simp)) _)
  | true =>
    obtain ⟨hil, hin⟩ := hi.1 rfl
    have HIN := Lib.hid hin
    clear hi hin pl
    obtain ⟨va, vc, rfl, hc1, hc2⟩ := h.slice
    obtain ⟨bb, rfl, hbb, g0, g1, g2⟩ := (h.kp hK).get i hil
    have k0 : (0 : Int) ≤ (i : Int) := by omega
    have k1 : (i : Int) < (ms.length : Int) := by omega
    go_wp2
    refine ⟨rfl, .tuple #[ms[i].val, .bool true], by simp [results, Try.results47, go_sem, c1, Mb.val], .inl ⟨i, hil, HIN.out, rfl⟩, ?_⟩
    repeat' (first | with_reducible exact hK | refine Fr.setCell ?_ _ (fun h => absurd h (by simp)) _)
end Go.Proofs.Ytecjailgiknfcaa

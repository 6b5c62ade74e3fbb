/-
  The roster: what each change keeps. No program in sight.
-/
import Derived.Test.YtecjailgiknfcaaRosterRef2
import Derived.Test.YtecjailgiknfcaaRosterAwake
set_option linter.unusedVariables false
set_option linter.unusedSimpArgs false
namespace Go.Proofs.Ytecjailgiknfcaa

/-- A roster behind at most i changes. -/
structure Ro.Good (R : Ro) (i : Nat) : Prop where
  cache : 1 ≤ R.cache ∧ R.cache ≤ 1 + i
  epoch : R.epoch ≤ i
  lease : R.lease ≤ 64 * i
  joins : R.joins ≤ i
  len : R.ms.length ≤ 16
  each : ∀ m ∈ R.ms, 1 ≤ m.serial ∧ m.serial ≤ 1000 ∧ 1 ≤ m.join ∧ m.join ≤ R.joins ∧ (m.state = 1 ∨ m.state = 2)
  sorted : R.ms.Pairwise fun a b => a.serial < b.serial
  apart : R.ms.Pairwise fun a b => a.join ≠ b.join
theorem Ro.Good.ok {R : Ro} {i : Nat} (h : R.Good i) (hi : i ≤ 100) : R.Ok := by
  apply ok_of
  simp only [okB, Bool.and_eq_true, decide_eq_true_eq, List.all_eq_true]
  exact ⟨⟨⟨⟨h.cache.1, by have := h.cache.2; omega, by have := h.epoch; omega, by have := h.lease; omega, by have := h.joins; omega, h.len⟩, h.each⟩, h.sorted⟩, h.apart⟩
theorem Ro.Good.sorted' {R : Ro} {i : Nat} (h : R.Good i) : Sorted' R.ms := fun a b ha hb hab => List.pairwise_iff_getElem.1 h.sorted a b ha hb hab
theorem good_start : Ro.Good ⟨1, 0, 0, 0, []⟩ 0 := ⟨by simp, by simp, by simp, by simp, by simp, by simp, by simp, by simp⟩
theorem Ro.Good.more {R : Ro} {i : Nat} (h : R.Good i) : R.Good (i + 1) :=
  ⟨⟨h.cache.1, by have := h.cache.2; omega⟩, by have := h.epoch; omega, by have := h.lease; omega, by have := h.joins; omega, h.len, h.each, h.sorted, h.apart⟩

theorem Ro.Good.extend {R : Ro} {i : Nat} (h : R.Good i) : (extendF R).Good (i + 1) :=
  ⟨⟨h.cache.1, by have := h.cache.2; simp [extendF]; omega⟩, by have := h.epoch; simp [extendF]; omega, by have := h.lease; simp [extendF]; omega, by have := h.joins; simp [extendF]; omega, h.len, h.each, h.sorted, h.apart⟩
theorem Ro.Good.fresh {R : Ro} {i : Nat} (h : R.Good i) : (freshF R).Good (i + 1) :=
  ⟨by have := h.cache; simp [freshF]; omega, by have := h.epoch; simp [freshF]; omega, by have := h.lease; simp [freshF]; omega, by have := h.joins; simp [freshF]; omega, by simp [freshF], by simp [freshF], by simp [freshF], by simp [freshF]⟩
theorem Ro.Good.remove {R : Ro} {i : Nat} (h : R.Good i) (n : Int) : (removeF R n).2 = 0 → (removeF R n).1.Good (i + 1) := by
  intro h0
  rw [removeF] at h0 ⊢
  split at h0
  · rename_i ht
    rw [if_pos ht]
    have hs : (R.ms.eraseIdx (pos n R.ms)).Sublist R.ms := List.eraseIdx_sublist _ _
    exact ⟨⟨h.cache.1, by have := h.cache.2; simp; omega⟩, by have := h.epoch; simp; omega, by have := h.lease; simp; omega, by have := h.joins; simp; omega, Nat.le_trans hs.length_le h.len, fun m hm => h.each m (hs.subset hm), h.sorted.sublist hs, h.apart.sublist hs⟩
  · simp at h0
theorem set_pairwise {ms : List Mb} {i : Nat} (hi : i < ms.length) (f : Mb → Nat) (r : Nat → Nat → Prop) (x : Mb) (hx : f x = f ms[i]) (h : ms.Pairwise fun a b => r (f a) (f b)) : (ms.set i x).Pairwise fun a b => r (f a) (f b) := by
  have e : (ms.set i x).map f = ms.map f := by
    rw [List.map_set, hx]
    apply List.ext_getElem?
    intro j
    rw [List.getElem?_set]
    split
    · rename_i hj; subst hj; simp [hi]
    · rfl
  have h1 : (ms.map f).Pairwise r := List.pairwise_map.2 h
  rw [← e] at h1
  exact List.pairwise_map.1 h1
theorem Ro.Good.drain {R : Ro} {i : Nat} (h : R.Good i) (n : Int) : (drainF R n).2 = 0 → (drainF R n).1.Good (i + 1) := by
  intro h0
  rw [drainF] at h0 ⊢
  split at h0
  · rename_i ht
    obtain ⟨hp, hq⟩ := at_pos h.sorted' ht
    rw [if_pos ht]
    rw [List.getElem?_eq_getElem hp] at h0 ⊢
    simp only at h0 ⊢
    split at h0
    · simp at h0
    · rename_i h2
      rw [if_neg h2]
      refine ⟨⟨h.cache.1, by have := h.cache.2; simp; omega⟩, by have := h.epoch; simp; omega, by have := h.lease; simp; omega, by have := h.joins; simp; omega, by simp; exact h.len, fun m hm => ?_, set_pairwise hp (·.serial) (· < ·) _ rfl h.sorted, set_pairwise hp (·.join) (· ≠ ·) _ rfl h.apart⟩
      rcases List.mem_or_eq_of_mem_set hm with hm | rfl
      · exact h.each m hm
      · have := h.each _ (List.getElem_mem hp)
        exact ⟨this.1, this.2.1, this.2.2.1, this.2.2.2.1, .inr rfl⟩
  · simp at h0
theorem Ro.Good.add {R : Ro} {i : Nat} (h : R.Good i) (n : Int) : (addF R n).2 = 0 → (addF R n).1.Good (i + 1) ∧ (addF R n).1.joins = R.joins + 1 ∧ ∃ k, ∃ hk : k < (addF R n).1.ms.length, ((addF R n).1.ms[k].serial : Int) = n ∧ (addF R n).1.ms[k].join = R.joins + 1 := by
  intro h0
  rw [addF] at h0 ⊢
  by_cases h1 : ¬ (1 ≤ n ∧ n ≤ 1000)
  · rw [if_pos h1] at h0; simp at h0
  · rw [if_neg h1] at h0 ⊢
    by_cases ht : there n R.ms = true
    · rw [if_pos ht] at h0; simp at h0
    · rw [if_neg ht] at h0 ⊢
      by_cases hl : R.ms.length = 16
      · rw [if_pos hl] at h0; simp at h0
      · rw [if_neg hl]
        have h1' := Decidable.not_not.1 h1
        obtain ⟨b1, b2, b3⟩ := below_pos n h.sorted'
        have hj := h.joins
        have hmem : ∀ m ∈ R.ms.take (pos n R.ms), (m.serial : Int) < n := fun m hm => by
          obtain ⟨k, hk, rfl⟩ := List.getElem_of_mem hm
          rw [List.length_take] at hk
          rw [List.getElem_take]
          exact b2 k (by omega) (by omega)
        have hmem' : ∀ m ∈ R.ms.drop (pos n R.ms), n < (m.serial : Int) := fun m hm => by
          obtain ⟨k, hk, rfl⟩ := List.getElem_of_mem hm
          rw [List.length_drop] at hk
          rw [List.getElem_drop]
          have h3 := b3 (pos n R.ms + k) (by omega) (by omega)
          have h4 : ¬ (R.ms[pos n R.ms + k].serial : Int) = n := fun e => ht (there_iff.2 ⟨_, by omega, e⟩)
          omega
        have ht1 := List.take_subset (pos n R.ms) R.ms
        have hd1 := List.drop_subset (pos n R.ms) R.ms
        have htd : R.ms.take (pos n R.ms) ++ R.ms.drop (pos n R.ms) = R.ms := List.take_append_drop _ _
        have hs := h.sorted
        have ha := h.apart
        rw [← htd] at hs ha
        rw [List.pairwise_append] at hs ha
        refine ⟨⟨⟨h.cache.1, by have := h.cache.2; simp; omega⟩, by have := h.epoch; simp; omega, by have := h.lease; simp; omega, by simp; omega, ?_, ?_, ?_, ?_⟩, rfl, pos n R.ms, ?_⟩
        · show (_ ++ _ :: _ : List Mb).length ≤ 16
          rw [List.length_append, List.length_cons, List.length_take, List.length_drop]
          have := h.len; omega
        · intro m hm
          simp only [List.mem_append, List.mem_cons] at hm
          rcases hm with hm | rfl | hm
          · have := h.each m (ht1 hm); simp; omega
          · simp; omega
          · have := h.each m (hd1 hm); simp; omega
        · show (_ ++ _ :: _ : List Mb).Pairwise _
          rw [List.pairwise_append, List.pairwise_cons]
          refine ⟨hs.1, ⟨fun m hm => ?_, hs.2.1⟩, fun a ha' b hb => ?_⟩
          · have := hmem' m hm; show n.toNat < m.serial; omega
          · simp only [List.mem_cons] at hb
            rcases hb with rfl | hb
            · have := hmem a ha'; show a.serial < n.toNat; omega
            · exact hs.2.2 a ha' b hb
        · show (_ ++ _ :: _ : List Mb).Pairwise _
          rw [List.pairwise_append, List.pairwise_cons]
          refine ⟨ha.1, ⟨fun m hm => ?_, ha.2.1⟩, fun a ha' b hb => ?_⟩
          · have := h.each m (hd1 hm); show R.joins + 1 ≠ m.join; omega
          · simp only [List.mem_cons] at hb
            rcases hb with rfl | hb
            · have := h.each a (ht1 ha'); show a.join ≠ R.joins + 1; omega
            · exact ha.2.2 a ha' b hb
        · have hlt : (R.ms.take (pos n R.ms)).length = pos n R.ms := by rw [List.length_take]; omega
          refine ⟨by show _ < (_ ++ _ :: _ : List Mb).length; rw [List.length_append, List.length_cons, hlt]; omega, ?_⟩
          have e : (R.ms.take (pos n R.ms) ++ (⟨n.toNat, R.joins + 1, 1⟩ : Mb) :: R.ms.drop (pos n R.ms))[pos n R.ms]? = some ⟨n.toNat, R.joins + 1, 1⟩ := by
            rw [List.getElem?_append_right (by rw [hlt]; exact Nat.le_refl _), hlt, Nat.sub_self]; rfl
          have e2 := (List.getElem?_eq_some_iff.1 e).2
          show (((R.ms.take (pos n R.ms) ++ (⟨n.toNat, R.joins + 1, 1⟩ : Mb) :: R.ms.drop (pos n R.ms))[pos n R.ms]'_).serial : Int) = n ∧ ((R.ms.take (pos n R.ms) ++ (⟨n.toNat, R.joins + 1, 1⟩ : Mb) :: R.ms.drop (pos n R.ms))[pos n R.ms]'_).join = R.joins + 1
          rw [e2]
          exact ⟨by show ((n.toNat : Nat) : Int) = n; omega, rfl⟩

/-- One change: the roster, the error's number. -/
def stepF (kind : Int) (R : Ro) (n : Int) : Ro × Nat :=
  if kind = 1 then drainF R n else if kind = 2 then removeF R n else if kind = 3 then (extendF R, 0) else if kind = 4 then (freshF R, 0) else addF R n
theorem step_good {R : Ro} {i : Nat} (h : R.Good i) (kind n : Int) (h0 : (stepF kind R n).2 = 0) : (stepF kind R n).1.Good (i + 1) ∧ R.joins ≤ (stepF kind R n).1.joins ∧
    (kind = 0 → (stepF kind R n).1.joins = R.joins + 1 ∧ ∃ k, ∃ hk : k < (stepF kind R n).1.ms.length, ((stepF kind R n).1.ms[k].serial : Int) = n ∧ (stepF kind R n).1.ms[k].join = R.joins + 1) := by
  unfold stepF at h0 ⊢
  by_cases h1 : kind = 1
  · rw [if_pos h1] at h0 ⊢
    refine ⟨h.drain n h0, ?_, fun e => by omega⟩
    unfold drainF at h0 ⊢
    split at h0
    · rename_i ht
      obtain ⟨hp, hq⟩ := at_pos h.sorted' ht
      rw [if_pos ht]
      rw [List.getElem?_eq_getElem hp] at h0 ⊢
      simp only at h0 ⊢
      split at h0
      · simp at h0
      · rename_i h2
        rw [if_neg h2]
        exact Nat.le_refl _
    · simp at h0
  · rw [if_neg h1] at h0 ⊢
    by_cases h2 : kind = 2
    · rw [if_pos h2] at h0 ⊢
      refine ⟨h.remove n h0, ?_, fun e => by omega⟩
      unfold removeF at h0 ⊢
      split at h0
      · rename_i ht; rw [if_pos ht]; exact Nat.le_refl _
      · simp at h0
    · rw [if_neg h2] at h0 ⊢
      by_cases h3 : kind = 3
      · rw [if_pos h3] at h0 ⊢
        exact ⟨h.extend, Nat.le_refl _, fun e => by omega⟩
      · rw [if_neg h3] at h0 ⊢
        by_cases h4 : kind = 4
        · rw [if_pos h4] at h0 ⊢
          exact ⟨h.fresh, Nat.le_refl _, fun e => by omega⟩
        · rw [if_neg h4] at h0 ⊢
          obtain ⟨a, b, c⟩ := h.add n h0
          exact ⟨a, by omega, fun _ => ⟨b, c⟩⟩
end Go.Proofs.Ytecjailgiknfcaa

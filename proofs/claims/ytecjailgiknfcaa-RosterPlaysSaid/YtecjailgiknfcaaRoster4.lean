/-
  The roster, part 4: Fresh, Extend, All, Active.
-/
import Derived.Test.YtecjailgiknfcaaRoster3
set_option linter.unusedVariables false
set_option linter.unusedSimpArgs false
namespace Go.Proofs.Ytecjailgiknfcaa
open Go.RowKit

def freshF (R : Ro) : Ro := ⟨R.cache + 1, R.epoch + 1, R.lease, R.joins, []⟩
def extendF (R : Ro) : Ro := ⟨R.cache, R.epoch + 1, R.lease + 64, R.joins, R.ms⟩

set_option maxHeartbeats 2000000 in
set_option maxRecDepth 100000 in
theorem fresh_any (R : Ro) (v : Value) (w : World) (h : Mem 72 w v R.ms) (hl : R.ms.length ≤ 1000000) (he : R.epoch ≤ 1000000) (hc : R.cache ≤ 1000000) :
    Calls Try.prog 35 #[R.val v] w fun e w' => e = .returned ((freshF R).val (.slice none 0 0)) ∧ Kp w w' := by
  obtain ⟨c, e, l, j, ms⟩ := R
  have nx := next_any ⟨c, e, l, j, ms⟩ v
  simp only [Ro.val, Ro.next, freshF] at *
  obtain ⟨va, vc, rfl, hc1, hc2⟩ := h.slice
  clear hc1 hc2
  have hi51 : (Try.prog.info? 51).map (·.size) = some 5 := by kernel_rfl
  go_enter Try.func35, Try.ntmps35
  go_wp2_with fail
  refine (nx _ ((h.alloc _).alloc _) hl he).mono ?_
  rintro en w1 ⟨v', rfl, hm, hk, hfr⟩
  obtain ⟨va', vc', rfl, hd1, hd2⟩ := hm.slice
  obtain ⟨p0, p1, hK, hsz⟩ := box2 hk
  clear hk nx hfr hd1 hd2 hm
  go_wp2_with (with_reducible refine stop_store 51 ?_)
  unfold Hid
  refine wpList_st _ _ _ _ p0 rfl rfl hi51 rfl rfl ?_
  intro w2 p2 k2
  unfold Hid
  have q1 := p1.fr k2 (by omega)
  have hK2 : Kp w w2 := hK.trans' k2 (fun i hi hs => by omega)
  clear p0 p1 k2 hK
  have c0 := p2.five
  have f0 := p2.frozen
  go_wp2_with (with_reducible refine stop_store 51 ?_)
  unfold Hid
  refine wpList_st _ _ _ _ ((q1.other (by simp) _).other (by simp) _) rfl rfl hi51 rfl rfl ?_
  intro w3 p3 k3
  unfold Hid
  go_wp2
  have c3 := p3.five
  refine ⟨rfl, .agg #[.int .u64 (c + 1 : Nat), .int .u64 (e + 1 : Nat), .int .u64 l, .int .u64 j, .slice none 0 0], by simp [results, Try.results35, go_sem, c3], rfl, ?_⟩
  exact ((hK2.setCell _ (fun h => absurd h (by simp)) _).setCell _ (fun h => absurd h (by simp)) _).trans' k3 (fun i hi hs => by omega)

set_option maxHeartbeats 2000000 in
set_option maxRecDepth 100000 in
theorem extend_any (R : Ro) (v : Value) (w : World) (h : Mem 72 w v R.ms) (hl : R.ms.length ≤ 1000000) (he : R.epoch ≤ 1000000) (hle : R.lease ≤ 100000000) :
    Calls Try.prog 42 #[R.val v] w fun e w' => ∃ v', e = .returned ((extendF R).val v') ∧ (Mem 72 w' v' R.ms ∧ Kp w w') := by
  obtain ⟨c, e, l, j, ms⟩ := R
  have nx := next_any ⟨c, e, l, j, ms⟩ v
  simp only [Ro.val, Ro.next, extendF] at *
  obtain ⟨va, vc, rfl, hc1, hc2⟩ := h.slice
  clear hc1 hc2
  have hi51 : (Try.prog.info? 51).map (·.size) = some 5 := by kernel_rfl
  go_enter Try.func42, Try.ntmps42
  go_wp2_with fail
  refine (nx _ ((h.alloc _).alloc _) hl he).mono ?_
  rintro en w1 ⟨v', rfl, hm, hk, hfr⟩
  obtain ⟨va', vc', rfl, hd1, hd2⟩ := hm.slice
  obtain ⟨p0, p1, hK, hsz⟩ := box2 hk
  have n0 := hm.ne p0 (by decide)
  have n1 := hm.ne p1 (by decide)
  clear hk nx hfr hd1 hd2
  go_wp2_with (with_reducible refine stop_store 51 ?_)
  unfold Hid
  refine wpList_st _ _ _ _ p0 rfl rfl hi51 rfl rfl ?_
  intro w2 p2 k2
  unfold Hid
  have q1 := p1.fr k2 (by omega)
  have hK2 : Kp w w2 := hK.trans' k2 (fun i hi hs => by omega)
  have m2 := hm.fr k2 (fun b hb hs => n0 (hs ▸ hb))
  clear p0 p1 k2 hK hm
  have c0 := p2.five
  have f0 := p2.frozen
  go_wp2_with (with_reducible refine stop_store 51 ?_)
  unfold Hid
  refine wpList_st _ _ _ _ (q1.other (by simp) _) rfl rfl hi51 rfl rfl ?_
  intro w3 p3 k3
  unfold Hid
  go_wp2
  have c3 := p3.five
  refine ⟨rfl, .agg #[.int .u64 c, .int .u64 (e + 1 : Nat), .int .u64 (l + 64 : Nat), .int .u64 j, .slice va' ms.length vc'], by simp [results, Try.results42, go_sem, c3], _, rfl, ?_, ?_⟩
  · exact (m2.fr ((Fr.refl (fun b => b = w.heap.size) w2).setCell _ (fun _ => rfl) _) (fun b hb hs => n0 (hs ▸ hb))).fr k3 (fun b hb hs => n1 (hs ▸ hb))
  · exact (hK2.setCell _ (fun h => absurd h (by simp)) _).trans' k3 (fun i hi hs => by omega)

theorem infoInt : (Try.prog.info? 3).map (fun i => (i.zero, i.size, i.bytes)) = some (some (.int .i64 0), 1, 8) := by kernel_rfl
def serials (ms : List Mb) : List Value := ms.map fun m => .int .i64 m.serial
theorem serials_succ (ms : List Mb) (k : Nat) (h : k < ms.length) : serials (ms.take (k + 1)) = serials (ms.take k) ++ [.int .i64 (ms[k].serial : Int)] := by
  rw [List.take_add_one, List.getElem?_eq_getElem h, serials, List.map_append]; rfl
/-- A slice of ints grows by one, of which the cell was laid just now. -/
theorem one_new {W : World} {v : Value} {t : TypeId} : ∀ j u, [v][j]? = some u → (W.alloc (.cells #[v] t)).cell? ((⟨W.heap.size, 0, none⟩ : Addr).add j) = some u := by
  intro j u hj
  match j, hj with
  | 0, hj =>
    have e : v = u := by simpa using hj
    subst e
    rw [Addr.add_lit, Nat.zero_add]
    simp [go_sem]
  | j + 1, hj => simp at hj

set_option maxHeartbeats 2000000 in
set_option maxRecDepth 100000 in
theorem all_any (R : Ro) (v : Value) (w : World) (h : Mem 72 w v R.ms) (hl : R.ms.length ≤ 1000) :
    Calls Try.prog 34 #[R.val v] w fun e w' => ∃ v', e = .returned v' ∧ (w'.ownsRow w.heap.size 3 1 v' R.ms.length (serials R.ms) ∧ Kp w w') := by
  obtain ⟨c, e, l, j, ms⟩ := R
  simp only [Ro.val] at *
  obtain ⟨va, vc, rfl, hc1, hc2⟩ := h.slice
  clear hc1 hc2
  obtain ⟨i0, hi0, hz0, hzs, hzb⟩ := info_parts infoInt
  go_enter Try.func34, Try.ntmps34
  go_wp2
  go_loopw [3, 9] (fun out i wr => ∃ k : Nat, k ≤ ms.length ∧ i = .int .i64 k ∧ wr.ownsRow w.heap.size 3 1 out k (serials (ms.take k)) ∧ Kp w wr) (fun _ i _ => ms.length - (intOf i).toNat)
  case atStart => exact ⟨0, Nat.zero_le _, rfl, World.ownsRow_nil _ _ _ _, (Fr.refl _ w).alloc _⟩
  case round =>
    obtain ⟨k, hk, rfl, hown, hK⟩ := hrel
    by_cases hlt : k < ms.length
    · obtain ⟨bb, rfl, hbb, g0, g1, g2⟩ := (h.kp hK).get k hlt
      have k0 : (0 : Int) ≤ (k : Int) := by omega
      have k1 : (k : Int) < (ms.length : Int) := by omega
      have hser := Lib.hid (serials_succ ms k hlt)
      generalize ms[k] = m at *
      go_wp2_with (at_builtin; refine Hid.out ?_)
      unfold Hid
      refine wpList_append_own _ rfl _ _ 55 rfl w.heap.size 3 i0 _ 1 8 Try.underlying55 hi0 hz0 hzs hzb rfl (by decide) _ k (serials (ms.take k)) rfl ((hown.alloc _).alloc _)
        ⟨(wr.alloc (.cells #[.int .i64 m.serial, .int .u64 m.join, .int .i64 m.state] 72)).heap.size, 0, none⟩ 1 1 [.int .i64 m.serial] (by simp [go_sem, Act.eval, Act.put]) rfl one_new (fun u hu => by simp at hu; subst hu; rfl) (by unfold maxLen; omega) (by omega) (by simp; have := hK.size; omega) ?_
      intro v' w' ho hg _
      have hK' : Kp w w' := (((hK.alloc _).alloc _).trans' (grown_fr hg) (fun i hi hs => by have := (hown.lt i hs.symm).1; omega))
      go_wp2
      refine ⟨⟨k + 1, by omega, rfl, by rw [hser.out]; exact ho, hK'⟩, by simp [intOf]; omega⟩
    · have hlt' : (ms.length : Int) ≤ k := by omega
      have hkl : k = ms.length := by omega
      subst hkl
      rw [List.take_length] at hown
      go_wp2
      go_ret
      exact ⟨_, rfl, hown, hK⟩
end Go.Proofs.Ytecjailgiknfcaa

/-
  The document's roster, part 1: copied, Find, Extend, Fresh.
-/
import Derived.Test.YtecjailgiknfcaaRoster7
import Derived.Laws.AppendOwnNone
set_option linter.unusedVariables false
set_option linter.unusedSimpArgs false
namespace Go.Proofs.Ytecjailgiknfcaa
open Go.RowKit

theorem infoRef : (Try.prog.info? 103).map (fun i => (i.zero, i.size, i.bytes)) = some (some (.agg #[.int .i64 0, .int .u64 0, .int .i64 0]), 3, 24) := by kernel_rfl

/-- append of members to an empty slice that was made just now. -/
theorem append_fresh (w : World) (v : Value) (ms : List Mb) (h : Mem 103 w v ms) (hl : ms.length ≤ 1000000) (ty : TypeId) :
    ∃ v' w', (Builtin.append_ #[61, 61] ty #[.slice (some ⟨w.heap.size, 0, none⟩) 0 0, v]).run Try.prog (w.alloc (.cells #[] 103)) = .ok v' w' ∧
      Mem 103 w' v' ms ∧ Fr (fun k => k = w.heap.size) (w.alloc (.cells #[] 103)) w' ∧ (∀ b, v'.ownBlock = some b → w.heap.size ≤ b) := by
  obtain ⟨i0, hi0, hz0, hzs, hzb⟩ := info_parts infoRef
  have hown : (w.alloc (.cells #[] 103)).ownsRow w.heap.size 103 3 (.slice (some ⟨w.heap.size, 0, none⟩) 0 0) 0 [] := World.ownsRow_made w #[] 0 (Nat.le_refl _) (by simp [maxLen]) (by simp)
  have hm0 := h.alloc (.cells #[] 103)
  rcases h.parts with ⟨rfl, rfl⟩ | ⟨b, cc, row, rfl, hR, hrl, hnc, hcm, hrt, hcell⟩
  · refine ⟨_, _, run_append_owned_none (P := Try.prog) _ w.heap.size _ ty _ i0 3 Try.underlying61 hi0 _ 0 [] hown, ?_, Fr.refl _ _, fun b hb => by simp [Value.ownBlock] at hb; omega⟩
    exact ⟨hown.1, hown.2.imp (fun h => h) (fun ⟨g, cap, cur, h1, h2, h3⟩ => ⟨g, cap, cur, h1, Nat.zero_le _, h3⟩)⟩
  · have hnews : ∀ j u, (flat ms)[j]? = some u → (w.alloc (.cells #[] 103)).cell? ((⟨b, 0, none⟩ : Addr).add j) = some u := fun j u hj => by
      have hjl : j < ms.length * 3 := by
        rw [← flat_length]
        rcases Nat.lt_or_ge j (flat ms).length with h | h
        · exact h
        · rw [List.getElem?_eq_none h] at hj; cases hj
      rw [Addr.add_lit, Nat.zero_add, (hR.alloc _).cell, ← hj, ← hrt, List.getElem?_take, if_pos hjl]
    obtain ⟨v', w', hr, ho, hg, _⟩ := run_append_own (P := Try.prog) (w.alloc (.cells #[] 103)) w.heap.size 61 ty 103 i0 _ 3 24 Try.underlying61 hi0 hz0 hzs hzb rfl (by decide) _ 0 [] hown
      ⟨b, 0, none⟩ ms.length cc (flat ms) (flat_length ms) hnews (flat_one ms) (by unfold maxLen; omega) (by omega) (by simp)
    refine ⟨v', w', hr, ?_, (grown_fr hg).mono (fun i hi hs => (Option.some.inj hs)), fun b hb => (ho.lt b hb).1⟩
    rw [Nat.zero_add, List.nil_append] at ho
    exact ⟨ho.1, ho.2.imp (fun h => h) (fun ⟨g, cap, cur, h1, h2, h3⟩ => ⟨g, cap, cur, h1, Nat.zero_le _, h3⟩)⟩

set_option maxHeartbeats 2000000 in
set_option maxRecDepth 100000 in
theorem copied_any (R : Ro) (v : Value) (w : World) (h : Mem 103 w v R.ms) (hl : R.ms.length ≤ 1000000) (he : R.epoch ≤ 1000000) :
    Calls Try.prog 63 #[R.val v] w fun e w' => ∃ v', e = .returned (R.next.val v') ∧ (Mem 103 w' v' R.ms ∧ Kp w w' ∧ (∀ b, v'.ownBlock = some b → w.heap.size ≤ b)) := by
  obtain ⟨c, e, l, j, ms⟩ := R
  simp only [Ro.val, Ro.next] at *
  have hi63 : (Try.prog.info? 63).map (·.size) = some 5 := by kernel_rfl
  obtain ⟨va, vc, rfl, _, _⟩ := h.slice
  have hsz2 : ((w.alloc (.cells #[.int .u64 c, .int .u64 (e + 1), .int .u64 l, .int .u64 j, .slice va ms.length vc] 63)).alloc (.cells #[.int .u64 0, .int .u64 0, .int .u64 0, .int .u64 0, .slice none 0 0] 63)).heap.size = w.heap.size + 2 := by simp
  obtain ⟨v', w4, hap, hm, hk, hfr⟩ := append_fresh ((w.alloc (.cells #[.int .u64 c, .int .u64 (e + 1), .int .u64 l, .int .u64 j, .slice va ms.length vc] 63)).alloc (.cells #[.int .u64 0, .int .u64 0, .int .u64 0, .int .u64 0, .slice none 0 0] 63)) _ ms ((h.alloc _).alloc _) hl 61
  rw [hsz2] at hap hk hfr
  have hkp : Kp ((w.alloc (.cells #[.int .u64 c, .int .u64 (e + 1), .int .u64 l, .int .u64 j, .slice va ms.length vc] 63)).alloc (.cells #[.int .u64 0, .int .u64 0, .int .u64 0, .int .u64 0, .slice none 0 0] 63)) w4 :=
    ((Fr.refl (fun _ => False) _).alloc _).trans' hk (fun i hi hs => by rw [hsz2] at hi; omega)
  obtain ⟨p0, p1, hK, hsz⟩ := box2 hkp
  have n0 := hm.ne p0 (by decide)
  have n1 := hm.ne p1 (by decide)
  obtain ⟨va', vc', rfl, _, _⟩ := hm.slice
  clear hkp hk hsz2
  go_enter Try.func63, Try.ntmps63
  go_wp2_with (at_builtin; refine Hid.out ?_)
  unfold Hid
  refine Lib.wpList_append_run _ rfl _ _ _ _ rfl _ _ rfl rfl _ _ hap ?_
  clear hap
  have c0 := p0.five
  have f0 := p0.frozen
  go_wp2_with (with_reducible refine stop_store 63 ?_)
  unfold Hid
  refine wpList_st _ _ _ _ (p1.other (by simp) _) rfl rfl hi63 rfl rfl ?_
  intro w3 p3 k3
  unfold Hid
  go_wp2
  have c3 := p3.five
  refine ⟨rfl, .agg #[.int .u64 c, .int .u64 (e + 1 : Nat), .int .u64 l, .int .u64 j, .slice va' ms.length vc'], by simp [results, Try.results63, go_sem, c3], _, rfl, ?_, ?_, fun b hb => by have := hfr b hb; omega⟩
  · exact (hm.fr ((Fr.refl (fun b => b = w.heap.size) w4).setCell _ (fun _ => rfl) _) (fun b hb hs => n0 (hs ▸ hb))).fr k3 (fun b hb hs => n1 (hs ▸ hb))
  · exact (hK.setCell _ (fun h => absurd h (by simp)) _).trans' k3 (fun i hi hs => by omega)

set_option maxHeartbeats 2000000 in
set_option maxRecDepth 100000 in
theorem rextend_any (R : Ro) (v : Value) (w : World) (h : Mem 103 w v R.ms) (hl : R.ms.length ≤ 1000000) (he : R.epoch ≤ 1000000) (hle : R.lease ≤ 100000000) :
    Calls Try.prog 41 #[R.val v] w fun e w' => ∃ v', e = .returned ((extendF R).val v') ∧ (Mem 103 w' v' R.ms ∧ Kp w w') := by
  obtain ⟨c, e, l, j, ms⟩ := R
  have nx := copied_any ⟨c, e, l, j, ms⟩ v
  simp only [Ro.val, Ro.next, extendF] at *
  obtain ⟨va, vc, rfl, hc1, hc2⟩ := h.slice
  clear hc1 hc2
  have hi63 : (Try.prog.info? 63).map (·.size) = some 5 := by kernel_rfl
  go_enter Try.func41, Try.ntmps41
  go_wp2_with fail
  refine (nx _ ((h.alloc _).alloc _) hl he).mono ?_
  rintro en w1 ⟨v', rfl, hm, hk, hfr⟩
  obtain ⟨va', vc', rfl, hd1, hd2⟩ := hm.slice
  obtain ⟨p0, p1, hK, hsz⟩ := box2 hk
  have n0 := hm.ne p0 (by decide)
  have n1 := hm.ne p1 (by decide)
  clear hk nx hfr hd1 hd2
  go_wp2_with (with_reducible refine stop_store 63 ?_)
  unfold Hid
  refine wpList_st _ _ _ _ p0 rfl rfl hi63 rfl rfl ?_
  intro w2 p2 k2
  unfold Hid
  have q1 := p1.fr k2 (by omega)
  have hK2 : Kp w w2 := hK.trans' k2 (fun i hi hs => by omega)
  have m2 := hm.fr k2 (fun b hb hs => n0 (hs ▸ hb))
  clear p0 p1 k2 hK hm
  have c0 := p2.five
  have f0 := p2.frozen
  go_wp2_with (with_reducible refine stop_store 63 ?_)
  unfold Hid
  refine wpList_st _ _ _ _ (q1.other (by simp) _) rfl rfl hi63 rfl rfl ?_
  intro w3 p3 k3
  unfold Hid
  go_wp2
  have c3 := p3.five
  refine ⟨rfl, .agg #[.int .u64 c, .int .u64 (e + 1 : Nat), .int .u64 (l + 64 : Nat), .int .u64 j, .slice va' ms.length vc'], by simp [results, Try.results41, go_sem, c3], _, rfl, ?_, ?_⟩
  · exact (m2.fr ((Fr.refl (fun b => b = w.heap.size) w2).setCell _ (fun _ => rfl) _) (fun b hb hs => n0 (hs ▸ hb))).fr k3 (fun b hb hs => n1 (hs ▸ hb))
  · exact (hK2.setCell _ (fun h => absurd h (by simp)) _).trans' k3 (fun i hi hs => by omega)

set_option maxHeartbeats 2000000 in
set_option maxRecDepth 100000 in
theorem rfresh_any (R : Ro) (v : Value) (w : World) (h : Mem 103 w v R.ms) (hl : R.ms.length ≤ 1000000) (he : R.epoch ≤ 1000000) (hc : R.cache ≤ 1000000) :
    Calls Try.prog 43 #[R.val v] w fun e w' => e = .returned ((freshF R).val (.slice none 0 0)) ∧ Kp w w' := by
  obtain ⟨c, e, l, j, ms⟩ := R
  have nx := copied_any ⟨c, e, l, j, ms⟩ v
  simp only [Ro.val, Ro.next, freshF] at *
  obtain ⟨va, vc, rfl, hc1, hc2⟩ := h.slice
  clear hc1 hc2
  have hi63 : (Try.prog.info? 63).map (·.size) = some 5 := by kernel_rfl
  go_enter Try.func43, Try.ntmps43
  go_wp2_with fail
  refine (nx _ ((h.alloc _).alloc _) hl he).mono ?_
  rintro en w1 ⟨v', rfl, hm, hk, hfr⟩
  obtain ⟨va', vc', rfl, hd1, hd2⟩ := hm.slice
  obtain ⟨p0, p1, hK, hsz⟩ := box2 hk
  clear hk nx hfr hd1 hd2 hm
  go_wp2_with (with_reducible refine stop_store 63 ?_)
  unfold Hid
  refine wpList_st _ _ _ _ p0 rfl rfl hi63 rfl rfl ?_
  intro w2 p2 k2
  unfold Hid
  have q1 := p1.fr k2 (by omega)
  have hK2 : Kp w w2 := hK.trans' k2 (fun i hi hs => by omega)
  clear p0 p1 k2 hK
  have c0 := p2.five
  have f0 := p2.frozen
  go_wp2_with (with_reducible refine stop_store 63 ?_)
  unfold Hid
  refine wpList_st _ _ _ _ ((q1.other (by simp) _).other (by simp) _) rfl rfl hi63 rfl rfl ?_
  intro w3 p3 k3
  unfold Hid
  go_wp2
  have c3 := p3.five
  refine ⟨rfl, .agg #[.int .u64 (c + 1 : Nat), .int .u64 (e + 1 : Nat), .int .u64 l, .int .u64 j, .slice none 0 0], by simp [results, Try.results43, go_sem, c3], rfl, ?_⟩
  exact ((hK2.setCell _ (fun h => absurd h (by simp)) _).setCell _ (fun h => absurd h (by simp)) _).trans' k3 (fun i hi hs => by omega)

end Go.Proofs.Ytecjailgiknfcaa

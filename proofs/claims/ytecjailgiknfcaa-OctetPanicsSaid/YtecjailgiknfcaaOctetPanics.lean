/-
  The walk of the statement OctetPanics.
-/
import Derived.Test.YtecjailgiknfcaaInTake
import Derived.Test.YtecjailgiknfcaaOctetHex
set_option linter.unusedVariables false
namespace Go.Proofs.Ytecjailgiknfcaa
open Go.RowKit

theorem callFunc_27 (p : Value) (c : Value) (W : World) : (callFunc 27 (#[p] ++ #[c])).run Try.prog W = .ok (.enter 27 (#[p] ++ #[c])) W := by simp [go_sem]

set_option maxHeartbeats 800000 in
set_option maxRecDepth 100000 in
theorem pan_inner (p : Value) (bs : Nat) (s : ByteArray) (w : World) (h : At w bs (.string s)) (hz : s.size ≤ 20) :
    Calls Try.prog 27 #[p, .pointer (some ⟨bs, 0, none⟩)] w fun e w' => e = .panicked [{ v := .iface 9 (.string (s ++ ⟨#[33]⟩)), recovered := false }] ∧ w' = w := by
  obtain ⟨h1, h2, h3⟩ := h
  go_enter Try.func27, Try.ntmps27
  go_wp2
  simp [bodyPost]

theorem assert_str (t : ByteArray) (w : World) : (Instr.typeAssert (.iface 9 (.string t)) 20 9 true).run Try.prog w = .ok (.tuple #[.string t, .bool true]) w := by kernel_rfl

set_option maxHeartbeats 800000 in
set_option maxRecDepth 100000 in
theorem pan_back (bg : Nat) (t x : ByteArray) (older : List PanicEntry) (w : World) (h : At w bg (.string x)) :
    CallsD Try.prog 25 #[.pointer (some ⟨bg, 0, none⟩)] (.panicking ({ v := .iface 9 (.string t), recovered := false } :: older)) w fun e u' w' =>
      e = .returned (.tuple #[]) ∧ u' = .panicking ({ v := .iface 9 (.string t), recovered := true } :: older) ∧ w' = w.setCell ⟨bg, 0, none⟩ (.string t) := by
  obtain ⟨h1, h2, h3⟩ := h
  refine callsD_of_wpS Try.func25 rfl fun c₀ cs hc => ?_
  simp only [Try.ntmps25, List.size_toArray, List.length_cons, List.length_nil, Nat.reduceAdd, Nat.reduceSub, Array.replicate_succ,
    Array.replicate_zero, List.push_toArray, List.append_toArray, List.nil_append, List.cons_append]
  apply wpS_seq
  apply wpS_region
  have ha := assert_str t
  simp [wpOpsS, go_sem, recoverD, hc, ha, Exit.thenS]
  refine wpS_of_wp ?_
  go_wp2
  refine ⟨rfl, _, rfl, .tuple #[], ?_, rfl, rfl, rfl⟩
  simp [results, Try.results25, go_sem]

set_option maxHeartbeats 800000 in
set_option maxRecDepth 100000 in
theorem pan_out (bg bs : Nat) (s x : ByteArray) (w : World) (hg : At w bg (.string x)) (hs : At w bs (.string s)) (hne : ¬ bg = bs) (hz : s.size ≤ 20) :
    Calls Try.prog 24 #[.pointer (some ⟨bg, 0, none⟩), .pointer (some ⟨bs, 0, none⟩)] w fun e w' => e = .returned (.tuple #[]) ∧ At w' bg (.string (s ++ ⟨#[33]⟩)) ∧ Fr (fun k => k = bg) w w' := by
  have hmf : ∀ (fn : Fn) (first cap : Array Value) (w : World), (Instr.makeFunc fn first cap).run Try.prog w = .ok (.func fn first cap) w := fun _ _ _ _ => rfl
  go_enter_defers Try.func24, Try.ntmps24
  go_wp2_with fail
  refine (take_any ⟨#[97, 98, 99]⟩ 27 #[.pointer (some ⟨bs, 0, none⟩)] (fun _ => False) (fun d _ => d = .pan 9 (.string (s ++ ⟨#[33]⟩))) w (fun k h => h.elim) (fun d w1 w2 h _ => h) (fun p W => callFunc_27 p _ W) (fun W hb hz' hA => ?_)).mono ?_
  · refine (pan_inner _ bs s W (hs.fr (S := fun _ => False) (Fr.of_same hb) (fun h => h)) hz).mono ?_
    rintro e w2 ⟨rfl, rfl⟩
    exact ⟨.pan 9 (.string (s ++ ⟨#[33]⟩)), ⟨by decide, rfl⟩, rfl, Fr.refl _ _⟩
  rintro e w1 ⟨d, hd, rfl, hF⟩
  subst hd
  go_wp2
  refine leaves_cons (by simp) (f := 25) (args := #[.pointer (some ⟨bg, 0, none⟩)]) (by simp [go_sem]) ?_
  refine (pan_back bg _ x _ _ (hg.fr hF (fun h => h))).mono ?_
  rintro e u' w2 ⟨rfl, rfl, rfl⟩
  refine ⟨.tuple #[], by simp [results, Try.results24, go_sem], rfl, (hg.fr hF (fun h => h)).set _, ?_⟩
  exact Fr.setCell (S := fun k => k = bg) (hF.mono (fun i hi h => h.elim)) ⟨bg, 0, none⟩ (fun _ => rfl) _

set_option maxHeartbeats 800000 in
set_option maxRecDepth 100000 in
theorem take_four (w : World) :
    Calls Try.prog 26 #[.string ⟨#[97, 98, 99]⟩, .func (.func 28) #[] #[]] w fun e w' => e = .returned (.tuple #[.string ⟨#[]⟩, .int .i64 3]) ∧ Below w.heap.size w w' := by
  refine (take_any ⟨#[97, 98, 99]⟩ 28 #[] (fun _ => False) (fun d _ => d = .err 3) w (fun k h => h.elim) (fun d w1 w2 h _ => h) (fun p W => by simp [go_sem]) (fun W hb hz hA => ?_)).mono ?_
  · go_enter Try.func28, Try.ntmps28
    go_wp2_with (go_at_call 29; refine (inRaw_end _ _ 4 _ hA (by decide)).mono ?_; rintro e w2 ⟨rfl, rfl⟩)
    exact ⟨rfl, .err 3, rfl, rfl, Fr.refl _ _⟩
  rintro e w1 ⟨d, hd, rfl, hF⟩
  exact ⟨hd, hF.below (Nat.le_refl _) (fun _ _ h => h)⟩

set_option maxHeartbeats 800000 in
set_option maxRecDepth 100000 in
theorem take_less (w : World) :
    Calls Try.prog 26 #[.string ⟨#[97, 98, 99]⟩, .func (.func 30) #[] #[]] w fun e w' => e = .returned (.tuple #[.string ⟨#[97, 98, 99]⟩, .int .i64 0]) ∧ Below w.heap.size w w' := by
  refine (take_any ⟨#[97, 98, 99]⟩ 30 #[] (fun _ => False) (fun d _ => d = .ok ⟨#[97, 98, 99]⟩) w (fun k h => h.elim) (fun d w1 w2 h _ => h) (fun p W => by simp [go_sem]) (fun W hb hz hA => ?_)).mono ?_
  · go_enter Try.func30, Try.ntmps30
    go_wp2_with (go_at_call 29; refine (inRaw_ok _ _ (-4) 0 _ hA (by decide) (by decide)).mono ?_; rintro e w2 ⟨rfl, rfl⟩)
    go_end0
    exact ⟨.ok _, ⟨rfl, hA.set _⟩, rfl, (Fr.refl _ _).setCell _ (fun _ => Or.inl rfl) _⟩
  rintro e w1 ⟨d, hd, rfl, hF⟩
  exact ⟨hd, hF.below (Nat.le_refl _) (fun _ _ h => h)⟩

set_option maxHeartbeats 800000 in
set_option maxRecDepth 100000 in
theorem octetPanics_any (s0 : ByteArray) (w : World) (hs0 : s0.size ≤ maxLen) :
    Calls Try.prog 9 #[.string s0] w fun e w' => e = .returned (.bool true) ∧ Below w.heap.size w w' := by
  have hmf : ∀ (fn : Fn) (first cap : Array Value) (w : World), (Instr.makeFunc fn first cap).run Try.prog w = .ok (.func fn first cap) w := fun _ _ _ _ => rfl
  go_enter Try.func9, Try.ntmps9
  go_wp2_with fail
  have ha0 := At.new w (.string s0) 9
  have hb0 : Below w.heap.size w (w.alloc (Obj.cells #[Value.string s0] 9)) := (Below.refl _ _).alloc (Nat.le_refl _) _
  obtain ⟨n, hn⟩ : ∃ n, n = w.heap.size := ⟨_, rfl⟩
  rw [← hn] at ha0 hb0 ⊢
  have HN := Lib.hid hn
  clear hn
  generalize w.alloc (Obj.cells #[Value.string s0] 9) = W at *
  refine (octet_awake _).mono ?_
  rintro e w1 ⟨rfl, hB1⟩
  have ha1 := ha0.fr (S := fun _ => False) (Fr.of_same hB1) (fun h => h)
  have hb1 := hb0.trans (hB1.mono (by have := ha0.2.2; omega))
  clear ha0 hb0 hB1
  have HA1 := Lib.hid ha1
  obtain ⟨x1, x2, x3⟩ := ha1
  go_wp2_with fail
  refine (cutStr s0 20 _ hs0).mono ?_
  rintro e w2 ⟨rfl, rfl⟩
  have hs := Lib.hid (HA1.out.set (.string (s0.extract 0 20)))
  go_wp2_with fail
  obtain ⟨m, hm⟩ : ∃ m, m = w1.heap.size := ⟨_, rfl⟩
  have hnm : ¬ m = n := by omega
  have hnm' : n < m := by omega
  have hg2 := At.new (w1.setCell { block := n, off := 0 } (Value.string (s0.extract 0 20))) (.string ⟨#[]⟩) 9
  have hs2 := hs.out.alloc (Obj.cells #[Value.string { data := #[] }] 9)
  have hb2 : Below n w ((w1.setCell { block := n, off := 0 } (Value.string (s0.extract 0 20))).alloc (Obj.cells #[Value.string { data := #[] }] 9)) := (hb1.setCell (p := ⟨n, 0, none⟩) (Nat.le_refl _) _).alloc (by simp [World.setCell]; omega) _
  rw [show (w1.setCell { block := n, off := 0 } (Value.string (s0.extract 0 20))).heap.size = m by simp [World.setCell, hm]] at hg2
  rw [← hm]
  clear hm hs HA1 x1 x2 x3 hb1
  generalize (w1.setCell { block := n, off := 0 } (Value.string (s0.extract 0 20))).alloc (Obj.cells #[Value.string { data := #[] }] 9) = W2 at *
  have hsz : (s0.extract 0 20).size ≤ 20 := by simp; omega
  generalize s0.extract 0 20 = s at *
  refine (pan_out m n s ⟨#[]⟩ W2 hg2 hs2 hnm hsz).mono ?_
  rintro e w3 ⟨rfl, hg3, hF3⟩
  have hs3 := hs2.fr hF3 (fun h => hnm h.symm)
  have hb3 := hb2.trans (hF3.below (B := n) (by have := hs2.2.2; omega) (fun i hi h => by omega))
  clear hg2 hs2 hb2 hF3
  go_wp2_with fail
  refine (take_four w3).mono ?_
  rintro e w4 ⟨rfl, hB4⟩
  have hs4 := hs3.fr (S := fun _ => False) (Fr.of_same hB4) (fun h => h)
  have hg4 := hg3.fr (S := fun _ => False) (Fr.of_same hB4) (fun h => h)
  have hb4 := hb3.trans (hB4.mono (by have := hs3.2.2; omega))
  clear hg3 hs3 hb3 hB4
  go_wp2_with fail
  refine (take_less w4).mono ?_
  rintro e w5 ⟨rfl, hB5⟩
  have hs5 := (hs4.fr (S := fun _ => False) (Fr.of_same hB5) (fun h => h)).1
  have hg5 := (hg4.fr (S := fun _ => False) (Fr.of_same hB5) (fun h => h)).1
  have HB5 := Lib.hid (hb4.trans (hB5.mono (by have := hs4.2.2; omega)))
  clear hg4 hs4 hb4 hB5
  go_wp2
  go_ret
  refine ⟨rfl, ?_⟩
  rw [← HN.out]
  exact HB5.out
end Go.Proofs.Ytecjailgiknfcaa

/-
  The walks through what octet.In takes, and through octet.Take, whatever is done inside.
-/
import Derived.Test.YtecjailgiknfcaaDoorFr
import Derived.Test.YtecjailgiknfcaaDoorOctetPure
import Derived.Lib.MinMax
import Derived.WalkKit
import Derived.WalkLawsBesides
import Derived.Defers
import Derived.Recover
import Derived.Deep.RegionWith
set_option linter.unusedVariables false
namespace Go.Proofs.YtecjailgiknfcaaDoor
open Go.RowKit

/-- The panic that breaks taking off. -/
abbrev brk (k : Int) : Value := .iface 60 (.agg #[.int .i64 k])

theorem inFail_err (p : Value) (k : Int) (hk : ¬ k = 0) (w : World) :
    Calls Tryd.prog 25 #[p, .int .i64 k] w fun e w' => e = .panicked [{ v := brk k, recovered := false }] ∧ w' = w := by
  go_enter Tryd.func25, Tryd.ntmps25
  go_wp2
  exact ⟨rfl, rfl, rfl⟩
theorem inFail_ok (p : Value) (w : World) :
    Calls Tryd.prog 25 #[p, .int .i64 0] w fun e w' => e = .returned (.tuple #[]) ∧ w' = w := by
  go_enter Tryd.func25, Tryd.ntmps25
  go_wp2
  go_end0
  exact ⟨rfl, rfl⟩

set_option maxHeartbeats 800000 in
set_option maxRecDepth 100000 in
theorem inRaw_ok (b : Nat) (s : ByteArray) (n : Int) (m : Nat) (w : World) (h : At w b (.string s)) (hm : max n 0 = (m : Int)) (hms : m ≤ s.size) :
    Calls Tryd.prog 26 #[.pointer (some ⟨b, 0, none⟩), .int .i64 n] w fun e w' => e = .returned (.string (s.extract 0 m)) ∧ w' = w.setCell ⟨b, 0, none⟩ (.string (s.extract m s.size)) := by
  obtain ⟨h1, h2, h3⟩ := h
  go_enter Tryd.func26, Tryd.ntmps26
  go_wp2
  go_ret
  exact ⟨rfl, rfl⟩
set_option maxHeartbeats 800000 in
set_option maxRecDepth 100000 in
theorem inRaw_end (b : Nat) (s : ByteArray) (n : Int) (w : World) (h : At w b (.string s)) (hms : (s.size : Int) < max n 0) :
    Calls Tryd.prog 26 #[.pointer (some ⟨b, 0, none⟩), .int .i64 n] w fun e w' => e = .panicked [{ v := brk 3, recovered := false }] ∧ w' = w := by
  obtain ⟨h1, h2, h3⟩ := h
  go_enter Tryd.func26, Tryd.ntmps26
  go_wp2_with (go_at_call 25; refine (inFail_err _ 3 (by decide) _).mono ?_; rintro e w2 ⟨rfl, rfl⟩)
  exact ⟨rfl, rfl, rfl⟩

/-- Take's variables, in the four blocks from n on. -/
structure TakeRoom (w : World) (n : Nat) (i : Value) : Prop where
  rest : At w n (.string ⟨#[]⟩)
  e : At w (n + 1) (.int .i64 0)
  box : At w (n + 2) i
  v : At w (n + 3) (.pointer (some ⟨n + 2, 0, none⟩))


theorem take_res (t : Array Value) (w : World) : (results Tryd.f24 t).run Tryd.prog w = .ok (.tuple #[]) w := by simp [results, Tryd.results24, go_sem]
/-- What the deferred call's end asks, of an end without a result. -/
theorem take_end (c₀ : Frame) (cs : List Frame) (R : Ending → FrameMode → World → Prop) (u' : FrameMode) (a' : Act) (w' : World) (hd : a'.defers = []) (hR : R (.returned (.tuple #[])) u' w') :
    bodyPostS Tryd.prog Tryd.f24 c₀ cs R .normal a' ({ c₀ with mode := u' } :: cs) w' := ⟨hd, u', rfl, .tuple #[], take_res _ _, hR⟩

set_option maxHeartbeats 800000 in
set_option maxRecDepth 100000 in
theorem take_idle (n : Nat) (s : ByteArray) (w : World) (h : TakeRoom w n (.string s)) :
    CallsD Tryd.prog 24 #[.pointer (some ⟨n + 3, 0, none⟩), .pointer (some ⟨n, 0, none⟩), .pointer (some ⟨n + 1, 0, none⟩)] .returning w fun e u' w' =>
      e = .returned (.tuple #[]) ∧ u' = .returning ∧ w' = w.setCell ⟨n, 0, none⟩ (.string s) := by
  obtain ⟨⟨r1, r2, r3⟩, ⟨e1, e2, e3⟩, ⟨i1, i2, i3⟩, ⟨v1, v2, v3⟩⟩ := h
  refine callsD_of_wpS Tryd.func24 rfl fun c₀ cs hu => ?_
  simp only [Tryd.ntmps24, List.size_toArray, List.length_cons, List.length_nil, Nat.reduceAdd, Nat.reduceSub, Array.replicate_succ,
    Array.replicate_zero, List.push_toArray, List.append_toArray, List.nil_append, List.cons_append]
  apply wpS_seq
  apply wpS_region
  simp [wpOpsS, go_sem, recoverD, hu, Exit.thenS]
  refine wpS_of_wp ?_
  have hc : c₀ = { c₀ with mode := .returning } := by cases c₀; simp_all
  go_wp2
  rw [hc]
  exact take_end _ _ _ _ _ _ rfl ⟨rfl, rfl, rfl⟩

theorem assert_brk (k : Int) (w : World) : (Instr.typeAssert (brk k) 20 60 true).run Tryd.prog w = .ok (.tuple #[.agg #[.int .i64 k], .bool true]) w := by kernel_rfl
theorem zero_brk (w : World) : (do pure (Value.tuple #[← zeroValue 60, .bool false]) : Sem Value).run Tryd.prog w = .ok (.tuple #[.agg #[.int .i64 0], .bool false]) w := by kernel_rfl
theorem assert_other (u : TypeId) (v : Value) (h : ¬ u = 60) (w : World) : (Instr.typeAssert (.iface u v) 20 60 true).run Tryd.prog w = .ok (.tuple #[.agg #[.int .i64 0], .bool false]) w := by
  have e : (Instr.typeAssert (.iface u v) 20 60 true).run Tryd.prog w = (if u = 60 then (pure (Value.tuple #[v, .bool true]) : Sem Value) else (do pure (Value.tuple #[← zeroValue 60, .bool false]))).run Tryd.prog w := by kernel_rfl
  rw [e, if_neg h]
  exact zero_brk w
set_option maxHeartbeats 800000 in
set_option maxRecDepth 100000 in
theorem take_other (n : Nat) (u : TypeId) (v : Value) (older : List PanicEntry) (hu : ¬ u = 60) (w : World) :
    CallsD Tryd.prog 24 #[.pointer (some ⟨n + 3, 0, none⟩), .pointer (some ⟨n, 0, none⟩), .pointer (some ⟨n + 1, 0, none⟩)] (.panicking ({ v := .iface u v, recovered := false } :: older)) w fun e u' w' =>
      e = .panicked [{ v := .iface u v, recovered := false }] ∧ u' = .panicking ({ v := .iface u v, recovered := true } :: older) ∧ w' = w := by
  refine callsD_of_wpS Tryd.func24 rfl fun c₀ cs hc => ?_
  simp only [Tryd.ntmps24, List.size_toArray, List.length_cons, List.length_nil, Nat.reduceAdd, Nat.reduceSub, Array.replicate_succ,
    Array.replicate_zero, List.push_toArray, List.append_toArray, List.nil_append, List.cons_append]
  apply wpS_seq
  apply wpS_region
  simp [wpOpsS, go_sem, recoverD, hc, Exit.thenS]
  refine wpS_of_wp ?_
  have ha := assert_other u v hu
  go_wp2
  exact ⟨rfl, _, rfl, rfl, rfl, rfl⟩

set_option maxHeartbeats 800000 in
set_option maxRecDepth 100000 in
theorem take_brk (n : Nat) (k : Int) (older : List PanicEntry) (w : World) (hr : At w n (.string ⟨#[]⟩)) (he : At w (n + 1) (.int .i64 0)) :
    CallsD Tryd.prog 24 #[.pointer (some ⟨n + 3, 0, none⟩), .pointer (some ⟨n, 0, none⟩), .pointer (some ⟨n + 1, 0, none⟩)] (.panicking ({ v := brk k, recovered := false } :: older)) w fun e u' w' =>
      e = .returned (.tuple #[]) ∧ u' = .panicking ({ v := brk k, recovered := true } :: older) ∧ At w' n (.string ⟨#[]⟩) ∧ At w' (n + 1) (.int .i64 k) ∧ Fr (fun k => k = n ∨ k = n + 1) w w' := by
  have HR := Lib.hid hr
  have HE := Lib.hid he
  obtain ⟨r1, r2, r3⟩ := hr
  obtain ⟨e1, e2, e3⟩ := he
  refine callsD_of_wpS Tryd.func24 rfl fun c₀ cs hc => ?_
  simp only [Tryd.ntmps24, List.size_toArray, List.length_cons, List.length_nil, Nat.reduceAdd, Nat.reduceSub, Array.replicate_succ,
    Array.replicate_zero, List.push_toArray, List.append_toArray, List.nil_append, List.cons_append]
  apply wpS_seq
  apply wpS_region
  simp [wpOpsS, go_sem, recoverD, hc, Exit.thenS]
  refine wpS_of_wp ?_
  have ha := assert_brk k
  have hne : (w.heap.size = n) = False := by simp; omega
  go_wp2
  go_region
  simp only [Exit.inBlock]
  refine take_end _ _ _ _ _ _ rfl ⟨rfl, rfl, (((HR.out.set _).other (by omega) _).alloc _).drew, (((HE.out.other (by omega) _).set _).alloc _).drew, ?_⟩
  exact (((((Fr.refl _ _).setCell _ (fun _ => Or.inl rfl) _).setCell _ (fun _ => Or.inr rfl) _).alloc _).drew)

/-- How what is done inside ends. -/
inductive DoEnd where
  | ok (rest : ByteArray)
  | err (k : Int)
  | pan (u : TypeId) (v : Value)
def DoEnd.Ends (b : Nat) : DoEnd → Ending → World → Prop
  | .ok r, e, w => e = .returned (.tuple #[]) ∧ At w b (.string r)
  | .err k, e, _ => e = .panicked [{ v := brk k, recovered := false }]
  | .pan u v, e, _ => ¬ u = 60 ∧ e = .panicked [{ v := .iface u v, recovered := false }]
def DoEnd.Take : DoEnd → Ending → Prop
  | .ok r, e => e = .returned (.tuple #[.string r, .int .i64 0])
  | .err k, e => e = .returned (.tuple #[.string ⟨#[]⟩, .int .i64 k])
  | .pan u v, e => e = .panicked [{ v := .iface u v, recovered := false }, { v := .iface u v, recovered := true }]

set_option maxHeartbeats 800000 in
set_option maxRecDepth 100000 in
/-- octet.Take, whatever is done inside: C: the blocks that it may turn; D: what is known of the world behind it. -/
theorem take_any (s : ByteArray) (g : FuncId) (cap : Array Value) (C : Nat → Prop) (D : DoEnd → World → Prop) (w : World)
    (hC : ∀ k, C k → k < w.heap.size)
    (hD : ∀ d w' w'', D d w' → Fr (fun k => w.heap.size ≤ k) w' w'' → D d w'')
    (hi : ∀ (p : Value) (W : World), (callFunc g (#[p] ++ cap)).run Tryd.prog W = .ok (.enter g (#[p] ++ cap)) W)
    (hdo : ∀ W, Below w.heap.size w W → W.heap.size = w.heap.size + 4 → At W (w.heap.size + 2) (.string s) →
      Calls Tryd.prog g (#[.pointer (some ⟨w.heap.size + 2, 0, none⟩)] ++ cap) W fun e w' => ∃ d : DoEnd, d.Ends (w.heap.size + 2) e w' ∧ D d w' ∧ Fr (fun k => k = w.heap.size + 2 ∨ C k) W w') :
    Calls Tryd.prog 8 #[.string s, .func (.func g) #[] cap] w fun e w' => ∃ d : DoEnd, d.Take e ∧ D d w' ∧ Fr C w w' := by
  have hmf : ∀ (fn : Fn) (first cap : Array Value) (w : World), (Instr.makeFunc fn first cap).run Tryd.prog w = .ok (.func fn first cap) w := fun _ _ _ _ => rfl
  go_enter_defers Tryd.func8, Tryd.ntmps8
  go_wp2
  obtain ⟨n, hn⟩ : ∃ n, n = w.heap.size := ⟨_, rfl⟩
  rw [← hn] at hC hD hdo ⊢
  simp only [Nat.add_assoc, Nat.reduceAdd]
  obtain ⟨W, hW⟩ : ∃ W, W = ((((w.alloc (Obj.cells #[Value.string { data := #[] }] 9)).alloc (Obj.cells #[Value.int IntKind.i64 0] 28)).alloc
            (Obj.cells #[Value.string s] 58)).alloc
        (Obj.cells #[Value.pointer (some { block := n + 2, off := 0 })] 31)) := ⟨_, rfl⟩
  rw [← hW]
  have hsz : W.heap.size = n + 4 := by rw [hW]; simp; omega
  have hroom : TakeRoom W n (.string s) := by
    rw [hW]
    refine ⟨?_, ?_, ?_, ?_⟩
    · rw [hn]; exact (((At.new _ _ _).alloc _).alloc _).alloc _
    · have h := ((At.new (w.alloc (Obj.cells #[Value.string { data := #[] }] 9)) (.int .i64 0) 28).alloc (Obj.cells #[Value.string s] 58)).alloc (Obj.cells #[Value.pointer (some { block := n + 2, off := 0 })] 31)
      rwa [show (w.alloc (Obj.cells #[Value.string { data := #[] }] 9)).heap.size = n + 1 by simp; omega] at h
    · have h := ((At.new ((w.alloc (Obj.cells #[Value.string { data := #[] }] 9)).alloc (Obj.cells #[Value.int IntKind.i64 0] 28)) (.string s) 58)).alloc (Obj.cells #[Value.pointer (some { block := n + 2, off := 0 })] 31)
      rwa [show ((w.alloc (Obj.cells #[Value.string { data := #[] }] 9)).alloc (Obj.cells #[Value.int IntKind.i64 0] 28)).heap.size = n + 2 by simp; omega] at h
    · have h := At.new (((w.alloc (Obj.cells #[Value.string { data := #[] }] 9)).alloc (Obj.cells #[Value.int IntKind.i64 0] 28)).alloc (Obj.cells #[Value.string s] 58)) (Value.pointer (some { block := n + 2, off := 0 })) 31
      rwa [show (((w.alloc (Obj.cells #[Value.string { data := #[] }] 9)).alloc (Obj.cells #[Value.int IntKind.i64 0] 28)).alloc (Obj.cells #[Value.string s] 58)).heap.size = n + 3 by simp; omega] at h
  have hbw : Below n w W := by
    rw [hW, hn]
    exact ((((Below.refl _ _).alloc (Nat.le_refl _) _).alloc (by simp) _).alloc (by simp; omega) _).alloc (by simp; omega) _
  have hcall := hdo W hbw hsz hroom.box
  clear hW hdo
  clear hi
  refine hcall.mono ?_
  rintro e w1 ⟨d, hd, hDw, hfr⟩
  have hlt : ∀ k, n ≤ k → ¬ k = n + 2 → ¬ (k = n + 2 ∨ C k) := fun k hk hk2 hc => hc.elim hk2 (fun hc => by have := hC k hc; omega)
  have r1 := hroom.rest.fr hfr (hlt n (by omega) (by omega))
  have r2 := hroom.e.fr hfr (hlt (n + 1) (by omega) (by omega))
  have r3 := hroom.v.fr hfr (hlt (n + 3) (by omega) (by omega))
  have hfin : ∀ w', Fr (fun k => n ≤ k) w1 w' → Fr C w w' := fun w' h => by
    have h1 : Fr C w W := Fr.of_below hbw (fun i h1 h2 => by omega)
    have h2 : Fr C w w1 := h1.trans' hfr (fun i hi h => h.elim (fun e => by omega) id)
    exact h2.trans' h (fun i hi h => by omega)
  have hroom1 : ∀ x, At w1 (n + 2) x → TakeRoom w1 n x := fun x hx => ⟨r1, r2, hx, r3⟩
  obtain ⟨s1, s2, s3⟩ := r1
  obtain ⟨s4, s5, s6⟩ := r2
  clear r3 hlt hcall hC hn
  have hdef : ∀ W : World, (invoke (.fn (.func 24) #[.pointer (some ⟨n + 3, 0, none⟩), .pointer (some ⟨n, 0, none⟩), .pointer (some ⟨n + 1, 0, none⟩)]) #[]).run Tryd.prog W = .ok (.enter 24 #[.pointer (some ⟨n + 3, 0, none⟩), .pointer (some ⟨n, 0, none⟩), .pointer (some ⟨n + 1, 0, none⟩)]) W := fun W => by simp [go_sem]
  cases d with
  | ok r =>
    obtain ⟨rfl, hr⟩ := hd
    have HR := Lib.hid (hroom1 _ hr)
    clear hr
    go_wp2
    refine leaves_cons (by simp) (hdef _) ?_
    refine (take_idle n r _ ⟨(HR.out.rest.set _).other (by omega) _, (HR.out.e.other (by omega) _).set _, (HR.out.box.other (by omega) _).other (by omega) _, (HR.out.v.other (by omega) _).other (by omega) _⟩).mono ?_
    rintro e u' w2 ⟨rfl, rfl, rfl⟩
    have hF : Fr (fun k => n ≤ k) w1 (((w1.setCell ⟨n, 0, none⟩ (.string ⟨#[]⟩)).setCell ⟨n + 1, 0, none⟩ (.int .i64 0)).setCell ⟨n, 0, none⟩ (.string r)) :=
      (((Fr.refl _ _).setCell ⟨n, 0, none⟩ (fun _ => Nat.le_refl _) _).setCell ⟨n + 1, 0, none⟩ (fun _ => Nat.le_succ _) _).setCell ⟨n, 0, none⟩ (fun _ => Nat.le_refl _) _
    have c1 := (((HR.out.rest.set (.string ⟨#[]⟩)).other (c := n + 1) (by omega) (.int .i64 0)).set (.string r)).1
    have c2 := (((HR.out.e.other (c := n) (by omega) (.string ⟨#[]⟩)).set (.int .i64 0)).other (c := n) (by omega) (.string r)).1
    refine ⟨.tuple #[.string r, .int .i64 0], ?_, .ok r, rfl, hD _ _ _ hDw hF, hfin _ hF⟩
    simp [results, Tryd.results8, go_sem, c1, c2]
  | err k =>
    subst hd
    go_wp2
    refine leaves_cons (by simp) (hdef _) ?_
    refine (take_brk n k [] w1 ⟨s1, s2, s3⟩ ⟨s4, s5, s6⟩).mono ?_
    rintro e u' w2 ⟨rfl, rfl, c1, c2, hF⟩
    have hF2 : Fr (fun k => n ≤ k) w1 w2 := hF.mono (fun i hi h => by omega)
    have c1 := c1.1
    have c2 := c2.1
    refine ⟨.tuple #[.string ⟨#[]⟩, .int .i64 k], ?_, .err k, rfl, hD _ _ _ hDw hF2, hfin _ hF2⟩
    simp [results, Tryd.results8, go_sem, c1, c2]
  | pan u v =>
    obtain ⟨hu, rfl⟩ := hd
    go_wp2
    refine leaves_cons (by simp) (hdef _) ?_
    refine (take_other n u v [] hu w1).mono ?_
    rintro e u' w2 ⟨rfl, rfl, rfl⟩
    exact ⟨.pan u v, rfl, hDw, hfin _ (Fr.refl _ _)⟩
end Go.Proofs.YtecjailgiknfcaaDoor

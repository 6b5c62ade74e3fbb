/-
  The sums of bytes (layer 2), said of numbers alone: what eight turns do to a number is linear, and is one look at a table of 256; what the table's loop computes; four bytes one behind the other are told apart.
-/
import Derived.Laws.BitsAllLaws
import Derived.Deep.MidRow
namespace Go.Proofs.Ytecjailgiknfcaa.Sm

abbrev B32 := BitVec 32
def poly : B32 := 2197175160#32
def step (x : B32) : B32 := (x >>> 1) ^^^ (if x.getLsbD 0 then poly else 0#32)
def it : Nat → B32 → B32
  | 0, x => x
  | n + 1, x => it n (step x)
def tab (i : Nat) : B32 := it 8 (BitVec.ofNat 32 i)
def byte (x : B32) (b : UInt8) : B32 := it 8 (x ^^^ BitVec.ofNat 32 b.toNat)
def on (x : B32) (l : List UInt8) : B32 := l.foldl byte x
def ones : B32 := 4294967295#32
def crc (l : List UInt8) : B32 := ~~~ (on ones l)

theorem it_succ (n : Nat) (x : B32) : it (n + 1) x = it n (step x) := rfl
theorem it_add (m n : Nat) (x : B32) : it (m + n) x = it n (it m x) := by
  induction m generalizing x with
  | zero => simp [it]
  | succ m ih => rw [Nat.succ_add, it_succ, ih, it_succ]
theorem it_one (n : Nat) (x : B32) : it (n + 1) x = step (it n x) := by rw [it_add]; rfl

theorem step_xor (x y : B32) : step (x ^^^ y) = step x ^^^ step y := by
  unfold step
  rw [BitVec.ushiftRight_xor_distrib, BitVec.getLsbD_xor]
  cases x.getLsbD 0 <;> cases y.getLsbD 0 <;> simp
  · rw [BitVec.xor_assoc]
  · rw [BitVec.xor_assoc, BitVec.xor_assoc, BitVec.xor_comm (y >>> 1) poly]
  · rw [BitVec.xor_assoc, BitVec.xor_comm poly, BitVec.xor_assoc, BitVec.xor_self, BitVec.xor_zero]

theorem it_xor (n : Nat) (x y : B32) : it n (x ^^^ y) = it n x ^^^ it n y := by
  induction n generalizing x y with
  | zero => rfl
  | succ n ih => rw [it_succ, step_xor, ih]; rfl
theorem step_zero : step 0#32 = 0#32 := by decide
theorem it_zero (n : Nat) : it n 0#32 = 0#32 := by
  induction n with
  | zero => rfl
  | succ n ih => rw [it_succ, step_zero, ih]

/-- Where the lowest k bits are nought, k turns move what is left down. -/
theorem it_high (k : Nat) (h : B32) (hz : ∀ i, i < k → h.getLsbD i = false) : it k h = h >>> k := by
  induction k with
  | zero => simp [it]
  | succ k ih =>
    rw [it_one, ih (fun i hi => hz i (by omega))]
    unfold step
    have e : (h >>> k).getLsbD 0 = false := by rw [BitVec.getLsbD_ushiftRight]; exact hz _ (by omega)
    rw [e]
    simp only [Bool.false_eq_true, if_false, BitVec.xor_zero]
    rw [BitVec.shiftRight_add]

theorem low_high (z : B32) : z = BitVec.ofNat 32 (z.toNat % 256) ^^^ ((z >>> 8) <<< 8) := by
  ext i hi
  rw [BitVec.getElem_xor, BitVec.getElem_shiftLeft]
  simp only [← BitVec.getLsbD_eq_getElem, BitVec.getLsbD_ofNat, BitVec.getLsbD_ushiftRight]
  have e : (z.toNat % 256).testBit i = (decide (i < 8) && z.getLsbD i) := by
    rw [show (256 : Nat) = 2 ^ 8 from rfl, Nat.testBit_mod_two_pow]; rfl
  rw [e]
  by_cases h : i < 8
  · simp [h, hi]
  · simp [h, show 8 + (i - 8) = i by omega]

theorem shl_low (x : B32) (k i : Nat) (hi : i < k) : (x <<< k).getLsbD i = false := by simp [hi]

/-- Eight turns are one look at the table. -/
theorem it_eight (z : B32) : it 8 z = (z >>> 8) ^^^ tab (z.toNat % 256) := by
  have e := low_high z
  have h1 : it 8 ((z >>> 8) <<< 8) = z >>> 8 := by
    rw [it_high 8 _ (fun i hi => shl_low _ 8 i hi)]
    ext i hi
    rw [BitVec.getElem_ushiftRight]
    simp only [BitVec.getLsbD_shiftLeft, BitVec.getLsbD_ushiftRight, ← BitVec.getLsbD_eq_getElem, show 8 + i - 8 = i by omega]
    by_cases h : 8 + i < 32
    · simp [h]
    · simp [h]
      exact BitVec.getLsbD_of_ge _ _ (by omega)
  conv => lhs; rw [e, it_xor, h1]
  rw [BitVec.xor_comm]
  rfl

theorem byte_tab (x : B32) (b : UInt8) : byte x b = (x >>> 8) ^^^ tab ((x.toNat % 256) ^^^ b.toNat) := by
  unfold byte
  have hb : b.toNat < 256 := b.toNat_lt
  have hb2 : (BitVec.ofNat 32 b.toNat).toNat = b.toNat := by rw [BitVec.toNat_ofNat]; exact Nat.mod_eq_of_lt (by omega)
  rw [it_eight]
  congr 1
  · rw [BitVec.ushiftRight_xor_distrib]
    have : BitVec.ofNat 32 b.toNat >>> 8 = 0#32 := by
      apply BitVec.eq_of_toNat_eq
      rw [BitVec.toNat_ushiftRight, hb2, Nat.shiftRight_eq_div_pow]
      simp; omega
    rw [this, BitVec.xor_zero]
  · rw [BitVec.toNat_xor, hb2]
    congr 1
    rw [show (256 : Nat) = 2 ^ 8 from rfl, Nat.xor_mod_two_pow, Nat.mod_eq_of_lt (a := b.toNat) (by omega)]

theorem tab_xor (i k : Nat) : tab (i ^^^ k) = tab i ^^^ tab k := by
  unfold tab
  rw [← it_xor]
  congr 1
  apply BitVec.eq_of_toNat_eq
  rw [BitVec.toNat_xor]
  simp only [BitVec.toNat_ofNat]
  exact Nat.xor_mod_two_pow (n := 32)
theorem tab_zero : tab 0 = 0#32 := it_zero 8

theorem on_nil (x : B32) : on x [] = x := rfl
theorem on_append (x : B32) (l m : List UInt8) : on x (l ++ m) = on (on x l) m := by unfold on; rw [List.foldl_append]
theorem on_cons (x : B32) (b : UInt8) (l : List UInt8) : on x (b :: l) = on (byte x b) l := rfl
theorem on_snoc (x : B32) (b : UInt8) (l : List UInt8) : on x (l ++ [b]) = byte (on x l) b := by rw [on_append]; rfl

theorem crc_on (a b : List UInt8) : (~~~ on (~~~ crc a) b) = crc (a ++ b) := by
  unfold crc
  rw [BitVec.not_not, on_append]

/-- Linear: of two texts of one length, and two numbers. -/
theorem byte_xor (x y : B32) (b c : UInt8) : byte (x ^^^ y) (b ^^^ c) = byte x b ^^^ byte y c := by
  unfold byte
  rw [← it_xor]
  congr 1
  have e : BitVec.ofNat 32 (b ^^^ c).toNat = BitVec.ofNat 32 b.toNat ^^^ BitVec.ofNat 32 c.toNat := by
    rw [UInt8.toNat_xor]
    apply BitVec.eq_of_toNat_eq
    rw [BitVec.toNat_xor]
    simp only [BitVec.toNat_ofNat]
    exact Nat.xor_mod_two_pow (n := 32)
  rw [e]
  ac_rfl
theorem on_xor (l m : List UInt8) (h : l.length = m.length) (x y : B32) : on (x ^^^ y) (List.zipWith (· ^^^ ·) l m) = on x l ^^^ on y m := by
  induction l generalizing m x y with
  | nil => cases m with
    | nil => rfl
    | cons c m => simp at h
  | cons b l ih =>
    cases m with
    | nil => simp at h
    | cons c m =>
      rw [List.zipWith_cons_cons, on_cons, byte_xor, ih m (by simpa using h)]
      rfl
theorem crc_xor3 (a b c : List UInt8) (h : a.length = b.length) (h' : a.length = c.length) :
    crc a ^^^ crc b ^^^ crc c = crc (List.zipWith (· ^^^ ·) (List.zipWith (· ^^^ ·) a b) c) := by
  unfold crc
  have e := on_xor (List.zipWith (· ^^^ ·) a b) c (by simp; omega) (ones ^^^ ones) ones
  rw [on_xor a b h] at e
  rw [show (ones ^^^ ones ^^^ ones : B32) = ones by decide] at e
  rw [e]
  generalize on ones a = p
  generalize on ones b = q
  generalize on ones c = r
  ext i hi
  simp

/-- No two numbers go to one. -/
theorem step_inj (x y : B32) (h : step x = step y) : x = y := by
  have e : step (x ^^^ y) = 0#32 := by rw [step_xor, h, BitVec.xor_self]
  have z : ∀ u : B32, step u = 0#32 → u = 0#32 := by
    intro u hu
    have t : (step u).getLsbD 31 = u.getLsbD 0 := by
      unfold step
      rw [BitVec.getLsbD_xor, BitVec.getLsbD_ushiftRight]
      have p : poly.getLsbD 31 = true := by decide
      have q : u.getLsbD (1 + 31) = false := BitVec.getLsbD_of_ge _ _ (by omega)
      rw [q]
      cases u.getLsbD 0 <;> simp [p]
    rw [hu] at t
    have t0 : u.getLsbD 0 = false := by rw [← t]; decide
    have s : u >>> 1 = 0#32 := by
      unfold step at hu
      rw [t0] at hu
      simpa using hu
    apply BitVec.eq_of_getLsbD_eq
    intro i hi
    cases i with
    | zero => rw [t0]; simp
    | succ i =>
      have : (u >>> 1).getLsbD i = false := by rw [s]; simp
      rw [BitVec.getLsbD_ushiftRight, Nat.add_comm] at this
      rw [this]; simp
  have := z _ e
  exact BitVec.xor_eq_zero_iff.1 this
theorem it_inj (n : Nat) (x y : B32) (h : it n x = it n y) : x = y := by
  induction n generalizing x y with
  | zero => exact h
  | succ n ih => exact step_inj _ _ (ih _ _ h)
theorem byte_inj (x y : B32) (b : UInt8) (h : byte x b = byte y b) : x = y := by
  have := it_inj _ _ _ h
  have e : ∀ u v : B32, (u ^^^ v) ^^^ v = u := fun u v => by rw [BitVec.xor_assoc, BitVec.xor_self, BitVec.xor_zero]
  rw [← e x (BitVec.ofNat 32 b.toNat), this, e]
theorem on_inj (l : List UInt8) (x y : B32) (h : on x l = on y l) : x = y := by
  induction l generalizing x y with
  | nil => exact h
  | cons b l ih => exact byte_inj _ _ b (ih _ _ h)

/-- Four bytes as one number, the first the lowest. -/
def four (a b c d : UInt8) : B32 := BitVec.ofNat 32 a.toNat ^^^ (BitVec.ofNat 32 b.toNat <<< 8) ^^^ (BitVec.ofNat 32 c.toNat <<< 16) ^^^ (BitVec.ofNat 32 d.toNat <<< 24)

theorem it_up (k : Nat) (hk : k ≤ 24) (b : UInt8) : it k (BitVec.ofNat 32 b.toNat <<< k) = BitVec.ofNat 32 b.toNat := by
  have hb : b.toNat < 256 := b.toNat_lt
  rw [it_high k _ (fun i hi => shl_low _ k i hi)]
  ext i hi
  rw [BitVec.getElem_ushiftRight]
  simp only [BitVec.getLsbD_shiftLeft, ← BitVec.getLsbD_eq_getElem, show k + i - k = i by omega]
  by_cases h : k + i < 32
  · simp [h]
  · simp [h]
    rw [BitVec.getLsbD_ofNat, Nat.testBit_lt_two_pow (Nat.lt_of_lt_of_le (show b.toNat < 2 ^ 8 by omega) (Nat.pow_le_pow_right (by omega) (by omega)))]
    simp
theorem on_four (x : B32) (a b c d : UInt8) : on x [a, b, c, d] = it 32 (x ^^^ four a b c d) := by
  have e1 : on x [a, b] = it 16 (x ^^^ BitVec.ofNat 32 a.toNat ^^^ (BitVec.ofNat 32 b.toNat <<< 8)) := by
    show it 8 (it 8 (x ^^^ _) ^^^ _) = _
    conv => lhs; rw [← it_up 8 (by omega) b, ← it_xor, ← it_add]
  have e2 : on x [a, b, c] = it 24 (x ^^^ BitVec.ofNat 32 a.toNat ^^^ (BitVec.ofNat 32 b.toNat <<< 8) ^^^ (BitVec.ofNat 32 c.toNat <<< 16)) := by
    show it 8 (on x [a, b] ^^^ _) = _
    rw [e1]
    conv => lhs; rw [← it_up 16 (by omega) c, ← it_xor, ← it_add]
  have e3 : on x [a, b, c, d] = it 32 (x ^^^ BitVec.ofNat 32 a.toNat ^^^ (BitVec.ofNat 32 b.toNat <<< 8) ^^^ (BitVec.ofNat 32 c.toNat <<< 16) ^^^ (BitVec.ofNat 32 d.toNat <<< 24)) := by
    show it 8 (on x [a, b, c] ^^^ _) = _
    rw [e2]
    conv => lhs; rw [← it_up 24 (by omega) d, ← it_xor, ← it_add]
  rw [e3]
  congr 1
  unfold four
  generalize BitVec.ofNat 32 a.toNat = p
  generalize BitVec.ofNat 32 b.toNat <<< 8 = q
  generalize BitVec.ofNat 32 c.toNat <<< 16 = r
  generalize BitVec.ofNat 32 d.toNat <<< 24 = s
  simp only [BitVec.xor_assoc]

/-- P2.3: four bytes that stand together. -/
theorem crc_tells (pre post : List UInt8) (a b c d a' b' c' d' : UInt8) :
    crc (pre ++ [a, b, c, d] ++ post) = crc (pre ++ [a', b', c', d'] ++ post) ↔ four a b c d = four a' b' c' d' := by
  constructor
  · intro h
    unfold crc at h
    have h1 : on ones (pre ++ [a, b, c, d] ++ post) = on ones (pre ++ [a', b', c', d'] ++ post) := by
      rw [← BitVec.not_not (b := on _ (pre ++ [a, b, c, d] ++ post)), h, BitVec.not_not]
    rw [on_append, on_append, on_append, on_append] at h1
    have h2 := on_inj _ _ _ h1
    rw [on_four, on_four] at h2
    have h3 := it_inj _ _ _ h2
    have e : ∀ u v : B32, u ^^^ (u ^^^ v) = v := fun u v => by rw [← BitVec.xor_assoc, BitVec.xor_self, BitVec.zero_xor]
    rw [← e (on ones pre) (four a b c d), h3, e]
  · intro h
    unfold crc
    rw [on_append, on_append, on_append, on_append, on_four, on_four, h]

theorem four_xor (a b c d p q r s : UInt8) : four (a ^^^ p) (b ^^^ q) (c ^^^ r) (d ^^^ s) = four a b c d ^^^ four p q r s := by
  have e : ∀ x y : UInt8, BitVec.ofNat 32 (x ^^^ y).toNat = BitVec.ofNat 32 x.toNat ^^^ BitVec.ofNat 32 y.toNat := fun x y => by
    rw [UInt8.toNat_xor]
    apply BitVec.eq_of_toNat_eq
    rw [BitVec.toNat_xor]
    simp only [BitVec.toNat_ofNat]
    exact Nat.xor_mod_two_pow (n := 32)
  unfold four
  rw [e, e, e, e, BitVec.shiftLeft_xor_distrib, BitVec.shiftLeft_xor_distrib, BitVec.shiftLeft_xor_distrib]
  generalize BitVec.ofNat 32 a.toNat = a1
  generalize BitVec.ofNat 32 b.toNat <<< 8 = b1
  generalize BitVec.ofNat 32 c.toNat <<< 16 = c1
  generalize BitVec.ofNat 32 d.toNat <<< 24 = d1
  generalize BitVec.ofNat 32 p.toNat = p1
  generalize BitVec.ofNat 32 q.toNat <<< 8 = q1
  generalize BitVec.ofNat 32 r.toNat <<< 16 = r1
  generalize BitVec.ofNat 32 s.toNat <<< 24 = s1
  ext i hi
  simp only [BitVec.getElem_xor]
  cases a1[i] <;> cases b1[i] <;> cases c1[i] <;> cases d1[i] <;> simp

/-! What the document's text does bit by bit. -/
def RefIn (Y : B32) (b : Nat) (j : Nat) (X : B32) (c : Nat) : Prop := c * 2 ^ j < 256 ∧ X ^^^ BitVec.ofNat 32 c = it j (Y ^^^ BitVec.ofNat 32 b)
theorem RefIn.start (Y : B32) (b : Nat) (hb : b < 256) : RefIn Y b 0 Y b := ⟨by omega, rfl⟩
theorem RefIn.done {Y : B32} {b : UInt8} {X : B32} {c : Nat} (h : RefIn Y b.toNat 8 X c) : X = byte Y b := by
  obtain ⟨h1, h2⟩ := h
  have : c = 0 := by omega
  subst this
  unfold byte
  rw [← h2]
  simp
theorem RefIn.lt {Y : B32} {b j : Nat} {X : B32} {c : Nat} (h : RefIn Y b j X c) : c < 256 := by
  have := h.1
  have h2 : 1 ≤ 2 ^ j := Nat.one_le_two_pow
  have : c * 1 ≤ c * 2 ^ j := Nat.mul_le_mul_left _ h2
  omega
theorem half_xor (X : B32) (c : Nat) (hc : c < 256) : (X ^^^ BitVec.ofNat 32 c) >>> 1 = (X >>> 1) ^^^ BitVec.ofNat 32 (c / 2) := by
  rw [BitVec.ushiftRight_xor_distrib]
  congr 1
  apply BitVec.eq_of_toNat_eq
  rw [BitVec.toNat_ushiftRight, BitVec.toNat_ofNat, BitVec.toNat_ofNat, Nat.shiftRight_eq_div_pow, Nat.mod_eq_of_lt (by omega), Nat.mod_eq_of_lt (by omega)]
theorem low_xor (X : B32) (c : Nat) (hc : c < 256) : (X ^^^ BitVec.ofNat 32 c).getLsbD 0 = decide (X.toNat % 2 ≠ c % 2) := by
  rw [BitVec.getLsbD_xor]
  have e1 : X.getLsbD 0 = decide (X.toNat % 2 = 1) := by rw [BitVec.getLsbD, Nat.testBit_zero]
  have e2 : (BitVec.ofNat 32 c).getLsbD 0 = decide (c % 2 = 1) := by
    rw [BitVec.getLsbD, BitVec.toNat_ofNat, Nat.mod_eq_of_lt (by omega), Nat.testBit_zero]
  rw [e1, e2]
  rcases Nat.mod_two_eq_zero_or_one X.toNat with h | h <;> rcases Nat.mod_two_eq_zero_or_one c with h' | h' <;> simp [h, h']
theorem RefIn.same {Y : B32} {b j : Nat} {X : B32} {c : Nat} (h : RefIn Y b j X c) (he : X.toNat % 2 = c % 2) : RefIn Y b (j + 1) (X >>> 1) (c / 2) := by
  have hc := h.lt
  obtain ⟨h1, h2⟩ := h
  refine ⟨?_, ?_⟩
  · have : c / 2 * 2 ^ (j + 1) = (c / 2 * 2) * 2 ^ j := by rw [Nat.pow_succ, Nat.mul_assoc, Nat.mul_comm 2]
    have h3 : (c / 2 * 2) * 2 ^ j ≤ c * 2 ^ j := Nat.mul_le_mul_right _ (by omega)
    omega
  · rw [it_one, ← h2]
    unfold step
    rw [low_xor X c hc, half_xor X c hc]
    simp [he]
theorem RefIn.other {Y : B32} {b j : Nat} {X : B32} {c : Nat} (h : RefIn Y b j X c) (he : X.toNat % 2 ≠ c % 2) : RefIn Y b (j + 1) ((X >>> 1) ^^^ poly) (c / 2) := by
  have hc := h.lt
  obtain ⟨h1, h2⟩ := h
  refine ⟨?_, ?_⟩
  · have : c / 2 * 2 ^ (j + 1) = (c / 2 * 2) * 2 ^ j := by rw [Nat.pow_succ, Nat.mul_assoc, Nat.mul_comm 2]
    have h3 : (c / 2 * 2) * 2 ^ j ≤ c * 2 ^ j := Nat.mul_le_mul_right _ (by omega)
    omega
  · rw [it_one, ← h2]
    unfold step
    rw [low_xor X c hc, half_xor X c hc]
    simp only [he, ne_eq, not_false_eq_true, decide_true, if_true]
    rw [BitVec.xor_assoc, BitVec.xor_comm poly, ← BitVec.xor_assoc]

/-! The table as it grows. -/
def tabTo (k : Nat) : Array Value := ((List.range 256).map fun j => if j < k then Value.int .u32 ((tab j).toNat : Int) else .int .u32 0).toArray
theorem tabTo_size (k : Nat) : (tabTo k).size = 256 := by simp [tabTo]
theorem tabTo_get (k j : Nat) (h : j < 256) : (tabTo k)[j]? = some (if j < k then Value.int .u32 ((tab j).toNat : Int) else .int .u32 0) := by
  simp [tabTo, h]
theorem tabTo_set (k : Nat) : (tabTo k).setIfInBounds k (.int .u32 ((tab k).toNat : Int)) = tabTo (k + 1) := by
  apply Array.ext_getElem?
  intro j
  by_cases hj : j < 256
  · rw [tabTo_get _ _ hj, Array.getElem?_setIfInBounds, tabTo_get _ _ hj, tabTo_size]
    by_cases e : k = j
    · subst e; simp [hj]
    · rw [if_neg e]
      by_cases h : j < k
      · simp [h, Nat.lt_succ_of_lt h]
      · simp [h, show ¬ j < k + 1 by omega]
  · rw [Array.getElem?_eq_none (by rw [Array.size_setIfInBounds, tabTo_size]; omega), Array.getElem?_eq_none (by simp [tabTo_size]; omega)]
theorem tabTo_one (k : Nat) : (tabTo k).all (·.oneCell') = true := by
  rw [Array.all_eq_true]
  intro i hi
  have h := tabTo_get k i (by rw [tabTo_size] at hi; exact hi)
  rw [Array.getElem?_eq_getElem hi] at h
  injection h with h
  rw [h]
  split <;> rfl
theorem tabTo_get256 (j : Nat) (h : j < 256) : (tabTo 256)[j]? = some (Value.int .u32 ((tab j).toNat : Int)) := by
  rw [tabTo_get _ _ h, if_pos h]

/-! The numbers as the program has them. -/
theorem xor32 (x y : B32) : bits .xor .u32 (x.toNat : Int) (y.toNat : Int) = ((x ^^^ y).toNat : Int) := by
  rw [u32_xor_nat _ _ x.isLt y.isLt, BitVec.toNat_xor]
theorem half32 (x : B32) : ((x.toNat : Int) / (2 : Int)) = ((x >>> 1).toNat : Int) := by
  have := x.isLt
  rw [BitVec.toNat_ushiftRight, Nat.shiftRight_eq_div_pow]
  omega
theorem not32 (x : B32) : ((4294967295 : Int) - (x.toNat : Int)) = ((~~~ x).toNat : Int) := by
  have := x.isLt
  rw [BitVec.toNat_not]
  omega
theorem step32 (x : B32) : bits .xor .u32 ((x.toNat : Int) / (2 : Int)) ((2197175160 : Int) * bits .and .u32 (x.toNat : Int) (1 : Int) % (4294967296 : Int)) = ((step x).toNat : Int) := by
  have h1 : bits .and .u32 (x.toNat : Int) (1 : Int) = ((x.toNat % 2 : Nat) : Int) := by
    have := u32_and_nat x.toNat 1 x.isLt (by omega)
    rw [Nat.and_one_is_mod] at this
    exact this
  rw [h1, half32]
  have e : x.getLsbD 0 = decide (x.toNat % 2 = 1) := by rw [BitVec.getLsbD, Nat.testBit_zero]
  unfold step
  rw [e]
  rcases Nat.mod_two_eq_zero_or_one x.toNat with h | h
  · rw [h]
    exact xor32 (x >>> 1) 0#32
  · rw [h]
    exact xor32 (x >>> 1) poly
theorem max32 (x : B32) : bits .xor .u32 IntKind.u32.max (x.toNat : Int) = ((~~~ x).toNat : Int) := by
  have h := xor32 ones x
  have e : ones ^^^ x = ~~~ x := by rw [show ones = BitVec.allOnes 32 from rfl, BitVec.allOnes_xor]
  rw [e] at h
  exact h
theorem down32 (x : B32) : ((x.toNat : Int) / (256 : Int)) = ((x >>> 8).toNat : Int) := by
  rw [BitVec.toNat_ushiftRight, Nat.shiftRight_eq_div_pow]
  omega
/-- Where the table is looked at, and that it is a byte's turn. -/
theorem tabIdx (X : B32) (b : UInt8) : ∃ idx : Nat, bits .xor .u8 ((X.toNat : Int) % (256 : Int)) (b.toNat : Int) = (idx : Int) ∧ idx < 256 ∧ byte X b = (X >>> 8) ^^^ tab idx := by
  refine ⟨(X.toNat % 256) ^^^ b.toNat, ?_, ?_, byte_tab X b⟩
  · have h := u8_xor_nat (X.toNat % 256) b.toNat (by omega) b.toNat_lt
    rw [← h]
    rfl
  · have hb := b.toNat_lt
    exact Nat.xor_lt_two_pow (n := 8) (by omega) (by omega)

/-! Four bytes that are turned one by one. -/
def turn (l : List UInt8) (k : Nat) (y : Nat → UInt8) : Nat → List UInt8
  | 0 => l
  | j + 1 => (turn l k y j).set (k + j) ((turn l k y j).getD (k + j) 0 ^^^ y j)
theorem turn_length (l : List UInt8) (k : Nat) (y : Nat → UInt8) (j : Nat) : (turn l k y j).length = l.length := by
  induction j with
  | zero => rfl
  | succ j ih => simp [turn, ih]
theorem turn_four (l : List UInt8) (k : Nat) (y : Nat → UInt8) (h : k + 4 ≤ l.length) :
    ∃ pre post a b c d, l = pre ++ [a, b, c, d] ++ post ∧ turn l k y 4 = pre ++ [a ^^^ y 0, b ^^^ y 1, c ^^^ y 2, d ^^^ y 3] ++ post := by
  have e : l = l.take k ++ [l[k], l[k + 1], l[k + 2], l[k + 3]] ++ l.drop (k + 4) := by
    apply List.ext_getElem?
    intro i
    rw [List.append_assoc, List.getElem?_append, List.length_take, Nat.min_eq_left (by omega)]
    split
    · rename_i hi
      rw [List.getElem?_take_of_lt hi]
    · rename_i hi
      obtain ⟨m, rfl⟩ : ∃ m, i = k + m := ⟨i - k, by omega⟩
      rw [Nat.add_sub_cancel_left]
      match m with
      | 0 => simp [List.getElem?_eq_getElem (show k < l.length by omega)]
      | 1 => simp [List.getElem?_eq_getElem (show k + 1 < l.length by omega)]
      | 2 => simp [List.getElem?_eq_getElem (show k + 2 < l.length by omega)]
      | 3 => simp [List.getElem?_eq_getElem (show k + 3 < l.length by omega)]
      | m + 4 =>
        simp [List.getElem?_drop]
  refine ⟨l.take k, l.drop (k + 4), l[k], l[k + 1], l[k + 2], l[k + 3], e, ?_⟩
  have hp : (l.take k).length = k := by rw [List.length_take]; omega
  generalize l.take k = pre at *
  generalize l.drop (k + 4) = post at *
  generalize l[k] = a at *
  generalize l[k + 1] = b at *
  generalize l[k + 2] = c at *
  generalize l[k + 3] = d at *
  subst e
  subst hp
  simp only [turn, Nat.add_zero, List.append_assoc, List.cons_append, List.nil_append]
  simp [List.getD]

theorem four_bytes (x : B32) : four (UInt8.ofNat (x.toNat % 256)) (UInt8.ofNat (x.toNat / 256 % 256)) (UInt8.ofNat (x.toNat / 65536 % 256)) (UInt8.ofNat (x.toNat / 16777216 % 256)) = x := by
  have b : ∀ s j : Nat, (BitVec.ofNat 32 (UInt8.ofNat (x.toNat / 2 ^ s % 256)).toNat).getLsbD j = (decide (j < 8) && x.getLsbD (s + j)) := fun s j => by
    rw [BitVec.getLsbD_ofNat, UInt8.toNat_ofNat', show (256 : Nat) = 2 ^ 8 from rfl, Nat.mod_mod, Nat.testBit_mod_two_pow, Nat.testBit_div_two_pow, Nat.add_comm j s]
    by_cases h : j < 8
    · simp [h, show j < 32 by omega, BitVec.getLsbD]
    · simp [h]
  have b0 := b 0
  have b1 := b 8
  have b2 := b 16
  have b3 := b 24
  rw [show x.toNat / 2 ^ 0 % 256 = x.toNat % 256 by simp] at b0
  rw [show (2 : Nat) ^ 8 = 256 from rfl] at b1
  rw [show (2 : Nat) ^ 16 = 65536 from rfl] at b2
  rw [show (2 : Nat) ^ 24 = 16777216 from rfl] at b3
  apply BitVec.eq_of_getLsbD_eq
  intro i hi
  unfold four
  simp only [BitVec.getLsbD_xor, BitVec.getLsbD_shiftLeft, b0, b1, b2, b3, hi, decide_true, Bool.true_and]
  by_cases h1 : i < 8
  · simp [h1, show i < 16 by omega, show i < 24 by omega]
  · by_cases h2 : i < 16
    · simp [h1, h2, show i < 24 by omega, show i - 8 < 8 by omega, show 8 + (i - 8) = i by omega]
    · by_cases h3 : i < 24
      · simp [h1, h2, h3, show ¬ i - 8 < 8 by omega, show i - 16 < 8 by omega, show 16 + (i - 16) = i by omega]
      · simp [h1, h2, h3, show ¬ i - 8 < 8 by omega, show ¬ i - 16 < 8 by omega, show i - 24 < 8 by omega, show 24 + (i - 24) = i by omega]

def yb (x : B32) (j : Nat) : UInt8 := UInt8.ofNat (x.toNat / 2 ^ (8 * j) % 256)
/-- P2.3: the sum tells any turn of four bytes that stand together. -/
theorem crc_turn (l : List UInt8) (k : Nat) (x : B32) (h : k + 4 ≤ l.length) : crc (turn l k (yb x) 4) = crc l ↔ x = 0#32 := by
  obtain ⟨pre, post, a, b, c, d, e, e4⟩ := turn_four l k (yb x) h
  rw [e4]
  conv => lhs; rhs; rw [e]
  rw [crc_tells, four_xor]
  have hy : four (yb x 0) (yb x 1) (yb x 2) (yb x 3) = x := by
    have := four_bytes x
    unfold yb
    simp only [Nat.mul_zero, Nat.pow_zero, Nat.div_one, Nat.mul_one]
    exact this
  rw [hy]
  constructor
  · intro h
    have e : ∀ u v : B32, u ^^^ (u ^^^ v) = v := fun u v => by rw [← BitVec.xor_assoc, BitVec.xor_self, BitVec.zero_xor]
    have := e (four a b c d) x
    rw [h, BitVec.xor_self] at this
    exact this.symm
  · rintro rfl
    rw [BitVec.xor_zero]

end Go.Proofs.Ytecjailgiknfcaa.Sm

/-
  Bytes of numbers and texts (layer 3), said of lists alone.
-/
import Derived.Laws.BitsAllLaws
import Derived.Lib.Builder
import Derived.Lib.Bytealg
namespace Go.Proofs.YtecjailgiknfcaaDoor.Oc

/-- The lowest k bytes of a number, the greatest first. -/
def be (x : Nat) : Nat → List UInt8
  | 0 => []
  | k + 1 => UInt8.ofNat (x / 2 ^ (8 * k) % 256) :: be x k
theorem be_length (x k : Nat) : (be x k).length = k := by
  induction k with
  | zero => rfl
  | succ k ih => simp [be, ih]
/-- How many bytes a number takes. -/
def clamp (n : Int) : Nat := (min (max n 0) 8).toNat
theorem clamp_le (n : Int) : clamp n ≤ 8 := by unfold clamp; omega
theorem clamp_nat (k : Nat) (h : k ≤ 8) : clamp (k : Int) = k := by unfold clamp; omega
/-- A text with its length. -/
def text (s : List UInt8) : List UInt8 := be (s.take 65535).length 2 ++ s.take 65535

/-- A digit. -/
def digit (d : Nat) : UInt8 := if d < 10 then UInt8.ofNat (48 + d) else UInt8.ofNat (87 + d)
def hexOf (l : List UInt8) : List UInt8 := l.flatMap fun c => [digit (c.toNat / 16), digit (c.toNat % 16)]
theorem hexOf_snoc (l : List UInt8) (c : UInt8) : hexOf (l ++ [c]) = hexOf l ++ [digit (c.toNat / 16)] ++ [digit (c.toNat % 16)] := by
  simp [hexOf]
theorem hexOf_length (l : List UInt8) : (hexOf l).length = 2 * l.length := by
  induction l with
  | nil => rfl
  | cons c l ih => simp only [hexOf, List.flatMap_cons, List.length_append, List.length_cons, List.length_nil] at *; omega
def digits : ByteArray := ⟨#[48, 49, 50, 51, 52, 53, 54, 55, 56, 57, 97, 98, 99, 100, 101, 102]⟩
theorem digits_get? (d : Nat) (h : d < 16) : digits.data.toList[d]? = some (digit d) := by
  have : ∀ d : Fin 16, digits.data.toList[d.val]? = some (digit d.val) := by decide
  exact this ⟨d, h⟩
theorem digits_get (d : Nat) (h : d < 16) : digits[d]'(by show d < 16; exact h) = digit d := by
  have h1 := digits_get? d h
  have h2 : d < digits.data.toList.length := by show d < 16; exact h
  rw [List.getElem?_eq_getElem h2] at h1
  exact Option.some.inj h1

/-- Which digit a byte is. -/
def nib (c : UInt8) : Option Nat := if Lib.indexByte digits.data.toList c < 0 then none else some (Lib.indexByte digits.data.toList c).toNat
theorem nib_all : ∀ n : Fin 256, (Lib.indexByte digits.data.toList (UInt8.ofNat n.val) = -1 ∧ nib (UInt8.ofNat n.val) = none ∧ ∀ d : Fin 16, digit d.val ≠ UInt8.ofNat n.val) ∨
    (∃ d : Fin 16, Lib.indexByte digits.data.toList (UInt8.ofNat n.val) = (d.val : Int) ∧ nib (UInt8.ofNat n.val) = some d.val ∧ digit d.val = UInt8.ofNat n.val) := by decide +kernel
theorem nib_spec (c : UInt8) : (Lib.indexByte digits.data.toList c = -1 ∧ nib c = none ∧ ∀ d : Nat, d < 16 → digit d ≠ c) ∨ (∃ d : Nat, d < 16 ∧ Lib.indexByte digits.data.toList c = (d : Int) ∧ nib c = some d ∧ digit d = c) := by
  have h := nib_all ⟨c.toNat, c.toNat_lt⟩
  have e : UInt8.ofNat c.toNat = c := UInt8.ofNat_toNat
  simp only [e] at h
  rcases h with ⟨h1, h2, h3⟩ | ⟨d, h1, h2, h3⟩
  · exact .inl ⟨h1, h2, fun d hd => h3 ⟨d, hd⟩⟩
  · exact .inr ⟨d.val, d.isLt, h1, h2, h3⟩

def unhex : List UInt8 → Option (List UInt8)
  | [] => some []
  | [_] => none
  | a :: b :: r => match nib a, nib b with
    | some x, some y => (unhex r).map (UInt8.ofNat (16 * x + y) :: ·)
    | _, _ => none

theorem digit_nib : ∀ d : Fin 16, nib (digit d.val) = some d.val := by decide +kernel
theorem unhex_hex (l : List UInt8) : unhex (hexOf l) = some l := by
  induction l with
  | nil => rfl
  | cons c l ih =>
    show unhex (digit (c.toNat / 16) :: digit (c.toNat % 16) :: hexOf l) = _
    have hc := c.toNat_lt
    have h1 := digit_nib ⟨c.toNat / 16, by omega⟩
    have h2 := digit_nib ⟨c.toNat % 16, by omega⟩
    simp only at h1 h2
    rw [unhex, h1, h2, ih]
    simp only [Option.map_some]
    congr 2
    rw [show 16 * (c.toNat / 16) + c.toNat % 16 = c.toNat by omega]
    exact UInt8.ofNat_toNat
theorem hex_unhex : ∀ (n : Nat) (l x : List UInt8), l.length ≤ n → unhex l = some x → hexOf x = l := by
  intro n
  induction n with
  | zero =>
    intro l x hl h
    have : l = [] := List.eq_nil_of_length_eq_zero (by omega)
    subst this
    simp only [unhex, Option.some.injEq] at h
    subst h
    rfl
  | succ n ih =>
    intro l x hl h
    match l, h with
    | [], h => simp only [unhex, Option.some.injEq] at h; subst h; rfl
    | [_], h => simp [unhex] at h
    | a :: b :: r, h =>
      rw [unhex] at h
      rcases nib_spec a with ⟨_, ha, _⟩ | ⟨d, hd, _, ha, hda⟩
      · rw [ha] at h; cases h
      · rcases nib_spec b with ⟨_, hb, _⟩ | ⟨f, hf, _, hb, hdb⟩
        · rw [ha, hb] at h; cases h
        · rw [ha, hb] at h
          simp only at h
          cases hu : unhex r with
          | none => rw [hu] at h; cases h
          | some y =>
            rw [hu] at h
            simp only [Option.map_some, Option.some.injEq] at h
            subst h
            have := ih r y (by simp at hl; omega) hu
            show digit _ :: digit _ :: hexOf y = _
            have e : (UInt8.ofNat (16 * d + f)).toNat = 16 * d + f := by rw [UInt8.toNat_ofNat']; omega
            rw [e, this, show (16 * d + f) / 16 = d by omega, show (16 * d + f) % 16 = f by omega, hda, hdb]

end Go.Proofs.YtecjailgiknfcaaDoor.Oc

/- Bits turned within a file, in plain Lean. -/
import Derived.Test.YtcefockebphbaaaDoorGF
import Derived.Test.YtcefockebphbaaaDoorFl
set_option linter.unusedVariables false
set_option linter.unusedSimpArgs false
set_option linter.unnecessarySimpa false
namespace Go.Proofs.YtcefockebphbaaaDoor
open Go Go.RowKit Sluice

theorem flipB_bit (c : UInt8) {r : Nat} (hr : r < 8) (i : Nat) : (flipB c r).toNat.testBit i = (c.toNat.testBit i ^^ decide (i = r)) := by
  unfold flipB
  have h : (UInt8.ofNat (2 ^ r)).toNat = 2 ^ r := by
    rw [UInt8.toNat_ofNat']
    exact Nat.mod_eq_of_lt (Nat.pow_lt_pow_right (by omega) hr)
  rw [UInt8.toNat_xor, Nat.testBit_xor, h, Nat.testBit_two_pow]
  congr 1
  simp [eq_comm]
theorem bitAt_flip {l : List UInt8} {k : Nat} (hk : k < 8 * l.length) (i : Nat) : bitAt (flipAt l k) i = (bitAt l i ^^ decide (i = k)) := by
  unfold bitAt flipAt
  by_cases h : i / 8 = k / 8
  · rw [h, List.getD_eq_getElem?_getD, List.getElem?_set_self (by omega), Option.getD_some, flipB_bit _ (by omega)]
    congr 1
    rw [decide_eq_decide]
    omega
  · rw [List.getD_eq_getElem?_getD, List.getElem?_set_ne (fun e => h e.symm), ← List.getD_eq_getElem?_getD]
    have : decide (i = k) = false := by simp; omega
    rw [this, Bool.xor_false]

/-- The bits of a mask turned from a place on, the first j of them. -/
def flips (l : List UInt8) (p m : Nat) : Nat → List UInt8
  | 0 => l
  | j + 1 => if m.testBit j then flipAt (flips l p m j) (p + j) else flips l p m j
theorem flips_length (l : List UInt8) (p m : Nat) : ∀ j, (flips l p m j).length = l.length
  | 0 => rfl
  | j + 1 => by
    unfold flips
    split
    · rw [flipAt_length, flips_length l p m j]
    · exact flips_length l p m j
theorem flips_bit (l : List UInt8) (p m : Nat) : ∀ j, p + j ≤ 8 * l.length → ∀ i, bitAt (flips l p m j) i = (bitAt l i ^^ (decide (p ≤ i ∧ i < p + j) && m.testBit (i - p)))
  | 0, _, i => by
    have : decide (p ≤ i ∧ i < p + 0) = false := by simp
    rw [this]
    simp [flips]
  | j + 1, h, i => by
    have ih := flips_bit l p m j (by omega) i
    unfold flips
    by_cases ht : m.testBit j = true
    · rw [if_pos ht, bitAt_flip (by rw [flips_length]; omega), ih, Bool.xor_assoc]
      congr 1
      by_cases e : i = p + j
      · subst e
        have e2 : p + j - p = j := by omega
        simp [e2, ht]
      · have e1 : decide (i = p + j) = false := by simp [e]
        have e2 : decide (p ≤ i ∧ i < p + (j + 1)) = decide (p ≤ i ∧ i < p + j) := by rw [decide_eq_decide]; omega
        rw [e1, e2, Bool.xor_false]
    · rw [if_neg ht, ih]
      by_cases e : i = p + j
      · subst e
        have e2 : p + j - p = j := by omega
        simp [e2, ht]
      · have e2 : decide (p ≤ i ∧ i < p + (j + 1)) = decide (p ≤ i ∧ i < p + j) := by rw [decide_eq_decide]; omega
        rw [e2]
/-- Is one of the first j bits set? -/
def anyBit (m : Nat) : Nat → Bool
  | 0 => false
  | j + 1 => anyBit m j || m.testBit j
theorem anyBit_no {m : Nat} : ∀ {j}, anyBit m j = false → ∀ i, i < j → m.testBit i = false
  | 0, _, i, hi => by omega
  | j + 1, h, i, hi => by
    simp only [anyBit, Bool.or_eq_false_iff] at h
    rcases Nat.lt_or_ge i j with h1 | h1
    · exact anyBit_no h.1 i h1
    · have : i = j := by omega
      subst this; exact h.2
theorem anyBit_yes {m : Nat} : ∀ {j}, anyBit m j = true → ∃ i, i < j ∧ m.testBit i = true
  | 0, h => by cases h
  | j + 1, h => by
    simp only [anyBit, Bool.or_eq_true] at h
    rcases h with h | h
    · obtain ⟨i, h1, h2⟩ := anyBit_yes h
      exact ⟨i, by omega, h2⟩
    · exact ⟨j, by omega, h⟩
theorem flips_no {l : List UInt8} {p m j : Nat} (h : p + j ≤ 8 * l.length) (hb : anyBit m j = false) : flips l p m j = l := by
  refine bytes_of_bits (flips_length _ _ _ _) fun i _ => ?_
  rw [flips_bit l p m j h]
  by_cases hi : p ≤ i ∧ i < p + j
  · rw [anyBit_no hb (i - p) (by omega), Bool.and_false, Bool.xor_false]
  · rw [decide_eq_false hi, Bool.false_and, Bool.xor_false]
theorem flips_yes {l : List UInt8} {p m j : Nat} (h : p + j ≤ 8 * l.length) (hb : anyBit m j = true) : flips l p m j ≠ l := by
  obtain ⟨i, h1, h2⟩ := anyBit_yes hb
  intro e
  have h3 := flips_bit l p m j h (p + i)
  have e2 : p + i - p = i := by omega
  rw [e, e2, h2, decide_eq_true ⟨by omega, by omega⟩] at h3
  cases hb : bitAt l (p + i) <;> rw [hb] at h3 <;> cases h3
theorem flips_near {l : List UInt8} {p m j : Nat} (h : p + j ≤ 8 * l.length) (hj : j ≤ 32) : Near p l (flips l p m j) := by
  refine ⟨(flips_length _ _ _ _).symm, fun i hi => ?_⟩
  rw [flips_bit l p m j h] at hi
  by_cases hp : p ≤ i ∧ i < p + j
  · omega
  · rw [decide_eq_false hp, Bool.false_and, Bool.xor_false] at hi
    exact absurd rfl hi
theorem anyBit_zero (m : Nat) : anyBit m 0 = false := rfl
theorem flips_zero (l : List UInt8) (p m : Nat) : flips l p m 0 = l := rfl
theorem step_set {l : List UInt8} {p m j : Nat} (h : m.testBit j = true) : flips l p m (j + 1) = flipAt (flips l p m j) (p + j) ∧ anyBit m (j + 1) = true :=
  ⟨by rw [flips, if_pos h], by rw [anyBit, h, Bool.or_true]⟩
theorem step_clear {l : List UInt8} {p m j : Nat} (h : m.testBit j = false) : flips l p m (j + 1) = flips l p m j ∧ anyBit m (j + 1) = anyBit m j :=
  ⟨by rw [flips, if_neg (by rw [h]; simp)], by rw [anyBit, h, Bool.or_false]⟩
theorem testBit_rem (m j : Nat) : (((m : Int) / 2 ^ j).tmod 2 == 1) = m.testBit j := by
  have e : (m : Int) / 2 ^ j = ((m / 2 ^ j : Nat) : Int) := by simp
  rw [e, Int.tmod_eq_emod_of_nonneg (Int.natCast_nonneg _), Nat.testBit_eq_decide_div_mod_eq, Bool.eq_iff_iff]
  simp
  omega
end Go.Proofs.YtcefockebphbaaaDoor

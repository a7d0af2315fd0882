/- How many bytes a text has when some are replaced. -/
import Derived.Test.YtjoklcjpihadiaaGreatDoorRoO
set_option linter.unusedVariables false
set_option linter.unusedSimpArgs false
set_option linter.unnecessarySimpa false
namespace Go.Proofs.Ro
open Go.Lib

def special (c : UInt8) : Bool := c == 92 || c == 34 || c == 10 || c == 9 || c == 13
def cnt (l : List UInt8) : Nat := l.countP special
def outL (l : List UInt8) : List UInt8 := l.flatMap escB

theorem special_iff (c : UInt8) : special c = false ↔ escB c = [c] := by
  unfold special escB
  constructor
  · intro h
    simp only [Bool.or_eq_false_iff, beq_eq_false_iff_ne, ne_eq] at h
    obtain ⟨⟨⟨⟨h1, h2⟩, h3⟩, h4⟩, h5⟩ := h
    rw [if_neg h1, if_neg h2, if_neg h3, if_neg h4, if_neg h5]
  · intro h
    rcases Bool.eq_false_or_eq_true (c == 92 || c == 34 || c == 10 || c == 9 || c == 13) with h2 | h2
    · exfalso
      simp only [Bool.or_eq_true, beq_iff_eq] at h2
      rcases h2 with (((rfl | rfl) | rfl) | rfl) | rfl <;> revert h <;> decide
    · exact h2
theorem escB_length (c : UInt8) : (escB c).length = if special c then 2 else 1 := by
  cases h : special c
  · rw [(special_iff c).1 h]; rfl
  · unfold special at h
    simp only [Bool.or_eq_true, beq_iff_eq] at h
    rcases h with (((rfl | rfl) | rfl) | rfl) | rfl <;> decide
theorem outL_length (l : List UInt8) : (outL l).length = l.length + cnt l := by
  induction l with
  | nil => rfl
  | cons c l ih =>
    unfold outL cnt at *
    rw [List.flatMap_cons, List.length_append, ih, escB_length, List.countP_cons, List.length_cons]
    split <;> omega
theorem outL_same {l : List UInt8} (h : cnt l = 0) : outL l = l := by
  induction l with
  | nil => rfl
  | cons c l ih =>
    unfold cnt at h
    rw [List.countP_cons] at h
    have h1 : special c = false := by
      cases hs : special c
      · rfl
      · rw [hs] at h; simp at h
    have h2 : cnt l = 0 := by unfold cnt; omega
    show escB c ++ outL l = c :: l
    rw [(special_iff c).1 h1, ih h2]; rfl
theorem cnt_append (a b : List UInt8) : cnt (a ++ b) = cnt a + cnt b := List.countP_append
theorem outL_append (a b : List UInt8) : outL (a ++ b) = outL a ++ outL b := List.flatMap_append
theorem take_succ_getD {l : List UInt8} {i : Nat} (h : i < l.length) : l.take (i + 1) = l.take i ++ [l.getD i 0] := by
  rw [List.take_add_one, List.getElem?_eq_getElem h, List.getD_eq_getElem?_getD, List.getElem?_eq_getElem h]; rfl
theorem cnt_take {l : List UInt8} {i : Nat} (h : i < l.length) : cnt (l.take (i + 1)) = cnt (l.take i) + (if special (l.getD i 0) then 1 else 0) := by
  rw [take_succ_getD h, cnt_append]
  congr 1
  unfold cnt
  rw [List.countP_cons]; simp
theorem cnt_le (l : List UInt8) : cnt l ≤ l.length := List.countP_le_length
theorem cnt_take_le (l : List UInt8) (i : Nat) : cnt (l.take i) ≤ l.length := by
  have := cnt_le (l.take i)
  rw [List.length_take] at this
  omega

/-- How often each of the five stands there. -/
def psum (l : List UInt8) (ps : List UInt8) : Nat := (ps.map fun p => l.count p).sum
def fives : List UInt8 := [13, 9, 10, 34, 92]
theorem psum_nil (ps : List UInt8) : psum [] ps = 0 := by
  unfold psum
  induction ps with
  | nil => rfl
  | cons p ps ih => rw [List.map_cons, List.sum_cons, ih]; rfl
theorem psum_cons (c : UInt8) (l ps : List UInt8) : psum (c :: l) ps = psum l ps + ps.count c := by
  unfold psum
  induction ps with
  | nil => rfl
  | cons p ps ih =>
    rw [List.map_cons, List.sum_cons, List.map_cons, List.sum_cons, ih, List.count_cons, List.count_cons]
    have : (c == p) = (p == c) := by rw [Bool.eq_iff_iff]; simp only [beq_iff_eq]; exact eq_comm
    rw [this]
    split <;> omega
theorem count_fives (c : UInt8) : fives.count c = if special c then 1 else 0 := by
  cases h : special c
  · unfold special at h
    simp only [Bool.or_eq_false_iff, beq_eq_false_iff_ne, ne_eq] at h
    obtain ⟨⟨⟨⟨h1, h2⟩, h3⟩, h4⟩, h5⟩ := h
    rw [if_neg Bool.false_ne_true]
    refine List.count_eq_zero.2 fun hm => ?_
    unfold fives at hm
    simp only [List.mem_cons, List.not_mem_nil, or_false] at hm
    rcases hm with h | h | h | h | h
    · exact h5 h
    · exact h4 h
    · exact h3 h
    · exact h2 h
    · exact h1 h
  · unfold special at h
    simp only [Bool.or_eq_true, beq_iff_eq] at h
    rcases h with (((rfl | rfl) | rfl) | rfl) | rfl <;> decide
theorem psum_fives (l : List UInt8) : psum l fives = cnt l := by
  induction l with
  | nil => exact psum_nil _
  | cons c l ih =>
    rw [psum_cons, ih, count_fives]
    unfold cnt
    rw [List.countP_cons]
theorem psum_take (l : List UInt8) {k : Nat} {p : UInt8} (h : fives[k]? = some p) : psum l (fives.take (k + 1)) = psum l (fives.take k) + l.count p := by
  rw [List.take_add_one, h]
  unfold psum
  rw [List.map_append, List.sum_append]
  rfl
theorem count_le (l : List UInt8) (p : UInt8) : l.count p ≤ l.length := List.count_le_length
theorem psum_le (l : List UInt8) (k : Nat) : psum l (fives.take k) ≤ 5 * l.length := by
  have h : ∀ ps : List UInt8, psum l ps ≤ ps.length * l.length := by
    intro ps
    induction ps with
    | nil => exact Nat.zero_le _
    | cons p ps ih =>
      unfold psum at *
      rw [List.map_cons, List.sum_cons, List.length_cons, Nat.succ_mul]
      have := count_le l p
      omega
  have h2 := h (fives.take k)
  have h3 : (fives.take k).length ≤ 5 := by rw [List.length_take]; exact Nat.min_le_right _ _
  exact Nat.le_trans h2 (Nat.mul_le_mul_right _ h3)
end Go.Proofs.Ro

namespace Go.Proofs.YtjoklcjpihadiaaGreatDoor
open Go Go.RowKit Sluice Go.Proofs.Ro Go.Shelf

theorem repl_cell {B P : Nat} {w : World} (h : ReplK B P pairs w) (c : UInt8) :
    (special c = false ∧ w.cell? ⟨P, c.toNat, none⟩ = some (.slice none 0 0)) ∨
    ∃ x kb cap, special c = true ∧ escB c = [92, x] ∧ w.cell? ⟨P, c.toNat, none⟩ = some (.slice (some ⟨kb, 0, none⟩) 2 cap) ∧ kb < w.heap.size ∧ w.cell? ⟨kb, 0, none⟩ = some (bv 92) ∧ w.cell? ⟨kb, 1, none⟩ = some (bv x) := by
  obtain ⟨cs, v, h1, -, -, -, -, h6⟩ := h
  have hm : ∀ c : UInt8, c ∉ pairs.map (·.1) → special c = false := by
    intro c hc
    unfold pairs at hc
    simp only [List.map_cons, List.map_nil, List.mem_cons, List.not_mem_nil, or_false, not_or] at hc
    unfold special
    simp only [Bool.or_eq_false_iff, beq_eq_false_iff_ne, ne_eq]
    exact ⟨⟨⟨⟨hc.2.2.2.2, hc.2.2.2.1⟩, hc.2.2.1⟩, hc.2.1⟩, hc.1⟩
  rcases h6 c with ⟨a1, a2⟩ | ⟨x, kb, cap, a1, a2, a3, a4, a5, a6, a7, a8⟩
  · exact .inl ⟨hm c a1, (h1.cell _).trans a2⟩
  · refine .inr ⟨x, kb, cap, ?_, ?_, (h1.cell _).trans a2, a5, a7, a8⟩
    · unfold pairs at a1
      simp only [List.mem_cons, Prod.mk.injEq, List.not_mem_nil, or_false] at a1
      rcases a1 with ⟨rfl, rfl⟩ | ⟨rfl, rfl⟩ | ⟨rfl, rfl⟩ | ⟨rfl, rfl⟩ | ⟨rfl, rfl⟩ <;> rfl
    · unfold pairs at a1
      simp only [List.mem_cons, Prod.mk.injEq, List.not_mem_nil, or_false] at a1
      rcases a1 with ⟨rfl, rfl⟩ | ⟨rfl, rfl⟩ | ⟨rfl, rfl⟩ | ⟨rfl, rfl⟩ | ⟨rfl, rfl⟩ <;> rfl
theorem repl_list {B P : Nat} {w : World} (h : ReplK B P pairs w) :
    ∃ tb cap, w.cell? ⟨P, 256, none⟩ = some (.slice (some ⟨tb, 0, none⟩) 5 cap) ∧ ∀ k p, fives[k]? = some p → w.cell? ⟨tb, k, none⟩ = some (.string ⟨#[p]⟩) := by
  obtain ⟨cs, v, h1, -, h3, h4, -, -⟩ := h
  rcases h4.2 with ⟨-, h⟩ | ⟨g, cap, cur, rfl, hb, h5, h6, h7, h8⟩
  · exact absurd h (by decide)
  · refine ⟨g, cap, (h1.cell _).trans h3, fun k p hk => ?_⟩
    rw [hb.cell]
    have hk5 : k < 5 := by
      have := (List.getElem?_eq_some_iff.1 hk).1
      exact this
    have e : cur.toList[k]? = (cur.toList.take 5)[k]? := by rw [List.getElem?_take_of_lt hk5]
    rw [← Array.getElem?_toList, e]
    have h9 : cur.toList.take 5 = (pairs.map fun p => (⟨#[p.1]⟩ : ByteArray)).map Value.string := h8
    rw [h9]
    have h6 : k = 0 ∨ k = 1 ∨ k = 2 ∨ k = 3 ∨ k = 4 := by omega
    rcases h6 with rfl | rfl | rfl | rfl | rfl <;> (cases hk; rfl)
end Go.Proofs.YtjoklcjpihadiaaGreatDoor

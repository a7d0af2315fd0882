/- A roster's small functions: letters, names' first and further characters; the document's own. -/
import Derived.Test.YtjoklcjpihadiaaGreatDoorChecked
import Derived.Test.YtjoklcjpihadiaaGreatDoorMem
import Derived.BigQuiet
import Derived.Deep.QuietTactic
import Derived.Deep.RegionHeld3
import Derived.Handy
import Derived.WalkLawsBesides
import Derived.WalkSpells
import Derived.Laws.EntriesVeiled
import Derived.Lib.Hide
import Derived.Test.YtjoklcjpihadiaaGreatDoorRo0
set_option linter.unusedVariables false
set_option linter.unusedSimpArgs false
set_option linter.unnecessarySimpa false
namespace Go.Proofs.YtjoklcjpihadiaaGreatDoor
open Go Go.RowKit Sluice Go.Proofs.Ro

theorem ret_bool {a b : Bool} (h : a = b) : Ending.returned (.bool a) = .returned (.bool b) := by rw [h]
theorem ret_b {a b : Bool} (h : a = true ↔ b = true) : Ending.returned (.bool a) = .returned (.bool b) := by rw [Bool.eq_iff_iff.2 h]
set_option maxHeartbeats 1000000
theorem letter_any (n : Nat) (w : World) : Calls Tryz.prog 55 #[.int .i32 (n : Int)] w fun r w' => r = .returned (.bool (letterN n)) ∧ Keeps w w' := by
  go_enter Tryz.func55, Tryz.ntmps55
  go_wp2
  all_goals
    go_ret
    refine ⟨ret_b ?_, by (repeat (first | with_reducible exact Fr.refl _ _ | with_reducible assumption | with_reducible refine Fr.alloc ?_ _ | with_reducible refine Fr.drew ?_ | with_reducible refine Fr.drewN ?_ _ | with_reducible refine Fr.setCell ?_ (by simp; try omega) _))⟩
    simp only [letterN, Bool.or_eq_true, Bool.and_eq_true, decide_eq_true_eq, beq_iff_eq, reduceCtorEq, false_iff, true_iff, iff_true, iff_false]
    omega
theorem digit_any (n : Nat) (w : World) : Calls Tryz.prog 56 #[.int .i32 (n : Int)] w fun r w' => r = .returned (.bool (digitN n)) ∧ Keeps w w' := by
  go_enter Tryz.func56, Tryz.ntmps56
  go_wp2
  all_goals
    go_ret
    refine ⟨ret_b ?_, by (repeat (first | with_reducible exact Fr.refl _ _ | with_reducible assumption | with_reducible refine Fr.alloc ?_ _ | with_reducible refine Fr.drew ?_ | with_reducible refine Fr.drewN ?_ _ | with_reducible refine Fr.setCell ?_ (by simp; try omega) _))⟩
    simp only [digitN, Bool.or_eq_true, Bool.and_eq_true, decide_eq_true_eq, beq_iff_eq, reduceCtorEq, false_iff, true_iff, iff_true, iff_false]
    omega
theorem odd_any (n : Nat) (w : World) : Calls Tryz.prog 28 #[.int .i32 (n : Int)] w fun r w' => r = .returned (.bool (oddR n)) ∧ Keeps w w' := by
  go_enter Tryz.func28, Tryz.ntmps28
  go_wp2
  all_goals
    go_ret
    refine ⟨ret_b ?_, by (repeat (first | with_reducible exact Fr.refl _ _ | with_reducible assumption | with_reducible refine Fr.alloc ?_ _ | with_reducible refine Fr.drew ?_ | with_reducible refine Fr.drewN ?_ _ | with_reducible refine Fr.setCell ?_ (by simp; try omega) _))⟩
    simp only [oddR, Bool.or_eq_true, Bool.and_eq_true, decide_eq_true_eq, beq_iff_eq, bne_iff_ne, Bool.not_eq_true', beq_eq_false_iff_ne, reduceCtorEq, false_iff, true_iff, iff_true, iff_false, ne_eq]
    first | omega | (simp at *; omega) | simp at *
theorem first_any (n : Nat) (w : World) : Calls Tryz.prog 38 #[.int .i32 (n : Int)] w fun r w' => r = .returned (.bool (beginsN n)) ∧ Keeps w w' := by
  go_enter Tryz.func38, Tryz.ntmps38
  go_wp2_with (go_at_call 55; refine (letter_any n _).mono ?_; rintro r w1 ⟨rfl, hk⟩)
  all_goals
    go_ret
    refine ⟨ret_b ?_, by (repeat (first | with_reducible exact Fr.refl _ _ | with_reducible assumption | with_reducible refine Fr.alloc ?_ _ | with_reducible refine Fr.drew ?_ | with_reducible refine Fr.drewN ?_ _ | with_reducible refine Fr.setCell ?_ (by simp; try omega) _))⟩
    simp only [beginsN, Bool.or_eq_true, Bool.and_eq_true, decide_eq_true_eq, beq_iff_eq, *, reduceCtorEq, false_or, true_or, true_iff, or_false, or_true]
    try omega
theorem further_any (n : Nat) (w : World) : Calls Tryz.prog 39 #[.int .i32 (n : Int)] w fun r w' => r = .returned (.bool (goesN n)) ∧ Keeps w w' := by
  go_enter Tryz.func39, Tryz.ntmps39
  go_wp2_with (first
    | (go_at_call 38; refine (first_any n _).mono ?_; rintro r w1 ⟨rfl, hk⟩)
    | (go_at_call 56; refine (digit_any n _).mono ?_; rintro r w2 ⟨rfl, hk2⟩))
  all_goals
    go_ret
    refine ⟨ret_b ?_, ?_⟩
    · simp only [goesN, Bool.or_eq_true, Bool.and_eq_true, decide_eq_true_eq, beq_iff_eq, *, reduceCtorEq, false_or, true_or, true_iff, or_false, or_true]
      try omega
    · first | (exact hk.keeps hk2) | (exact (hk.keeps hk2).drew) | (repeat (first | with_reducible exact Fr.refl _ _ | with_reducible assumption | with_reducible refine Fr.alloc ?_ _ | with_reducible refine Fr.drew ?_ | with_reducible refine Fr.drewN ?_ _ | with_reducible refine Fr.setCell ?_ (by simp; try omega) _))
theorem letter7_any (n : Nat) (w : World) : Calls Tryz.prog 53 #[.int .i64 (n : Int)] w fun r w' => r = .returned (.bool (letterN n)) ∧ Keeps w w' := by
  go_enter Tryz.func53, Tryz.ntmps53
  go_wp2
  all_goals
    go_ret
    refine ⟨ret_b ?_, by (repeat (first | with_reducible exact Fr.refl _ _ | with_reducible assumption | with_reducible refine Fr.alloc ?_ _ | with_reducible refine Fr.drew ?_ | with_reducible refine Fr.drewN ?_ _ | with_reducible refine Fr.setCell ?_ (by simp; try omega) _))⟩
    simp only [letterN, Bool.or_eq_true, Bool.and_eq_true, decide_eq_true_eq, beq_iff_eq, reduceCtorEq, false_iff, true_iff, iff_true, iff_false]
    omega
theorem begins7_any (n : Nat) (w : World) : Calls Tryz.prog 34 #[.int .i64 (n : Int)] w fun r w' => r = .returned (.bool (beginsN n)) ∧ Keeps w w' := by
  go_enter Tryz.func34, Tryz.ntmps34
  go_wp2_with (go_at_call 53; refine (letter7_any n _).mono ?_; rintro r w1 ⟨rfl, hk⟩)
  all_goals
    go_ret
    refine ⟨ret_b ?_, by (repeat (first | with_reducible exact Fr.refl _ _ | with_reducible assumption | with_reducible refine Fr.alloc ?_ _ | with_reducible refine Fr.drew ?_ | with_reducible refine Fr.drewN ?_ _ | with_reducible refine Fr.setCell ?_ (by simp; try omega) _))⟩
    simp only [beginsN, Bool.or_eq_true, Bool.and_eq_true, decide_eq_true_eq, beq_iff_eq, *, reduceCtorEq, false_or, true_or, true_iff, or_false, or_true]
    try omega
theorem goes7_any (n : Nat) (w : World) : Calls Tryz.prog 33 #[.int .i64 (n : Int)] w fun r w' => r = .returned (.bool (goesN n)) ∧ Keeps w w' := by
  go_enter Tryz.func33, Tryz.ntmps33
  go_wp2_with (first
    | (go_at_call 34; refine (begins7_any n _).mono ?_; rintro r w1 ⟨rfl, hk⟩))
  all_goals
    go_ret
    refine ⟨ret_b ?_, by (repeat (first | with_reducible exact Fr.refl _ _ | with_reducible assumption | with_reducible refine Fr.alloc ?_ _ | with_reducible refine Fr.drew ?_ | with_reducible refine Fr.drewN ?_ _ | with_reducible refine Fr.setCell ?_ (by simp; try omega) _))⟩
    simp only [goesN, digitN, Bool.or_eq_true, Bool.and_eq_true, decide_eq_true_eq, beq_iff_eq, *, reduceCtorEq, false_or, true_or, true_iff, or_false, or_true]
    try omega
theorem good7_any (n : Int) (w : World) : Calls Tryz.prog 36 #[.int .i64 n] w fun r w' => r = .returned (.bool (decide (32 ≤ n ∨ n = 9 ∨ n = 10 ∨ n = 13))) ∧ Keeps w w' := by
  go_enter Tryz.func36, Tryz.ntmps36
  go_wp2
  all_goals
    go_ret
    refine ⟨ret_b ?_, by (repeat (first | with_reducible exact Fr.refl _ _ | with_reducible assumption | with_reducible refine Fr.alloc ?_ _ | with_reducible refine Fr.drew ?_ | with_reducible refine Fr.drewN ?_ _ | with_reducible refine Fr.setCell ?_ (by simp; try omega) _))⟩
    simp only [Bool.or_eq_true, decide_eq_true_eq, beq_iff_eq, true_iff, false_iff, reduceCtorEq]
    all_goals first | omega | skip
end Go.Proofs.YtjoklcjpihadiaaGreatDoor

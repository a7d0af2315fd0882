/- A value's characters: the library's two answers and the plain one. -/
import Derived.Test.YtjoklcjpihadiaaGreatDoorRo0
import Derived.Shelf.GgClosure.StringsIndexFunc
set_option linter.unusedVariables false
set_option linter.unusedSimpArgs false
set_option linter.unnecessarySimpa false
set_option linter.unusedVariables false
set_option linter.unusedSimpArgs false
namespace Go.Proofs.Ro
open Go.Lib
theorem okFrom_split (s : ByteArray) : ∀ (f pos : Nat), (validGoD f (s.data.toList.drop pos) && !decide (0 ≤ idxFuncFrom oddR true s f pos)) = okFrom s f pos
  | 0, pos => by simp [validGoD, idxFuncFrom, okFrom]
  | f + 1, pos => by
    unfold validGoD idxFuncFrom okFrom
    by_cases hp : pos < s.size
    · have hne : ¬ s.data.toList.drop pos = [] := by
        intro h
        have := congrArg List.length h
        rw [List.length_drop, ← size_eq] at this
        simp at this
        omega
      rw [if_neg hne, if_pos hp, if_pos hp, decodeL_drop]
      by_cases hb : (Utf8.decode s pos).1 = 65533 ∧ (Utf8.decode s pos).2 = 1
      · rw [if_pos hb, if_pos hb]; rfl
      · rw [if_neg hb, if_neg hb, List.drop_drop]
        by_cases ho : oddR (Utf8.decode s pos).1 = true
        · rw [if_pos ho, if_pos ho]
          have : decide ((0 : Int) ≤ (pos : Int)) = true := decide_eq_true (by omega)
          rw [this]; simp
        · rw [if_neg ho, if_neg ho]
          exact okFrom_split s f _
    · have he : s.data.toList.drop pos = [] := List.drop_eq_nil_of_le (by rw [← size_eq]; omega)
      rw [if_pos he, if_neg hp, if_neg hp]; simp
theorem okV_split (s : ByteArray) : (validD s.data.toList && !decide (0 ≤ idxFunc oddR true s)) = okV s := by
  have h := okFrom_split s s.size 0
  rw [List.drop_zero] at h
  unfold validD idxFunc okV
  rw [← size_eq]
  exact h

end Go.Proofs.Ro

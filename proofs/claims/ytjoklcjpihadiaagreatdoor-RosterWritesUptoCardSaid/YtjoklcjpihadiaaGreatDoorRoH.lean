/- A value's characters: the program's answer. -/
import Derived.Test.YtjoklcjpihadiaaGreatDoorRo2
import Derived.Test.YtjoklcjpihadiaaGreatDoorRoV
import Derived.Test.YtjoklcjpihadiaaGreatDoorRoL
set_option linter.unusedVariables false
set_option linter.unusedSimpArgs false
set_option linter.unnecessarySimpa false
namespace Go.Proofs.YtjoklcjpihadiaaGreatDoor
open Go Go.RowKit Sluice Go.Proofs.Ro Go.Shelf

def Tabs (w : World) : Prop := Lib.Utf8Tabs (Tryz.lays196_ren.g 3) (Tryz.lays196_ren.g 4) w
theorem Tabs.kept {w w' : World} (h : Tabs w) (hk : Keeps w w') : Tabs w' := Utf8Tabs_below h hk.below

set_option maxHeartbeats 1000000 in
theorem odd_draws (n : Nat) (w : World) : Calls Tryz.prog 28 #[.int .i32 (n : Int)] w fun r w' => r = .returned (.bool (oddR n)) ∧ ∃ q, w' = w.drewN q := by
  go_enter Tryz.func28, Tryz.ntmps28
  go_wp2
  all_goals
    go_ret
    refine ⟨ret_b ?_, ?_⟩
    · simp only [oddR, Bool.or_eq_true, Bool.and_eq_true, decide_eq_true_eq, beq_iff_eq, bne_iff_ne, Bool.not_eq_true', beq_eq_false_iff_ne, reduceCtorEq, false_iff, true_iff, iff_true, iff_false, ne_eq]
      first | omega | (simp at *; omega) | simp at *
    · first | exact ⟨0, rfl⟩ | exact ⟨1, rfl⟩ | exact ⟨2, rfl⟩

theorem odd_pred (w : World) : PredAtRunes Tryz.prog 28 #[] oddR w := by
  intro W x _ _
  exact odd_draws x W

theorem valid_any (s : ByteArray) (w : World) (hs : s.size ≤ 1099511627776) (hT : Tabs w) :
    Calls Tryz.prog 26 #[.string s] w fun r w' => r = .returned (.bool (Lib.validD s.data.toList)) ∧ Keeps w w' := by
  have h := Any.utf8_ValidString Tryz.lays196 s w (by omega) hT
  exact h.mono fun r w' h => ⟨h.1, Keeps.ofBelow h.2⟩
theorem containsFunc_odd (s : ByteArray) (w : World) :
    Calls Tryz.prog 27 #[.string s, .func (.func 28) #[] #[]] w fun r w' => r = .returned (.bool (decide (0 ≤ Lib.idxFunc oddR true s))) ∧ Keeps w w' := by
  have h := Tryz.strings_ContainsFunc_runes 28 #[] (enters_of Tryz.func28 (by kernel_rfl) rfl) oddR s w (odd_pred w)
  exact h.mono fun r w' h => ⟨h.1, Keeps.ofBelow h.2⟩

set_option maxHeartbeats 1000000 in
theorem holds_any (s : ByteArray) (w : World) (hs : s.size ≤ 1099511627776) (hT : Tabs w) :
    Calls Tryz.prog 14 #[.string s] w fun r w' => r = .returned (.bool (okV s)) ∧ Keeps w w' := by
  have HO : Hid ((Lib.validD s.data.toList && !decide (0 ≤ Lib.idxFunc oddR true s)) = okV s) := okV_split s
  have cV := Lib.hid (valid_any s w hs hT)
  have cC := Lib.hid (containsFunc_odd s)
  generalize Lib.validD s.data.toList = V at HO cV
  generalize decide (0 ≤ Lib.idxFunc oddR true s) = C at HO cC
  clear hT
  go_enter Tryz.func14, Tryz.ntmps14
  go_wp2_with (first
    | (go_at_call 26; refine cV.out.mono ?_; rintro r w1 ⟨rfl, hk1⟩)
    | (go_at_call 27; refine (cC.out _).mono ?_; rintro r w2 ⟨rfl, hk2⟩))
  all_goals
    go_ret
    refine ⟨ret_bool ?_, ?_⟩
    · rw [← HO.out]
      simp [*]
    · first | exact hk1.keeps hk2 | exact hk1 | exact (hk1.keeps hk2).drew | exact hk1.drew
end Go.Proofs.YtjoklcjpihadiaaGreatDoor

/- Contracts of the small functions that compute alone. -/
import Derived.Test.YtcefockebphbaaaDoorG0
set_option linter.unusedVariables false
set_option linter.unusedSimpArgs false
set_option linter.unnecessarySimpa false
namespace Go.Proofs.YtcefockebphbaaaDoor
open Go Go.RowKit Sluice

theorem isPutF : isFunc Tryd.prog 54 = true := by kernel_rfl
theorem isGetF : isFunc Tryd.prog 55 = true := by kernel_rfl

/-- The form of texts as a value: its functions' boxes are p and q. -/
def textForm (n : Int) (p q : Nat) : Value := .agg #[.int .i64 n, .func (.func 67) #[] #[.pointer (some ⟨p, 0, none⟩)], .func (.func 68) #[] #[.pointer (some ⟨q, 0, none⟩)]]
def FormBoxes (w : World) (p q : Nat) : Prop := Blk w p #[.func (.func 46) #[] #[]] 109 ∧ Blk w q #[.func (.func 47) #[] #[]] 112
def IsTextForm (n : Int) (w : World) (r : Ending) (w' : World) : Prop := ∃ p q, r = .returned (textForm n p q) ∧ FormBoxes w' p q ∧ w.heap.size ≤ p ∧ w.heap.size ≤ q ∧ Keeps w w'
theorem textForm_any (n : Int) (w : World) : Calls Tryd.prog 20 #[.int .i64 n] w (IsTextForm n w) := by
  go_enter Tryd.func20, Tryd.ntmps20
  go_wp2
  go_returns
  exact ⟨_, _, rfl, ⟨by (repeat (first | assumption | exact Blk.new' (by simp) | refine Blk.alloc ?_ _ | refine Blk.drew ?_ | refine Blk.other ?_ (by simp; try omega) _)), by (repeat (first | assumption | exact Blk.new' (by simp) | refine Blk.alloc ?_ _ | refine Blk.drew ?_ | refine Blk.other ?_ (by simp; try omega) _))⟩, by omega, by omega, by (repeat (first | with_reducible exact Fr.refl _ _ | with_reducible assumption | with_reducible refine Fr.alloc ?_ _ | with_reducible refine Fr.drew ?_ | with_reducible refine Fr.drewN ?_ _ | with_reducible refine Fr.setCell ?_ (by simp; try omega) _))⟩
set_option maxRecDepth 100000 in
theorem right_textForm (n : Int) (p q : Nat) (w : World) :
    Calls Tryd.prog 62 #[textForm n p q] w fun r w' => r = .returned (.bool (decide (1 ≤ n ∧ n ≤ 256))) ∧ Keeps w w' := by
  have h1 := run_neq_func Tryd.prog _ isPutF
  have h2 := run_neq_func Tryd.prog _ isGetF
  unfold textForm
  go_enter Tryd.func62, Tryd.ntmps62
  go_wp2
  all_goals go_ret
  all_goals exact ⟨ret_bool (by simp; omega), by (repeat (first | with_reducible exact Fr.refl _ _ | with_reducible assumption | with_reducible refine Fr.alloc ?_ _ | with_reducible refine Fr.drew ?_ | with_reducible refine Fr.drewN ?_ _ | with_reducible refine Fr.setCell ?_ (by simp; try omega) _))⟩
/-- The title's numbers as a value. -/
def titleV (f w : Int) (t : Int) : Value := .agg #[.int .i64 f, .int .i64 w, .int .u64 t]
set_option maxRecDepth 100000 in
theorem titled_any (f n t : Int) (w : World) :
    Calls Tryd.prog 63 #[titleV f n t] w fun r w' => r = .returned (.bool (decide (1 ≤ f ∧ f ≤ 255 ∧ 1 ≤ n ∧ n ≤ 256))) ∧ Keeps w w' := by
  unfold titleV
  go_enter Tryd.func63, Tryd.ntmps63
  go_wp2
  all_goals go_ret
  all_goals refine ⟨ret_bool ?_, by (repeat (first | with_reducible exact Fr.refl _ _ | with_reducible assumption | with_reducible refine Fr.alloc ?_ _ | with_reducible refine Fr.drew ?_ | with_reducible refine Fr.drewN ?_ _ | with_reducible refine Fr.setCell ?_ (by simp; try omega) _))⟩
  all_goals (rw [Bool.eq_iff_iff]; simp; try omega)
end Go.Proofs.YtcefockebphbaaaDoor

namespace Go.Proofs.YtcefockebphbaaaDoor
open Go Go.RowKit Sluice

theorem num_any (e : Int) (h0 : -9223372036854775808 ≤ e) (h1 : e ≤ 9223372036854775807) (w : World) :
    Calls Tryd.prog 8 #[.int .i64 e] w fun r w' => r = .returned (.int .i64 e) ∧ w = w' := by
  go_enter Tryd.func8, Tryd.ntmps8
  go_wp2
  go_ret
  exact ⟨rfl, rfl⟩
end Go.Proofs.YtcefockebphbaaaDoor

/- sameEntries: two lists of the same entries. -/
import Derived.Test.YtjoklcjpihadiaaGreatDoorRoZ
import Derived.Laws.StructEq
import Derived.BigQuiet
import Derived.Deep.QuietTactic
set_option linter.unusedVariables false
set_option linter.unusedSimpArgs false
set_option linter.unnecessarySimpa false
namespace Go.Proofs.YtjoklcjpihadiaaGreatDoor
open Go Go.RowKit Sluice Go.Proofs.Ro Go.Lib

theorem ent_neq_same (a b : ByteArray) (w : World) : (binOp .neq 37 (.agg #[.string a, .string b]) (.agg #[.string a, .string b])).run Tryz.prog w = .ok (.bool false) w := by
  have u1 := Tryz.underlying9
  have a1 := Tryz.isAgg9
  have z1 := Tryz.sizeOf9
  have hS : Tryz.prog.underlying 37 = some (.struct (Tryz.prog.fieldsOf 37)) := by kernel_rfl
  have hp : Tryz.prog.stoodInHeld 37 = false := by kernel_rfl
  rw [run_neq_struct, show (10000 : Nat) = 9999 + 1 from rfl, run_equalIn_agg w 9999 37 _ _ hS hp]
  simp only [Program.fieldsOf, Tryz.underlying37]
  go_simp
theorem ent_guard (xs ys : Array Value) (x y : Operand) (w : World) : (eqGuard .neq 37 x y (.agg xs) (.agg ys)).run Tryz.prog w = .ok () w := run_eqGuard_agg w _ _ _ _ xs ys (by kernel_rfl)

set_option maxHeartbeats 8000000 in
set_option maxRecDepth 100000 in
theorem sameEntries_any (es : List Ent) (va vb : Value) (w : World) (ha : EntsAt w va es) (hb : EntsAt w vb es) (hn : es.length ≤ 1099511627776) :
    Calls Tryz.prog 37 #[va, vb] w fun r w' => r = .returned (.bool true) ∧ ∃ n, w' = w.drewN n := by
  obtain ⟨ba, ca, rfl, hca, hcella⟩ := ha
  obtain ⟨bb, cb, rfl, hcb, hcellb⟩ := hb
  have HA := Lib.hid hcella
  have HB := Lib.hid hcellb
  clear hcella hcellb
  go_enter Tryz.func37, Tryz.ntmps37
  go_wp2
  go_loopw [5] (fun t5 wr => ∃ (k n : Nat), k ≤ es.length ∧ t5 = .int .i64 (k : Int) ∧ wr = w.drewN n) (fun t5 _ => es.length - (intOf t5).toNat)
  case atStart => exact ⟨0, 0, by omega, rfl, rfl⟩
  case round =>
    obtain ⟨k, n, hk, rfl, rfl⟩ := hrel
    by_cases hlt : k < es.length
    · have hkz : (k : Int) < (es.length : Int) := by omega
      obtain ⟨x, hx⟩ : ∃ x, es[k]? = some x := ⟨_, List.getElem?_eq_getElem hlt⟩
      obtain ⟨b0, o0, rfl, a0, a1⟩ := HA.out k x hx
      obtain ⟨b1, o1, rfl, c0, c1⟩ := HB.out k x hx
      clear hx
      go_wp2
      have q1 := ent_neq_same x.1 x.2
      have q2 := ent_guard
      go_quiet (fail)
      all_goals go_wp2
      all_goals go_roundw
      case measure => simp [intOf]; omega
      case rel =>
        exact ⟨k + 1, n + nq, by omega, by go_num, by first | rfl | rw [World.drewN_drewN]⟩
    · have hkz : ¬ ((k : Int) < (es.length : Int)) := by omega
      go_wp2
      go_ret
      exact ⟨rfl, n, rfl⟩

end Go.Proofs.YtjoklcjpihadiaaGreatDoor

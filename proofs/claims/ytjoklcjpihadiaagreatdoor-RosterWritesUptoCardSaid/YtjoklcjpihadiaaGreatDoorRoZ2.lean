/- same: two lists of the same sections. -/
import Derived.Test.YtjoklcjpihadiaaGreatDoorRoZ1
import Derived.BigQuiet
import Derived.Deep.QuietTactic
set_option linter.unusedVariables false
set_option linter.unusedSimpArgs false
set_option linter.unnecessarySimpa false
namespace Go.Proofs.YtjoklcjpihadiaaGreatDoor
open Go Go.RowKit Sluice Go.Proofs.Ro Go.Lib

set_option maxHeartbeats 8000000 in
set_option maxRecDepth 100000 in
theorem same_any (ss : List Sec) (va vb : Value) (w : World) (ha : SecsAt w va ss) (hb : SecsAt w vb ss) (hn : ss.length ≤ 1099511627776) (hsz : ∀ x ∈ ss, x.2.length ≤ 1099511627776) :
    Calls Tryz.prog 23 #[va, vb] w fun r w' => r = .returned (.bool true) ∧ ∃ n, w' = w.drewN n := by
  obtain ⟨ba, ca, rfl, hca, hcella⟩ := ha
  obtain ⟨bb, cb, rfl, hcb, hcellb⟩ := hb
  have HA := Lib.hid hcella
  have HB := Lib.hid hcellb
  have HZ := Lib.hid hsz
  clear hcella hcellb hsz
  go_enter Tryz.func23, Tryz.ntmps23
  go_wp2
  go_loopw [5] (fun t5 wr => ∃ (k n : Nat), k ≤ ss.length ∧ t5 = .int .i64 (k : Int) ∧ wr = w.drewN n) (fun t5 _ => ss.length - (intOf t5).toNat)
  case atStart => exact ⟨0, 0, by omega, rfl, rfl⟩
  case round =>
    obtain ⟨k, n, hk, rfl, hwr⟩ := hrel
    have hkw : Keeps w wr := by rw [hwr]; exact Fr.drewN (Fr.refl _ _) _
    have HW := Lib.hid hwr
    by_cases hlt : k < ss.length
    · have hkz : (k : Int) < (ss.length : Int) := by omega
      obtain ⟨x, hx⟩ : ∃ x, ss[k]? = some x := ⟨_, List.getElem?_eq_getElem hlt⟩
      obtain ⟨b0, o0, e0, rfl, a0, a1, hE0⟩ := HA.out k x hx
      obtain ⟨b1, o1, e1, rfl, c0, c1, hE1⟩ := HB.out k x hx
      have cS : Hid (∀ m, Calls Tryz.prog 37 #[e0, e1] (wr.drewN m) fun r w' => r = .returned (.bool true) ∧ ∃ n, w' = (wr.drewN m).drewN n) := fun m => sameEntries_any x.2 e0 e1 (wr.drewN m) (hE0.keeps (hkw.drewN _)) (hE1.keeps (hkw.drewN _)) (HZ.out x (List.mem_of_getElem? hx))
      clear hx hE0 hE1 hwr
      have a0 := cell_of_keeps hkw a0
      have a1 := cell_of_keeps hkw a1
      have c0 := cell_of_keeps hkw c0
      have c1 := cell_of_keeps hkw c1
      go_wp2
      go_quiet (((go_at_call 37); (exact Calls.quiet_of (cS.out _))))
      all_goals go_wp2
      all_goals go_roundw
      case measure => simp [intOf]; omega
      case rel =>
        exact ⟨k + 1, n + nq, by omega, by go_num, by rw [HW.out, World.drewN_drewN]⟩
    · have hkz : ¬ ((k : Int) < (ss.length : Int)) := by omega
      clear hwr
      go_wp2
      go_ret
      exact ⟨rfl, n, HW.out⟩

end Go.Proofs.YtjoklcjpihadiaaGreatDoor

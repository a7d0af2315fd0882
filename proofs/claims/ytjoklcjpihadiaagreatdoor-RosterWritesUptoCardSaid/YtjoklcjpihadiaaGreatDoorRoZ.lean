/- The law's own functions that only read: vast, sameEntries, same, num; Valid. -/
import Derived.Test.YtjoklcjpihadiaaGreatDoorRoY
import Derived.BigQuiet
import Derived.Deep.QuietTactic
set_option linter.unusedVariables false
set_option linter.unusedSimpArgs false
set_option linter.unnecessarySimpa false
namespace Go.Proofs.YtjoklcjpihadiaaGreatDoor
open Go Go.RowKit Sluice Go.Proofs.Ro Go.Lib

/-- How much is laid out of a list. -/
def spread (ss : List Sec) : Nat := (ss.map fun x => 1 + x.2.length).sum
theorem spread_succ {ss : List Sec} {k : Nat} {x : Sec} (h : ss[k]? = some x) : spread (ss.take (k + 1)) = spread (ss.take k) + (1 + x.2.length) := by
  unfold spread
  rw [List.take_add_one, h, List.map_append, List.sum_append]
  simp
theorem spread_le (ss : List Sec) (k : Nat) : spread (ss.take k) ≤ spread ss := by
  conv => rhs; rw [← List.take_append_drop k ss]
  unfold spread
  rw [List.map_append, List.sum_append]
  omega
theorem spread_mem {ss : List Sec} {x : Sec} (h : x ∈ ss) : 1 + x.2.length ≤ spread ss := by
  unfold spread
  induction ss with
  | nil => cases h
  | cons y t ih =>
    simp only [List.map_cons, List.sum_cons]
    rcases List.mem_cons.1 h with h | h
    · subst h; omega
    · have := ih h; omega
theorem spread_length (ss : List Sec) : ss.length ≤ spread ss := by
  unfold spread
  induction ss with
  | nil => exact Nat.le_refl _
  | cons x t ih => simp only [List.map_cons, List.sum_cons, List.length_cons]; omega

set_option maxHeartbeats 8000000 in
set_option maxRecDepth 100000 in
theorem vast_any (ss : List Sec) (v : Value) (w : World) (hm : SecsAt w v ss) (hn : ss.length ≤ 1099511627776) (hsz : ∀ x ∈ ss, x.2.length ≤ 1099511627776) :
    Calls Tryz.prog 4 #[v] w fun r w' => r = .returned (.bool (decide (100000 < spread ss))) ∧ w' = w := by
  obtain ⟨base, cap, rfl, hcap, hcell⟩ := hm
  have HC := Lib.hid hcell
  have HZ := Lib.hid hsz
  clear hcell hsz
  go_enter Tryz.func4, Tryz.ntmps4
  go_wp2
  go_loopw [3, 4] (fun t3 t4 wr => ∃ (k : Nat) (z : Int), k ≤ ss.length ∧ t4 = .int .i64 (k : Int) ∧ t3 = .int .i64 z ∧ z = 100000 - (spread (ss.take k) : Int) ∧ -1099511627777 ≤ z ∧ z ≤ 100000 ∧ wr = w) (fun _ t4 _ => ss.length - (intOf t4).toNat)
  case atStart => exact ⟨0, 100000, by omega, rfl, rfl, rfl, by omega, by omega, by first | rfl | trivial⟩
  case round =>
    obtain ⟨k, z, hk, rfl, rfl, hz, hlo, hhi, rfl⟩ := hrel
    have HS := Lib.hid hz
    clear hz
    by_cases hlt : k < ss.length
    · have hkz : (k : Int) < (ss.length : Int) := by omega
      by_cases h0 : 0 ≤ z
      · obtain ⟨x, hx⟩ : ∃ x, ss[k]? = some x := ⟨_, List.getElem?_eq_getElem hlt⟩
        obtain ⟨b0, o, ev, rfl, e0, e1, eb, ec, rfl, hec, -⟩ := HC.out k x hx
        have hxl := HZ.out x (List.mem_of_getElem? hx)
        have hsp := spread_succ hx
        have HSP := Lib.hid hsp
        clear hx hsp
        go_wp2
        go_roundw
        case measure => simp [intOf]; omega
        case rel =>
          refine ⟨k + 1, z - 1 - (x.2.length : Int), by omega, by go_num, by go_num, ?_, by omega, by omega, by first | rfl | trivial⟩
          rw [HSP.out, HS.out]; omega
      · go_wp2
        go_ret
        refine ⟨ret_bool ?_, rfl⟩
        have h1 := HS.out
        have h2 := spread_le ss k
        simp
        omega
    · have hkz : ¬ ((k : Int) < (ss.length : Int)) := by omega
      go_wp2
      go_ret
      refine ⟨ret_bool ?_, rfl⟩
      have h1 := HS.out
      rw [List.take_of_length_le (by omega)] at h1
      rw [Bool.eq_iff_iff]
      simp
      omega

theorem num_any (e : Nat) (w : World) : Calls Tryz.prog 8 #[.int .i64 (e : Int)] w fun r w' => r = .returned (.int .i64 (e : Int)) ∧ w' = w := by
  go_enter Tryz.func8, Tryz.ntmps8
  go_wp2
  go_ret
  exact ⟨rfl, rfl⟩

set_option maxHeartbeats 4000000 in
theorem rvalid_any (ss : List Sec) (v : Value) (w0 : World) (hm : SecsAt w0 v ss) (hn : ss.length ≤ 1099511627776) (hT : Tabs w0) (hsz : ∀ x ∈ ss, x.1.size ≤ 1099511627776 ∧ x.2.length ≤ 1099511627776 ∧ ∀ y ∈ x.2, y.1.size ≤ 1099511627776 ∧ y.2.size ≤ 1099511627776) :
    Calls Tryz.prog 10 #[v] w0 fun r w' => r = .returned (.bool (decide ((printL ss).1 = 0))) ∧ Keeps w0 w' := by
  have cP := Lib.hid (print_any ss v w0 hm hn hT hsz)
  unfold Printed at cP
  generalize hp : printL ss = p at cP
  obtain ⟨e, l⟩ := p
  clear hm hsz
  go_enter Tryz.func10, Tryz.ntmps10
  go_wp2_with (go_at_call 6; refine cP.out.mono ?_; rintro r w2 ⟨rfl, hk2⟩)
  go_ret
  exact ⟨ret_bool (by first | rfl | (rw [Bool.eq_iff_iff]; simp; try omega)), hk2⟩
end Go.Proofs.YtjoklcjpihadiaaGreatDoor

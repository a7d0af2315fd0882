/- The walk of SieveNil. -/
import Derived.Test.YtcefockebphbaaaGreatDoorS
set_option linter.unusedVariables false
set_option linter.unusedSimpArgs false
set_option linter.unnecessarySimpa false
namespace Go.Proofs.YtcefockebphbaaaGreatDoor
open Go Go.RowKit Sluice

theorem sclose_nil (w : World) : Calls Tryz.prog 6 #[.pointer none] w fun r w' => r = .returned (.tuple #[.slice none 0 0, .int .u32 0, .int .i64 1]) ∧ w = w' := by
  go_enter Tryz.func6, Tryz.ntmps6
  go_wp2
  go_returns
  exact ⟨rfl, rfl⟩
theorem sput_nil (v : Value) (w : World) : Calls Tryz.prog 7 #[.pointer none, v] w fun r w' => r = .returned (.int .i64 1) ∧ w = w' := by
  go_enter Tryz.func7, Tryz.ntmps7
  go_wp2
  go_ret
  exact ⟨rfl, rfl⟩
theorem sflush_nil (w : World) : Calls Tryz.prog 8 #[.pointer none] w fun r w' => r = .returned (.int .i64 1) ∧ w = w' := by
  go_enter Tryz.func8, Tryz.ntmps8
  go_wp2
  go_ret
  exact ⟨rfl, rfl⟩
theorem sdrop_nil (w : World) : Calls Tryz.prog 9 #[.pointer none] w fun r w' => r = .returned (.int .i64 1) ∧ w = w' := by
  go_enter Tryz.func9, Tryz.ntmps9
  go_wp2
  go_ret
  exact ⟨rfl, rfl⟩
def rangesV (n k each more : Int) : Value := .agg #[.int .u32 n, .int .u32 k, .int .u32 each, .int .u32 more]
set_option maxHeartbeats 1000000 in
theorem split_ok (n k : Int) (h1 : 1 ≤ n) (h2 : n ≤ 2147483647) (h3 : 1 ≤ k) (h4 : k ≤ n) (h5 : k ≤ 512) (w : World) :
    Calls Tryz.prog 4 #[.int .u32 n, .int .i64 k] w fun r w' => r = .returned (.tuple #[rangesV n k (n / k) (n % k), .int .i64 0]) ∧ Keeps w w' := by
  have e1 : IntKind.u32.wrap k = k := IntWalk.u32_in _ (by omega)
  have e2 : IntKind.i64.wrap n = n := IntWalk.i64_in _ (by omega)
  have e3 : (k == 0) = false := by simp; omega
  have t1 : n.tdiv k = n / k := Int.tdiv_eq_ediv_of_nonneg (by omega)
  have t2 : n.tmod k = n % k := Int.tmod_eq_emod_of_nonneg (by omega)
  have d1 : 0 ≤ n / k := Int.ediv_nonneg (by omega) (by omega)
  have d2 : n / k ≤ n := Int.ediv_le_self _ (by omega)
  have d3 : 0 ≤ n % k := Int.emod_nonneg _ (by omega)
  have d4 : n % k < k := Int.emod_lt_of_pos _ (by omega)
  have e4 : IntKind.u32.wrap (n / k) = n / k := IntWalk.u32_in _ (by omega)
  have e5 : IntKind.u32.wrap (n % k) = n % k := IntWalk.u32_in _ (by omega)
  go_enter Tryz.func4, Tryz.ntmps4
  go_wp2
  go_region
  all_goals go_wp2
  all_goals go_returns
  all_goals exact ⟨rfl, by (repeat (first | with_reducible exact Fr.refl _ _ | with_reducible assumption | with_reducible refine Fr.alloc ?_ _ | with_reducible refine Fr.drew ?_ | with_reducible refine Fr.drewN ?_ _ | with_reducible refine Fr.setCell ?_ (by simp; try omega) _))⟩
def IsFeed (w : World) (r : Ending) (w' : World) : Prop := ∃ f a c, r = .returned (.func f a c) ∧ Keeps w w'
set_option maxRecDepth 100000 in
theorem feed_nil (w : World) : Calls Tryz.prog 12 #[.slice none 0 0, .int .i64 0] w (IsFeed w) := by
  have hn := fun (w : World) => Lib.run_eql_slice_nil (P := Tryz.prog) w 50 90 none 0 0 0 0 Tryz.underlying50
  go_enter Tryz.func12, Tryz.ntmps12
  go_wp2
  go_ret
  exact ⟨_, _, _, rfl, by (repeat (first | with_reducible exact Fr.refl _ _ | with_reducible assumption | with_reducible refine Fr.alloc ?_ _ | with_reducible refine Fr.drew ?_ | with_reducible refine Fr.drewN ?_ _ | with_reducible refine Fr.setCell ?_ (by simp; try omega) _))⟩
/-- An empty haul. -/
def haulZ : Value := .agg #[.int .i64 0, .slice none 0 0, .slice none 0 0, .slice none 0 0, .slice none 0 0, .int .u32 0]
theorem ingest_nilv (name : ByteArray) (n k e m : Int) (kd : Int) (both : Bool) (it : Value) (fan : Int) (a b c : Value) (w : World) :
    Calls Tryz.prog 11 #[.nilIface, .string name, rangesV n k e m, .int .i64 kd, .bool both, it, .int .i64 fan, a, b, c] w fun r w' => r = .returned (.tuple #[haulZ, .int .i64 1]) ∧ Keeps w w' := by
  unfold rangesV
  go_enter Tryz.func11, Tryz.ntmps11
  go_wp2
  go_returns
  exact ⟨rfl, by (repeat (first | with_reducible exact Fr.refl _ _ | with_reducible assumption | with_reducible refine Fr.alloc ?_ _ | with_reducible refine Fr.drew ?_ | with_reducible refine Fr.drewN ?_ _ | with_reducible refine Fr.setCell ?_ (by simp; try omega) _))⟩
theorem ingest_nile (x : Value) (t : TypeId) (name : ByteArray) (n k e m : Int) (kd : Int) (both : Bool) (fan : Int) (a b c : Value) (w : World) :
    Calls Tryz.prog 11 #[.iface t x, .string name, rangesV n k e m, .int .i64 kd, .bool both, .nilFunc, .int .i64 fan, a, b, c] w fun r w' => r = .returned (.tuple #[haulZ, .int .i64 1]) ∧ Keeps w w' := by
  have isF : isFunc Tryz.prog 48 = true := by kernel_rfl
  have h1 := run_eql_nilFunc Tryz.prog _ isF
  unfold rangesV
  go_enter Tryz.func11, Tryz.ntmps11
  go_wp2
  go_returns
  exact ⟨rfl, by (repeat (first | with_reducible exact Fr.refl _ _ | with_reducible assumption | with_reducible refine Fr.alloc ?_ _ | with_reducible refine Fr.drew ?_ | with_reducible refine Fr.drewN ?_ _ | with_reducible refine Fr.setCell ?_ (by simp; try omega) _))⟩
theorem sops_any (b : Nat) (q : Int) (m1 m2 : Nat) (ch : Value) (ops : Int) (w : World) (hb : Blk w b (diskA q m1 m2 ch ops) 75) :
    Calls Tryz.prog 13 #[.pointer (some ⟨b, 0, none⟩)] w fun r w' => r = .returned (.int .i64 ops) ∧ w = w' := ops_any b q m1 m2 ch ops w hb
end Go.Proofs.YtcefockebphbaaaGreatDoor

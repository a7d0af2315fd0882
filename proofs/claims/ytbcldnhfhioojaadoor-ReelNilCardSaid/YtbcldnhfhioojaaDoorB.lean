/- Contracts of calls on nothing (nil Readers, nil Writers), and of a new disk. -/
import Derived.Test.YtbcldnhfhioojaaDoorA

namespace Go.Proofs.YtbcldnhfhioojaaDoor
open Go Go.RowKit Sluice

theorem rnext_nil (w : World) : Calls Tryd.prog 30 #[.pointer none] w fun r w' => r = .returned (.tuple #[.string ByteArray.empty, .bool false]) ∧ Keeps w w' := by
  go_enter Tryd.func30, Tryd.ntmps30
  go_wp2
  go_ret2
  exact ⟨rfl, by (repeat (first | exact Fr.refl _ _ | assumption | refine Fr.alloc ?_ _ | refine Fr.drew ?_ | refine Fr.drewN ?_ _ | refine Fr.setCell ?_ (by simp; try omega) _))⟩
theorem rdone_nil (w : World) : Calls Tryd.prog 18 #[.pointer none] w fun r w' => r = .returned (.bool false) ∧ w = w' := by
  go_enter Tryd.func18, Tryd.ntmps18
  go_wp2
  go_ret
  exact ⟨rfl, rfl⟩
theorem rcount_nil (w : World) : Calls Tryd.prog 31 #[.pointer none] w fun r w' => r = .returned (.int .i64 0) ∧ w = w' := by
  go_enter Tryd.func31, Tryd.ntmps31
  go_wp2
  go_ret
  exact ⟨rfl, rfl⟩
theorem rsum_nil (w : World) : Calls Tryd.prog 32 #[.pointer none] w fun r w' => r = .returned (.int .u32 0) ∧ w = w' := by
  go_enter Tryd.func32, Tryd.ntmps32
  go_wp2
  go_ret
  exact ⟨rfl, rfl⟩
theorem rcode_nil (w : World) : Calls Tryd.prog 23 #[.pointer none] w fun r w' => r = .returned (.int .i64 1) ∧ w = w' := by
  go_enter Tryd.func23, Tryd.ntmps23
  go_wp2
  go_ret
  exact ⟨rfl, rfl⟩
theorem wcount_nil (w : World) : Calls Tryd.prog 33 #[.pointer none] w fun r w' => r = .returned (.int .i64 0) ∧ w = w' := by
  go_enter Tryd.func33, Tryd.ntmps33
  go_wp2
  go_ret
  exact ⟨rfl, rfl⟩
theorem wsum_nil (w : World) : Calls Tryd.prog 34 #[.pointer none] w fun r w' => r = .returned (.int .u32 0) ∧ w = w' := by
  go_enter Tryd.func34, Tryd.ntmps34
  go_wp2
  go_ret
  exact ⟨rfl, rfl⟩
theorem wcode_nil (w : World) : Calls Tryd.prog 35 #[.pointer none] w fun r w' => r = .returned (.int .i64 1) ∧ w = w' := by
  go_enter Tryd.func35, Tryd.ntmps35
  go_wp2
  go_ret
  exact ⟨rfl, rfl⟩
theorem wput_nil (v : Value) (w : World) : Calls Tryd.prog 36 #[.pointer none, v] w fun r w' => r = .returned (.int .i64 1) ∧ w = w' := by
  go_enter Tryd.func36, Tryd.ntmps36
  go_wp2
  go_ret
  exact ⟨rfl, rfl⟩
theorem wflush_nil (w : World) : Calls Tryd.prog 37 #[.pointer none] w fun r w' => r = .returned (.int .i64 1) ∧ w = w' := by
  go_enter Tryd.func37, Tryd.ntmps37
  go_wp2
  go_ret
  exact ⟨rfl, rfl⟩
theorem wclose_nil (w : World) : Calls Tryd.prog 38 #[.pointer none] w fun r w' => r = .returned (.int .i64 1) ∧ w = w' := by
  go_enter Tryd.func38, Tryd.ntmps38
  go_wp2
  go_ret
  exact ⟨rfl, rfl⟩
theorem right_bad (x : Value) (t : TypeId) (a b c n : Int) (w : World) :
    Calls Tryd.prog 53 #[.iface t x, titleV a b c, .agg #[.int .i64 n, .nilFunc, .nilFunc]] w fun r w' => r = .returned (.int .i64 2) ∧ Keeps w w' := by
  unfold titleV
  go_enter Tryd.func53, Tryd.ntmps53
  go_wp2_with (go_at_call 80; refine (right_nilForm _ _).mono ?_; rintro r w1 ⟨rfl, hk1⟩)
  go_ret
  exact ⟨rfl, Fr.keeps (by (repeat (first | exact Fr.refl _ _ | assumption | refine Fr.alloc ?_ _ | refine Fr.drew ?_ | refine Fr.drewN ?_ _ | refine Fr.setCell ?_ (by simp; try omega) _))) hk1⟩
theorem create_bad (x : Value) (t : TypeId) (name : ByteArray) (a b c n : Int) (buf : Value) (w : World) :
    Calls Tryd.prog 26 #[.iface t x, .string name, titleV a b c, .agg #[.int .i64 n, .nilFunc, .nilFunc], buf] w fun r w' => r = .returned (.tuple #[.pointer none, .int .i64 2]) ∧ Keeps w w' := by
  unfold titleV
  go_enter Tryd.func26, Tryd.ntmps26
  go_wp2_with (go_at_call 53; refine (right_bad x t a b c n _).mono ?_; rintro r w1 ⟨rfl, hk1⟩)
  go_ret2
  exact ⟨rfl, Fr.keeps (by (repeat (first | exact Fr.refl _ _ | assumption | refine Fr.alloc ?_ _ | refine Fr.drew ?_ | refine Fr.drewN ?_ _ | refine Fr.setCell ?_ (by simp; try omega) _))) hk1⟩
theorem open_bad (x : Value) (t : TypeId) (name : ByteArray) (a b c n : Int) (buf : Value) (w : World) :
    Calls Tryd.prog 20 #[.iface t x, .string name, titleV a b c, .agg #[.int .i64 n, .nilFunc, .nilFunc], buf] w fun r w' => r = .returned (.tuple #[.pointer none, .int .i64 2]) ∧ Keeps w w' := by
  unfold titleV
  go_enter Tryd.func20, Tryd.ntmps20
  go_wp2_with (go_at_call 53; refine (right_bad x t a b c n _).mono ?_; rintro r w1 ⟨rfl, hk1⟩)
  go_ret2
  exact ⟨rfl, Fr.keeps (by (repeat (first | exact Fr.refl _ _ | assumption | refine Fr.alloc ?_ _ | refine Fr.drew ?_ | refine Fr.drewN ?_ _ | refine Fr.setCell ?_ (by simp; try omega) _))) hk1⟩
/-- The cells of a disk. -/
def diskA (q : Int) (m1 m2 : Nat) (ch : Value) (ops : Int) : Array Value := #[.bool true, .int .i64 q, .map (some m1), .map (some m2), ch, .slice none 0 0, .int .i64 ops, .bool false, .bool false]
theorem plan_nil (b : Nat) (q : Int) (m1 m2 : Nat) (ch : Value) (ops : Int) (w : World) (hb : Blk w b (diskA q m1 m2 ch ops) 88) :
    Calls Tryd.prog 41 #[.pointer (some ⟨b, 0, none⟩), .slice none 0 0] w fun r w' => r = .returned (.int .i64 0) ∧ Blk w' b (diskA q m1 m2 ch ops) 88 ∧ Fr (· = b) w w' := by
  have hset := hb.set 5 (.slice none 0 0)
  have HS := Lib.hid hset
  have hc := hb.cell
  have hf := hb.free
  have hlt := hb.lt
  clear hb hset
  unfold diskA at hc
  go_enter Tryd.func41, Tryd.ntmps41
  go_wp2
  refine wp_loop_rounds 1 ?_
  rw [rounds_succ]
  go_wp2
  go_ret
  refine ⟨rfl, ?_, ?_⟩
  · have h := HS.out
    exact h
  · exact (Fr.refl (· = b) w).setCell (p := ⟨b, 5, none⟩) (fun _ => rfl) _
/-- A new disk: its block and the two maps'. -/
def IsNew (q : Int) (w : World) (r : Ending) (w' : World) : Prop := ∃ b m1 m2, r = .returned (.tuple #[.pointer (some ⟨b, 0, none⟩), .int .i64 0]) ∧
  Blk w' b (diskA q m1 m2 (.slice none 0 0) 0) 88 ∧ w'.heap[m1]? = some (.map #[] 0) ∧ w'.heap[m2]? = some (.map #[] 0) ∧
  w.heap.size ≤ b ∧ w.heap.size ≤ m1 ∧ w.heap.size ≤ m2 ∧ b ≠ m1 ∧ b ≠ m2 ∧ m1 ≠ m2 ∧ Keeps w w'
theorem new_any (q : Int) (h0 : 0 ≤ q) (h1 : q ≤ 1073741824) (w : World) :
    Calls Tryd.prog 8 #[.int .i64 q, .slice none 0 0] w (IsNew q w) := by
  have hmm := @run_makeMap Tryd.prog
  have hq0 : decide (q < 0) = false := by simp; omega
  have hq1 : decide (1073741824 < q) = false := by simp; omega
  go_enter Tryd.func8, Tryd.ntmps8
  go_wp2_with (go_at_call 41; refine (plan_nil (w.heap.size + 1 + 1) q w.heap.size (w.heap.size + 1) (.slice none 0 0) 0 _ (Blk.new' (by simp))).mono ?_; rintro r w1 ⟨rfl, hb1, hk1⟩)
  go_ret2
  refine ⟨_, _, _, rfl, hb1, ?_, ?_, by omega, by omega, by omega, by omega, by omega, by omega, Fr.trans (S' := (· = w.heap.size + 1 + 1)) (by (repeat (first | exact Fr.refl _ _ | assumption | refine Fr.alloc ?_ _ | refine Fr.drew ?_ | refine Fr.drewN ?_ _ | refine Fr.setCell ?_ (by simp; try omega) _))) hk1 (fun i hi h => by omega)⟩
  · rw [hk1.block _ (by simp; omega) (by omega), heap_alloc_lt _ _ (by simp; omega), heap_alloc_lt _ _ (by simp)]
    exact heap_alloc_new w _
  · rw [hk1.block _ (by simp) (by omega), heap_alloc_lt _ _ (by simp)]
    exact heap_alloc_new' (by simp)
theorem ops_any (b : Nat) (q : Int) (m1 m2 : Nat) (ch : Value) (ops : Int) (w : World) (hb : Blk w b (diskA q m1 m2 ch ops) 88) :
    Calls Tryd.prog 40 #[.pointer (some ⟨b, 0, none⟩)] w fun r w' => r = .returned (.int .i64 ops) ∧ w = w' := by
  have hc := hb.cell
  unfold diskA at hc
  go_enter Tryd.func40, Tryd.ntmps40
  go_wp2
  go_ret
  exact ⟨rfl, rfl⟩
end Go.Proofs.YtbcldnhfhioojaaDoor

/- Small laws; a new disk. -/
import Derived.Test.YtcefockebphbaaaDoorChecked
import Derived.Test.YtcefockebphbaaaDoorMem
import Derived.BigQuiet
import Derived.Deep.QuietTactic
import Derived.Deep.RegionHeld3
import Derived.Handy
import Derived.WalkLawsBesides
import Derived.WalkSpells
import Derived.Laws.EntriesVeiled
import Derived.Lib.Hide
set_option linter.unusedVariables false
set_option linter.unusedSimpArgs false
set_option linter.unnecessarySimpa false

namespace Go.Proofs.YtcefockebphbaaaDoor
open Go Go.RowKit Sluice

theorem ret_int {k : IntKind} {a b : Int} (h : a = b) : Ending.returned (.int k a) = .returned (.int k b) := by rw [h]
theorem ret_bool {a b : Bool} (h : a = b) : Ending.returned (.bool a) = .returned (.bool b) := by rw [h]

/-- A type of functions. -/
def isFunc (P : Program) (t : TypeId) : Bool := match P.underlying t with | some (.func _ _ _) => true | _ => false
theorem run_eqlIn_func (P : Program) (t : TypeId) (h : isFunc P t = true) (w : World) (d : Nat) (x y : Value) (b : Bool)
    (hxy : (x = .nilFunc ∧ y = .nilFunc ∧ b = true) ∨ ((∃ f g c, x = .func f g c) ∧ y = .nilFunc ∧ b = false)) : (Op.equalIn (d + 1) t x y).run P w = .ok b w := by
  unfold isFunc at h
  split at h
  · rename_i a1 a2 a3 hu
    rcases hxy with ⟨rfl, rfl, rfl⟩ | ⟨⟨f, g, c, rfl⟩, rfl, rfl⟩ <;> simp [Op.equalIn, run_underlying hu]
  · cases h
theorem run_neq_func (P : Program) (t : TypeId) (h : isFunc P t = true) (w : World) (f : Fn) (g c : Array Value) : (binOp .neq t (.func f g c) .nilFunc).run P w = .ok (.bool true) w := by
  simp only [binOp]
  simp [Op.equal, Op.maxDepth, run_eqlIn_func P t h w 9999 (.func f g c) .nilFunc false (Or.inr ⟨⟨f, g, c, rfl⟩, rfl, rfl⟩), Result.andThen]
theorem run_neq_nilFunc (P : Program) (t : TypeId) (h : isFunc P t = true) (w : World) : (binOp .neq t .nilFunc .nilFunc).run P w = .ok (.bool false) w := by
  simp only [binOp]
  simp [Op.equal, Op.maxDepth, run_eqlIn_func P t h w 9999 .nilFunc .nilFunc true (Or.inl ⟨rfl, rfl, rfl⟩), Result.andThen]
theorem run_eql_nilFunc (P : Program) (t : TypeId) (h : isFunc P t = true) (w : World) : (binOp .eql t .nilFunc .nilFunc).run P w = .ok (.bool true) w := by
  simp only [binOp]
  simp [Op.equal, Op.maxDepth, run_eqlIn_func P t h w 9999 .nilFunc .nilFunc true (Or.inl ⟨rfl, rfl, rfl⟩), Result.andThen]
theorem run_eql_func (P : Program) (t : TypeId) (h : isFunc P t = true) (w : World) (f : Fn) (g c : Array Value) : (binOp .eql t (.func f g c) .nilFunc).run P w = .ok (.bool false) w := by
  simp only [binOp]
  simp [Op.equal, Op.maxDepth, run_eqlIn_func P t h w 9999 (.func f g c) .nilFunc false (Or.inr ⟨⟨f, g, c, rfl⟩, rfl, rfl⟩), Result.andThen]
theorem info_u8 : (Tryd.prog.info? 5).map (fun i => (i.zero, i.size, i.bytes)) = some (some (.int .u8 0), 1, 1) := by kernel_rfl
end Go.Proofs.YtcefockebphbaaaDoor

namespace Go.Proofs.YtcefockebphbaaaDoor
open Go Go.RowKit Sluice

/-- The cells of a disk. -/
def diskA (q : Int) (m1 m2 : Nat) (ch : Value) (ops : Int) : Array Value := #[.bool true, .int .i64 q, .map (some m1), .map (some m2), ch, .slice none 0 0, .int .i64 ops, .bool false, .bool false]
theorem plan_nil (b : Nat) (q : Int) (m1 m2 : Nat) (ch : Value) (ops : Int) (w : World) (hb : Blk w b (diskA q m1 m2 ch ops) 73) :
    Calls Tryd.prog 24 #[.pointer (some ⟨b, 0, none⟩), .slice none 0 0] w fun r w' => r = .returned (.int .i64 0) ∧ Blk w' b (diskA q m1 m2 ch ops) 73 ∧ Fr (· = b) w w' := by
  have hset := hb.set 5 (.slice none 0 0)
  have HS := Lib.hid hset
  have hc := hb.cell
  have hf := hb.free
  have hlt := hb.lt
  clear hb hset
  unfold diskA at hc
  go_enter Tryd.func24, Tryd.ntmps24
  go_wp2
  refine wp_loop_rounds 1 ?_
  rw [rounds_succ]
  go_wp2
  go_ret
  refine ⟨rfl, ?_, ?_⟩
  · have h := HS.out
    exact h
  · exact (Fr.refl (· = b) w).setCell (p := ⟨b, 5, none⟩) (fun _ => rfl) _
/-- A new disk: its block and the two maps'. -/
def IsNew (q : Int) (w : World) (r : Ending) (w' : World) : Prop := ∃ b m1 m2, r = .returned (.tuple #[.pointer (some ⟨b, 0, none⟩), .int .i64 0]) ∧
  Blk w' b (diskA q m1 m2 (.slice none 0 0) 0) 73 ∧ w'.heap[m1]? = some (.map #[] 0) ∧ w'.heap[m2]? = some (.map #[] 0) ∧
  w.heap.size ≤ b ∧ w.heap.size ≤ m1 ∧ w.heap.size ≤ m2 ∧ b ≠ m1 ∧ b ≠ m2 ∧ m1 ≠ m2 ∧ Keeps w w'
theorem new_any (q : Int) (h0 : 0 ≤ q) (h1 : q ≤ 1073741824) (w : World) :
    Calls Tryd.prog 7 #[.int .i64 q, .slice none 0 0] w (IsNew q w) := by
  have hmm := @run_makeMap Tryd.prog
  have hq0 : decide (q < 0) = false := by simp; omega
  have hq1 : decide (1073741824 < q) = false := by simp; omega
  go_enter Tryd.func7, Tryd.ntmps7
  go_wp2_with (go_at_call 24; refine (plan_nil (w.heap.size + 1 + 1) q w.heap.size (w.heap.size + 1) (.slice none 0 0) 0 _ (Blk.new' (by simp))).mono ?_; rintro r w1 ⟨rfl, hb1, hk1⟩)
  go_ret2
  refine ⟨_, _, _, rfl, hb1, ?_, ?_, by omega, by omega, by omega, by omega, by omega, by omega, Fr.trans (S' := (· = w.heap.size + 1 + 1)) (by (repeat (first | with_reducible exact Fr.refl _ _ | with_reducible assumption | with_reducible refine Fr.alloc ?_ _ | with_reducible refine Fr.drew ?_ | with_reducible refine Fr.drewN ?_ _ | with_reducible refine Fr.setCell ?_ (by simp; try omega) _))) hk1 (fun i hi h => by omega)⟩
  · rw [hk1.block _ (by simp; omega) (by omega), heap_alloc_lt _ _ (by simp; omega), heap_alloc_lt _ _ (by simp)]
    exact heap_alloc_new w _
  · rw [hk1.block _ (by simp) (by omega), heap_alloc_lt _ _ (by simp)]
    exact heap_alloc_new' (by simp)
end Go.Proofs.YtcefockebphbaaaDoor

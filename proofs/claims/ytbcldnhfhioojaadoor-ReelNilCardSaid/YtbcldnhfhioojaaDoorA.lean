/- Contracts of the small functions that compute alone. -/
import Derived.Test.YtbcldnhfhioojaaDoorChecked
import Derived.Test.YtbcldnhfhioojaaDoorMem
import Derived.BigQuiet
import Derived.Deep.QuietTactic
import Derived.Deep.RegionHeld3
import Derived.Handy
import Derived.WalkLawsBesides
import Derived.WalkSpells
import Derived.Laws.EntriesVeiled
import Derived.Lib.Hide

namespace Go.Proofs.YtbcldnhfhioojaaDoor
open Go Go.RowKit Sluice

theorem ret_int {k : IntKind} {a b : Int} (h : a = b) : Ending.returned (.int k a) = .returned (.int k b) := by rw [h]
theorem ret_bool {a b : Bool} (h : a = b) : Ending.returned (.bool a) = .returned (.bool b) := by rw [h]

/-- A type of functions. -/
def isFunc (P : Program) (t : TypeId) : Bool := match P.underlying t with | some (.func _ _ _) => true | _ => false
theorem run_eqlIn_func (P : Program) (t : TypeId) (h : isFunc P t = true) (w : World) (d : Nat) (x y : Value) (b : Bool)
    (hxy : (x = .nilFunc ∧ y = .nilFunc ∧ b = true) ∨ ((∃ f g c, x = .func f g c) ∧ y = .nilFunc ∧ b = false)) : (Op.equalIn (d + 1) t x y).run P w = .ok b w := by
  unfold isFunc at h
  split at h
  · rename_i a1 a2 a3 hu
    rcases hxy with ⟨rfl, rfl, rfl⟩ | ⟨⟨f, g, c, rfl⟩, rfl, rfl⟩ <;> simp [Op.equalIn, run_underlying hu]
  · cases h
theorem run_neq_func (P : Program) (t : TypeId) (h : isFunc P t = true) (w : World) (f : Fn) (g c : Array Value) : (binOp .neq t (.func f g c) .nilFunc).run P w = .ok (.bool true) w := by
  simp only [binOp]
  simp [Op.equal, Op.maxDepth, run_eqlIn_func P t h w 9999 (.func f g c) .nilFunc false (Or.inr ⟨⟨f, g, c, rfl⟩, rfl, rfl⟩), Result.andThen]
theorem run_neq_nilFunc (P : Program) (t : TypeId) (h : isFunc P t = true) (w : World) : (binOp .neq t .nilFunc .nilFunc).run P w = .ok (.bool false) w := by
  simp only [binOp]
  simp [Op.equal, Op.maxDepth, run_eqlIn_func P t h w 9999 .nilFunc .nilFunc true (Or.inl ⟨rfl, rfl, rfl⟩), Result.andThen]
theorem isPutF : isFunc Tryd.prog 54 = true := by kernel_rfl
theorem isGetF : isFunc Tryd.prog 55 = true := by kernel_rfl

theorem num_any (e : Int) (h0 : -9223372036854775808 ≤ e) (h1 : e ≤ 9223372036854775807) (w : World) :
    Calls Tryd.prog 9 #[.int .i64 e] w fun r w' => r = .returned (.int .i64 e) ∧ w = w' := by
  go_enter Tryd.func9, Tryd.ntmps9
  go_wp2
  go_ret
  exact ⟨rfl, rfl⟩

theorem room_any (n : Int) (h0 : -9223372036854775808 ≤ n) (h1 : n ≤ 9223372036854775807) (w : World) :
    Calls Tryd.prog 60 #[.int .i64 n] w fun r w' => r = .returned (.int .i64 (min (max n 0) 4096)) ∧ w = w' := by
  go_enter Tryd.func60, Tryd.ntmps60
  go_wp2
  all_goals go_ret
  all_goals exact ⟨ret_int (by omega), rfl⟩

/-- The forms: their width and two functions. -/
theorem formOf_nil (n : Int) (w : World) :
    Calls Tryd.prog 39 #[.int .i64 n, .nilFunc, .nilFunc] w fun r w' => r = .returned (.agg #[.int .i64 n, .nilFunc, .nilFunc]) ∧ Keeps w w' := by
  go_enter Tryd.func39, Tryd.ntmps39
  go_wp2
  go_returns
  exact ⟨rfl, (Fr.refl _ _).alloc _⟩
/-- The form of texts as a value: its functions' boxes are p and q. -/
def textForm (n : Int) (p q : Nat) : Value := .agg #[.int .i64 n, .func (.func 84) #[] #[.pointer (some ⟨p, 0, none⟩)], .func (.func 85) #[] #[.pointer (some ⟨q, 0, none⟩)]]
def FormBoxes (w : World) (p q : Nat) : Prop := Blk w p #[.func (.func 56) #[] #[]] 117 ∧ Blk w q #[.func (.func 57) #[] #[]] 120
def IsTextForm (n : Int) (w : World) (r : Ending) (w' : World) : Prop := ∃ p q, r = .returned (textForm n p q) ∧ FormBoxes w' p q ∧ w.heap.size ≤ p ∧ w.heap.size ≤ q ∧ Keeps w w'
theorem textForm_any (n : Int) (w : World) : Calls Tryd.prog 21 #[.int .i64 n] w (IsTextForm n w) := by
  go_enter Tryd.func21, Tryd.ntmps21
  go_wp2
  go_returns
  exact ⟨_, _, rfl, ⟨by (repeat (first | assumption | exact Blk.new' (by simp) | refine Blk.alloc ?_ _ | refine Blk.drew ?_ | refine Blk.other ?_ (by simp; try omega) _)), by (repeat (first | assumption | exact Blk.new' (by simp) | refine Blk.alloc ?_ _ | refine Blk.drew ?_ | refine Blk.other ?_ (by simp; try omega) _))⟩, by omega, by omega, by (repeat (first | exact Fr.refl _ _ | assumption | refine Fr.alloc ?_ _ | refine Fr.drew ?_ | refine Fr.drewN ?_ _ | refine Fr.setCell ?_ (by simp; try omega) _))⟩
set_option maxRecDepth 100000 in
theorem right_nilForm (n : Int) (w : World) :
    Calls Tryd.prog 80 #[.agg #[.int .i64 n, .nilFunc, .nilFunc]] w fun r w' => r = .returned (.bool false) ∧ Keeps w w' := by
  have h1 := run_neq_nilFunc Tryd.prog _ isPutF
  go_enter Tryd.func80, Tryd.ntmps80
  go_wp2
  all_goals go_ret
  all_goals exact ⟨rfl, (Fr.refl _ _).alloc _⟩
set_option maxRecDepth 100000 in
theorem right_textForm (n : Int) (p q : Nat) (w : World) :
    Calls Tryd.prog 80 #[textForm n p q] w fun r w' => r = .returned (.bool (decide (1 ≤ n ∧ n ≤ 256))) ∧ Keeps w w' := by
  have h1 := run_neq_func Tryd.prog _ isPutF
  have h2 := run_neq_func Tryd.prog _ isGetF
  unfold textForm
  go_enter Tryd.func80, Tryd.ntmps80
  go_wp2
  all_goals go_ret
  all_goals exact ⟨ret_bool (by simp; omega), by (repeat (first | exact Fr.refl _ _ | assumption | refine Fr.alloc ?_ _ | refine Fr.drew ?_ | refine Fr.drewN ?_ _ | refine Fr.setCell ?_ (by simp; try omega) _))⟩
theorem right_nil (t f : Array Value) (w : World) :
    Calls Tryd.prog 53 #[.nilIface, .agg t, .agg f] w fun r w' => r = .returned (.int .i64 1) ∧ Keeps w w' := by
  go_enter Tryd.func53, Tryd.ntmps53
  go_wp2
  go_ret
  exact ⟨rfl, ((Fr.refl _ _).alloc _).alloc _⟩

/-- The title's numbers as a value. -/
def titleV (f w : Int) (t : Int) : Value := .agg #[.int .i64 f, .int .i64 w, .int .u64 t]
set_option maxRecDepth 100000 in
theorem titled_any (f n t : Int) (w : World) :
    Calls Tryd.prog 81 #[titleV f n t] w fun r w' => r = .returned (.bool (decide (1 ≤ f ∧ f ≤ 255 ∧ 1 ≤ n ∧ n ≤ 256))) ∧ Keeps w w' := by
  unfold titleV
  go_enter Tryd.func81, Tryd.ntmps81
  go_wp2
  all_goals go_ret
  all_goals refine ⟨ret_bool ?_, by (repeat (first | exact Fr.refl _ _ | assumption | refine Fr.alloc ?_ _ | refine Fr.drew ?_ | refine Fr.drewN ?_ _ | refine Fr.setCell ?_ (by simp; try omega) _))⟩
  all_goals (rw [Bool.eq_iff_iff]; simp; try omega)
theorem right_nilText (a b c n : Int) (p q : Nat) (w : World) :
    Calls Tryd.prog 53 #[.nilIface, titleV a b c, textForm n p q] w fun r w' => r = .returned (.int .i64 1) ∧ Keeps w w' := right_nil _ _ _
theorem create_nil (name : ByteArray) (a b c n : Int) (p q : Nat) (buf : Value) (w : World) :
    Calls Tryd.prog 26 #[.nilIface, .string name, titleV a b c, textForm n p q, buf] w fun r w' => r = .returned (.tuple #[.pointer none, .int .i64 1]) ∧ Keeps w w' := by
  unfold titleV textForm
  go_enter Tryd.func26, Tryd.ntmps26
  go_wp2_with (go_at_call 53; refine (right_nilText a b c n p q _).mono ?_; rintro r w1 ⟨rfl, hk1⟩)
  go_ret2
  exact ⟨rfl, Fr.keeps (by (repeat (first | exact Fr.refl _ _ | assumption | refine Fr.alloc ?_ _ | refine Fr.drew ?_ | refine Fr.drewN ?_ _ | refine Fr.setCell ?_ (by simp; try omega) _))) hk1⟩
theorem open_nil (name : ByteArray) (a b c n : Int) (p q : Nat) (buf : Value) (w : World) :
    Calls Tryd.prog 20 #[.nilIface, .string name, titleV a b c, textForm n p q, buf] w fun r w' => r = .returned (.tuple #[.pointer none, .int .i64 1]) ∧ Keeps w w' := by
  unfold titleV textForm
  go_enter Tryd.func20, Tryd.ntmps20
  go_wp2_with (go_at_call 53; refine (right_nilText a b c n p q _).mono ?_; rintro r w1 ⟨rfl, hk1⟩)
  go_ret2
  exact ⟨rfl, Fr.keeps (by (repeat (first | exact Fr.refl _ _ | assumption | refine Fr.alloc ?_ _ | refine Fr.drew ?_ | refine Fr.drewN ?_ _ | refine Fr.setCell ?_ (by simp; try omega) _))) hk1⟩
theorem scan_nil (name : ByteArray) (b : Value) (w : World) :
    Calls Tryd.prog 27 #[.nilIface, .string name, b] w fun r w' => r = .returned (.tuple #[titleV 0 0 0, .int .i64 0, .int .u32 0, .int .i64 1]) ∧ Keeps w w' := by
  go_enter Tryd.func27, Tryd.ntmps27
  go_wp2
  go_returns
  exact ⟨rfl, by (repeat (first | exact Fr.refl _ _ | assumption | refine Fr.alloc ?_ _ | refine Fr.drew ?_ | refine Fr.drewN ?_ _ | refine Fr.setCell ?_ (by simp; try omega) _))⟩
theorem publish_nil (name : ByteArray) (a : Option Addr) (n c : Nat) (w : World) :
    Calls Tryd.prog 28 #[.nilIface, .string name, .slice a n c] w fun r w' => r = .returned (.int .i64 1) ∧ Keeps w w' := by
  go_enter Tryd.func28, Tryd.ntmps28
  go_wp2
  go_ret
  exact ⟨rfl, by (repeat (first | exact Fr.refl _ _ | assumption | refine Fr.alloc ?_ _ | refine Fr.drew ?_ | refine Fr.drewN ?_ _ | refine Fr.setCell ?_ (by simp; try omega) _))⟩
theorem fetch_nil (name : ByteArray) (b : Value) (w : World) :
    Calls Tryd.prog 29 #[.nilIface, .string name, b] w fun r w' => r = .returned (.tuple #[.int .i64 0, .int .i64 1]) ∧ Keeps w w' := by
  go_enter Tryd.func29, Tryd.ntmps29
  go_wp2
  go_ret2
  exact ⟨rfl, by (repeat (first | exact Fr.refl _ _ | assumption | refine Fr.alloc ?_ _ | refine Fr.drew ?_ | refine Fr.drewN ?_ _ | refine Fr.setCell ?_ (by simp; try omega) _))⟩

theorem info_u8 : (Tryd.prog.info? 5).map (fun i => (i.zero, i.size, i.bytes)) = some (some (.int .u8 0), 1, 1) := by kernel_rfl
/-- A buffer full of 99 with two marks behind it. -/
def roomOf (n : Int) : Nat := (min (max n 0) 4096).toNat
theorem roomOf_le (n : Int) : roomOf n ≤ 4096 := by unfold roomOf; omega
theorem roomOf_eq (n : Int) : min (max n 0) 4096 = (roomOf n : Int) := by unfold roomOf; omega
def IsBuffer (n : Int) (w : World) (r : Ending) (w' : World) : Prop := ∃ b, r = .returned (.slice (some ⟨b, 0, none⟩) (roomOf n) (roomOf n + 2)) ∧ Blk w' b (bytesA (List.replicate (roomOf n + 2) 99)) 5 ∧ w.heap.size ≤ b ∧ Keeps w w'
set_option maxRecDepth 100000 in
theorem buffer_any (z : Int) (hz0 : -9223372036854775808 ≤ z) (hz1 : z ≤ 9223372036854775807) (w : World) : Calls Tryd.prog 25 #[.int .i64 z] w (IsBuffer z w) := by
  have hn := roomOf_le z
  have hroom := roomOf_eq z
  unfold IsBuffer
  generalize roomOf z = n at hn hroom ⊢
  have HR := Lib.hid hroom
  clear hroom
  have hmk := run_make_one (P := Tryd.prog) w 27 5 (.int .u8 0) 1 Tryd.underlying27 info_u8 rfl .i64 .i64 (n + 2) (by omega) (by omega)
  simp only [Int.natCast_add, Int.cast_ofNat_Int] at hmk
  go_enter Tryd.func25, Tryd.ntmps25
  go_wp2_with (go_at_call 60; refine (room_any _ (by omega) (by omega) _).mono ?_; rintro r w1 ⟨rfl, rfl⟩; rw [HR.out])
  go_loopw [4] (fun i wr => ∃ k : Nat, k ≤ n + 2 ∧ i = .int .i64 k ∧ Blk wr w.heap.size (bytesA (List.replicate k 99 ++ List.replicate (n + 2 - k) 0)) 5 ∧ Keeps w wr) (fun i wr => (n + 2) - (intOf i).toNat)
  case atStart =>
    refine ⟨0, by omega, rfl, ?_, by (repeat (first | exact Fr.refl _ _ | assumption | refine Fr.alloc ?_ _ | refine Fr.drew ?_ | refine Fr.drewN ?_ _ | refine Fr.setCell ?_ (by simp; try omega) _))⟩
    have : bytesA (List.replicate 0 99 ++ List.replicate (n + 2 - 0) 0) = Array.replicate (n + 2) (.int .u8 0) := by
      simp [bytesA_replicate, bv]
    rw [this]; exact Blk.new _ _ _
  case round =>
    obtain ⟨k, hk, rfl, hb, hw⟩ := hrel
    have hsz := hw.size
    have hlt := hb.lt
    by_cases hlt : k < n + 2
    · have hc : wr.cell? ⟨w.heap.size, k, none⟩ = some (.int .u8 0) := by
        rw [hb.cell, bytesA_get, List.getElem?_append_right (by simp)]
        simp [show 0 < n + 2 - k by omega, bv]
      have hf := hb.free k
      have hbs := hb.set k (bv 99)
      rw [bytesA_set] at hbs
      have hB := Lib.hid hb; have HS := Lib.hid hbs; have HW := Lib.hid hw; clear hb hbs hw
      go_wp2
      go_roundw
      case rel =>
        refine ⟨k + 1, by omega, by go_num, ?_, HW.out.setCell (by simp) _⟩
        have e : (List.replicate k (99 : UInt8) ++ List.replicate (n + 2 - k) 0).set k 99 = List.replicate (k + 1) 99 ++ List.replicate (n + 2 - (k + 1)) 0 := by
          rw [List.set_append_right _ _ (by simp)]
          have : n + 2 - k = (n + 2 - (k + 1)) + 1 := by omega
          rw [this, List.replicate_succ]
          simp [List.replicate_succ', List.append_assoc]
        rw [← e]; exact HS.out
      case measure => simp [intOf]; omega
    · obtain rfl : k = n + 2 := by omega
      go_wp2_with (go_at_call 60; refine (room_any _ (by omega) (by omega) _).mono ?_; rintro r w1 ⟨rfl, rfl⟩; rw [HR.out])
      go_ret
      exact ⟨w.heap.size, rfl, by simpa using hb, Nat.le_refl _, hw⟩
end Go.Proofs.YtbcldnhfhioojaaDoor

/- strings.Replacer: sync.Once, one goroutine: build is called once. -/
import Derived.Test.YtjoklcjpihadiaaGreatDoorRoO
import Derived.Defers
import Derived.Laws.Pointers
import Derived.Laws.LoneSync
import Derived.RegionTactic
import Derived.RegionCalls
set_option linter.unusedVariables false
set_option linter.unusedSimpArgs false
set_option linter.unnecessarySimpa false
namespace Go.Proofs.YtjoklcjpihadiaaGreatDoor
open Go Go.RowKit Sluice Go.Proofs.Ro Go.Shelf

theorem disableR (w : World) : (callFunc 87 #[]).run Tryz.prog w = .ok (.value (.tuple #[])) w := run_call_mark0 Tryz.func87 (by kernel_rfl) (by kernel_rfl) (by kernel_rfl) .disable (by kernel_rfl) w
theorem enableR (w : World) : (callFunc 89 #[]).run Tryz.prog w = .ok (.value (.tuple #[])) w := run_call_mark0 Tryz.func89 (by kernel_rfl) (by kernel_rfl) (by kernel_rfl) .enable (by kernel_rfl) w
theorem acquireR (a : Addr) (w : World) : (callFunc 90 #[.pointer (some a)]).run Tryz.prog w = .ok (.value (.tuple #[])) w := run_call_marked Tryz.func90 (by kernel_rfl) (by kernel_rfl) (by kernel_rfl) .acquire (by kernel_rfl) a w
theorem releaseMergeR (a : Addr) (w : World) : (callFunc 92 #[.pointer (some a)]).run Tryz.prog w = .ok (.value (.tuple #[])) w := run_call_marked Tryz.func92 (by kernel_rfl) (by kernel_rfl) (by kernel_rfl) .releaseMerge (by kernel_rfl) a w

set_option maxHeartbeats 1600000 in
set_option maxRecDepth 100000 in
theorem store_deferredR (a : Addr) (x : Value) (u : FrameMode) (w : World) (hc : w.cell? a = some x) (hz : w.frozen? a = false) :
    CallsD Tryz.prog 76 #[.pointer (some a), .bool true] u w fun e u' w' => u' = u ∧ (e = .returned (.tuple #[]) ∧ w' = w.drew.setCell a (.int .u32 1)) := by
  have hc' : w.drew.cell? a = some x := by go_simp
  have hz' : w.drew.frozen? a = false := by go_simp
  have hst := run_call_store (P := Tryz.prog) Tryz.func82 (by kernel_rfl) (by kernel_rfl) (by kernel_rfl) (by kernel_rfl) (k := .u32) (y := 1) hc' hz'
  go_enter_d Tryz.func76, Tryz.ntmps76
  go_wp2
  go_region_calls
  all_goals (go_end0; exact ⟨rfl, rfl⟩)

set_option maxHeartbeats 1600000 in
set_option maxRecDepth 100000 in
theorem unlock_deferredR (a : Addr) (u : FrameMode) (w : World) (hc : w.cell? a = some (.int .i32 1)) (hz : w.frozen? a = false) :
    CallsD Tryz.prog 75 #[.pointer (some a)] u w fun e u' w' => u' = u ∧ (e = .returned (.tuple #[]) ∧ w' = w.setCell a (.int .i32 0)) := by
  have hd := disableR
  have he := enableR
  have hr := releaseMergeR
  have hadd := run_call_add (P := Tryz.prog) Tryz.func93 (by kernel_rfl) (by kernel_rfl) (by kernel_rfl) .i32 (by kernel_rfl) (y := -1) (s := 0) hc hz (by simp [go_sem]; rfl)
  have hcv := run_convert_to_unsafe (P := Tryz.prog) (src := 145) (dst := 68) Tryz.underlying145 Tryz.underlying68 (by kernel_rfl) hc
  go_enter_d Tryz.func75, Tryz.ntmps75
  go_wp2
  go_end0
  go_wp2

set_option maxHeartbeats 1600000 in
set_option maxRecDepth 100000 in
theorem lock_freeR (a : Addr) (w : World) (hc : w.cell? a = some (.int .i32 0)) (hz : w.frozen? a = false) :
    Calls Tryz.prog 74 #[.pointer (some a)] w fun e w' => e = .returned (.tuple #[]) ∧ w' = w.setCell a (.int .i32 1) := by
  have hd := disableR
  have he := enableR
  have ha := acquireR
  have hcas := run_call_cas_hit (P := Tryz.prog) Tryz.func88 (by kernel_rfl) (by kernel_rfl) (by kernel_rfl) .i32 (by kernel_rfl) (y := 1) hc hz
  have hc' : (w.setCell a (.int .i32 1)).cell? a = some (.int .i32 1) := World.cell?_setCell_same w a _ hc
  have hcv := run_convert_to_unsafe (P := Tryz.prog) (src := 145) (dst := 68) Tryz.underlying145 Tryz.underlying68 (by kernel_rfl) hc'
  go_enter Tryz.func74, Tryz.ntmps74
  go_wp2
  first | go_end0 | (simp only [Exit.inBlock, Exit.then]; refine bodyPost_ret (results_none rfl _ _ _) rfl ?_) | refine bodyPost_ret (results_none rfl _ _ _) rfl ?_
  go_wp2

/-- What build leaves behind. -/
def BuiltTo (B : Nat) (rv : Value) (w : World) : Prop := ∃ P, rv = .iface 130 (.pointer (some ⟨P, 0, none⟩)) ∧ ReplK B P pairs w ∧ B ≤ P
theorem ReplK.kept {B P : Nat} {l : List (UInt8 × UInt8)} {w w' : World} (h : ReplK B P l w) (hP : B ≤ P) {R : Nat} (hR : R < B) (hf : Fr (fun k => k = R) w w') : ReplK B P l w' := by
  obtain ⟨cs, v, h1, h2, h3, h4, h5, h6⟩ := h
  refine ⟨cs, v, hf.blk h1 (by omega), h2, h3, row_kept h4 hf (fun k hk => by have := (h5 k hk).2; omega), h5, fun c => ?_⟩
  rcases h6 c with h | ⟨x, kb, cap, a1, a2, a3, a4, a5, a6, a7, a8⟩
  · exact .inl h
  · exact .inr ⟨x, kb, cap, a1, a2, a3, a4, by have := hf.size; omega, a6, (hf.cell a5 (by show ¬ kb = R; omega)).trans a7, (hf.cell a5 (by show ¬ kb = R; omega)).trans a8⟩
theorem BuiltTo.kept {B : Nat} {rv : Value} {w w' : World} (h : BuiltTo B rv w) {R : Nat} (hR : R < B) (hf : Fr (fun k => k = R) w w') : BuiltTo B rv w' := by
  obtain ⟨P, h1, h2, h3⟩ := h
  exact ⟨P, h1, h2.kept h3 hR hf, h3⟩

set_option maxHeartbeats 1600000 in
set_option maxRecDepth 100000 in
theorem buildOnce_any (R g cap : Nat) (w : World) (hb : Blk w R (replA 0 (.slice (some ⟨g, 0, none⟩) 10 cap) .nilIface 0 1) 101) (hg : ∀ i s, oldnew[i]? = some s → w.cell? ⟨g, i, none⟩ = some (.string s)) :
    Calls Tryz.prog 52 #[.pointer (some ⟨R, 0, none⟩)] w fun e w' => e = .returned (.tuple #[]) ∧ ∃ rv, Blk w' R (replA 0 (.slice none 0 0) rv 0 1) 101 ∧ Fr (fun k => k = R) w w' ∧ BuiltTo w.heap.size rv w' := by
  have cB := Lib.hid (build_any R g cap 1 w hb hg)
  have HB := Lib.hid hb
  have hlt := hb.lt
  clear hg hb
  go_enter Tryz.func52, Tryz.ntmps52
  go_wp2_with ((go_at_call 66); (refine cB.out.mono ?_); (rintro e w1 ⟨P, rfl, hR, hP, hk⟩); (have hb1 := hk.blk HB.out (fun x => x)); (unfold replA at hb1); (have c3 := hb1.cell 3); (have c4 := hb1.cell 4); (have f3 := hb1.free 3); (have hb2 := hb1.set 3 (.iface 130 (.pointer (some ⟨P, 0, none⟩)))); (have d4 := hb2.cell 4); (have f4 := hb2.free 4); (have H1 := Lib.hid hb2); (have H2 := Lib.hid hR); (have H3 := Lib.hid hk); (clear hb1 hb2 hR hk))
  go_end0
  have fr : Fr (fun k => k = R) w ((w1.setCell ⟨R, 3, none⟩ (.iface 130 (.pointer (some ⟨P, 0, none⟩)))).setCell ⟨R, 4, none⟩ (.slice none 0 0)) :=
    Fr.setCell (S := fun k => k = R) (Fr.setCell (S := fun k => k = R) (Fr.any H3.out) (fun _ => rfl) _) (fun _ => rfl) _
  have fr1 : Fr (fun k => k = R) w1 ((w1.setCell ⟨R, 3, none⟩ (.iface 130 (.pointer (some ⟨P, 0, none⟩)))).setCell ⟨R, 4, none⟩ (.slice none 0 0)) :=
    Fr.setCell (S := fun k => k = R) (Fr.setCell (S := fun k => k = R) (Fr.refl _ _) (fun _ => rfl) _) (fun _ => rfl) _
  exact ⟨rfl, _, H1.out.set 4 (.slice none 0 0), fr, P, rfl, H2.out.kept hP hlt fr1, hP⟩
end Go.Proofs.YtjoklcjpihadiaaGreatDoor

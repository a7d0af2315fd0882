/- strings.Replacer: Do at the first call. -/
import Derived.Test.YtjoklcjpihadiaaGreatDoorRoP
set_option linter.unusedVariables false
set_option linter.unusedSimpArgs false
set_option linter.unnecessarySimpa false
namespace Go.Proofs.YtjoklcjpihadiaaGreatDoor
open Go Go.RowKit Sluice Go.Proofs.Ro Go.Shelf

set_option maxHeartbeats 4000000 in
set_option maxRecDepth 100000 in
theorem doSlow_any (R g cap : Nat) (w : World) (hb : Blk w R (replA 0 (.slice (some ⟨g, 0, none⟩) 10 cap) .nilIface 0 0) 101) (hg : ∀ i s, oldnew[i]? = some s → w.cell? ⟨g, i, none⟩ = some (.string s)) (hgR : g ≠ R) :
    Calls Tryz.prog 65 #[.pointer (some ⟨R, 0, none⟩), .func (.func 52) #[.pointer (some ⟨R, 0, none⟩)] #[]] w fun e w' => e = .returned (.tuple #[]) ∧ ∃ rv, Blk w' R (replA 0 (.slice none 0 0) rv 1 0) 101 ∧ Fr (fun k => k = R) w w' ∧ BuiltTo w.heap.size rv w' := by
  have hlt := hb.lt
  have hb0 := hb
  unfold replA at hb0
  have c1 := hb0.cell 1
  have f1 := hb0.free 1
  have hb1 := hb0.set 1 (.int .i32 1)
  have d0 := hb1.cell 0
  have hl := run_call_load (P := Tryz.prog) Tryz.func73 (by kernel_rfl) (by kernel_rfl) (by kernel_rfl) .u32 (by kernel_rfl) (w := w.setCell ⟨R, 1, none⟩ (.int .i32 1)) (a := ⟨R, 0, none⟩) (x := 0) d0
  have hz1 : (w.setCell ⟨R, 1, none⟩ (.int .i32 1)).heap.size = w.heap.size := by simp
  have cB := buildOnce_any R g cap (w.setCell ⟨R, 1, none⟩ (.int .i32 1)) hb1 (fun i s h => by
    have hcell := hg i s h
    exact (World.cell?_setCell_other _ _ _ _ (by simp [hgR.symm])).trans hcell)
  rw [hz1] at cB
  have CB := Lib.hid cB
  have hnot : ∀ (x : Bool) (w : World), (Op.unary .not (.bool x)).run Tryz.prog w = .ok (.bool (!x)) w := fun _ _ => rfl
  have fr1 : Fr (fun k => k = R) w (w.setCell ⟨R, 1, none⟩ (.int .i32 1)) := Fr.setCell (S := fun k => k = R) (Fr.refl _ _) (fun _ => rfl) _
  have HF1 := Lib.hid fr1
  clear cB hg hb1 d0 hb0 hb fr1
  go_enter_defers Tryz.func65, Tryz.ntmps65
  go_wp2_with (first
    | (go_at_call 74; refine (lock_freeR ⟨R, 1, none⟩ _ c1 f1).mono ?_; rintro e w' ⟨rfl, rfl⟩)
    | (go_at_call 64; go_in)
    | (go_at_call 52; refine CB.out.mono ?_; rintro e w2 ⟨rfl, rv, hb2, hf2, hbt⟩))
  unfold replA at hb2
  have hs2 : w2.drew.cell? ⟨R, 0, none⟩ = some (.int .u32 0) := hb2.cell 0
  have e0 := hb2.cell 0
  have g0 := hb2.free 0
  have hb3 : Blk (w2.drew.setCell ⟨R, 0, none⟩ (.int .u32 1)) R _ _ := Blk.set (Blk.drew hb2) 0 (.int .u32 1)
  have e1 := hb3.cell 1
  have g1 := hb3.free 1
  have hb4 := hb3.set 1 (.int .i32 0)
  have fr2 : Fr (fun k => k = R) w2 ((w2.drew.setCell ⟨R, 0, none⟩ (.int .u32 1)).setCell ⟨R, 1, none⟩ (.int .i32 0)) :=
    Fr.setCell (S := fun k => k = R) (Fr.setCell (S := fun k => k = R) (Fr.drew (Fr.refl _ _)) (fun _ => rfl) _) (fun _ => rfl) _
  refine leaves_cons (f := 76) (args := #[.pointer (some ⟨R, 0, none⟩), .bool true]) (by simp) (by simp [go_sem]) ?_
  refine (store_deferredR ⟨R, 0, none⟩ (.int .u32 0) .returning _ e0 g0).mono ?_
  rintro e u' w'' ⟨rfl, rfl, rfl⟩
  refine leaves_cons (f := 75) (args := #[.pointer (some ⟨R, 1, none⟩)]) (by simp [settle]) (by simp [go_sem]) ?_
  refine (unlock_deferredR ⟨R, 1, none⟩ _ _ e1 g1).mono ?_
  rintro e u' w'' ⟨rfl, rfl, rfl⟩
  simp only [Leaves, settle]
  exact ⟨_, results_none rfl _ _ _, rfl, rv, hb4, (HF1.out.then hf2).then fr2, hbt.kept hlt fr2⟩

set_option maxHeartbeats 4000000 in
set_option maxRecDepth 100000 in
theorem do_any (R g cap : Nat) (w : World) (hb : Blk w R (replA 0 (.slice (some ⟨g, 0, none⟩) 10 cap) .nilIface 0 0) 101) (hg : ∀ i s, oldnew[i]? = some s → w.cell? ⟨g, i, none⟩ = some (.string s)) (hgR : g ≠ R) :
    Calls Tryz.prog 51 #[.pointer (some ⟨R, 0, none⟩), .func (.func 52) #[.pointer (some ⟨R, 0, none⟩)] #[]] w fun e w' => e = .returned (.tuple #[]) ∧ ∃ rv, Blk w' R (replA 0 (.slice none 0 0) rv 1 0) 101 ∧ Fr (fun k => k = R) w w' ∧ BuiltTo w.heap.size rv w' := by
  have cS := Lib.hid (doSlow_any R g cap w hb hg hgR)
  have d0 := hb.cell 0
  unfold replA at d0
  have hl := run_call_load (P := Tryz.prog) Tryz.func73 (by kernel_rfl) (by kernel_rfl) (by kernel_rfl) .u32 (by kernel_rfl) (w := w) (a := ⟨R, 0, none⟩) (x := 0) d0
  have hnot : ∀ (x : Bool) (w : World), (Op.unary .not (.bool x)).run Tryz.prog w = .ok (.bool (!x)) w := fun _ _ => rfl
  clear hb hg hgR
  go_enter Tryz.func51, Tryz.ntmps51
  go_wp2_with (first
    | (go_at_call 65; refine cS.out.mono ?_; rintro e w1 ⟨rfl, h1⟩)
    | (go_at_call 64; go_in))
  go_end0
  exact ⟨rfl, h1⟩
end Go.Proofs.YtjoklcjpihadiaaGreatDoor

/- strings.ContainsAny(s, "\t\n\r"): at every text. -/
import Derived.Test.YtjoklcjpihadiaaGreatDoorRoR
set_option linter.unusedVariables false
set_option linter.unusedSimpArgs false
set_option linter.unnecessarySimpa false
namespace Go.Proofs.YtjoklcjpihadiaaGreatDoor
open Go Go.RowKit Sluice Go.Proofs.Ro Go.Shelf

set_option maxHeartbeats 4000000 in
set_option maxRecDepth 1000000 in
theorem indexRune_err (cs : ByteArray) (ha : ∀ (j : Nat) (h : j < cs.size), (cs[j]'h).toNat < 128) (w : World) :
    Calls Tryz.prog 58 #[.string cs, .int .i32 65533] w fun e w' => e = .returned (.int .i64 (-1)) ∧ Keeps w w' := by
  have HA := Lib.hid ha
  clear ha
  go_enter Tryz.func58, Tryz.ntmps58
  go_wp2
  go_loopg [] cs.size (fun gf wx => ∃ pos : Nat, wx.heap[w.heap.size]? = some (.stringIter cs pos) ∧ Keeps w wx ∧ cs.size = pos + gf)
  case atStart => exact ⟨0, World.iter_heap w cs 0, Fr.alloc (Fr.refl _ w) _, by omega⟩
  case round =>
    obtain ⟨pos, hit, hK, hfu⟩ := hrel
    by_cases hps : pos < cs.size
    · obtain ⟨g', rfl⟩ : ∃ g', gk = g' + 1 := ⟨gk - 1, by omega⟩
      have hnx : ∀ ty, (Instr.next (.pointer (some ⟨w.heap.size, 0, none⟩)) true ty).run Tryz.prog wr = _ := fun ty => Lib.run_next_ascii_at wr w.heap.size cs pos ty hit hps (HA.out pos hps)
      have hlt := HA.out pos hps
      generalize (cs[pos]'hps).toNat = n at hnx hlt
      have hn : ¬ ((n : Int) = 65533) := by omega
      have hit2 := Lib.iterAt_heap wr w.heap.size cs pos (pos + 1) hit
      have hk2 : Keeps w (wr.iterAt w.heap.size cs (pos + 1)) := Keeps.ofBelow (Lib.below_iterAt hK.below (k := w.heap.size) (Nat.le_refl _) cs (pos + 1))
      obtain ⟨W, hWd⟩ : ∃ W, wr.iterAt w.heap.size cs (pos + 1) = W := ⟨_, rfl⟩
      rw [hWd] at hnx hit2 hk2
      clear hWd hit hK
      go_wp2
      go_roundg g'
      case measure => omega
      case rel => exact ⟨pos + 1, hit2, hk2, by omega⟩
    · have hnx : ∀ ty, (Instr.next (.pointer (some ⟨w.heap.size, 0, none⟩)) true ty).run Tryz.prog wr = _ := fun ty => Lib.run_next_end_at wr w.heap.size cs pos ty hit hps
      clear hfu hps hit
      go_wp2
      go_ret
      exact ⟨rfl, by (repeat (first | with_reducible exact Fr.refl _ _ | with_reducible assumption | with_reducible refine Fr.alloc ?_ _ | with_reducible refine Fr.drew ?_ | with_reducible refine Fr.drewN ?_ _ | with_reducible refine Fr.setCell ?_ (by simp; try omega) _))⟩

/-- A rune above 127: all its bytes are. -/
theorem decode_wide (s : ByteArray) (pos : Nat) (hp : pos < s.size) (h : 128 ≤ (Utf8.decode s pos).1) : (∀ j, pos ≤ j → j < pos + (Utf8.decode s pos).2 → 128 ≤ ((bl s).getD j 0).toNat) := by
  intro j h1 h2
  have hg : ∀ k, (bl s).getD k 0 = s.get! k := fun k => Lib.getD_get!' s k
  rw [hg]
  rw [Lib.decode_at] at h h2
  have b1 := UInt8.toNat_lt (s.get! (pos + 1))
  have b2 := UInt8.toNat_lt (s.get! (pos + 2))
  have b3 := UInt8.toNat_lt (s.get! (pos + 3))
  have hj : j = pos ∨ j = pos + 1 ∨ j = pos + 2 ∨ j = pos + 3 ∨ pos + 4 ≤ j := by omega
  generalize e0 : (s.get! pos).toNat = x0 at *
  generalize e1 : (s.get! (pos + 1)).toNat = x1 at *
  generalize e2 : (s.get! (pos + 2)).toNat = x2 at *
  generalize e3 : (s.get! (pos + 3)).toNat = x3 at *
  unfold Lib.decodeN at h h2
  rcases hj with rfl | rfl | rfl | rfl | hj
  · rw [e0]; revert h h2; repeat' split
    all_goals (intro h h2; simp only at h h2; omega)
  · rw [e1]; revert h h2; repeat' split
    all_goals (intro h h2; simp only at h h2; omega)
  · rw [e2]; revert h h2; repeat' split
    all_goals (intro h h2; simp only at h h2; omega)
  · rw [e3]; revert h h2; repeat' split
    all_goals (intro h h2; simp only at h h2; omega)
  · exfalso; revert h h2; repeat' split
    all_goals (intro h h2; simp only at h h2; omega)
theorem decode_low (s : ByteArray) (pos : Nat) (hp : pos < s.size) (h : (Utf8.decode s pos).1 < 128) : Utf8.decode s pos = (((bl s).getD pos 0).toNat, 1) := by
  rw [show (bl s).getD pos 0 = s.get! pos from Lib.getD_get!' s pos]
  rw [Lib.decode_at] at h ⊢
  generalize (s.get! pos).toNat = x0 at *
  unfold Lib.decodeN at h ⊢
  revert h
  repeat' split
  all_goals (intro h; first | rfl | (exfalso; simp only at h; omega))

/-- No byte of these before a place. -/
def NoCtl (l : List UInt8) (k : Nat) : Prop := ∀ j, j < k → ctl (l.getD j 0) = false
theorem ctl_big {c : UInt8} (h : 128 ≤ c.toNat) : ctl c = false := by
  unfold ctl
  simp only [Bool.or_eq_false_iff, beq_eq_false_iff_ne, ne_eq]
  refine ⟨⟨?_, ?_⟩, ?_⟩ <;> (rintro rfl; revert h; decide)
theorem any_ctl_none {l : List UInt8} (h : NoCtl l l.length) : l.any ctl = false := by
  refine List.any_eq_false.2 fun x hx => ?_
  obtain ⟨j, hj⟩ := List.getElem?_of_mem hx
  have hl := (List.getElem?_eq_some_iff.1 hj).1
  have := h j hl
  rw [List.getD_eq_getElem?_getD, hj] at this
  simp only [Option.getD_some] at this
  rw [this]; exact Bool.false_ne_true
theorem any_ctl_hit {l : List UInt8} {j : Nat} (hj : j < l.length) (h : ctl (l.getD j 0) = true) : l.any ctl = true := by
  refine List.any_eq_true.2 ⟨_, List.getElem_mem hj, ?_⟩
  rw [List.getD_eq_getElem?_getD, List.getElem?_eq_getElem hj] at h
  simpa using h
theorem tnr_index (c : UInt8) : decide ((0 : Int) ≤ Lib.indexByte [9, 10, 13] c) = ctl c := by
  have h := Lib.contains_iff_indexByte [9, 10, 13] c
  rw [← h]
  unfold ctl
  simp only [List.contains_cons, List.contains_nil, Bool.or_false]
  cases (c == 9) <;> cases (c == 10) <;> cases (c == 13) <;> rfl
end Go.Proofs.YtjoklcjpihadiaaGreatDoor

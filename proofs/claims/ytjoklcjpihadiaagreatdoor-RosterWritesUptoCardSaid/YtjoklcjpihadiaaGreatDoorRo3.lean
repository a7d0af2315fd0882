/- The document's: names, and whether a name stood before. -/
import Derived.Test.YtjoklcjpihadiaaGreatDoorRo2
set_option linter.unusedVariables false
set_option linter.unusedSimpArgs false
set_option linter.unnecessarySimpa false
namespace Go.Proofs.YtjoklcjpihadiaaGreatDoor
open Go Go.RowKit Sluice Go.Proofs.Ro Go.Lib

theorem any_lt {α : Type} {p : α → Bool} {l : List α} (h : ∀ j x, j < l.length → l[j]? = some x → p x = false) : l.any p = false := by
  rw [List.any_eq_false]
  intro x hx
  obtain ⟨j, hj⟩ := List.getElem?_of_mem hx
  rw [h j x (List.getElem?_eq_some_iff.1 hj).1 hj]
  exact Bool.false_ne_true

set_option maxHeartbeats 4000000 in
set_option maxRecDepth 100000 in
theorem find_any (ss : List Sec) (b o cap : Nat) (hn : ss.length ≤ 1099511627776) (s : ByteArray) (w : World) (hc : ∀ j x, ss[j]? = some x → w.cell? ⟨b, o + j * 2, none⟩ = some (.string x.1)) :
    Calls Tryz.prog 19 #[.slice (some ⟨b, o, none⟩) ss.length cap, .string s] w fun r w' => (∃ z : Int, r = .returned (.int .i64 z) ∧ decide (0 ≤ z) = ss.any (fun x => bl x.1 == bl s)) ∧ Keeps w w' := by
  have HC := Lib.hid hc
  clear hc
  go_enter Tryz.func19, Tryz.ntmps19
  go_wp2
  go_loopw [5] (fun t5 wr => ∃ k : Nat, k ≤ ss.length ∧ t5 = .int .i64 (k : Int) ∧ (∀ j x, j < k → ss[j]? = some x → (bl x.1 == bl s) = false) ∧ Keeps w wr) (fun t5 _ => ss.length - (intOf t5).toNat)
  case atStart => exact ⟨0, by omega, rfl, fun j x hj => by omega, Fr.refl _ _⟩
  case round =>
    obtain ⟨k, hkl, rfl, hno, hK⟩ := hrel
    have HNo := Lib.hid hno
    clear hno
    by_cases hlt : k < ss.length
    · obtain ⟨x, hx⟩ : ∃ x, ss[k]? = some x := ⟨_, List.getElem?_eq_getElem hlt⟩
      have hcx := cell_of_keeps hK (HC.out k x hx)
      have hlz : (k : Int) < (ss.length : Int) := by omega
      go_wp2
      · rename_i hq
        rw [Lib.toList_data, Lib.toList_data] at hq
        go_ret
        refine ⟨⟨k, rfl, ?_⟩, by (repeat (first | with_reducible exact Fr.refl _ _ | with_reducible assumption | with_reducible refine Fr.alloc ?_ _ | with_reducible refine Fr.drew ?_ | with_reducible refine Fr.drewN ?_ _ | with_reducible refine Fr.setCell ?_ (by simp; try omega) _))⟩
        rw [List.any_eq_true.2 ⟨x, List.mem_of_getElem? hx, hq⟩]
        exact decide_eq_true (by omega)
      · rename_i hq
        rw [Lib.toList_data, Lib.toList_data] at hq
        go_roundw
        case measure => simp [intOf]; omega
        case rel =>
          refine ⟨k + 1, by omega, by first | rfl | (simp; done) | (simp; omega), fun j y hj hy => ?_, by (repeat (first | with_reducible exact Fr.refl _ _ | with_reducible assumption | with_reducible refine Fr.alloc ?_ _ | with_reducible refine Fr.drew ?_ | with_reducible refine Fr.drewN ?_ _ | with_reducible refine Fr.setCell ?_ (by simp; try omega) _))⟩
          rcases Nat.lt_or_ge j k with h1 | h1
          · exact HNo.out j y h1 hy
          · have : j = k := by omega
            subst this
            rw [hx] at hy
            cases hy
            exact hq
    · have hpe : k = ss.length := by omega
      subst hpe
      have hlz : ¬ ((ss.length : Int) < (ss.length : Int)) := by omega
      go_wp2
      go_ret
      refine ⟨⟨-1, rfl, ?_⟩, by (repeat (first | with_reducible exact Fr.refl _ _ | with_reducible assumption | with_reducible refine Fr.alloc ?_ _ | with_reducible refine Fr.drew ?_ | with_reducible refine Fr.drewN ?_ _ | with_reducible refine Fr.setCell ?_ (by simp; try omega) _))⟩
      rw [any_lt (fun j x h1 h2 => HNo.out j x h1 h2)]; rfl

set_option maxHeartbeats 4000000 in
set_option maxRecDepth 100000 in
theorem has_any (es : List Ent) (b o cap : Nat) (hn : es.length ≤ 1099511627776) (s nm : ByteArray) (w : World) (hc : ∀ j x, es[j]? = some x → w.cell? ⟨b, o + j * 2, none⟩ = some (.string x.1)) :
    Calls Tryz.prog 20 #[.agg #[.string nm, .slice (some ⟨b, o, none⟩) es.length cap], .string s] w fun r w' => (∃ z : Int, r = .returned (.int .i64 z) ∧ decide (0 ≤ z) = es.any (fun x => bl x.1 == bl s)) ∧ Keeps w w' := by
  have HC := Lib.hid hc
  clear hc
  go_enter Tryz.func20, Tryz.ntmps20
  go_wp2
  have K0 : Hid (Keeps w (w.alloc (.cells #[.string nm, .slice (some ⟨b, o, none⟩) es.length cap] 35))) := Fr.alloc (Fr.refl _ w) _
  have N0 : Hid ((w.alloc (.cells #[.string nm, .slice (some ⟨b, o, none⟩) es.length cap] 35)).cell? ⟨w.heap.size, 1, none⟩ = some (.slice (some ⟨b, o, none⟩) es.length cap)) := (Blk.new w _ _).cell 1
  generalize w.alloc (.cells #[.string nm, .slice (some ⟨b, o, none⟩) es.length cap] 35) = W0 at K0 N0 ⊢
  go_loopw [5] (fun t5 wr => ∃ k : Nat, k ≤ es.length ∧ t5 = .int .i64 (k : Int) ∧ (∀ j x, j < k → es[j]? = some x → (bl x.1 == bl s) = false) ∧ Keeps W0 wr) (fun t5 _ => es.length - (intOf t5).toNat)
  case atStart => exact ⟨0, by omega, rfl, fun j x hj => by omega, Fr.refl _ _⟩
  case round =>
    obtain ⟨k, hkl, rfl, hno, hK⟩ := hrel
    have HNo := Lib.hid hno
    clear hno
    have hN1 := cell_of_keeps hK N0.out
    by_cases hlt : k < es.length
    · obtain ⟨x, hx⟩ : ∃ x, es[k]? = some x := ⟨_, List.getElem?_eq_getElem hlt⟩
      have hcx := cell_of_keeps hK (cell_of_keeps K0.out (HC.out k x hx))
      have hlz : (k : Int) < (es.length : Int) := by omega
      go_wp2
      · rename_i hq
        rw [Lib.toList_data, Lib.toList_data] at hq
        go_ret
        refine ⟨⟨k, rfl, ?_⟩, ?_⟩
        · rw [List.any_eq_true.2 ⟨x, List.mem_of_getElem? hx, hq⟩]
          exact decide_eq_true (by omega)
        · exact K0.out.keeps (by (repeat (first | with_reducible exact Fr.refl _ _ | with_reducible assumption | with_reducible refine Fr.alloc ?_ _ | with_reducible refine Fr.drew ?_ | with_reducible refine Fr.drewN ?_ _ | with_reducible refine Fr.setCell ?_ (by simp; try omega) _)))
      · rename_i hq
        rw [Lib.toList_data, Lib.toList_data] at hq
        go_roundw
        case measure => simp [intOf]; omega
        case rel =>
          refine ⟨k + 1, by omega, by first | rfl | (simp; done) | (simp; omega), fun j y hj hy => ?_, by (repeat (first | with_reducible exact Fr.refl _ _ | with_reducible assumption | with_reducible refine Fr.alloc ?_ _ | with_reducible refine Fr.drew ?_ | with_reducible refine Fr.drewN ?_ _ | with_reducible refine Fr.setCell ?_ (by simp; try omega) _))⟩
          rcases Nat.lt_or_ge j k with h1 | h1
          · exact HNo.out j y h1 hy
          · have : j = k := by omega
            subst this
            rw [hx] at hy
            cases hy
            exact hq
    · have hpe : k = es.length := by omega
      subst hpe
      have hlz : ¬ ((es.length : Int) < (es.length : Int)) := by omega
      go_wp2
      go_ret
      refine ⟨⟨-1, rfl, ?_⟩, K0.out.keeps (by (repeat (first | with_reducible exact Fr.refl _ _ | with_reducible assumption | with_reducible refine Fr.alloc ?_ _ | with_reducible refine Fr.drew ?_ | with_reducible refine Fr.drewN ?_ _ | with_reducible refine Fr.setCell ?_ (by simp; try omega) _)))⟩
      rw [any_lt (fun j x h1 h2 => HNo.out j x h1 h2)]; rfl
end Go.Proofs.YtjoklcjpihadiaaGreatDoor

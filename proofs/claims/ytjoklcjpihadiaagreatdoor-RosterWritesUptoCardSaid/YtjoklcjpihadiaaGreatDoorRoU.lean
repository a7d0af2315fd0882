/- strings.NewReplacer and its Replace. -/
import Derived.Test.YtjoklcjpihadiaaGreatDoorRoQ
import Derived.Test.YtjoklcjpihadiaaGreatDoorRoP2
set_option linter.unusedVariables false
set_option linter.unusedSimpArgs false
set_option linter.unnecessarySimpa false
namespace Go.Proofs.YtjoklcjpihadiaaGreatDoor
open Go Go.RowKit Sluice Go.Proofs.Ro Go.Shelf

theorem append_ten (g0 : Nat) (w : World) (hg : ∀ i s, oldnew[i]? = some s → w.cell? ⟨g0, i, none⟩ = some (.string s)) :
    ∃ g cap w', (Builtin.append_ #[85, 85] 85 #[.slice none 0 0, .slice (some ⟨g0, 0, none⟩) 10 10]).run Tryz.prog w = .ok (.slice (some ⟨g, 0, none⟩) 10 cap) w' ∧
      (∀ i s, oldnew[i]? = some s → w'.cell? ⟨g, i, none⟩ = some (.string s)) ∧ g < w'.heap.size ∧ w.heap.size ≤ g ∧ Keeps w w' := by
  have hz : (oldnew.map Value.string).length = 10 := rfl
  obtain ⟨v', w', hrun, hrow, hgrow, hnew⟩ := run_append_row (P := Tryz.prog) w 85 85 9 (.string .empty) 1 16 Tryz.underlying85 info_str rfl (by omega)
    (.slice none 0 0) 0 [] ⟨rfl, .inl ⟨rfl, rfl⟩⟩ ⟨g0, 0, none⟩ 10 10 (oldnew.map Value.string) hz
    (by intro j u hj
        have hadd : (⟨g0, 0, none⟩ : Addr).add j = ⟨g0, j, none⟩ := by unfold Addr.add; split <;> simp_all
        rw [List.getElem?_map, Option.map_eq_some_iff] at hj
        obtain ⟨s, hs, rfl⟩ := hj
        rw [hadd]; exact hg j s hs)
    (by intro u hu; obtain ⟨s, -, rfl⟩ := List.mem_map.1 hu; rfl) (by unfold maxLen; omega) (by omega)
  have hK : Keeps w w' := (Fr.refl _ w).grown hgrow (fun k hk _ => by cases hk)
  have hlt := Row.lt hrow
  rcases hrow.2 with ⟨-, h⟩ | ⟨g, cap, cur, rfl, hb, h5, h6, h7, h8⟩
  · exact absurd h (by decide)
  · refine ⟨g, cap, w', hrun, fun i s hi => ?_, hlt g rfl, ?_, hK⟩
    · have hi10 : i < 10 := (List.getElem?_eq_some_iff.1 hi).1
      rw [hb.cell, ← Array.getElem?_toList]
      have e : cur.toList[i]? = (cur.toList.take 10)[i]? := by rw [List.getElem?_take_of_lt hi10]
      have h9 : cur.toList.take 10 = oldnew.map Value.string := h8
      rw [e, h9, List.getElem?_map, hi]; rfl
    · rcases hnew g rfl with h | h
      · cases h
      · exact h

set_option maxHeartbeats 4000000 in
set_option maxRecDepth 100000 in
theorem newReplacer_any (g0 : Nat) (w : World) (hg : ∀ i s, oldnew[i]? = some s → w.cell? ⟨g0, i, none⟩ = some (.string s)) :
    Calls Tryz.prog 31 #[.slice (some ⟨g0, 0, none⟩) 10 10] w fun e w' => ∃ R g cap, e = .returned (.pointer (some ⟨R, 0, none⟩)) ∧ Blk w' R (replA 0 (.slice (some ⟨g, 0, none⟩) 10 cap) .nilIface 0 0) 101 ∧
      (∀ i s, oldnew[i]? = some s → w'.cell? ⟨g, i, none⟩ = some (.string s)) ∧ g ≠ R ∧ w.heap.size ≤ R ∧ Keeps w w' := by
  obtain ⟨g, cap, w1, hrun, hc, hgl, hgw, hK⟩ := append_ten g0 w hg
  have HR := Lib.hid hrun
  have HC := Lib.hid hc
  clear hg hrun hc
  go_enter Tryz.func31, Tryz.ntmps31
  go_wp2_with (at_builtin; refine wpList_append_run rfl _ _ 85 rfl _ _ _ w1 rfl rfl HR.out ?_)
  go_ret
  refine ⟨w1.heap.size, g, cap, rfl, Blk.new _ _ _, fun i s h => ?_, by omega, hK.size, hK.alloc _⟩
  exact cell_of_keeps (Fr.alloc (Fr.refl _ w1) _) (HC.out i s h)

set_option maxHeartbeats 4000000 in
set_option maxRecDepth 100000 in
theorem replacer_any (R g cap : Nat) (s : ByteArray) (hs : s.size ≤ 1048576) (w : World) (hb : Blk w R (replA 0 (.slice (some ⟨g, 0, none⟩) 10 cap) .nilIface 0 0) 101) (hg : ∀ i s, oldnew[i]? = some s → w.cell? ⟨g, i, none⟩ = some (.string s)) (hgR : g ≠ R) :
    Calls Tryz.prog 32 #[.pointer (some ⟨R, 0, none⟩), .string s] w fun e w' => e = .returned (.string ⟨(outL (bl s)).toArray⟩) ∧ Fr (fun k => k = R) w w' := by
  have cD := Lib.hid (do_any R g cap w hb hg hgR)
  have hc0 := hb.cell 0
  have hc3 := hb.cell 3
  unfold replA at hc0 hc3
  have hmf : ∀ (fn : Fn) (first cap : Array Value) (w : World), (Instr.makeFunc fn first cap).run Tryz.prog w = .ok (.func fn first cap) w := fun _ _ _ _ => rfl
  have HS := Lib.hid hs
  clear hg hb hs
  go_enter Tryz.func32, Tryz.ntmps32
  go_wp2_with (first
    | ((go_at_call 51); (refine cD.out.mono ?_); (rintro e w1 ⟨rfl, rv, hb1, hf1, P, rfl, hRK, hP⟩); (have d3 := hb1.cell 3); (have d0 := hb1.cell 0); (unfold replA at d3 d0); (have cR := Lib.hid (breplace_any _ P s HS.out w1 hRK)); (clear hb1 hRK))
    | ((go_at_call 134); (refine cR.out.mono ?_); (rintro e w2 ⟨rfl, hk2⟩)))
  go_ret
  exact ⟨rfl, hf1.keeps hk2⟩
end Go.Proofs.YtjoklcjpihadiaaGreatDoor

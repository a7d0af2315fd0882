/- twin: what it lays. -/
import Derived.Test.YtjoklcjpihadiaaGreatDoorRoZ3
set_option linter.unusedVariables false
set_option linter.unusedSimpArgs false
set_option linter.unnecessarySimpa false
namespace Go.Proofs.YtjoklcjpihadiaaGreatDoor
open Go Go.RowKit Sluice Go.Proofs.Ro Go.Lib

set_option maxHeartbeats 8000000 in
set_option maxRecDepth 100000 in
theorem twin_any (ss : List Sec) (v : Value) (w0 : World) (hm : SecsAt w0 v ss) (hn : ss.length ≤ 1048575) (hsz : ∀ x ∈ ss, x.2.length ≤ 1048575) :
    Calls Tryz.prog 5 #[v] w0 fun r w' => (∃ t, r = .returned t ∧ Twin w' t ss) ∧ Keeps w0 w' := by
  obtain ⟨base, cap, rfl, hcap, hcell⟩ := hm
  have HC := Lib.hid hcell
  have HZ := Lib.hid hsz
  clear hcell hsz
  go_enter Tryz.func5, Tryz.ntmps5
  go_wp2
  go_loopw [3, 4] (fun t3 t4 wr => ∃ (k : Nat), k ≤ ss.length ∧ t4 = .int .i64 (k : Int) ∧ TwinTo w0 wr t3 (ss.take k) ∧ Keeps w0 wr) (fun _ t4 _ => ss.length - (intOf t4).toNat)
  case atStart => exact ⟨0, by omega, rfl, TwinTo.nil _ _, Fr.refl _ _⟩
  case round =>
    obtain ⟨k, hk, rfl, hT, hK⟩ := hrel
    by_cases hlt : k < ss.length
    · have hkz : (k : Int) < (ss.length : Int) := by omega
      obtain ⟨x, hx⟩ : ∃ x, ss[k]? = some x := ⟨_, List.getElem?_eq_getElem hlt⟩
      obtain ⟨b0, o, ev, rfl, e0, e1, hE⟩ := HC.out k x hx
      have e0 := cell_of_keeps hK e0
      have e1 := cell_of_keeps hK e1
      have hxl := HZ.out x (List.mem_of_getElem? hx)
      obtain ⟨v1, w1, hr1, row1, K1, own1⟩ := append_ents (hE.keeps hK) (by omega)
      have htk : ss.take (k + 1) = ss.take k ++ [x] := by rw [List.take_add_one, hx]; rfl
      have hkl : (ss.take k).length = k := by rw [List.length_take]; omega
      obtain ⟨wm, hwm⟩ : ∃ wm : World, wm = w1.alloc (.cells #[.string ⟨#[109, 97, 114, 107]⟩, .string ⟨#[98, 101, 104, 105, 110, 100]⟩] 37) := ⟨_, rfl⟩
      have hKm : Keeps w1 wm := by rw [hwm]; exact (Fr.refl _ _).alloc _
      obtain ⟨g, cap2, w2, hr2, hc2, hcm2, hM2, hF2, hg2⟩ := append_mark (row_kept row1 hKm (fun _ _ h => h)) (by omega) w1.heap.size (by rw [hwm]; exact Blk.new _ _ _)
      rw [hwm] at hr2
      have hK2 : Keeps wr w2 := Fr.trans (K1.keeps hKm) hF2 (fun i hi he => by have := own1 i he; omega)
      have hgw : wr.heap.size ≤ g := by
        have h1 := K1.size
        have h2 := hKm.size
        rcases hg2 with h | h
        · exact own1 g h
        · omega
      obtain ⟨wb, hwb⟩ : ∃ wb : World, wb = (w2.alloc (.cells #[.string x.1, .slice (some ⟨g, 0, none⟩) x.2.length cap2] 35)).drew := ⟨_, rfl⟩
      have hKb : Keeps w2 wb := by rw [hwb]; exact ((Fr.refl _ _).alloc _).drew
      have hBb : Blk wb w2.heap.size #[.string x.1, .slice (some ⟨g, 0, none⟩) x.2.length cap2] 35 := by rw [hwb]; exact Blk.drew (Blk.new' rfl)
      obtain ⟨v3, w3, hr3, hT3, hK3⟩ := TwinTo.step hT hK hK2 hM2 hgw hKb hBb (by omega)
      rw [hwb] at hr3
      rw [← htk] at hT3
      have f0 := cell_of_keeps hK2 e0
      have HR1 := Lib.hid hr1
      have HR2 := Lib.hid hr2
      have HR3 := Lib.hid hr3
      have HT3 := Lib.hid hT3
      have hc2' : (x.2.length : Int) ≤ (cap2 : Int) := by omega
      have hc3' : IntKind.i64.wrap (x.2.length : Int) = (x.2.length : Int) := IntWalk.i64_in _ (by omega)
      clear hx hE hT hr1 row1 K1 own1 htk hkl hwm hKm hr2 hM2 hF2 hg2 hK2 hwb hKb hBb hr3 hT3
      go_wp2_with (first
        | (at_builtin; refine wpList_append_run rfl _ _ 33 rfl _ _ _ w1 rfl rfl HR1.out ?_)
        | (at_builtin; refine wpList_append_run rfl _ _ 33 rfl _ _ _ w2 rfl rfl HR2.out ?_))
      go_region_law (refine step_append_run7 rfl _ _ _ rfl _ _ _ w3 rfl rfl HR3.out ?_)
      all_goals
        go_wp2
        go_roundw
        case measure => simp [intOf]; omega
        case rel => exact ⟨k + 1, by omega, by go_num, HT3.out, hK3⟩
    · have hkz : ¬ ((k : Int) < (ss.length : Int)) := by omega
      have hke : k = ss.length := by omega
      rw [List.take_of_length_le (by omega)] at hT
      obtain ⟨wb, hwb⟩ : ∃ wb : World, wb = wr.alloc (.cells #[.string ⟨#[109, 97, 114, 107]⟩, .slice none 0 0] 35) := ⟨_, rfl⟩
      have hKb : Keeps wr wb := by rw [hwb]; exact (Fr.refl _ _).alloc _
      obtain ⟨g, cap3, w3, hr3, hc3, hcm3, hT3, hK3⟩ := TwinTo.last hT hK hKb (b := wr.heap.size) (by rw [hwb]; exact Blk.new _ _ _) (by omega)
      rw [hwb] at hr3
      have HR3 := Lib.hid hr3
      have HT3 := Lib.hid hT3
      clear hT hwb hKb hr3 hT3 hke
      go_wp2_with (at_builtin; refine wpList_append_run rfl _ _ 22 rfl _ _ _ w3 rfl rfl HR3.out ?_)
      go_ret
      exact ⟨⟨_, rfl, HT3.out⟩, hK3⟩
end Go.Proofs.YtjoklcjpihadiaaGreatDoor

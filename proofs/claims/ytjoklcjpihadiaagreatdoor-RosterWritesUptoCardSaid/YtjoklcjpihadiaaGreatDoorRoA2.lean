/- strings.ContainsAny(s, "\t\n\r"), the walk. -/
import Derived.Test.YtjoklcjpihadiaaGreatDoorRoA
set_option linter.unusedVariables false
set_option linter.unusedSimpArgs false
set_option linter.unnecessarySimpa false
namespace Go.Proofs.YtjoklcjpihadiaaGreatDoor
open Go Go.RowKit Sluice Go.Proofs.Ro Go.Shelf

theorem shouldUse_any (n : Int) (w : World) : Calls Tryz.prog 59 #[.int .i64 n] w fun e w' => e = .returned (.bool (decide (8 < n))) ∧ Keeps w w' := by
  refine (Tryz.strings_shouldUseASCIISet n w).mono ?_
  rintro e w' ⟨rfl, rfl⟩
  exact ⟨rfl, Fr.refl _ _⟩
theorem indexRune_low (cs : ByteArray) (n : Nat) (h : n < 128) (w : World) : Calls Tryz.prog 58 #[.string cs, .int .i32 (n : Int)] w fun e w' => e = .returned (.int .i64 (Lib.indexByte cs.data.toList n.toUInt8)) ∧ Keeps w w' := by
  refine (Tryz.strings_IndexRune_ascii cs n w (by omega) (by omega)).mono ?_
  rintro e w' ⟨rfl, rfl⟩
  exact ⟨rfl, Fr.refl _ _⟩
theorem tnr_at (j : Nat) (h : j < tnr.size) : (tnr[j]'h).toNat < 128 := by
  have h3 : j < 3 := h
  rcases (by omega : j = 0 ∨ j = 1 ∨ j = 2) with rfl | rfl | rfl <;> decide +revert
theorem tnr_none (k : Nat) (c : UInt8) (hc : 128 ≤ c.toNat) : Lib.indexByte (tnr.extract k tnr.size).data.toList c = -1 := by
  have h := Lib.contains_iff_indexByte (tnr.extract k tnr.size).data.toList c
  have h1 : (tnr.extract k tnr.size).data.toList.contains c = false := by
    rw [Bool.eq_false_iff]
    intro hh
    have hm := mem_extract (List.contains_iff_mem.1 hh)
    have : c = 9 ∨ c = 10 ∨ c = 13 := by simpa [tnr] using hm
    rcases this with rfl | rfl | rfl <;> revert hc <;> decide
  rw [h1] at h
  have h2 := of_decide_eq_false h.symm
  have h4 := Lib.indexByte_ge (tnr.extract k tnr.size).data.toList c
  omega
/-- IndexRune over the three, at whatever rune a text is decoded to. -/
theorem indexRune_tnr (r : Nat) (h : r ≤ 1114111) (h2 : r < 55296 ∨ 57344 ≤ r) (w : World) :
    Calls Tryz.prog 58 #[.string tnr, .int .i32 (r : Int)] w fun e w' => (∃ z : Int, e = .returned (.int .i64 z) ∧ decide (0 ≤ z) = (decide (r < 128) && ctl r.toUInt8)) ∧ Keeps w w' := by
  by_cases hl : r < 128
  · refine (indexRune_low tnr r hl w).mono ?_
    rintro e w' ⟨rfl, hk⟩
    refine ⟨⟨_, rfl, ?_⟩, hk⟩
    rw [decide_eq_true hl, Bool.true_and]
    exact tnr_index _
  · have hf : (decide (r < 128) && ctl r.toUInt8) = false := by rw [decide_eq_false hl]; rfl
    rw [hf]
    by_cases he : r = 65533
    · subst he
      refine (indexRune_err tnr tnr_at w).mono ?_
      rintro e w' ⟨rfl, hk⟩
      exact ⟨⟨_, rfl, rfl⟩, hk⟩
    · refine (indexRune_wide tnr rfl 10 13 (fun _ => rfl) (fun _ => rfl) (by decide) (by decide) tnr_none r (by omega) h h2 he w).mono ?_
      rintro e w' ⟨rfl, hk⟩
      exact ⟨⟨_, rfl, rfl⟩, hk⟩

theorem NoCtl.any {l : List UInt8} (h : NoCtl l l.length) : Lib.NoAny l [9, 10, 13] l.length := by
  intro j b hj hb
  have := h j hj
  rw [List.getD_eq_getElem?_getD, hb] at this
  simp only [Option.getD_some] at this
  have e : [9, 10, 13].contains b = ctl b := by
    unfold ctl
    simp only [List.contains_cons, List.contains_nil, Bool.or_false]
    cases (b == 9) <;> cases (b == 10) <;> cases (b == 13) <;> rfl
  rw [e, this]
theorem indexAny_ctl : ∀ l : List UInt8, decide ((0 : Int) ≤ Lib.indexAny l [9, 10, 13]) = l.any ctl
  | [] => rfl
  | b :: l => by
    have ih := indexAny_ctl l
    have e : [9, 10, 13].contains b = ctl b := by
      unfold ctl
      simp only [List.contains_cons, List.contains_nil, Bool.or_false]
      cases (b == 9) <;> cases (b == 10) <;> cases (b == 13) <;> rfl
    have hge := Lib.indexAny_ge [9, 10, 13] l
    rw [Lib.indexAny, e, List.any_cons]
    cases hc : ctl b
    · rw [if_neg Bool.false_ne_true, Bool.false_or, ← ih]
      by_cases hm : Lib.indexAny l [9, 10, 13] = -1
      · rw [hm]; rfl
      · rw [if_neg (by simpa using hm)]
        rw [decide_eq_true (by omega), decide_eq_true (by omega)]
    · rfl

theorem info_set : (Tryz.prog.info? 80).map (fun i => (i.zero, i.size)) = some (some (.agg (Array.replicate 256 (.bool false))), 256) := by kernel_rfl

set_option maxHeartbeats 8000000 in
set_option maxRecDepth 1000000 in
theorem indexAny_any (s : ByteArray) (hs : s.size ≤ 1048576) (w : World) :
    Calls Tryz.prog 43 #[.string s, .string ⟨#[9, 10, 13]⟩] w fun e w' => (∃ z : Int, e = .returned (.int .i64 z) ∧ decide (0 ≤ z) = (bl s).any ctl) ∧ Keeps w w' := by
  by_cases h8 : 8 < s.size
  · refine (Tryz.strings_IndexAny_long (zero_of_info info_set).1 s ⟨#[9, 10, 13]⟩ w (by decide) h8 (by omega) (by decide) ?_).mono ?_
    · intro j b hj
      have : b = 9 ∨ b = 10 ∨ b = 13 := by
        have := List.mem_of_getElem? hj
        simpa using this
      rcases this with rfl | rfl | rfl <;> decide
    · rintro e w' ⟨rfl, rfl⟩
      exact ⟨⟨_, rfl, indexAny_ctl (bl s)⟩, Fr.alloc (Fr.alloc (Fr.refl _ w) _) _⟩
  · have h8z : decide ((8 : Int) < (s.size : Int)) = false := decide_eq_false (by omega)
    have cI := Lib.hid indexRune_tnr
    show Calls Tryz.prog 43 #[.string s, .string tnr] w fun e w' => (∃ z : Int, e = .returned (.int .i64 z) ∧ decide (0 ≤ z) = (bl s).any ctl) ∧ Keeps w w'
    have htz : tnr.size = 3 := rfl
    have hte : tnr.toList.isEmpty = false := by rw [Lib.toList_data]; rfl
    have hlen : (bl s).length = s.size := (Lib.size_eq s).symm
    generalize tnr = cs at cI htz hte ⊢
    have cU := Lib.hid (shouldUse_any (s.size : Int))
    rw [h8z] at cU
    clear h8 hs h8z
    go_enter Tryz.func43, Tryz.ntmps43
    go_wp2_with (go_at_call 59; refine (cU.out _).mono ?_; rintro e w1 ⟨rfl, hk1⟩)
    go_loopg [9, 10] s.size (fun gf _ _ wx => ∃ pos : Nat, wx.heap[w1.heap.size]? = some (.stringIter s pos) ∧ Keeps w1 wx ∧ NoCtl (bl s) pos ∧ s.size ≤ pos + gf)
    case atStart => exact ⟨0, World.iter_heap w1 s 0, Fr.alloc (Fr.refl _ w1) _, fun j hj => by omega, by omega⟩
    case round =>
      obtain ⟨pos, hit, hK, hno, hfu⟩ := hrel
      have HN := Lib.hid hno
      clear hno
      by_cases hps : pos < s.size
      · obtain ⟨g', rfl⟩ : ∃ g', gk = g' + 1 := ⟨gk - 1, by omega⟩
        have hnx : ∀ ty, (Instr.next (.pointer (some ⟨w1.heap.size, 0, none⟩)) true ty).run Tryz.prog wr = _ := fun ty => Lib.run_next_any_at wr w1.heap.size s pos ty hit hps
        have hwd := Lib.width_pos s pos
        have hle := Lib.rune_le s pos
        have hva : (Utf8.decode s pos).1 < 55296 ∨ 57344 ≤ (Utf8.decode s pos).1 := by rw [Lib.decode_at]; exact decodeN_valid _ _ _ _ _
        have H1 := Lib.hid (decode_wide s pos hps)
        have H2 := Lib.hid (decode_low s pos hps)
        obtain ⟨R, hR⟩ : ∃ R, (Utf8.decode s pos).1 = R := ⟨_, rfl⟩
        obtain ⟨K, hK2⟩ : ∃ K, (Utf8.decode s pos).2 = K := ⟨_, rfl⟩
        have hpair : Utf8.decode s pos = (R, K) := by rw [← hR, ← hK2]
        rw [hR, hK2] at hnx H1
        rw [hR, hpair] at H2
        rw [hK2] at hwd
        rw [hR] at hle hva
        have hit2 := Lib.iterAt_heap wr w1.heap.size s pos (pos + K) hit
        have hk2 : Keeps w1 (wr.iterAt w1.heap.size s (pos + K)) := Keeps.ofBelow (Lib.below_iterAt hK.below (k := w1.heap.size) (Nat.le_refl _) s (pos + K))
        obtain ⟨W, hWd⟩ : ∃ W, wr.iterAt w1.heap.size s (pos + K) = W := ⟨_, rfl⟩
        rw [hWd] at hnx hit2 hk2
        have cR := Lib.hid (cI.out R hle hva)
        obtain ⟨B, hB⟩ : ∃ B, (decide (R < 128) && ctl R.toUInt8) = B := ⟨_, rfl⟩
        rw [hB] at cR
        have HB := Lib.hid hB
        clear hWd hit hK hpair hR hK2 hle hva hB
        go_wp2_with (go_at_call 58; refine (cR.out _).mono ?_; rintro e w2 ⟨⟨z, rfl, hz⟩, hk3⟩)
        · go_ret
          have hb : (decide (R < 128) && ctl R.toUInt8) = true := by rw [HB.out]; assumption
          rw [Bool.and_eq_true, decide_eq_true_eq] at hb
          have h2 := H2.out hb.1
          rw [Prod.mk.injEq] at h2
          refine ⟨⟨pos, rfl, ?_⟩, hk1.keeps (hk2.keeps hk3)⟩
          rw [any_ctl_hit (l := bl s) (j := pos) (by omega) (by rw [← hb.2, h2.1]; simp)]
          exact decide_eq_true (by omega)
        · have hb : (decide (R < 128) && ctl R.toUInt8) = false := by rw [HB.out]; assumption
          go_roundg g'
          case measure => omega
          case rel =>
            refine ⟨pos + K, iter_keeps hk3 hit2, hk2.keeps hk3, fun j hj => ?_, by omega⟩
            rcases Nat.lt_or_ge j pos with h | h
            · exact HN.out j h
            · rcases Nat.lt_or_ge R 128 with h2 | h2
              · have e := H2.out h2
                rw [Prod.mk.injEq] at e
                have : j = pos := by omega
                subst this
                rw [decide_eq_true h2, Bool.true_and, e.1] at hb
                simpa using hb
              · exact ctl_big (H1.out h2 j h hj)
      · have hnx : ∀ ty, (Instr.next (.pointer (some ⟨w1.heap.size, 0, none⟩)) true ty).run Tryz.prog wr = _ := fun ty => Lib.run_next_end_at wr w1.heap.size s pos ty hit hps
        have hps2 : s.size ≤ pos := by omega
        clear hfu hps hit
        go_wp2
        go_ret
        refine ⟨⟨-1, rfl, ?_⟩, hk1.keeps (by (repeat (first | with_reducible exact Fr.refl _ _ | with_reducible assumption | with_reducible refine Fr.alloc ?_ _ | with_reducible refine Fr.drew ?_ | with_reducible refine Fr.drewN ?_ _ | with_reducible refine Fr.setCell ?_ (by simp; try omega) _)))⟩
        rw [any_ctl_none (fun j hj => HN.out j (by omega))]
        rfl
end Go.Proofs.YtjoklcjpihadiaaGreatDoor

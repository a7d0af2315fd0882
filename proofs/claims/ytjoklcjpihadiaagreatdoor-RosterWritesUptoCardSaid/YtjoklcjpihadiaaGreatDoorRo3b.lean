/- The document's: whether a text is a name. -/
import Derived.Test.YtjoklcjpihadiaaGreatDoorRo2
set_option linter.unusedVariables false
set_option linter.unusedSimpArgs false
set_option linter.unnecessarySimpa false
namespace Go.Proofs.YtjoklcjpihadiaaGreatDoor
open Go Go.RowKit Sluice Go.Proofs.Ro Go.Lib

set_option maxHeartbeats 4000000 in
set_option maxRecDepth 100000 in
theorem isName7_any (s : ByteArray) (hs : s.size ≤ 1099511627776) (w : World) : Calls Tryz.prog 18 #[.string s] w fun r w' => r = .returned (.bool (isNameL (bl s))) ∧ Keeps w w' := by
  have hlen : (bl s).length = s.size := (Lib.size_eq s).symm
  by_cases h0 : 1 ≤ s.size ∧ s.size ≤ 32
  · have hN : isNameL (bl s) = nameUpto (bl s) s.size := by unfold isNameL; rw [hlen, decide_eq_true h0.1, decide_eq_true h0.2]; rfl
    have HN := Lib.hid hN
    have h1 : ¬ ((s.size : Int) < 1) := by omega
    have h2 : ¬ ((32 : Int) < (s.size : Int)) := by omega
    clear hN hs
    go_enter Tryz.func18, Tryz.ntmps18
    go_wp2
    go_loopw [3] (fun t3 wr => ∃ k : Nat, k ≤ s.size ∧ t3 = .int .i64 (k : Int) ∧ nameUpto (bl s) k = true ∧ Keeps w wr) (fun t3 _ => s.size - (intOf t3).toNat)
    case atStart => exact ⟨0, by omega, rfl, rfl, Fr.refl _ _⟩
    case round =>
      obtain ⟨k, hkl, rfl, hup, hK⟩ := hrel
      by_cases hlt : k < s.size
      · obtain ⟨n, hx⟩ : ∃ n : Nat, (s[k]'hlt).toNat = n := ⟨_, rfl⟩
        have hn256 : n < 256 := by rw [← hx]; exact UInt8.toNat_lt _
        have hlz : (k : Int) < (s.size : Int) := by omega
        have hgd := get_bl s k hlt
        have hgd : ((bl s).getD k 0).toNat = n := by rw [hgd, hx]
        have hsu := nameUpto_succ (bl s) k
        have hfa := nameUpto_false (bl s) k (by omega)
        rw [hgd] at hsu hfa
        have HN2 : Hid (nameB k n = (goesN n && !(decide (65 ≤ n) && decide (n ≤ 90)) && (decide (k ≠ 0) || beginsN n))) := rfl
        have cF := Lib.hid (begins7_any n)
        have cG := Lib.hid (goes7_any n)
        generalize beginsN n = bB at HN2 cF
        generalize goesN n = bG at HN2 cG
        have hp0 : k = 0 ∨ 0 < k := by omega
        have H2 := Lib.hid hsu
        have H3 := Lib.hid hfa
        clear hsu hfa hgd
        go_wp2_with (first
          | (go_at_call 34; refine (cF.out _).mono ?_; rintro r w1 ⟨rfl, hk1⟩)
          | (go_at_call 33; refine (cG.out _).mono ?_; rintro r w2 ⟨rfl, hk2⟩))
        all_goals first
          | (go_ret
             have hb : nameB k n = false := by
               rw [HN2.out]
               simp only [Bool.and_eq_false_iff, Bool.or_eq_false_iff, Bool.not_eq_false', Bool.and_eq_true, decide_eq_true_eq, decide_eq_false_iff_not, *, reduceCtorEq, false_or, or_false, true_and, and_true, not_true_eq_false, not_false_eq_true, true_or, or_true, false_and, and_false, ne_eq]
               try omega
             have hf := H3.out hb
             rw [hlen] at hf
             refine ⟨ret_bool (by rw [HN.out, hf]), ?_⟩
             first | exact (hK.keeps hk2).keeps hk1 | exact hK.keeps hk2)
          | (have hb : nameB k n = true := by
               rw [HN2.out]
               simp only [Bool.and_eq_true, Bool.or_eq_true, Bool.not_eq_true', Bool.and_eq_false_iff, decide_eq_true_eq, decide_eq_false_iff_not, *, reduceCtorEq, false_or, or_false, true_and, and_true, not_true_eq_false, not_false_eq_true, true_or, or_true, false_and, and_false, ne_eq]
               try omega
             have hu := H2.out
             rw [hup, hb] at hu
             go_roundw
             case measure => simp [intOf]; omega
             case rel =>
               refine ⟨k + 1, by omega, by first | rfl | (simp; done) | (simp; omega), hu, ?_⟩
               first | exact (hK.keeps hk2).keeps hk1 | exact hK.keeps hk2)
      · have hpe : k = s.size := by omega
        subst hpe
        have hlz : ¬ ((s.size : Int) < (s.size : Int)) := by omega
        have HU := Lib.hid hup
        clear hup
        go_wp2
        all_goals
          go_ret
          exact ⟨ret_bool (by rw [HN.out, HU.out]), by (repeat (first | with_reducible exact Fr.refl _ _ | with_reducible assumption | with_reducible refine Fr.alloc ?_ _ | with_reducible refine Fr.drew ?_ | with_reducible refine Fr.drewN ?_ _ | with_reducible refine Fr.setCell ?_ (by simp; try omega) _))⟩
  · have hN : isNameL (bl s) = false := by
      unfold isNameL; rw [hlen]
      simp only [Bool.and_eq_false_iff, decide_eq_false_iff_not]
      omega
    have HN := Lib.hid hN
    clear hN
    go_enter Tryz.func18, Tryz.ntmps18
    go_wp2
    all_goals first
      | (exfalso; omega)
      | (go_ret
         exact ⟨ret_bool HN.out.symm, by (repeat (first | with_reducible exact Fr.refl _ _ | with_reducible assumption | with_reducible refine Fr.alloc ?_ _ | with_reducible refine Fr.drew ?_ | with_reducible refine Fr.drewN ?_ _ | with_reducible refine Fr.setCell ?_ (by simp; try omega) _))⟩)

end Go.Proofs.YtjoklcjpihadiaaGreatDoor

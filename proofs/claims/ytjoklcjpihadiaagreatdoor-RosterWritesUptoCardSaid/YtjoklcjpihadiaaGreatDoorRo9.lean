/- The document's Print. -/
import Derived.Test.YtjoklcjpihadiaaGreatDoorRo8
import Derived.Test.YtjoklcjpihadiaaGreatDoorRo7
import Derived.Test.YtjoklcjpihadiaaGreatDoorRo3
import Derived.Test.YtjoklcjpihadiaaGreatDoorRo3b
import Derived.Test.YtjoklcjpihadiaaGreatDoorRoY
import Derived.BigQuiet
set_option linter.unusedVariables false
set_option linter.unusedSimpArgs false
set_option linter.unnecessarySimpa false
namespace Go.Proofs.YtjoklcjpihadiaaGreatDoor
open Go Go.RowKit Sluice Go.Proofs.Ro Go.Lib

theorem wrongN_cases (seen : List ByteArray) (s : ByteArray) :
    (isNameL (bl s) = false ∧ wrongN seen s = 72) ∨ (isNameL (bl s) = true ∧ ((seen.any (fun y => bl y == bl s) = true ∧ wrongN seen s = 75) ∨ (seen.any (fun y => bl y == bl s) = false ∧ ((64 ≤ seen.length ∧ wrongN seen s = 77) ∨ (seen.length < 64 ∧ wrongN seen s = 0))))) := by
  unfold wrongN
  cases isNameL (bl s)
  · exact .inl ⟨rfl, rfl⟩
  · right
    refine ⟨rfl, ?_⟩
    cases seen.any (fun y => bl y == bl s)
    · right
      refine ⟨rfl, ?_⟩
      by_cases h : 64 ≤ seen.length
      · exact .inl ⟨h, by rw [if_neg (by decide), if_neg (by decide), if_pos h]⟩
      · exact .inr ⟨by omega, by rw [if_neg (by decide), if_neg (by decide), if_neg h]⟩
    · exact .inl ⟨rfl, rfl⟩
theorem any_fst {α : Type} (l : List (ByteArray × α)) (s : ByteArray) : (l.map (·.1)).any (fun y => bl y == bl s) = l.any (fun x => bl x.1 == bl s) := by
  rw [List.any_map]; rfl
theorem take_map_succ {α : Type} {l : List (ByteArray × α)} {k : Nat} {x : ByteArray × α} (h : l[k]? = some x) : (l.take (k + 1)).map (·.1) = (l.take k).map (·.1) ++ [x.1] := by
  rw [List.take_add_one, h, List.map_append]; rfl

set_option maxHeartbeats 16000000 in
set_option maxRecDepth 100000 in
theorem print7_any (ss : List Sec) (v : Value) (w0 : World) (hm : SecsAt w0 v ss) (hn : ss.length ≤ 1099511627776) (hsz : ∀ x ∈ ss, x.1.size ≤ 1099511627776 ∧ x.2.length ≤ 1099511627776 ∧ ∀ y ∈ x.2, y.1.size ≤ 1099511627776 ∧ y.2.size ≤ 1099511627776) :
    Calls Tryz.prog 7 #[v] w0 (Printed w0 ss) := by
  obtain ⟨base, cap, rfl, hcap, hcell⟩ := hm
  have HC := Lib.hid hcell
  have HZ := Lib.hid hsz
  clear hcell hsz
  go_enter Tryz.func7, Tryz.ntmps7
  go_wp2
  go_loopw [4, 5] (fun t4 t5 wr => ∃ (k : Nat) (q : ByteArray), k ≤ ss.length ∧ t5 = .int .i64 (k : Int) ∧ t4 = .string q ∧ q.size ≤ 150000 * k ∧ k ≤ 64 ∧ Keeps w0 wr ∧ secsGo ((ss.take k).map (·.1)) (bl q) (ss.drop k) = secsGo [] [] ss) (fun _ t5 _ => ss.length - (intOf t5).toNat)
  case atStart => exact ⟨0, ⟨#[]⟩, by omega, rfl, rfl, by show 0 ≤ _; omega, by omega, Fr.refl _ _, rfl⟩
  case round =>
    obtain ⟨k, q, hk, rfl, rfl, hqz, hk64, hK, hG⟩ := hrel
    by_cases hlt : k < ss.length
    · obtain ⟨x, hx⟩ : ∃ x, ss[k]? = some x := ⟨_, List.getElem?_eq_getElem hlt⟩
      obtain ⟨b0, o, ev, rfl, e0, e1, hE⟩ := HC.out k x hx
      have hkz : (k : Int) < (ss.length : Int) := by omega
      have hkc : (k : Int) ≤ (cap : Int) := by omega
      have e0 := cell_of_keeps hK e0
      have e1 := cell_of_keeps hK e1
      obtain ⟨eb, ec, rfl, hec, hE2⟩ := hE
      have HE := Lib.hid hE2
      have hxs := HZ.out x (List.mem_of_getElem? hx)
      have hdr : ss.drop k = x :: ss.drop (k + 1) := by rw [List.drop_eq_getElem_cons hlt]; congr 1; exact (List.getElem?_eq_some_iff.1 hx).2
      rw [hdr] at hG
      have hsl : ((ss.take k).map (·.1)).length = k := by rw [List.length_map, List.length_take]; omega
      have hsn := take_map_succ hx
      obtain ⟨seen, hseen⟩ : ∃ seen, (ss.take k).map (·.1) = seen := ⟨_, rfl⟩
      rw [hseen] at hG hsl hsn
      have cF : Hid (∀ w, Keeps w0 w → Calls Tryz.prog 19 #[.slice (some ⟨b0, o, none⟩) k cap, .string x.1] w fun r w' => (∃ z : Int, r = .returned (.int .i64 z) ∧ decide (0 ≤ z) = seen.any (fun y => bl y == bl x.1)) ∧ Keeps w w') := by
        intro w hw
        have h1 := find_any (ss.take k) b0 o cap (by rw [List.length_take]; omega) x.1 w (fun j y hj => by
          have hjs : ss[j]? = some y := by
            rw [List.getElem?_take] at hj
            split at hj
            · exact hj
            · cases hj
          obtain ⟨b', o', ev', h2, h3, -, -⟩ := HC.out j y hjs
          cases h2
          exact cell_of_keeps hw h3)
        rw [List.length_take, Nat.min_eq_left (by omega)] at h1
        refine h1.mono ?_
        rintro r w' ⟨⟨z, hr, hz⟩, hk⟩
        refine ⟨⟨z, hr, ?_⟩, hk⟩
        rw [hz, ← hseen, any_fst]
      have HSN := Lib.hid hsn
      have HG := Lib.hid hG
      have hsec : Hid (∀ e, wrongN seen x.1 = e → e ≠ 0 → printL ss = (e, [])) := by
        intro e h1 h2
        refine print_err ?_ h2
        rw [← HG.out, secsGo, h1, if_pos h2]
      have cN := Lib.hid (isName7_any x.1 hxs.1)
      have hcs := wrongN_cases seen x.1
      generalize isNameL (bl x.1) = NN at cN hcs
      generalize seen.any (fun y => bl y == bl x.1) = AA at cF hcs
      obtain ⟨V, hV⟩ : ∃ V, wrongN seen x.1 = V := ⟨_, rfl⟩
      rw [hV] at hcs
      have HV := Lib.hid hV
      clear hseen hsn hG hdr hE2 hV
      rcases hcs with ⟨rfl, rfl⟩ | ⟨rfl, ⟨rfl, rfl⟩ | ⟨rfl, ⟨h64, rfl⟩ | ⟨h64, rfl⟩⟩⟩
      · go_wp2_with (go_at_call 18; refine (cN.out _).mono ?_; rintro e w2 ⟨rfl, hk2⟩)
        go_ret2
        exact ⟨by rw [hsec.out _ HV.out (by decide)]; rfl, hK.keeps hk2⟩
      · go_upto_region 7 with (go_at_call 18; refine (cN.out _).mono ?_; rintro e w2 ⟨rfl, hk2⟩; have f0 := cell_of_keeps hk2 e0)
        go_region_with (go_at_call 19; refine (cF.out _ ((hK.keeps hk2).drew)).mono ?_; rintro e w3 ⟨⟨z, rfl, hz⟩, hk3⟩)
        all_goals
          have hzz := of_decide_eq_true hz
          go_wp2
          go_ret2
          exact ⟨by rw [hsec.out _ HV.out (by decide)]; rfl, (hK.keeps hk2).drew.keeps hk3⟩
      · have h64z : (64 : Int) ≤ (k : Int) := by omega
        go_upto_region 7 with (go_at_call 18; refine (cN.out _).mono ?_; rintro e w2 ⟨rfl, hk2⟩; have f0 := cell_of_keeps hk2 e0)
        go_region_with (go_at_call 19; refine (cF.out _ ((hK.keeps hk2).drew)).mono ?_; rintro e w3 ⟨⟨z, rfl, hz⟩, hk3⟩)
        all_goals
          have hzz := of_decide_eq_false hz
          go_wp2
          go_ret2
          exact ⟨by rw [hsec.out _ HV.out (by decide)]; rfl, (hK.keeps hk2).drew.keeps hk3⟩
      · have hx32 := (wrongN_ok HV.out).1
        have h64z : ¬ (64 : Int) ≤ (k : Int) := by omega
        have hgo : secsGo seen (bl q) (x :: ss.drop (k + 1)) = match entsGo [] (bl q ++ secHead seen.isEmpty x.1) x.2 with
            | (0, o) => secsGo (seen ++ [x.1]) o (ss.drop (k + 1))
            | (e, _) => (e, []) := by
          rw [secsGo, HV.out, if_neg (by decide)]
          rfl
        have HGO := Lib.hid hgo
        have hqq : q.size ≤ 10000000 := by omega
        clear hgo
        by_cases hk0 : k = 0
        · have hse : seen = [] := List.length_eq_zero_iff.1 (by omega)
          have hkz0 : ¬ ((0 : Int) < (k : Int)) := by omega
          obtain ⟨tH, htH⟩ : ∃ t, q ++ (⟨#[91]⟩ : ByteArray) ++ x.1 ++ ⟨#[93, 10]⟩ = t := ⟨_, rfl⟩
          have hbl3 : bl tH = bl q ++ secHead seen.isEmpty x.1 := by
            rw [← htH, hse]; simp only [bl_append]; unfold secHead; simp [bl]
          have hz3 : tH.size ≤ 150000 * k + 100 := by
            have h1 := bl_size tH
            have h2 := bl_size q
            have h3 := bl_size x.1
            rw [hbl3] at h1
            unfold secHead at h1
            simp only [List.length_append, List.length_cons, List.length_nil] at h1
            split at h1 <;> simp at h1 <;> omega
          rw [← hbl3] at HGO
          have HBL := Lib.hid hbl3
          clear hk0 hse hbl3
          go_upto_region 7 with (go_at_call 18; refine (cN.out _).mono ?_; rintro e w2 ⟨rfl, hk2⟩; have f0 := cell_of_keeps hk2 e0)
          go_region_with ((go_at_call 19); (refine (cF.out _ ((hK.keeps hk2).drew)).mono ?_); (rintro e w3 ⟨⟨z, rfl, hz⟩, hk3⟩); (have k23 : Keeps wr w3 := (hk2.drew).keeps hk3); (have g0 := cell_of_keeps k23 e0); (have g1 := cell_of_keeps k23 e1))
          all_goals
            have hzz := of_decide_eq_false hz
            go_wp2
            have K3 : Keeps w0 w3 := hK.keeps k23
            have hxl := hxs.2.1
            clear htH
            go_loopw [7, 8] (fun t7 t8 wq => ∃ (j : Nat) (u : ByteArray), j ≤ x.2.length ∧ t8 = .int .i64 (j : Int) ∧ t7 = .string u ∧ u.size ≤ 2200 * j ∧ j ≤ 64 ∧ Keeps w0 wq ∧ entsGo ((x.2.take j).map (·.1)) (bl tH ++ bl u) (x.2.drop j) = entsGo [] (bl tH) x.2) (fun _ t8 _ => x.2.length - (intOf t8).toNat)
            case atStart => exact ⟨0, ⟨#[]⟩, by omega, rfl, rfl, by show 0 ≤ _; omega, by omega, K3, by show entsGo [] (bl tH ++ []) x.2 = _; rw [List.append_nil]⟩
            case round =>
              obtain ⟨j, u, hj, rfl, rfl, huz, hj64, hKj, hEj⟩ := hrel
              by_cases hjl : j < x.2.length
              · obtain ⟨y, hy⟩ : ∃ y, x.2[j]? = some y := ⟨_, List.getElem?_eq_getElem hjl⟩
                obtain ⟨b1, o1, rfl, d0, d1⟩ := HE.out j y hy
                have hjz : (j : Int) < (x.2.length : Int) := by omega
                have hjc : (j : Int) ≤ (ec : Int) := by omega
                have d0 := cell_of_keeps hKj d0
                have d1 := cell_of_keeps hKj d1
                have hys := hxs.2.2 y (List.mem_of_getElem? hy)
                have hdr2 : x.2.drop j = y :: x.2.drop (j + 1) := by rw [List.drop_eq_getElem_cons hjl]; congr 1; exact (List.getElem?_eq_some_iff.1 hy).2
                rw [hdr2] at hEj
                have hsl2 : ((x.2.take j).map (·.1)).length = j := by rw [List.length_map, List.length_take]; omega
                have hsn2 := take_map_succ hy
                obtain ⟨sn, hseen2⟩ : ∃ sn, (x.2.take j).map (·.1) = sn := ⟨_, rfl⟩
                rw [hseen2] at hEj hsl2 hsn2
                have cH : Hid (∀ w, Keeps w0 w → Calls Tryz.prog 20 #[.agg #[.string ⟨#[]⟩, .slice (some ⟨b1, o1, none⟩) j ec], .string y.1] w fun r w' => (∃ z : Int, r = .returned (.int .i64 z) ∧ decide (0 ≤ z) = sn.any (fun t => bl t == bl y.1)) ∧ Keeps w w') := by
                  intro w hw
                  have h1 := has_any (x.2.take j) b1 o1 ec (by rw [List.length_take]; omega) y.1 ⟨#[]⟩ w (fun i t hi => by
                    have his : x.2[i]? = some t := by
                      rw [List.getElem?_take] at hi
                      split at hi
                      · exact hi
                      · cases hi
                    obtain ⟨b', o', h2, h3, -⟩ := HE.out i t his
                    cases h2
                    exact cell_of_keeps hw h3)
                  rw [List.length_take, Nat.min_eq_left (by omega)] at h1
                  refine h1.mono ?_
                  rintro r w' ⟨⟨z, hr, hz⟩, hk⟩
                  refine ⟨⟨z, hr, ?_⟩, hk⟩
                  rw [hz, ← hseen2, any_fst]
                have HSN2 := Lib.hid hsn2
                have HEJ := Lib.hid hEj
                have hfail : Hid (∀ e, entN sn y = e → e ≠ 0 → printL ss = (e, [])) := by
                  intro e h1 h2
                  refine print_err ?_ h2
                  have h3 := HEJ.out.symm.trans (ents_err h1 h2)
                  rw [← HG.out, HGO.out, h3]
                  obtain ⟨n, rfl⟩ := Nat.exists_eq_succ_of_ne_zero h2
                  rfl
                have cN2 := Lib.hid (isName7_any y.1 hys.1)
                have hcs2 := wrongN_cases sn y.1
                generalize isNameL (bl y.1) = NN2 at cN2 hcs2
                generalize sn.any (fun t => bl t == bl y.1) = AA2 at cH hcs2
                obtain ⟨V2, hV2⟩ : ∃ V, wrongN sn y.1 = V := ⟨_, rfl⟩
                rw [hV2] at hcs2
                have HV2 := Lib.hid hV2
                clear hseen2 hsn2 hEj hdr2 hV2
                rcases hcs2 with ⟨rfl, rfl⟩ | ⟨rfl, ⟨rfl, rfl⟩ | ⟨rfl, hrest⟩⟩
                · go_wp2_with (go_at_call 18; refine (cN2.out _).mono ?_; rintro e w4 ⟨rfl, hk4⟩)
                  go_ret2
                  exact ⟨by rw [hfail.out _ ((entN_wrong (by rw [HV2.out]; decide)).trans HV2.out) (by decide)]; rfl, hKj.keeps hk4⟩
                · go_upto_region 21 with (go_at_call 18; refine (cN2.out _).mono ?_; rintro e w4 ⟨rfl, hk4⟩; have f0 := cell_of_keeps hk4 d0)
                  go_region_with (go_at_call 20; refine (cH.out _ ((hKj.keeps hk4).drew)).mono ?_; rintro e w5 ⟨⟨z, rfl, hz⟩, hk5⟩)
                  all_goals
                    have hzz := of_decide_eq_true hz
                    go_wp2
                    go_ret2
                    exact ⟨by rw [hfail.out _ ((entN_wrong (by rw [HV2.out]; decide)).trans HV2.out) (by decide)]; rfl, (hKj.keeps hk4).drew.keeps hk5⟩
                · go_upto_region 21 with (go_at_call 18; refine (cN2.out _).mono ?_; rintro e w4 ⟨rfl, hk4⟩; have f0 := cell_of_keeps hk4 d0)
                  go_region_with ((go_at_call 20); (refine (cH.out _ ((hKj.keeps hk4).drew)).mono ?_); (rintro e w5 ⟨⟨z, rfl, hz⟩, hk5⟩); (have k45 : Keeps wr w5 := (hk4.drew).keeps hk5); (have m0 := cell_of_keeps k45 d0); (have m1 := cell_of_keeps k45 d1))
                  all_goals
                    have hzz := of_decide_eq_false hz
                    have K5 : Keeps w0 w5 := hKj.keeps k45
                    rcases hrest with ⟨h64j, rfl⟩ | ⟨h64j, rfl⟩
                    · have h64y : (64 : Int) ≤ (j : Int) := by omega
                      go_wp2
                      go_ret2
                      exact ⟨by rw [hfail.out _ ((entN_wrong (by rw [HV2.out]; decide)).trans HV2.out) (by decide)]; rfl, K5⟩
                    · have h64y : ¬ (64 : Int) ≤ (j : Int) := by omega
                      have hy32 := (wrongN_ok HV2.out).1
                      by_cases hlong : 1024 < y.2.size
                      · have hlz : (1024 : Int) < (y.2.size : Int) := by omega
                        go_wp2
                        go_ret2
                        exact ⟨by rw [hfail.out 77 (entN_long HV2.out hlong) (by decide)]; rfl, K5⟩
                      · have hlz : ¬ (1024 : Int) < (y.2.size : Int) := by omega
                        cases hO : okV y.2
                        · have cO := Lib.hid (holds7_any y.2 hys.2)
                          rw [hO] at cO
                          have HO := Lib.hid hO
                          clear hO
                          go_wp2_with ((go_at_call 21); (refine (cO.out _).mono ?_); (rintro e w6 ⟨rfl, hk6⟩))
                          go_ret2
                          exact ⟨by rw [hfail.out 70 (entN_odd HV2.out hlong HO.out) (by decide)]; rfl, K5.keeps hk6⟩
                        · have cO := Lib.hid (holds7_any y.2 hys.2)
                          rw [hO] at cO
                          have HO := Lib.hid hO
                          clear hO
                          obtain ⟨wv, hwv⟩ : ∃ wv : ByteArray, (⟨(writtenL (bl y.2)).toArray⟩ : ByteArray) = wv := ⟨_, rfl⟩
                          have cWr := Lib.hid (written7_any y.2 (by omega))
                          rw [hwv] at cWr
                          obtain ⟨tA, htA⟩ : ∃ t, u ++ y.1 = t := ⟨_, rfl⟩
                          obtain ⟨tB, htB⟩ : ∃ t, tA ++ (⟨#[32, 61, 32]⟩ : ByteArray) = t := ⟨_, rfl⟩
                          obtain ⟨tC, htC⟩ : ∃ t, tB ++ wv = t := ⟨_, rfl⟩
                          obtain ⟨tE, htE⟩ : ∃ t, tC ++ (⟨#[10]⟩ : ByteArray) = t := ⟨_, rfl⟩
                          have hblE : bl tE = bl u ++ entText y := by
                            rw [← htE, ← htC, ← htB, ← htA, ← hwv]; simp only [bl_append]; unfold entText; simp [bl]
                          have hzE : tE.size ≤ u.size + 2200 := by
                            have h1 := bl_size tE
                            rw [hblE] at h1
                            unfold entText at h1
                            simp only [List.length_append, List.length_cons, List.length_nil] at h1
                            have h2 := bl_size u
                            have h3 := bl_size y.1
                            have h4 := writtenL_length (bl y.2)
                            have h5 := bl_size y.2
                            omega
                          have hzA : u.size + y.1.size = tA.size := by rw [← htA, ByteArray.size_append]
                          have hzB : tA.size + 3 = tB.size := by rw [← htB, ByteArray.size_append]; rfl
                          have hzC : tB.size + wv.size = tC.size := by rw [← htC, ByteArray.size_append]
                          have hzD : tC.size + 1 = tE.size := by rw [← htE, ByteArray.size_append]; rfl
                          have b1 : ¬ 9223372036854775807 < u.size + y.1.size := by omega
                          have b2 : ¬ 9223372036854775807 < tA.size + 3 := by omega
                          have b3 : ¬ 9223372036854775807 < tB.size + wv.size := by omega
                          have b4 : ¬ 9223372036854775807 < tC.size + 1 := by omega
                          have HBE := Lib.hid hblE
                          clear hwv hblE hzA hzB hzC hzD
                          go_upto_region 27 with ((go_at_call 21); (refine (cO.out _).mono ?_); (rintro e w6 ⟨rfl, hk6⟩); (have n0 := cell_of_keeps hk6 m0); (have n1 := cell_of_keeps hk6 m1))
                          go_quiet (((go_at_call 22); (exact Calls.quiet_of_same (cWr.out _))))
                          clear b1 b2 b3 b4
                          all_goals go_wp2
                          all_goals go_roundw
                          all_goals first
                            | (simp [intOf]; omega; done)
                            | (refine ⟨j + 1, tE, by omega, rfl, rfl, by omega, by omega, Fr.drewN (K5.keeps hk6) _, ?_⟩
                               rw [HSN2.out, HBE.out, ← List.append_assoc]
                               exact (ents_ok (entN_fine HV2.out hlong HO.out)).symm.trans HEJ.out)
              · have hje : j = x.2.length := by omega
                have hjz : ¬ ((j : Int) < (x.2.length : Int)) := by omega
                have he : entsGo [] (bl tH) x.2 = (0, bl tH ++ bl u) := by rw [← hEj, hje, List.drop_length]; rfl
                have hgo := HGO.out
                rw [he] at hgo
                have HGG := Lib.hid hgo
                have hth : tH.size ≤ 10000000 := by omega
                have huu : u.size ≤ 1000000 := by omega
                clear hEj he hgo hje
                go_wp2
                go_roundw
                case measure => simp [intOf]; omega
                case rel =>
                  refine ⟨k + 1, tH ++ u, by omega, rfl, rfl, by rw [ByteArray.size_append]; omega, by omega, hKj, ?_⟩
                  rw [HSN.out, bl_append]
                  exact HGG.out.symm.trans HG.out
        · have hse : seen.isEmpty = false := by cases seen with | nil => exact absurd hsl.symm hk0 | cons _ _ => rfl
          have hkz0 : (0 : Int) < (k : Int) := by omega
          obtain ⟨tH, htH⟩ : ∃ t, q ++ (⟨#[10]⟩ : ByteArray) ++ (⟨#[91]⟩ : ByteArray) ++ x.1 ++ ⟨#[93, 10]⟩ = t := ⟨_, rfl⟩
          have hbl3 : bl tH = bl q ++ secHead seen.isEmpty x.1 := by
            rw [← htH, hse]; simp only [bl_append]; unfold secHead; simp [bl]
          have hz3 : tH.size ≤ 150000 * k + 100 := by
            have h1 := bl_size tH
            have h2 := bl_size q
            have h3 := bl_size x.1
            rw [hbl3] at h1
            unfold secHead at h1
            simp only [List.length_append, List.length_cons, List.length_nil] at h1
            split at h1 <;> simp at h1 <;> omega
          rw [← hbl3] at HGO
          have HBL := Lib.hid hbl3
          clear hk0 hse hbl3
          go_upto_region 7 with (go_at_call 18; refine (cN.out _).mono ?_; rintro e w2 ⟨rfl, hk2⟩; have f0 := cell_of_keeps hk2 e0)
          go_region_with ((go_at_call 19); (refine (cF.out _ ((hK.keeps hk2).drew)).mono ?_); (rintro e w3 ⟨⟨z, rfl, hz⟩, hk3⟩); (have k23 : Keeps wr w3 := (hk2.drew).keeps hk3); (have g0 := cell_of_keeps k23 e0); (have g1 := cell_of_keeps k23 e1))
          all_goals
            have hzz := of_decide_eq_false hz
            go_wp2
            have K3 : Keeps w0 w3 := hK.keeps k23
            have hxl := hxs.2.1
            clear htH
            go_loopw [7, 8] (fun t7 t8 wq => ∃ (j : Nat) (u : ByteArray), j ≤ x.2.length ∧ t8 = .int .i64 (j : Int) ∧ t7 = .string u ∧ u.size ≤ 2200 * j ∧ j ≤ 64 ∧ Keeps w0 wq ∧ entsGo ((x.2.take j).map (·.1)) (bl tH ++ bl u) (x.2.drop j) = entsGo [] (bl tH) x.2) (fun _ t8 _ => x.2.length - (intOf t8).toNat)
            case atStart => exact ⟨0, ⟨#[]⟩, by omega, rfl, rfl, by show 0 ≤ _; omega, by omega, K3, by show entsGo [] (bl tH ++ []) x.2 = _; rw [List.append_nil]⟩
            case round =>
              obtain ⟨j, u, hj, rfl, rfl, huz, hj64, hKj, hEj⟩ := hrel
              by_cases hjl : j < x.2.length
              · obtain ⟨y, hy⟩ : ∃ y, x.2[j]? = some y := ⟨_, List.getElem?_eq_getElem hjl⟩
                obtain ⟨b1, o1, rfl, d0, d1⟩ := HE.out j y hy
                have hjz : (j : Int) < (x.2.length : Int) := by omega
                have hjc : (j : Int) ≤ (ec : Int) := by omega
                have d0 := cell_of_keeps hKj d0
                have d1 := cell_of_keeps hKj d1
                have hys := hxs.2.2 y (List.mem_of_getElem? hy)
                have hdr2 : x.2.drop j = y :: x.2.drop (j + 1) := by rw [List.drop_eq_getElem_cons hjl]; congr 1; exact (List.getElem?_eq_some_iff.1 hy).2
                rw [hdr2] at hEj
                have hsl2 : ((x.2.take j).map (·.1)).length = j := by rw [List.length_map, List.length_take]; omega
                have hsn2 := take_map_succ hy
                obtain ⟨sn, hseen2⟩ : ∃ sn, (x.2.take j).map (·.1) = sn := ⟨_, rfl⟩
                rw [hseen2] at hEj hsl2 hsn2
                have cH : Hid (∀ w, Keeps w0 w → Calls Tryz.prog 20 #[.agg #[.string ⟨#[]⟩, .slice (some ⟨b1, o1, none⟩) j ec], .string y.1] w fun r w' => (∃ z : Int, r = .returned (.int .i64 z) ∧ decide (0 ≤ z) = sn.any (fun t => bl t == bl y.1)) ∧ Keeps w w') := by
                  intro w hw
                  have h1 := has_any (x.2.take j) b1 o1 ec (by rw [List.length_take]; omega) y.1 ⟨#[]⟩ w (fun i t hi => by
                    have his : x.2[i]? = some t := by
                      rw [List.getElem?_take] at hi
                      split at hi
                      · exact hi
                      · cases hi
                    obtain ⟨b', o', h2, h3, -⟩ := HE.out i t his
                    cases h2
                    exact cell_of_keeps hw h3)
                  rw [List.length_take, Nat.min_eq_left (by omega)] at h1
                  refine h1.mono ?_
                  rintro r w' ⟨⟨z, hr, hz⟩, hk⟩
                  refine ⟨⟨z, hr, ?_⟩, hk⟩
                  rw [hz, ← hseen2, any_fst]
                have HSN2 := Lib.hid hsn2
                have HEJ := Lib.hid hEj
                have hfail : Hid (∀ e, entN sn y = e → e ≠ 0 → printL ss = (e, [])) := by
                  intro e h1 h2
                  refine print_err ?_ h2
                  have h3 := HEJ.out.symm.trans (ents_err h1 h2)
                  rw [← HG.out, HGO.out, h3]
                  obtain ⟨n, rfl⟩ := Nat.exists_eq_succ_of_ne_zero h2
                  rfl
                have cN2 := Lib.hid (isName7_any y.1 hys.1)
                have hcs2 := wrongN_cases sn y.1
                generalize isNameL (bl y.1) = NN2 at cN2 hcs2
                generalize sn.any (fun t => bl t == bl y.1) = AA2 at cH hcs2
                obtain ⟨V2, hV2⟩ : ∃ V, wrongN sn y.1 = V := ⟨_, rfl⟩
                rw [hV2] at hcs2
                have HV2 := Lib.hid hV2
                clear hseen2 hsn2 hEj hdr2 hV2
                rcases hcs2 with ⟨rfl, rfl⟩ | ⟨rfl, ⟨rfl, rfl⟩ | ⟨rfl, hrest⟩⟩
                · go_wp2_with (go_at_call 18; refine (cN2.out _).mono ?_; rintro e w4 ⟨rfl, hk4⟩)
                  go_ret2
                  exact ⟨by rw [hfail.out _ ((entN_wrong (by rw [HV2.out]; decide)).trans HV2.out) (by decide)]; rfl, hKj.keeps hk4⟩
                · go_upto_region 21 with (go_at_call 18; refine (cN2.out _).mono ?_; rintro e w4 ⟨rfl, hk4⟩; have f0 := cell_of_keeps hk4 d0)
                  go_region_with (go_at_call 20; refine (cH.out _ ((hKj.keeps hk4).drew)).mono ?_; rintro e w5 ⟨⟨z, rfl, hz⟩, hk5⟩)
                  all_goals
                    have hzz := of_decide_eq_true hz
                    go_wp2
                    go_ret2
                    exact ⟨by rw [hfail.out _ ((entN_wrong (by rw [HV2.out]; decide)).trans HV2.out) (by decide)]; rfl, (hKj.keeps hk4).drew.keeps hk5⟩
                · go_upto_region 21 with (go_at_call 18; refine (cN2.out _).mono ?_; rintro e w4 ⟨rfl, hk4⟩; have f0 := cell_of_keeps hk4 d0)
                  go_region_with ((go_at_call 20); (refine (cH.out _ ((hKj.keeps hk4).drew)).mono ?_); (rintro e w5 ⟨⟨z, rfl, hz⟩, hk5⟩); (have k45 : Keeps wr w5 := (hk4.drew).keeps hk5); (have m0 := cell_of_keeps k45 d0); (have m1 := cell_of_keeps k45 d1))
                  all_goals
                    have hzz := of_decide_eq_false hz
                    have K5 : Keeps w0 w5 := hKj.keeps k45
                    rcases hrest with ⟨h64j, rfl⟩ | ⟨h64j, rfl⟩
                    · have h64y : (64 : Int) ≤ (j : Int) := by omega
                      go_wp2
                      go_ret2
                      exact ⟨by rw [hfail.out _ ((entN_wrong (by rw [HV2.out]; decide)).trans HV2.out) (by decide)]; rfl, K5⟩
                    · have h64y : ¬ (64 : Int) ≤ (j : Int) := by omega
                      have hy32 := (wrongN_ok HV2.out).1
                      by_cases hlong : 1024 < y.2.size
                      · have hlz : (1024 : Int) < (y.2.size : Int) := by omega
                        go_wp2
                        go_ret2
                        exact ⟨by rw [hfail.out 77 (entN_long HV2.out hlong) (by decide)]; rfl, K5⟩
                      · have hlz : ¬ (1024 : Int) < (y.2.size : Int) := by omega
                        cases hO : okV y.2
                        · have cO := Lib.hid (holds7_any y.2 hys.2)
                          rw [hO] at cO
                          have HO := Lib.hid hO
                          clear hO
                          go_wp2_with ((go_at_call 21); (refine (cO.out _).mono ?_); (rintro e w6 ⟨rfl, hk6⟩))
                          go_ret2
                          exact ⟨by rw [hfail.out 70 (entN_odd HV2.out hlong HO.out) (by decide)]; rfl, K5.keeps hk6⟩
                        · have cO := Lib.hid (holds7_any y.2 hys.2)
                          rw [hO] at cO
                          have HO := Lib.hid hO
                          clear hO
                          obtain ⟨wv, hwv⟩ : ∃ wv : ByteArray, (⟨(writtenL (bl y.2)).toArray⟩ : ByteArray) = wv := ⟨_, rfl⟩
                          have cWr := Lib.hid (written7_any y.2 (by omega))
                          rw [hwv] at cWr
                          obtain ⟨tA, htA⟩ : ∃ t, u ++ y.1 = t := ⟨_, rfl⟩
                          obtain ⟨tB, htB⟩ : ∃ t, tA ++ (⟨#[32, 61, 32]⟩ : ByteArray) = t := ⟨_, rfl⟩
                          obtain ⟨tC, htC⟩ : ∃ t, tB ++ wv = t := ⟨_, rfl⟩
                          obtain ⟨tE, htE⟩ : ∃ t, tC ++ (⟨#[10]⟩ : ByteArray) = t := ⟨_, rfl⟩
                          have hblE : bl tE = bl u ++ entText y := by
                            rw [← htE, ← htC, ← htB, ← htA, ← hwv]; simp only [bl_append]; unfold entText; simp [bl]
                          have hzE : tE.size ≤ u.size + 2200 := by
                            have h1 := bl_size tE
                            rw [hblE] at h1
                            unfold entText at h1
                            simp only [List.length_append, List.length_cons, List.length_nil] at h1
                            have h2 := bl_size u
                            have h3 := bl_size y.1
                            have h4 := writtenL_length (bl y.2)
                            have h5 := bl_size y.2
                            omega
                          have hzA : u.size + y.1.size = tA.size := by rw [← htA, ByteArray.size_append]
                          have hzB : tA.size + 3 = tB.size := by rw [← htB, ByteArray.size_append]; rfl
                          have hzC : tB.size + wv.size = tC.size := by rw [← htC, ByteArray.size_append]
                          have hzD : tC.size + 1 = tE.size := by rw [← htE, ByteArray.size_append]; rfl
                          have b1 : ¬ 9223372036854775807 < u.size + y.1.size := by omega
                          have b2 : ¬ 9223372036854775807 < tA.size + 3 := by omega
                          have b3 : ¬ 9223372036854775807 < tB.size + wv.size := by omega
                          have b4 : ¬ 9223372036854775807 < tC.size + 1 := by omega
                          have HBE := Lib.hid hblE
                          clear hwv hblE hzA hzB hzC hzD
                          go_upto_region 27 with ((go_at_call 21); (refine (cO.out _).mono ?_); (rintro e w6 ⟨rfl, hk6⟩); (have n0 := cell_of_keeps hk6 m0); (have n1 := cell_of_keeps hk6 m1))
                          go_quiet (((go_at_call 22); (exact Calls.quiet_of_same (cWr.out _))))
                          clear b1 b2 b3 b4
                          all_goals go_wp2
                          all_goals go_roundw
                          all_goals first
                            | (simp [intOf]; omega; done)
                            | (refine ⟨j + 1, tE, by omega, rfl, rfl, by omega, by omega, Fr.drewN (K5.keeps hk6) _, ?_⟩
                               rw [HSN2.out, HBE.out, ← List.append_assoc]
                               exact (ents_ok (entN_fine HV2.out hlong HO.out)).symm.trans HEJ.out)
              · have hje : j = x.2.length := by omega
                have hjz : ¬ ((j : Int) < (x.2.length : Int)) := by omega
                have he : entsGo [] (bl tH) x.2 = (0, bl tH ++ bl u) := by rw [← hEj, hje, List.drop_length]; rfl
                have hgo := HGO.out
                rw [he] at hgo
                have HGG := Lib.hid hgo
                have hth : tH.size ≤ 10000000 := by omega
                have huu : u.size ≤ 1000000 := by omega
                clear hEj he hgo hje
                go_wp2
                go_roundw
                case measure => simp [intOf]; omega
                case rel =>
                  refine ⟨k + 1, tH ++ u, by omega, rfl, rfl, by rw [ByteArray.size_append]; omega, by omega, hKj, ?_⟩
                  rw [HSN.out, bl_append]
                  exact HGG.out.symm.trans HG.out
    · have hke : k = ss.length := by omega
      have hkz : ¬ ((k : Int) < (ss.length : Int)) := by omega
      have hg : secsGo [] [] ss = (0, bl q) := by rw [← hG, hke, List.drop_length]; rfl
      have hpk := print_ok hg
      rw [← bl_size] at hpk
      have HK := Lib.hid hpk
      clear hG hg hpk hke
      by_cases hbig : 131072 < q.size
      · have hbz : (131072 : Int) < (q.size : Int) := by omega
        go_wp2
        go_ret2
        exact ⟨by rw [HK.out, if_pos hbig]; rfl, hK⟩
      · have hbz : ¬ ((131072 : Int) < (q.size : Int)) := by omega
        go_wp2
        go_ret2
        exact ⟨by rw [HK.out, if_neg hbig, back_bl]; rfl, hK⟩
end Go.Proofs.YtjoklcjpihadiaaGreatDoor

/- The walk of ReelTrue. -/
import Derived.Test.YtcefockebphbaaaDoorTr
set_option linter.unusedVariables false
set_option linter.unusedSimpArgs false
set_option linter.unnecessarySimpa false
namespace Go.Proofs.YtcefockebphbaaaDoor
open Go Go.RowKit Sluice

attribute [local irreducible] readR tells openR flips anyBit

set_option maxHeartbeats 8000000 in
set_option maxRecDepth 100000 in
theorem turn_walk (W Wr Rd at_ : Int) (m tag rn rc cn cc : Nat) (ra ca : Option Addr) (f : Nat → ByteArray) (c : Nat → Bool) (w : World) (ht : tag < 18446744073709551616) (hat0 : -9223372036854775808 ≤ at_) (hat1 : at_ ≤ 9223372036854775807) (hm0 : m < 4294967296)
    (hS : Steps w) (hA : LayArgs w ra ca rn cn f c) :
    Calls Tryd.prog 5 #[layV W (tag : Int) Wr Rd (.slice ca cn cc) (.slice ra rn rc), .agg #[.int .i64 at_, .int .u32 (m : Int)]] w fun r w' => r = .returned (.bool true) ∧ Keeps w w' := by
  obtain ⟨hw1, hw2⟩ := wdOf_le W
  obtain ⟨ha1, ha3, ha2⟩ := aOf_le W Wr
  obtain ⟨hb1, hb2⟩ := bOf_le W Wr Rd
  have hcn := hA.cn
  have HMu := Lib.hid (much_any W (tag : Int) Wr Rd (.slice ca cn cc) ra rn rc)
  have HA := Lib.hid hA
  have HS := Lib.hid hS
  have HAt := Lib.hid (And.intro hat0 hat1)
  unfold maxLen at hcn
  clear hA hS hat0 hat1
  have HL := Lib.hid (fun b n w S hn hrn ss hS hD hr hc => laylay_any S b n tag rn rc cn cc W Wr Rd ra ca f c hn ht hrn HA.out.cn ss w hS hD hr hc)
  have HT := Lib.hid (fun (wb w : World) b n base cap gs bs h hsl hS => laidc_told (tag := tag) (wb := wb) (w := w) (b := b) (n := n) (rn := rn) (base := base) (cap := cap) (gs := gs) (bs := bs) h W Wr Rd (.slice ca cn cc) (.slice ra rn rc) hsl ht hS)
  unfold layV at *
  by_cases hmuch : 262144 < rn
  · have hmd : decide (262144 < rn) = true := by simp; omega
    rw [hmd] at HMu
    go_enter Tryd.func5, Tryd.ntmps5
    go_wp2_with (first
      | ((go_at_call 6); (refine (HMu.out _).mono ?_); (rintro r w0 ⟨rfl, hk0⟩))
      | fail)
    go_ret
    exact ⟨rfl, Fr.keeps (((Fr.refl _ _).alloc _).alloc _) hk0⟩
  · have hmd : decide (262144 < rn) = false := by simp; omega
    rw [hmd] at HMu
    go_enter Tryd.func5, Tryd.ntmps5
    go_upto_region 7 with (first
      | ((go_at_call 6); (refine (HMu.out _).mono ?_); (rintro r w0 ⟨rfl, hk0⟩); (obtain ⟨wb, hwb⟩ : ∃ wb : World, wb = (w.alloc (.cells #[.int .i64 W, .int .u64 (tag : Int), .int .i64 Wr, .int .i64 Rd, .slice ca cn cc, .slice ra rn rc] 26)).alloc (.cells #[.int .i64 at_, .int .u32 (m : Int)] 66) := ⟨_, rfl⟩); (rewrite [← hwb] at hk0); (have hX0 : Blk wb w.heap.size #[.int .i64 W, .int .u64 (tag : Int), .int .i64 Wr, .int .i64 Rd, .slice ca cn cc, .slice ra rn rc] 26 := by rw [hwb]; exact Blk.alloc (Blk.new' rfl) _); (have hY0 : Blk wb (w.heap.size + 1) #[.int .i64 at_, .int .u32 (m : Int)] 66 := by rw [hwb]; exact Blk.new' (by simp)); (have hKb : Keeps w wb := by rw [hwb]; exact ((Fr.refl _ w).alloc _).alloc _); (have hsb : wb.heap.size = w.heap.size + 1 + 1 := by rw [hwb]; simp); (have HX0 := Lib.hid hX0); (have HY0 := Lib.hid hY0); (have HKb := Lib.hid hKb); (have HSb := Lib.hid hsb); (clear hwb hX0 hY0 hKb hsb))
      | ((go_at_call 7); (refine (new_disk (fun k => k < wb.heap.size) w0 (fun k hk => Nat.lt_of_lt_of_le hk hk0.size)).mono ?_); (rintro r w1 ⟨b, rfl, hD1, hk1⟩); (have hK1 : Keeps wb w1 := hk0.keeps hk1); (have hbx1 := (hK1.blk HX0.out (fun h => h)).cell); (clear hk0 hk1))
      | ((go_at_call 8); (refine (num_any 0 (by omega) (by omega) _).mono ?_); (rintro r wn ⟨rfl, rfl⟩))
      | ((go_at_call 9); (refine (HL.out b 0 w1 (fun k => k < wb.heap.size) (by omega) (by omega) (Nat.lt_of_lt_of_le HS.out.1 HKb.out.size) ((HS.out.kept HKb.out (fun h => h)).kept hK1 (fun h => h)) hD1 (HA.out.recs.mono (HKb.out.keeps hK1) (fun k hk => Nat.lt_of_lt_of_le hk HKb.out.size)) (HA.out.cuts.mono (HKb.out.keeps hK1) (fun k hk => Nat.lt_of_lt_of_le hk HKb.out.size))).mono ?_); (rintro r w2 ⟨v, rfl, hL2⟩); (obtain ⟨base, cap, gs, rfl, hlen, hgood, hL3⟩ := laidc_of hK1 hL2); (clear hL2 hK1 hD1 hbx1))
      | fail)
    have hfl := fileB_len (tag := tag) hgood hw2 (by rw [hlen]; omega)
    have hpl := fun p j => turn_plain (M := (aOf W Wr - 24) / wdOf W) (B := bOf W Wr Rd) (tag := tag) (p := p) (m := m) (j := j) (by have := Nat.div_mul_le_self (aOf W Wr - 24) (wdOf W); omega) (by omega) (by have := Nat.div_mul_le_self (aOf W Wr - 24) (wdOf W); omega) (by have := Nat.div_le_self (aOf W Wr - 24) (wdOf W); omega) hw2 ht hfl.2.2 (by rw [hlen]; omega) hgood
    generalize fileB (wdOf W) tag gs = F at *
    have hsize := laidc_size hL3
    obtain ⟨n, hn⟩ : ∃ n, F.length = n := ⟨_, rfl⟩
    simp only [hn] at hfl hsize hpl
    obtain ⟨n1, n2, -⟩ := hfl
    have hd72 : decide ((n : Int) < 72) = false := by simp; omega
    have HN := Lib.hid hn
    have HSz := Lib.hid hsize
    have HPl := Lib.hid hpl
    have HLen := Lib.hid hlen
    clear hn hsize hpl hL3 hlen hgood
    go_upto_region 11 with (first
      | ((go_at_call 10); (refine HSz.out.mono ?_); (rintro r w3 ⟨rfl, hL4⟩); (have hby := (hL4.kp.blk HY0.out (fun h => h)).cell); (have HL4 := Lib.hid hL4); (clear hL4))
      | ((go_at_call 8); (refine (num_any 0 (by omega) (by omega) _).mono ?_); (rintro r wn ⟨rfl, rfl⟩))
      | fail)
    obtain ⟨p, hp⟩ : ∃ p : Nat, at_ % ((8 * n : Nat) : Int) = (p : Int) := ⟨(at_ % ((8 * n : Nat) : Int)).toNat, (Int.toNat_of_nonneg (Int.emod_nonneg _ (by omega))).symm⟩
    have hpn : p < 8 * n := by
      have := Int.emod_lt_of_pos at_ (show (0 : Int) < ((8 * n : Nat) : Int) by omega)
      omega
    have hq := flip_bit (by omega) (by omega) hp
    rewrite [hq]
    clear hq hp hby
    go_wp2_with fail
    go_loopw [12, 13] (fun s12 s13 wr => ∃ j : Nat, j ≤ 32 ∧ p + j ≤ 8 * n ∧ s13 = .int .i64 (j : Int) ∧ s12 = .bool (anyBit m j) ∧ LaidC wb wr b 1 rn base cap gs (flips F p m j)) (fun _ s13 _ => 32 - (intOf s13).toNat)
    case atStart => exact ⟨0, by omega, by omega, rfl, by rw [anyBit_zero], by rw [flips_zero]; exact HL4.out⟩
    case round =>
      obtain ⟨j, hj, hpj, rfl, rfl, hL⟩ := hrel
      have hby := (hL.kp.blk HY0.out (fun h => h)).cell
      have hbx := (hL.kp.blk HX0.out (fun h => h)).cell
      have hlf : (flips F p m j).length = n := by rw [flips_length]; exact HN.out
      have hflip := fun h => laidc_flip hL (p + j) h (by rw [hlf]; omega)
      rw [hlf] at hflip
      have HFl := Lib.hid hflip
      have HL := Lib.hid hL
      clear hL hflip hlf
      by_cases hgo : j < 32 ∧ p + j < 8 * n
      · obtain ⟨g1, g2⟩ := hgo
        have hi1 : (j : Int) < 32 := by omega
        have hi2 : (p : Int) + (j : Int) < 8 * (n : Int) := by omega
        cases htb : m.testBit j with
        | true =>
          have HSt := Lib.hid (step_set (l := F) (p := p) htb)
          have hbit := (testBit_rem m j).trans htb
          clear htb
          go_wp2_with (first
            | ((go_at_call 23); (refine (HFl.out (by omega)).mono ?_); (rintro r w5 ⟨rfl, hL5⟩); (have HL5 := Lib.hid hL5); (clear hL5))
            | ((go_at_call 8); (refine (num_any 0 (by omega) (by omega) _).mono ?_); (rintro r wn ⟨rfl, rfl⟩))
            | fail)
          all_goals go_roundw
          case rel => exact ⟨j + 1, by omega, by omega, by go_num, by rw [HSt.out.2], by rw [HSt.out.1]; exact HL5.out⟩
          case measure => simp [intOf]; omega
        | false =>
          have HSt := Lib.hid (step_clear (l := F) (p := p) htb)
          have hbit := (testBit_rem m j).trans htb
          clear htb
          go_wp2_with fail
          all_goals go_roundw
          case rel => exact ⟨j + 1, by omega, by omega, by go_num, by rw [HSt.out.2], by rw [HSt.out.1]; exact HL.out⟩
          case measure => simp [intOf]; omega
      · have hS9 : Steps wb := HS.out.kept HKb.out (fun h => h)
        have hrd := HPl.out p j hj hpj
        have HRd := Lib.hid hrd
        have HTo := Lib.hid (HT.out wb wr b 1 base cap gs (flips F p m j) HL.out (by rw [flips_length, HN.out]; omega) hS9)
        generalize readR (flips F p m j) (bOf W Wr Rd) (wdOf W) tag = rd at HRd HTo
        have hex : (¬ ((j : Int) < 32) ∧ ¬ ((j : Int) < 32)) ∨ ((j : Int) < 32 ∧ ¬ ((p : Int) + (j : Int) < 8 * (n : Int))) := by have hgo2 := hgo; omega
        have HJ := Lib.hid hgo
        clear hgo
        clear hrd hS9 hby
        cases htn : anyBit m j with
        | false =>
          have HRd2 := Lib.hid (HRd.out.1 htn)
          have HF : Hid (∀ (v : Value), v = v) := fun _ => rfl
          clear htn
          rcases hex with ⟨hi1, hi2⟩ | ⟨hi1, hi2⟩
          all_goals
            go_upto_region 21 with (first
              | ((go_at_call 15); (refine HTo.out.mono ?_); (rintro r w9 ⟨base', gn, capx, rp, code, rfl, hgn, hst9, hcode, hF9, hW9, hrp⟩); (have HSt9 := Lib.hid hst9); (have HW9 := Lib.hid hW9); (have HF9 := Lib.hid hF9); (have HRp := Lib.hid hrp); (have HCode := Lib.hid hcode); (have HGn := Lib.hid hgn); (clear hst9 hW9 hF9 hrp hcode hgn))
              | fail)
            have HFin := Lib.hid (fun w10 (hk : Keeps w9 w10) => (HKb.out.keeps HF9.out).keeps hk)
            have HBg := Lib.hid (begins_any (.slice base' gn capx) (.slice base rn cap) rd.1 gs.flatten w9 HSt9.out HW9.out)
            have hrd := HRd2.out
            have hpre : rd.1.isPrefixOf gs.flatten = true := by rw [hrd, List.isPrefixOf_iff_prefix]; exact List.prefix_refl _
            rw [hpre] at HBg
            have hgr : gn = rn := by have hg := HGn.out; rw [← hg, hrd]; exact HLen.out
            rcases HRp.out with ⟨-, h2, -⟩ | ⟨rb, hrb, hro⟩
            · rw [hrd] at h2; cases h2
            · have hrd2 : rd.2 = true := by rw [hrd]
              rw [hrd2] at hro
              have HRo := Lib.hid hro
              clear hro hrd hpre hrd2 hbx
              subst hrb
              subst hgr
              go_wp2_with (first
              | ((go_at_call 16); (refine HBg.out.mono ?_); (rintro r w10 ⟨rfl, hk10⟩))
              | ((go_at_call 17); (refine (done_over (HRo.out.keeps hk10)).mono ?_); (rintro r wn ⟨rfl, rfl⟩))
              | fail)
              all_goals go_ret
              all_goals exact ⟨ret_bool (by simp), HFin.out _ hk10⟩
        | true =>
          have HRd2 := Lib.hid (HRd.out.2 htn)
          clear htn
          rcases hex with ⟨hi1, hi2⟩ | ⟨hi1, hi2⟩
          all_goals
            go_upto_region 21 with (first
              | ((go_at_call 15); (refine HTo.out.mono ?_); (rintro r w9 ⟨base', gn, capx, rp, code, rfl, hgn, hst9, hcode, hF9, hW9, hrp⟩); (have HSt9 := Lib.hid hst9); (have HW9 := Lib.hid hW9); (have HF9 := Lib.hid hF9); (have HRp := Lib.hid hrp); (have HCode := Lib.hid hcode); (have HGn := Lib.hid hgn); (clear hst9 hW9 hF9 hrp hcode hgn))
              | fail)
            have HFin := Lib.hid (fun w10 (hk : Keeps w9 w10) => (HKb.out.keeps HF9.out).keeps hk)
            have HBg := Lib.hid (begins_any (.slice base' gn capx) (.slice base rn cap) rd.1 gs.flatten w9 HSt9.out HW9.out)
            obtain ⟨hrd2, hpr⟩ := HRd2.out
            have hpre : rd.1.isPrefixOf gs.flatten = true := by rw [List.isPrefixOf_iff_prefix]; exact hpr
            rw [hpre] at HBg
            have hcne : ¬ code = 0 := fun e => by have := HCode.out.1 e; rw [hrd2] at this; cases this
            have hcne2 : (code == 0) = false := by simpa using hcne
            rcases HRp.out with ⟨hrp, -, -⟩ | ⟨rb, hrb, hro⟩
            · subst hrp
              clear hpr hpre hrd2 hbx
              go_wp2_with (first
              | ((go_at_call 16); (refine HBg.out.mono ?_); (rintro r w10 ⟨rfl, hk10⟩))
              | fail)
              all_goals go_ret
              all_goals exact ⟨ret_bool (by simp [hcne]), HFin.out _ hk10⟩
            · rw [hrd2] at hro
              have HRo := Lib.hid hro
              clear hro hpr hpre hrd2 hbx
              subst hrb
              go_wp2_with (first
              | ((go_at_call 16); (refine HBg.out.mono ?_); (rintro r w10 ⟨rfl, hk10⟩))
              | ((go_at_call 17); (refine (done_over (HRo.out.keeps hk10)).mono ?_); (rintro r wn ⟨rfl, rfl⟩))
              | fail)
              all_goals go_ret
              all_goals exact ⟨ret_bool (by simp [hcne]), HFin.out _ hk10⟩
end Go.Proofs.YtcefockebphbaaaDoor

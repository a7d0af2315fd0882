/- The document's wide, the walk. -/
import Derived.Test.YtjoklcjpihadiaaGreatDoorRo4
set_option linter.unusedVariables false
set_option linter.unusedSimpArgs false
set_option linter.unnecessarySimpa false
namespace Go.Proofs.YtjoklcjpihadiaaGreatDoor
open Go Go.RowKit Sluice Go.Proofs.Ro Go.Lib

def WideTo (s : ByteArray) (pos : Nat) (w : World) (r : Ending) (w' : World) : Prop := r = .returned (.tuple #[.int .i64 ((Utf8.decode s pos).2 : Int), .int .i64 (wideV (Utf8.decode s pos))]) ∧ Keeps w w'
def bAt (b1 b2 b3 i : Nat) : Nat := if i = 1 then b1 else if i = 2 then b2 else b3
def loAt (lo i : Nat) : Nat := if i = 1 then lo else 128
def hiAt (hi i : Nat) : Nat := if i = 1 then hi else 191
def GoodTo (lo hi b1 b2 b3 i : Nat) : Prop := (2 ≤ i → lo ≤ b1 ∧ b1 ≤ hi) ∧ (3 ≤ i → 128 ≤ b2 ∧ b2 ≤ 191) ∧ (4 ≤ i → 128 ≤ b3 ∧ b3 ≤ 191)
theorem vAt_next {v0 b1 b2 b3 i : Nat} (h1 : 1 ≤ i) (h2 : i ≤ 3) : vAt v0 b1 b2 b3 (i + 1) = 64 * vAt v0 b1 b2 b3 i + (bAt b1 b2 b3 i : Nat) - 128 := by
  rcases (by omega : i = 1 ∨ i = 2 ∨ i = 3) with rfl | rfl | rfl <;> rfl
theorem vAt_le {n0 sz lo hi v0 b1 b2 b3 i : Nat} (h : Lead n0 sz lo hi v0) (h1 : 1 ≤ i) (h2 : i ≤ sz) (hg : GoodTo lo hi b1 b2 b3 i) : 0 ≤ vAt v0 b1 b2 b3 i ∧ vAt v0 b1 b2 b3 i ≤ 10000000 := by
  obtain ⟨g1, g2, g3⟩ := hg
  have hb : lo ≥ 128 ∧ hi ≤ 191 ∧ v0 ≤ 31 ∧ sz ≤ 4 := by
    rcases h with ⟨a, b, c, d, e, f⟩ | ⟨a, c, d, e, f⟩ | ⟨a, c, d, e, f⟩ | ⟨a, c, d, e, f⟩ | ⟨a, c, d, e, f⟩ | ⟨a, b, c, d, e, f⟩ | ⟨a, c, d, e, f⟩ <;> omega
  rcases (by omega : i = 1 ∨ i = 2 ∨ i = 3 ∨ i = 4) with rfl | rfl | rfl | rfl
  · show 0 ≤ (v0 : Int) ∧ (v0 : Int) ≤ 10000000
    omega
  · have := g1 (by omega)
    show 0 ≤ 64 * (v0 : Int) + b1 - 128 ∧ 64 * (v0 : Int) + b1 - 128 ≤ 10000000
    omega
  · have := g1 (by omega)
    have := g2 (by omega)
    show 0 ≤ 64 * (64 * (v0 : Int) + b1 - 128) + b2 - 128 ∧ 64 * (64 * (v0 : Int) + b1 - 128) + b2 - 128 ≤ 10000000
    omega
  · have := g1 (by omega)
    have := g2 (by omega)
    have := g3 (by omega)
    show 0 ≤ 64 * (64 * (64 * (v0 : Int) + b1 - 128) + b2 - 128) + b3 - 128 ∧ 64 * (64 * (64 * (v0 : Int) + b1 - 128) + b2 - 128) + b3 - 128 ≤ 10000000
    omega
theorem good_next {lo hi b1 b2 b3 i : Nat} (h1 : 1 ≤ i) (h2 : i ≤ 3) (hg : GoodTo lo hi b1 b2 b3 i) (hb : loAt lo i ≤ bAt b1 b2 b3 i ∧ bAt b1 b2 b3 i ≤ hiAt hi i) : GoodTo lo hi b1 b2 b3 (i + 1) := by
  obtain ⟨g1, g2, g3⟩ := hg
  rcases (by omega : i = 1 ∨ i = 2 ∨ i = 3) with rfl | rfl | rfl
  · exact ⟨fun _ => hb, fun h => by omega, fun h => by omega⟩
  · exact ⟨fun _ => g1 (by omega), fun _ => hb, fun h => by omega⟩
  · exact ⟨fun _ => g1 (by omega), fun _ => g2 (by omega), fun _ => hb⟩
theorem bad_at {n n0 b1 b2 b3 sz lo hi i : Nat} (h1 : 1 ≤ i) (h2 : i < sz) (h3 : sz ≤ 4) (hb : bAt b1 b2 b3 i < loAt lo i ∨ hiAt hi i < bAt b1 b2 b3 i) : slowN n n0 b1 b2 b3 sz lo hi = (65533, 1) := by
  rcases (by omega : i = 1 ∨ i = 2 ∨ i = 3) with rfl | rfl | rfl
  · exact slow_bad1 _ _ _ _ _ _ _ _ (.inr hb)
  · exact slow_bad2 _ _ _ _ _ _ _ _ (by omega) hb
  · exact slow_bad3 _ _ _ _ _ _ _ _ (by omega) hb
theorem wideV_bad : wideV (65533, 1) = -1 := by unfold wideV; rw [if_pos ⟨rfl, rfl⟩]

set_option maxHeartbeats 16000000 in
set_option maxRecDepth 100000 in
theorem wide_lead (s : ByteArray) (hs : s.size ≤ 1099511627776) (pos : Nat) (hp : pos < s.size) (n0 sz lo hi v0 : Nat) (h0 : (s.get! pos).toNat = n0) (hl : Lead n0 sz lo hi v0) (w : World) :
    Calls Tryz.prog 54 #[.string s, .int .i64 (pos : Int)] w (WideTo s pos w) := by
  have b1l := UInt8.toNat_lt (s.get! (pos + 1))
  have b2l := UInt8.toNat_lt (s.get! (pos + 2))
  have b3l := UInt8.toNat_lt (s.get! (pos + 3))
  have x0 := get_at s pos hp
  have x1 : ∀ h : pos + 1 < s.size, _ := get_at s (pos + 1)
  have x2 : ∀ h : pos + 2 < s.size, _ := get_at s (pos + 2)
  have x3 : ∀ h : pos + 3 < s.size, _ := get_at s (pos + 3)
  have hd : Utf8.decode s pos = slowN (s.size - pos) n0 (s.get! (pos + 1)).toNat (s.get! (pos + 2)).toNat (s.get! (pos + 3)).toNat sz lo hi := by
    rw [decode_at, h0, lead_slow hl _ _ _ _ (by omega) b1l b2l b3l]
  rw [h0] at x0
  generalize (s.get! (pos + 1)).toNat = b1 at b1l x1 hd
  generalize (s.get! (pos + 2)).toNat = b2 at b2l x2 hd
  generalize (s.get! (pos + 3)).toNat = b3 at b3l x3 hd
  have HX : Hid (∀ i, 1 ≤ i → i ≤ 3 → ∀ h : pos + i < s.size, (s[pos + i]'h).toNat = bAt b1 b2 b3 i) := by
    intro i h1 h2 h
    rcases (by omega : i = 1 ∨ i = 2 ∨ i = 3) with rfl | rfl | rfl
    · exact x1 h
    · exact x2 h
    · exact x3 h
  have HBl : Hid (∀ i, bAt b1 b2 b3 i < 256) := by
    intro i; unfold bAt; split
    · exact b1l
    · split
      · exact b2l
      · exact b3l
  have HD := Lib.hid hd
  have HL := Lib.hid hl
  clear hd x1 x2 x3 h0 b1l b2l b3l
  have hpz : (pos : Int) < (s.size : Int) := by omega
  rcases hl with ⟨a, b, hsz, hlo, hhi, hv⟩ | ⟨a, hsz, hlo, hhi, hv⟩ | ⟨a, hsz, hlo, hhi, hv⟩ | ⟨a, hsz, hlo, hhi, hv⟩ | ⟨a, hsz, hlo, hhi, hv⟩ | ⟨a, b, hsz, hlo, hhi, hv⟩ | ⟨a, hsz, hlo, hhi, hv⟩
  · -- C2
    have c0 : ¬ (n0 : Int) < 128 := by omega
    have c1 : (194 : Int) ≤ (n0 : Int) := by omega
    have c2 : (n0 : Int) ≤ 223 := by omega
    have c3 : ¬ (n0 : Int) = 224 := by omega
    have c4 : ¬ (n0 : Int) = 237 := by omega
    have c5 : ¬ (n0 : Int) = 240 := by omega
    have c6 : ¬ (n0 : Int) = 244 := by omega
    have HSz := Lib.hid hsz
    have HLo := Lib.hid hlo
    have HHi := Lib.hid hhi
    have HV := Lib.hid hv
    clear hsz hlo hhi hv
    by_cases hsh : s.size - pos < 2
    · have hshz : (s.size : Int) - (pos : Int) < 2 := by omega
      go_enter Tryz.func54, Tryz.ntmps54
      go_wp2
      go_ret2
      have hbad := HD.out
      rw [slow_bad1 _ _ _ _ _ _ _ _ (.inl (by have := HSz.out; omega))] at hbad
      exact ⟨by rw [hbad, wideV_bad]; rfl, by (repeat (first | with_reducible exact Fr.refl _ _ | with_reducible assumption | with_reducible refine Fr.alloc ?_ _ | with_reducible refine Fr.drew ?_ | with_reducible refine Fr.drewN ?_ _ | with_reducible refine Fr.setCell ?_ (by simp; try omega) _))⟩
    · have hshz : ¬ (s.size : Int) - (pos : Int) < 2 := by omega
      go_enter Tryz.func54, Tryz.ntmps54
      go_wp2
      go_loopw [8, 9, 10, 11] (fun t8 t9 t10 t11 wr => ∃ (i : Nat) (vi : Int), 1 ≤ i ∧ i ≤ sz ∧ t11 = .int .i64 (i : Int) ∧ t10 = .int .i64 vi ∧ vi = vAt v0 b1 b2 b3 i ∧ t8 = .int .i64 (loAt lo i : Nat) ∧ t9 = .int .i64 (hiAt hi i : Nat) ∧ GoodTo lo hi b1 b2 b3 i ∧ Keeps w wr) (fun _ _ _ t11 _ => 5 - (intOf t11).toNat)
      case atStart =>
        refine ⟨1, (n0 : Int) - 192, by omega, by have := HSz.out; omega, rfl, rfl, ?_, ?_, ?_, ⟨fun h => by omega, fun h => by omega, fun h => by omega⟩, by (repeat (first | with_reducible exact Fr.refl _ _ | with_reducible assumption | with_reducible refine Fr.alloc ?_ _ | with_reducible refine Fr.drew ?_ | with_reducible refine Fr.drewN ?_ _ | with_reducible refine Fr.setCell ?_ (by simp; try omega) _))⟩
        · show _ = (v0 : Int)
          have := HV.out
          omega
        · have := HLo.out
          subst this; rfl
        · have := HHi.out
          subst this; rfl
      case round =>
        obtain ⟨i, vi, hi1, hi2, rfl, rfl, hvi, rfl, rfl, hg, hK⟩ := hrel
        have hvb := vAt_le HL.out hi1 hi2 hg
        rw [← hvi] at hvb
        have HVI := Lib.hid hvi
        have HG := Lib.hid hg
        have hsz4 := HSz.out
        clear hvi hg
        by_cases hlt : i < sz
        · have hiz : (i : Int) < 2 := by omega
          have hin : pos + i < s.size := by omega
          have hinz : (pos : Int) + (i : Int) < (s.size : Int) := by omega
          have hx := HX.out i hi1 (by omega) hin
          have hbl := HBl.out i
          obtain ⟨bb, hbb⟩ : ∃ bb, bAt b1 b2 b3 i = bb := ⟨_, rfl⟩
          obtain ⟨ll, hll⟩ : ∃ ll, loAt lo i = ll := ⟨_, rfl⟩
          obtain ⟨hh, hhh⟩ : ∃ hh, hiAt hi i = hh := ⟨_, rfl⟩
          rw [hbb] at hx hbl
          rewrite [hll, hhh]
          have HBB := Lib.hid hbb
          have HLL := Lib.hid hll
          have HHH := Lib.hid hhh
          clear hbb hll hhh hsz4
          by_cases hb : bb < ll ∨ hh < bb
          · have hret : Hid (WideTo s pos w (.returned (.tuple #[.int .i64 1, .int .i64 (-1)])) wr) := by
              have hbad := HD.out
              rw [bad_at hi1 hlt (by have := HSz.out; omega) (by rw [HBB.out, HLL.out, HHH.out]; exact hb)] at hbad
              exact ⟨by rw [hbad, wideV_bad]; rfl, hK⟩
            rcases hb with hb | hb
            · have hbz : (bb : Int) < (ll : Int) := by omega
              go_wp2
              go_ret2
              first | exact hret.out | exact ⟨hret.out.1, hret.out.2.drew⟩
            · have hbz : (hh : Int) < (bb : Int) := by omega
              by_cases hb2 : (bb : Int) < (ll : Int)
              · go_wp2
                go_ret2
                first | exact hret.out | exact ⟨hret.out.1, hret.out.2.drew⟩
              · go_wp2
                go_ret2
                first | exact hret.out | exact ⟨hret.out.1, hret.out.2.drew⟩
          · have hz1 : ¬ (bb : Int) < (ll : Int) := by omega
            have hz2 : ¬ (hh : Int) < (bb : Int) := by omega
            have hbp : Hid (loAt lo i ≤ bAt b1 b2 b3 i ∧ bAt b1 b2 b3 i ≤ hiAt hi i) := by
              show _ ∧ _
              rw [HBB.out, HLL.out, HHH.out]; omega
            clear hb
            go_wp2
            go_roundw
            case measure => have := HSz.out; simp [intOf]; omega
            case rel =>
              have h3 : i ≤ 3 := by have := HSz.out; omega
              refine ⟨i + 1, 64 * vi + (bb : Int) - 128, by omega, by omega, rfl, rfl, ?_, ?_, ?_, good_next hi1 h3 HG.out hbp.out, by (repeat (first | with_reducible exact Fr.refl _ _ | with_reducible assumption | with_reducible refine Fr.alloc ?_ _ | with_reducible refine Fr.drew ?_ | with_reducible refine Fr.drewN ?_ _ | with_reducible refine Fr.setCell ?_ (by simp; try omega) _))⟩
              · rw [vAt_next hi1 h3, HVI.out, HBB.out]
              · unfold loAt; rw [if_neg (by omega)]; rfl
              · unfold hiAt; rw [if_neg (by omega)]; rfl
        · have hie : i = sz := by omega
          have hiz : ¬ (i : Int) < 2 := by omega
          have hout := slow_out HL.out (s.size - pos) b1 b2 b3 (by omega) (HG.out.1 (by omega)) (fun h => HG.out.2.1 (by omega)) (fun h => HG.out.2.2 (by omega))
          rw [← HD.out] at hout
          have HO := Lib.hid hout
          have HIE := Lib.hid hie
          have HS4 := Lib.hid hsz4
          clear hout hie hsz4 hi2 hlt
          go_wp2
          go_ret2
          refine ⟨?_, by (repeat (first | with_reducible exact Fr.refl _ _ | with_reducible assumption | with_reducible refine Fr.alloc ?_ _ | with_reducible refine Fr.drew ?_ | with_reducible refine Fr.drewN ?_ _ | with_reducible refine Fr.setCell ?_ (by simp; try omega) _))⟩
          rw [HO.out.1, HO.out.2, HVI.out, HIE.out, HS4.out]; rfl
  · -- E0
    subst a
    have HSz := Lib.hid hsz
    have HLo := Lib.hid hlo
    have HHi := Lib.hid hhi
    have HV := Lib.hid hv
    clear hsz hlo hhi hv
    by_cases hsh : s.size - pos < 3
    · have hshz : (s.size : Int) - (pos : Int) < 3 := by omega
      go_enter Tryz.func54, Tryz.ntmps54
      go_wp2
      go_ret2
      have hbad := HD.out
      rw [slow_bad1 _ _ _ _ _ _ _ _ (.inl (by have := HSz.out; omega))] at hbad
      exact ⟨by rw [hbad, wideV_bad]; rfl, by (repeat (first | with_reducible exact Fr.refl _ _ | with_reducible assumption | with_reducible refine Fr.alloc ?_ _ | with_reducible refine Fr.drew ?_ | with_reducible refine Fr.drewN ?_ _ | with_reducible refine Fr.setCell ?_ (by simp; try omega) _))⟩
    · have hshz : ¬ (s.size : Int) - (pos : Int) < 3 := by omega
      go_enter Tryz.func54, Tryz.ntmps54
      go_wp2
      go_loopw [8, 9, 10, 11] (fun t8 t9 t10 t11 wr => ∃ (i : Nat) (vi : Int), 1 ≤ i ∧ i ≤ sz ∧ t11 = .int .i64 (i : Int) ∧ t10 = .int .i64 vi ∧ vi = vAt v0 b1 b2 b3 i ∧ t8 = .int .i64 (loAt lo i : Nat) ∧ t9 = .int .i64 (hiAt hi i : Nat) ∧ GoodTo lo hi b1 b2 b3 i ∧ Keeps w wr) (fun _ _ _ t11 _ => 5 - (intOf t11).toNat)
      case atStart =>
        refine ⟨1, 0, by omega, by have := HSz.out; omega, rfl, rfl, ?_, ?_, ?_, ⟨fun h => by omega, fun h => by omega, fun h => by omega⟩, by (repeat (first | with_reducible exact Fr.refl _ _ | with_reducible assumption | with_reducible refine Fr.alloc ?_ _ | with_reducible refine Fr.drew ?_ | with_reducible refine Fr.drewN ?_ _ | with_reducible refine Fr.setCell ?_ (by simp; try omega) _))⟩
        · show _ = (v0 : Int)
          have := HV.out
          omega
        · have := HLo.out
          subst this; rfl
        · have := HHi.out
          subst this; rfl
      case round =>
        obtain ⟨i, vi, hi1, hi2, rfl, rfl, hvi, rfl, rfl, hg, hK⟩ := hrel
        have hvb := vAt_le HL.out hi1 hi2 hg
        rw [← hvi] at hvb
        have HVI := Lib.hid hvi
        have HG := Lib.hid hg
        have hsz4 := HSz.out
        clear hvi hg
        by_cases hlt : i < sz
        · have hiz : (i : Int) < 3 := by omega
          have hin : pos + i < s.size := by omega
          have hinz : (pos : Int) + (i : Int) < (s.size : Int) := by omega
          have hx := HX.out i hi1 (by omega) hin
          have hbl := HBl.out i
          obtain ⟨bb, hbb⟩ : ∃ bb, bAt b1 b2 b3 i = bb := ⟨_, rfl⟩
          obtain ⟨ll, hll⟩ : ∃ ll, loAt lo i = ll := ⟨_, rfl⟩
          obtain ⟨hh, hhh⟩ : ∃ hh, hiAt hi i = hh := ⟨_, rfl⟩
          rw [hbb] at hx hbl
          rewrite [hll, hhh]
          have HBB := Lib.hid hbb
          have HLL := Lib.hid hll
          have HHH := Lib.hid hhh
          clear hbb hll hhh hsz4
          by_cases hb : bb < ll ∨ hh < bb
          · have hret : Hid (WideTo s pos w (.returned (.tuple #[.int .i64 1, .int .i64 (-1)])) wr) := by
              have hbad := HD.out
              rw [bad_at hi1 hlt (by have := HSz.out; omega) (by rw [HBB.out, HLL.out, HHH.out]; exact hb)] at hbad
              exact ⟨by rw [hbad, wideV_bad]; rfl, hK⟩
            rcases hb with hb | hb
            · have hbz : (bb : Int) < (ll : Int) := by omega
              go_wp2
              go_ret2
              first | exact hret.out | exact ⟨hret.out.1, hret.out.2.drew⟩
            · have hbz : (hh : Int) < (bb : Int) := by omega
              by_cases hb2 : (bb : Int) < (ll : Int)
              · go_wp2
                go_ret2
                first | exact hret.out | exact ⟨hret.out.1, hret.out.2.drew⟩
              · go_wp2
                go_ret2
                first | exact hret.out | exact ⟨hret.out.1, hret.out.2.drew⟩
          · have hz1 : ¬ (bb : Int) < (ll : Int) := by omega
            have hz2 : ¬ (hh : Int) < (bb : Int) := by omega
            have hbp : Hid (loAt lo i ≤ bAt b1 b2 b3 i ∧ bAt b1 b2 b3 i ≤ hiAt hi i) := by
              show _ ∧ _
              rw [HBB.out, HLL.out, HHH.out]; omega
            clear hb
            go_wp2
            go_roundw
            case measure => have := HSz.out; simp [intOf]; omega
            case rel =>
              have h3 : i ≤ 3 := by have := HSz.out; omega
              refine ⟨i + 1, 64 * vi + (bb : Int) - 128, by omega, by omega, rfl, rfl, ?_, ?_, ?_, good_next hi1 h3 HG.out hbp.out, by (repeat (first | with_reducible exact Fr.refl _ _ | with_reducible assumption | with_reducible refine Fr.alloc ?_ _ | with_reducible refine Fr.drew ?_ | with_reducible refine Fr.drewN ?_ _ | with_reducible refine Fr.setCell ?_ (by simp; try omega) _))⟩
              · rw [vAt_next hi1 h3, HVI.out, HBB.out]
              · unfold loAt; rw [if_neg (by omega)]; rfl
              · unfold hiAt; rw [if_neg (by omega)]; rfl
        · have hie : i = sz := by omega
          have hiz : ¬ (i : Int) < 3 := by omega
          have hout := slow_out HL.out (s.size - pos) b1 b2 b3 (by omega) (HG.out.1 (by omega)) (fun h => HG.out.2.1 (by omega)) (fun h => HG.out.2.2 (by omega))
          rw [← HD.out] at hout
          have HO := Lib.hid hout
          have HIE := Lib.hid hie
          have HS4 := Lib.hid hsz4
          clear hout hie hsz4 hi2 hlt
          go_wp2
          go_ret2
          refine ⟨?_, by (repeat (first | with_reducible exact Fr.refl _ _ | with_reducible assumption | with_reducible refine Fr.alloc ?_ _ | with_reducible refine Fr.drew ?_ | with_reducible refine Fr.drewN ?_ _ | with_reducible refine Fr.setCell ?_ (by simp; try omega) _))⟩
          rw [HO.out.1, HO.out.2, HVI.out, HIE.out, HS4.out]; rfl
  · -- E1
    have c0 : ¬ (n0 : Int) < 128 := by omega
    have c1 : (194 : Int) ≤ (n0 : Int) := by omega
    have c2 : ¬ (n0 : Int) ≤ 223 := by omega
    have c3 : (224 : Int) ≤ (n0 : Int) := by omega
    have c4 : (n0 : Int) ≤ 239 := by omega
    have c5 : ¬ (n0 : Int) = 240 := by omega
    have c6 : ¬ (n0 : Int) = 244 := by omega
    have c7 : ¬ (n0 : Int) = 224 := by omega
    have c8 : ¬ (n0 : Int) = 237 := by omega
    have HSz := Lib.hid hsz
    have HLo := Lib.hid hlo
    have HHi := Lib.hid hhi
    have HV := Lib.hid hv
    clear hsz hlo hhi hv
    by_cases hsh : s.size - pos < 3
    · have hshz : (s.size : Int) - (pos : Int) < 3 := by omega
      go_enter Tryz.func54, Tryz.ntmps54
      go_wp2
      go_ret2
      have hbad := HD.out
      rw [slow_bad1 _ _ _ _ _ _ _ _ (.inl (by have := HSz.out; omega))] at hbad
      exact ⟨by rw [hbad, wideV_bad]; rfl, by (repeat (first | with_reducible exact Fr.refl _ _ | with_reducible assumption | with_reducible refine Fr.alloc ?_ _ | with_reducible refine Fr.drew ?_ | with_reducible refine Fr.drewN ?_ _ | with_reducible refine Fr.setCell ?_ (by simp; try omega) _))⟩
    · have hshz : ¬ (s.size : Int) - (pos : Int) < 3 := by omega
      go_enter Tryz.func54, Tryz.ntmps54
      go_wp2
      go_loopw [8, 9, 10, 11] (fun t8 t9 t10 t11 wr => ∃ (i : Nat) (vi : Int), 1 ≤ i ∧ i ≤ sz ∧ t11 = .int .i64 (i : Int) ∧ t10 = .int .i64 vi ∧ vi = vAt v0 b1 b2 b3 i ∧ t8 = .int .i64 (loAt lo i : Nat) ∧ t9 = .int .i64 (hiAt hi i : Nat) ∧ GoodTo lo hi b1 b2 b3 i ∧ Keeps w wr) (fun _ _ _ t11 _ => 5 - (intOf t11).toNat)
      case atStart =>
        refine ⟨1, (n0 : Int) - 224, by omega, by have := HSz.out; omega, rfl, rfl, ?_, ?_, ?_, ⟨fun h => by omega, fun h => by omega, fun h => by omega⟩, by (repeat (first | with_reducible exact Fr.refl _ _ | with_reducible assumption | with_reducible refine Fr.alloc ?_ _ | with_reducible refine Fr.drew ?_ | with_reducible refine Fr.drewN ?_ _ | with_reducible refine Fr.setCell ?_ (by simp; try omega) _))⟩
        · show _ = (v0 : Int)
          have := HV.out
          omega
        · have := HLo.out
          subst this; rfl
        · have := HHi.out
          subst this; rfl
      case round =>
        obtain ⟨i, vi, hi1, hi2, rfl, rfl, hvi, rfl, rfl, hg, hK⟩ := hrel
        have hvb := vAt_le HL.out hi1 hi2 hg
        rw [← hvi] at hvb
        have HVI := Lib.hid hvi
        have HG := Lib.hid hg
        have hsz4 := HSz.out
        clear hvi hg
        by_cases hlt : i < sz
        · have hiz : (i : Int) < 3 := by omega
          have hin : pos + i < s.size := by omega
          have hinz : (pos : Int) + (i : Int) < (s.size : Int) := by omega
          have hx := HX.out i hi1 (by omega) hin
          have hbl := HBl.out i
          obtain ⟨bb, hbb⟩ : ∃ bb, bAt b1 b2 b3 i = bb := ⟨_, rfl⟩
          obtain ⟨ll, hll⟩ : ∃ ll, loAt lo i = ll := ⟨_, rfl⟩
          obtain ⟨hh, hhh⟩ : ∃ hh, hiAt hi i = hh := ⟨_, rfl⟩
          rw [hbb] at hx hbl
          rewrite [hll, hhh]
          have HBB := Lib.hid hbb
          have HLL := Lib.hid hll
          have HHH := Lib.hid hhh
          clear hbb hll hhh hsz4
          by_cases hb : bb < ll ∨ hh < bb
          · have hret : Hid (WideTo s pos w (.returned (.tuple #[.int .i64 1, .int .i64 (-1)])) wr) := by
              have hbad := HD.out
              rw [bad_at hi1 hlt (by have := HSz.out; omega) (by rw [HBB.out, HLL.out, HHH.out]; exact hb)] at hbad
              exact ⟨by rw [hbad, wideV_bad]; rfl, hK⟩
            rcases hb with hb | hb
            · have hbz : (bb : Int) < (ll : Int) := by omega
              go_wp2
              go_ret2
              first | exact hret.out | exact ⟨hret.out.1, hret.out.2.drew⟩
            · have hbz : (hh : Int) < (bb : Int) := by omega
              by_cases hb2 : (bb : Int) < (ll : Int)
              · go_wp2
                go_ret2
                first | exact hret.out | exact ⟨hret.out.1, hret.out.2.drew⟩
              · go_wp2
                go_ret2
                first | exact hret.out | exact ⟨hret.out.1, hret.out.2.drew⟩
          · have hz1 : ¬ (bb : Int) < (ll : Int) := by omega
            have hz2 : ¬ (hh : Int) < (bb : Int) := by omega
            have hbp : Hid (loAt lo i ≤ bAt b1 b2 b3 i ∧ bAt b1 b2 b3 i ≤ hiAt hi i) := by
              show _ ∧ _
              rw [HBB.out, HLL.out, HHH.out]; omega
            clear hb
            go_wp2
            go_roundw
            case measure => have := HSz.out; simp [intOf]; omega
            case rel =>
              have h3 : i ≤ 3 := by have := HSz.out; omega
              refine ⟨i + 1, 64 * vi + (bb : Int) - 128, by omega, by omega, rfl, rfl, ?_, ?_, ?_, good_next hi1 h3 HG.out hbp.out, by (repeat (first | with_reducible exact Fr.refl _ _ | with_reducible assumption | with_reducible refine Fr.alloc ?_ _ | with_reducible refine Fr.drew ?_ | with_reducible refine Fr.drewN ?_ _ | with_reducible refine Fr.setCell ?_ (by simp; try omega) _))⟩
              · rw [vAt_next hi1 h3, HVI.out, HBB.out]
              · unfold loAt; rw [if_neg (by omega)]; rfl
              · unfold hiAt; rw [if_neg (by omega)]; rfl
        · have hie : i = sz := by omega
          have hiz : ¬ (i : Int) < 3 := by omega
          have hout := slow_out HL.out (s.size - pos) b1 b2 b3 (by omega) (HG.out.1 (by omega)) (fun h => HG.out.2.1 (by omega)) (fun h => HG.out.2.2 (by omega))
          rw [← HD.out] at hout
          have HO := Lib.hid hout
          have HIE := Lib.hid hie
          have HS4 := Lib.hid hsz4
          clear hout hie hsz4 hi2 hlt
          go_wp2
          go_ret2
          refine ⟨?_, by (repeat (first | with_reducible exact Fr.refl _ _ | with_reducible assumption | with_reducible refine Fr.alloc ?_ _ | with_reducible refine Fr.drew ?_ | with_reducible refine Fr.drewN ?_ _ | with_reducible refine Fr.setCell ?_ (by simp; try omega) _))⟩
          rw [HO.out.1, HO.out.2, HVI.out, HIE.out, HS4.out]; rfl
  · -- ED
    subst a
    have HSz := Lib.hid hsz
    have HLo := Lib.hid hlo
    have HHi := Lib.hid hhi
    have HV := Lib.hid hv
    clear hsz hlo hhi hv
    by_cases hsh : s.size - pos < 3
    · have hshz : (s.size : Int) - (pos : Int) < 3 := by omega
      go_enter Tryz.func54, Tryz.ntmps54
      go_wp2
      go_ret2
      have hbad := HD.out
      rw [slow_bad1 _ _ _ _ _ _ _ _ (.inl (by have := HSz.out; omega))] at hbad
      exact ⟨by rw [hbad, wideV_bad]; rfl, by (repeat (first | with_reducible exact Fr.refl _ _ | with_reducible assumption | with_reducible refine Fr.alloc ?_ _ | with_reducible refine Fr.drew ?_ | with_reducible refine Fr.drewN ?_ _ | with_reducible refine Fr.setCell ?_ (by simp; try omega) _))⟩
    · have hshz : ¬ (s.size : Int) - (pos : Int) < 3 := by omega
      go_enter Tryz.func54, Tryz.ntmps54
      go_wp2
      go_loopw [8, 9, 10, 11] (fun t8 t9 t10 t11 wr => ∃ (i : Nat) (vi : Int), 1 ≤ i ∧ i ≤ sz ∧ t11 = .int .i64 (i : Int) ∧ t10 = .int .i64 vi ∧ vi = vAt v0 b1 b2 b3 i ∧ t8 = .int .i64 (loAt lo i : Nat) ∧ t9 = .int .i64 (hiAt hi i : Nat) ∧ GoodTo lo hi b1 b2 b3 i ∧ Keeps w wr) (fun _ _ _ t11 _ => 5 - (intOf t11).toNat)
      case atStart =>
        refine ⟨1, 13, by omega, by have := HSz.out; omega, rfl, rfl, ?_, ?_, ?_, ⟨fun h => by omega, fun h => by omega, fun h => by omega⟩, by (repeat (first | with_reducible exact Fr.refl _ _ | with_reducible assumption | with_reducible refine Fr.alloc ?_ _ | with_reducible refine Fr.drew ?_ | with_reducible refine Fr.drewN ?_ _ | with_reducible refine Fr.setCell ?_ (by simp; try omega) _))⟩
        · show _ = (v0 : Int)
          have := HV.out
          omega
        · have := HLo.out
          subst this; rfl
        · have := HHi.out
          subst this; rfl
      case round =>
        obtain ⟨i, vi, hi1, hi2, rfl, rfl, hvi, rfl, rfl, hg, hK⟩ := hrel
        have hvb := vAt_le HL.out hi1 hi2 hg
        rw [← hvi] at hvb
        have HVI := Lib.hid hvi
        have HG := Lib.hid hg
        have hsz4 := HSz.out
        clear hvi hg
        by_cases hlt : i < sz
        · have hiz : (i : Int) < 3 := by omega
          have hin : pos + i < s.size := by omega
          have hinz : (pos : Int) + (i : Int) < (s.size : Int) := by omega
          have hx := HX.out i hi1 (by omega) hin
          have hbl := HBl.out i
          obtain ⟨bb, hbb⟩ : ∃ bb, bAt b1 b2 b3 i = bb := ⟨_, rfl⟩
          obtain ⟨ll, hll⟩ : ∃ ll, loAt lo i = ll := ⟨_, rfl⟩
          obtain ⟨hh, hhh⟩ : ∃ hh, hiAt hi i = hh := ⟨_, rfl⟩
          rw [hbb] at hx hbl
          rewrite [hll, hhh]
          have HBB := Lib.hid hbb
          have HLL := Lib.hid hll
          have HHH := Lib.hid hhh
          clear hbb hll hhh hsz4
          by_cases hb : bb < ll ∨ hh < bb
          · have hret : Hid (WideTo s pos w (.returned (.tuple #[.int .i64 1, .int .i64 (-1)])) wr) := by
              have hbad := HD.out
              rw [bad_at hi1 hlt (by have := HSz.out; omega) (by rw [HBB.out, HLL.out, HHH.out]; exact hb)] at hbad
              exact ⟨by rw [hbad, wideV_bad]; rfl, hK⟩
            rcases hb with hb | hb
            · have hbz : (bb : Int) < (ll : Int) := by omega
              go_wp2
              go_ret2
              first | exact hret.out | exact ⟨hret.out.1, hret.out.2.drew⟩
            · have hbz : (hh : Int) < (bb : Int) := by omega
              by_cases hb2 : (bb : Int) < (ll : Int)
              · go_wp2
                go_ret2
                first | exact hret.out | exact ⟨hret.out.1, hret.out.2.drew⟩
              · go_wp2
                go_ret2
                first | exact hret.out | exact ⟨hret.out.1, hret.out.2.drew⟩
          · have hz1 : ¬ (bb : Int) < (ll : Int) := by omega
            have hz2 : ¬ (hh : Int) < (bb : Int) := by omega
            have hbp : Hid (loAt lo i ≤ bAt b1 b2 b3 i ∧ bAt b1 b2 b3 i ≤ hiAt hi i) := by
              show _ ∧ _
              rw [HBB.out, HLL.out, HHH.out]; omega
            clear hb
            go_wp2
            go_roundw
            case measure => have := HSz.out; simp [intOf]; omega
            case rel =>
              have h3 : i ≤ 3 := by have := HSz.out; omega
              refine ⟨i + 1, 64 * vi + (bb : Int) - 128, by omega, by omega, rfl, rfl, ?_, ?_, ?_, good_next hi1 h3 HG.out hbp.out, by (repeat (first | with_reducible exact Fr.refl _ _ | with_reducible assumption | with_reducible refine Fr.alloc ?_ _ | with_reducible refine Fr.drew ?_ | with_reducible refine Fr.drewN ?_ _ | with_reducible refine Fr.setCell ?_ (by simp; try omega) _))⟩
              · rw [vAt_next hi1 h3, HVI.out, HBB.out]
              · unfold loAt; rw [if_neg (by omega)]; rfl
              · unfold hiAt; rw [if_neg (by omega)]; rfl
        · have hie : i = sz := by omega
          have hiz : ¬ (i : Int) < 3 := by omega
          have hout := slow_out HL.out (s.size - pos) b1 b2 b3 (by omega) (HG.out.1 (by omega)) (fun h => HG.out.2.1 (by omega)) (fun h => HG.out.2.2 (by omega))
          rw [← HD.out] at hout
          have HO := Lib.hid hout
          have HIE := Lib.hid hie
          have HS4 := Lib.hid hsz4
          clear hout hie hsz4 hi2 hlt
          go_wp2
          go_ret2
          refine ⟨?_, by (repeat (first | with_reducible exact Fr.refl _ _ | with_reducible assumption | with_reducible refine Fr.alloc ?_ _ | with_reducible refine Fr.drew ?_ | with_reducible refine Fr.drewN ?_ _ | with_reducible refine Fr.setCell ?_ (by simp; try omega) _))⟩
          rw [HO.out.1, HO.out.2, HVI.out, HIE.out, HS4.out]; rfl
  · -- F0
    subst a
    have HSz := Lib.hid hsz
    have HLo := Lib.hid hlo
    have HHi := Lib.hid hhi
    have HV := Lib.hid hv
    clear hsz hlo hhi hv
    by_cases hsh : s.size - pos < 4
    · have hshz : (s.size : Int) - (pos : Int) < 4 := by omega
      go_enter Tryz.func54, Tryz.ntmps54
      go_wp2
      go_ret2
      have hbad := HD.out
      rw [slow_bad1 _ _ _ _ _ _ _ _ (.inl (by have := HSz.out; omega))] at hbad
      exact ⟨by rw [hbad, wideV_bad]; rfl, by (repeat (first | with_reducible exact Fr.refl _ _ | with_reducible assumption | with_reducible refine Fr.alloc ?_ _ | with_reducible refine Fr.drew ?_ | with_reducible refine Fr.drewN ?_ _ | with_reducible refine Fr.setCell ?_ (by simp; try omega) _))⟩
    · have hshz : ¬ (s.size : Int) - (pos : Int) < 4 := by omega
      go_enter Tryz.func54, Tryz.ntmps54
      go_wp2
      go_loopw [8, 9, 10, 11] (fun t8 t9 t10 t11 wr => ∃ (i : Nat) (vi : Int), 1 ≤ i ∧ i ≤ sz ∧ t11 = .int .i64 (i : Int) ∧ t10 = .int .i64 vi ∧ vi = vAt v0 b1 b2 b3 i ∧ t8 = .int .i64 (loAt lo i : Nat) ∧ t9 = .int .i64 (hiAt hi i : Nat) ∧ GoodTo lo hi b1 b2 b3 i ∧ Keeps w wr) (fun _ _ _ t11 _ => 5 - (intOf t11).toNat)
      case atStart =>
        refine ⟨1, 0, by omega, by have := HSz.out; omega, rfl, rfl, ?_, ?_, ?_, ⟨fun h => by omega, fun h => by omega, fun h => by omega⟩, by (repeat (first | with_reducible exact Fr.refl _ _ | with_reducible assumption | with_reducible refine Fr.alloc ?_ _ | with_reducible refine Fr.drew ?_ | with_reducible refine Fr.drewN ?_ _ | with_reducible refine Fr.setCell ?_ (by simp; try omega) _))⟩
        · show _ = (v0 : Int)
          have := HV.out
          omega
        · have := HLo.out
          subst this; rfl
        · have := HHi.out
          subst this; rfl
      case round =>
        obtain ⟨i, vi, hi1, hi2, rfl, rfl, hvi, rfl, rfl, hg, hK⟩ := hrel
        have hvb := vAt_le HL.out hi1 hi2 hg
        rw [← hvi] at hvb
        have HVI := Lib.hid hvi
        have HG := Lib.hid hg
        have hsz4 := HSz.out
        clear hvi hg
        by_cases hlt : i < sz
        · have hiz : (i : Int) < 4 := by omega
          have hin : pos + i < s.size := by omega
          have hinz : (pos : Int) + (i : Int) < (s.size : Int) := by omega
          have hx := HX.out i hi1 (by omega) hin
          have hbl := HBl.out i
          obtain ⟨bb, hbb⟩ : ∃ bb, bAt b1 b2 b3 i = bb := ⟨_, rfl⟩
          obtain ⟨ll, hll⟩ : ∃ ll, loAt lo i = ll := ⟨_, rfl⟩
          obtain ⟨hh, hhh⟩ : ∃ hh, hiAt hi i = hh := ⟨_, rfl⟩
          rw [hbb] at hx hbl
          rewrite [hll, hhh]
          have HBB := Lib.hid hbb
          have HLL := Lib.hid hll
          have HHH := Lib.hid hhh
          clear hbb hll hhh hsz4
          by_cases hb : bb < ll ∨ hh < bb
          · have hret : Hid (WideTo s pos w (.returned (.tuple #[.int .i64 1, .int .i64 (-1)])) wr) := by
              have hbad := HD.out
              rw [bad_at hi1 hlt (by have := HSz.out; omega) (by rw [HBB.out, HLL.out, HHH.out]; exact hb)] at hbad
              exact ⟨by rw [hbad, wideV_bad]; rfl, hK⟩
            rcases hb with hb | hb
            · have hbz : (bb : Int) < (ll : Int) := by omega
              go_wp2
              go_ret2
              first | exact hret.out | exact ⟨hret.out.1, hret.out.2.drew⟩
            · have hbz : (hh : Int) < (bb : Int) := by omega
              by_cases hb2 : (bb : Int) < (ll : Int)
              · go_wp2
                go_ret2
                first | exact hret.out | exact ⟨hret.out.1, hret.out.2.drew⟩
              · go_wp2
                go_ret2
                first | exact hret.out | exact ⟨hret.out.1, hret.out.2.drew⟩
          · have hz1 : ¬ (bb : Int) < (ll : Int) := by omega
            have hz2 : ¬ (hh : Int) < (bb : Int) := by omega
            have hbp : Hid (loAt lo i ≤ bAt b1 b2 b3 i ∧ bAt b1 b2 b3 i ≤ hiAt hi i) := by
              show _ ∧ _
              rw [HBB.out, HLL.out, HHH.out]; omega
            clear hb
            go_wp2
            go_roundw
            case measure => have := HSz.out; simp [intOf]; omega
            case rel =>
              have h3 : i ≤ 3 := by have := HSz.out; omega
              refine ⟨i + 1, 64 * vi + (bb : Int) - 128, by omega, by omega, rfl, rfl, ?_, ?_, ?_, good_next hi1 h3 HG.out hbp.out, by (repeat (first | with_reducible exact Fr.refl _ _ | with_reducible assumption | with_reducible refine Fr.alloc ?_ _ | with_reducible refine Fr.drew ?_ | with_reducible refine Fr.drewN ?_ _ | with_reducible refine Fr.setCell ?_ (by simp; try omega) _))⟩
              · rw [vAt_next hi1 h3, HVI.out, HBB.out]
              · unfold loAt; rw [if_neg (by omega)]; rfl
              · unfold hiAt; rw [if_neg (by omega)]; rfl
        · have hie : i = sz := by omega
          have hiz : ¬ (i : Int) < 4 := by omega
          have hout := slow_out HL.out (s.size - pos) b1 b2 b3 (by omega) (HG.out.1 (by omega)) (fun h => HG.out.2.1 (by omega)) (fun h => HG.out.2.2 (by omega))
          rw [← HD.out] at hout
          have HO := Lib.hid hout
          have HIE := Lib.hid hie
          have HS4 := Lib.hid hsz4
          clear hout hie hsz4 hi2 hlt
          go_wp2
          go_ret2
          refine ⟨?_, by (repeat (first | with_reducible exact Fr.refl _ _ | with_reducible assumption | with_reducible refine Fr.alloc ?_ _ | with_reducible refine Fr.drew ?_ | with_reducible refine Fr.drewN ?_ _ | with_reducible refine Fr.setCell ?_ (by simp; try omega) _))⟩
          rw [HO.out.1, HO.out.2, HVI.out, HIE.out, HS4.out]; rfl
  · -- F1
    have c0 : ¬ (n0 : Int) < 128 := by omega
    have c1 : (194 : Int) ≤ (n0 : Int) := by omega
    have c2 : ¬ (n0 : Int) ≤ 223 := by omega
    have c3 : (224 : Int) ≤ (n0 : Int) := by omega
    have c4 : ¬ (n0 : Int) ≤ 239 := by omega
    have c5 : (240 : Int) ≤ (n0 : Int) := by omega
    have c6 : (n0 : Int) ≤ 244 := by omega
    have c7 : ¬ (n0 : Int) = 224 := by omega
    have c8 : ¬ (n0 : Int) = 237 := by omega
    have c9 : ¬ (n0 : Int) = 240 := by omega
    have c10 : ¬ (n0 : Int) = 244 := by omega
    have HSz := Lib.hid hsz
    have HLo := Lib.hid hlo
    have HHi := Lib.hid hhi
    have HV := Lib.hid hv
    clear hsz hlo hhi hv
    by_cases hsh : s.size - pos < 4
    · have hshz : (s.size : Int) - (pos : Int) < 4 := by omega
      go_enter Tryz.func54, Tryz.ntmps54
      go_wp2
      go_ret2
      have hbad := HD.out
      rw [slow_bad1 _ _ _ _ _ _ _ _ (.inl (by have := HSz.out; omega))] at hbad
      exact ⟨by rw [hbad, wideV_bad]; rfl, by (repeat (first | with_reducible exact Fr.refl _ _ | with_reducible assumption | with_reducible refine Fr.alloc ?_ _ | with_reducible refine Fr.drew ?_ | with_reducible refine Fr.drewN ?_ _ | with_reducible refine Fr.setCell ?_ (by simp; try omega) _))⟩
    · have hshz : ¬ (s.size : Int) - (pos : Int) < 4 := by omega
      go_enter Tryz.func54, Tryz.ntmps54
      go_wp2
      go_loopw [8, 9, 10, 11] (fun t8 t9 t10 t11 wr => ∃ (i : Nat) (vi : Int), 1 ≤ i ∧ i ≤ sz ∧ t11 = .int .i64 (i : Int) ∧ t10 = .int .i64 vi ∧ vi = vAt v0 b1 b2 b3 i ∧ t8 = .int .i64 (loAt lo i : Nat) ∧ t9 = .int .i64 (hiAt hi i : Nat) ∧ GoodTo lo hi b1 b2 b3 i ∧ Keeps w wr) (fun _ _ _ t11 _ => 5 - (intOf t11).toNat)
      case atStart =>
        refine ⟨1, (n0 : Int) - 240, by omega, by have := HSz.out; omega, rfl, rfl, ?_, ?_, ?_, ⟨fun h => by omega, fun h => by omega, fun h => by omega⟩, by (repeat (first | with_reducible exact Fr.refl _ _ | with_reducible assumption | with_reducible refine Fr.alloc ?_ _ | with_reducible refine Fr.drew ?_ | with_reducible refine Fr.drewN ?_ _ | with_reducible refine Fr.setCell ?_ (by simp; try omega) _))⟩
        · show _ = (v0 : Int)
          have := HV.out
          omega
        · have := HLo.out
          subst this; rfl
        · have := HHi.out
          subst this; rfl
      case round =>
        obtain ⟨i, vi, hi1, hi2, rfl, rfl, hvi, rfl, rfl, hg, hK⟩ := hrel
        have hvb := vAt_le HL.out hi1 hi2 hg
        rw [← hvi] at hvb
        have HVI := Lib.hid hvi
        have HG := Lib.hid hg
        have hsz4 := HSz.out
        clear hvi hg
        by_cases hlt : i < sz
        · have hiz : (i : Int) < 4 := by omega
          have hin : pos + i < s.size := by omega
          have hinz : (pos : Int) + (i : Int) < (s.size : Int) := by omega
          have hx := HX.out i hi1 (by omega) hin
          have hbl := HBl.out i
          obtain ⟨bb, hbb⟩ : ∃ bb, bAt b1 b2 b3 i = bb := ⟨_, rfl⟩
          obtain ⟨ll, hll⟩ : ∃ ll, loAt lo i = ll := ⟨_, rfl⟩
          obtain ⟨hh, hhh⟩ : ∃ hh, hiAt hi i = hh := ⟨_, rfl⟩
          rw [hbb] at hx hbl
          rewrite [hll, hhh]
          have HBB := Lib.hid hbb
          have HLL := Lib.hid hll
          have HHH := Lib.hid hhh
          clear hbb hll hhh hsz4
          by_cases hb : bb < ll ∨ hh < bb
          · have hret : Hid (WideTo s pos w (.returned (.tuple #[.int .i64 1, .int .i64 (-1)])) wr) := by
              have hbad := HD.out
              rw [bad_at hi1 hlt (by have := HSz.out; omega) (by rw [HBB.out, HLL.out, HHH.out]; exact hb)] at hbad
              exact ⟨by rw [hbad, wideV_bad]; rfl, hK⟩
            rcases hb with hb | hb
            · have hbz : (bb : Int) < (ll : Int) := by omega
              go_wp2
              go_ret2
              first | exact hret.out | exact ⟨hret.out.1, hret.out.2.drew⟩
            · have hbz : (hh : Int) < (bb : Int) := by omega
              by_cases hb2 : (bb : Int) < (ll : Int)
              · go_wp2
                go_ret2
                first | exact hret.out | exact ⟨hret.out.1, hret.out.2.drew⟩
              · go_wp2
                go_ret2
                first | exact hret.out | exact ⟨hret.out.1, hret.out.2.drew⟩
          · have hz1 : ¬ (bb : Int) < (ll : Int) := by omega
            have hz2 : ¬ (hh : Int) < (bb : Int) := by omega
            have hbp : Hid (loAt lo i ≤ bAt b1 b2 b3 i ∧ bAt b1 b2 b3 i ≤ hiAt hi i) := by
              show _ ∧ _
              rw [HBB.out, HLL.out, HHH.out]; omega
            clear hb
            go_wp2
            go_roundw
            case measure => have := HSz.out; simp [intOf]; omega
            case rel =>
              have h3 : i ≤ 3 := by have := HSz.out; omega
              refine ⟨i + 1, 64 * vi + (bb : Int) - 128, by omega, by omega, rfl, rfl, ?_, ?_, ?_, good_next hi1 h3 HG.out hbp.out, by (repeat (first | with_reducible exact Fr.refl _ _ | with_reducible assumption | with_reducible refine Fr.alloc ?_ _ | with_reducible refine Fr.drew ?_ | with_reducible refine Fr.drewN ?_ _ | with_reducible refine Fr.setCell ?_ (by simp; try omega) _))⟩
              · rw [vAt_next hi1 h3, HVI.out, HBB.out]
              · unfold loAt; rw [if_neg (by omega)]; rfl
              · unfold hiAt; rw [if_neg (by omega)]; rfl
        · have hie : i = sz := by omega
          have hiz : ¬ (i : Int) < 4 := by omega
          have hout := slow_out HL.out (s.size - pos) b1 b2 b3 (by omega) (HG.out.1 (by omega)) (fun h => HG.out.2.1 (by omega)) (fun h => HG.out.2.2 (by omega))
          rw [← HD.out] at hout
          have HO := Lib.hid hout
          have HIE := Lib.hid hie
          have HS4 := Lib.hid hsz4
          clear hout hie hsz4 hi2 hlt
          go_wp2
          go_ret2
          refine ⟨?_, by (repeat (first | with_reducible exact Fr.refl _ _ | with_reducible assumption | with_reducible refine Fr.alloc ?_ _ | with_reducible refine Fr.drew ?_ | with_reducible refine Fr.drewN ?_ _ | with_reducible refine Fr.setCell ?_ (by simp; try omega) _))⟩
          rw [HO.out.1, HO.out.2, HVI.out, HIE.out, HS4.out]; rfl
  · -- F4
    subst a
    have HSz := Lib.hid hsz
    have HLo := Lib.hid hlo
    have HHi := Lib.hid hhi
    have HV := Lib.hid hv
    clear hsz hlo hhi hv
    by_cases hsh : s.size - pos < 4
    · have hshz : (s.size : Int) - (pos : Int) < 4 := by omega
      go_enter Tryz.func54, Tryz.ntmps54
      go_wp2
      go_ret2
      have hbad := HD.out
      rw [slow_bad1 _ _ _ _ _ _ _ _ (.inl (by have := HSz.out; omega))] at hbad
      exact ⟨by rw [hbad, wideV_bad]; rfl, by (repeat (first | with_reducible exact Fr.refl _ _ | with_reducible assumption | with_reducible refine Fr.alloc ?_ _ | with_reducible refine Fr.drew ?_ | with_reducible refine Fr.drewN ?_ _ | with_reducible refine Fr.setCell ?_ (by simp; try omega) _))⟩
    · have hshz : ¬ (s.size : Int) - (pos : Int) < 4 := by omega
      go_enter Tryz.func54, Tryz.ntmps54
      go_wp2
      go_loopw [8, 9, 10, 11] (fun t8 t9 t10 t11 wr => ∃ (i : Nat) (vi : Int), 1 ≤ i ∧ i ≤ sz ∧ t11 = .int .i64 (i : Int) ∧ t10 = .int .i64 vi ∧ vi = vAt v0 b1 b2 b3 i ∧ t8 = .int .i64 (loAt lo i : Nat) ∧ t9 = .int .i64 (hiAt hi i : Nat) ∧ GoodTo lo hi b1 b2 b3 i ∧ Keeps w wr) (fun _ _ _ t11 _ => 5 - (intOf t11).toNat)
      case atStart =>
        refine ⟨1, 4, by omega, by have := HSz.out; omega, rfl, rfl, ?_, ?_, ?_, ⟨fun h => by omega, fun h => by omega, fun h => by omega⟩, by (repeat (first | with_reducible exact Fr.refl _ _ | with_reducible assumption | with_reducible refine Fr.alloc ?_ _ | with_reducible refine Fr.drew ?_ | with_reducible refine Fr.drewN ?_ _ | with_reducible refine Fr.setCell ?_ (by simp; try omega) _))⟩
        · show _ = (v0 : Int)
          have := HV.out
          omega
        · have := HLo.out
          subst this; rfl
        · have := HHi.out
          subst this; rfl
      case round =>
        obtain ⟨i, vi, hi1, hi2, rfl, rfl, hvi, rfl, rfl, hg, hK⟩ := hrel
        have hvb := vAt_le HL.out hi1 hi2 hg
        rw [← hvi] at hvb
        have HVI := Lib.hid hvi
        have HG := Lib.hid hg
        have hsz4 := HSz.out
        clear hvi hg
        by_cases hlt : i < sz
        · have hiz : (i : Int) < 4 := by omega
          have hin : pos + i < s.size := by omega
          have hinz : (pos : Int) + (i : Int) < (s.size : Int) := by omega
          have hx := HX.out i hi1 (by omega) hin
          have hbl := HBl.out i
          obtain ⟨bb, hbb⟩ : ∃ bb, bAt b1 b2 b3 i = bb := ⟨_, rfl⟩
          obtain ⟨ll, hll⟩ : ∃ ll, loAt lo i = ll := ⟨_, rfl⟩
          obtain ⟨hh, hhh⟩ : ∃ hh, hiAt hi i = hh := ⟨_, rfl⟩
          rw [hbb] at hx hbl
          rewrite [hll, hhh]
          have HBB := Lib.hid hbb
          have HLL := Lib.hid hll
          have HHH := Lib.hid hhh
          clear hbb hll hhh hsz4
          by_cases hb : bb < ll ∨ hh < bb
          · have hret : Hid (WideTo s pos w (.returned (.tuple #[.int .i64 1, .int .i64 (-1)])) wr) := by
              have hbad := HD.out
              rw [bad_at hi1 hlt (by have := HSz.out; omega) (by rw [HBB.out, HLL.out, HHH.out]; exact hb)] at hbad
              exact ⟨by rw [hbad, wideV_bad]; rfl, hK⟩
            rcases hb with hb | hb
            · have hbz : (bb : Int) < (ll : Int) := by omega
              go_wp2
              go_ret2
              first | exact hret.out | exact ⟨hret.out.1, hret.out.2.drew⟩
            · have hbz : (hh : Int) < (bb : Int) := by omega
              by_cases hb2 : (bb : Int) < (ll : Int)
              · go_wp2
                go_ret2
                first | exact hret.out | exact ⟨hret.out.1, hret.out.2.drew⟩
              · go_wp2
                go_ret2
                first | exact hret.out | exact ⟨hret.out.1, hret.out.2.drew⟩
          · have hz1 : ¬ (bb : Int) < (ll : Int) := by omega
            have hz2 : ¬ (hh : Int) < (bb : Int) := by omega
            have hbp : Hid (loAt lo i ≤ bAt b1 b2 b3 i ∧ bAt b1 b2 b3 i ≤ hiAt hi i) := by
              show _ ∧ _
              rw [HBB.out, HLL.out, HHH.out]; omega
            clear hb
            go_wp2
            go_roundw
            case measure => have := HSz.out; simp [intOf]; omega
            case rel =>
              have h3 : i ≤ 3 := by have := HSz.out; omega
              refine ⟨i + 1, 64 * vi + (bb : Int) - 128, by omega, by omega, rfl, rfl, ?_, ?_, ?_, good_next hi1 h3 HG.out hbp.out, by (repeat (first | with_reducible exact Fr.refl _ _ | with_reducible assumption | with_reducible refine Fr.alloc ?_ _ | with_reducible refine Fr.drew ?_ | with_reducible refine Fr.drewN ?_ _ | with_reducible refine Fr.setCell ?_ (by simp; try omega) _))⟩
              · rw [vAt_next hi1 h3, HVI.out, HBB.out]
              · unfold loAt; rw [if_neg (by omega)]; rfl
              · unfold hiAt; rw [if_neg (by omega)]; rfl
        · have hie : i = sz := by omega
          have hiz : ¬ (i : Int) < 4 := by omega
          have hout := slow_out HL.out (s.size - pos) b1 b2 b3 (by omega) (HG.out.1 (by omega)) (fun h => HG.out.2.1 (by omega)) (fun h => HG.out.2.2 (by omega))
          rw [← HD.out] at hout
          have HO := Lib.hid hout
          have HIE := Lib.hid hie
          have HS4 := Lib.hid hsz4
          clear hout hie hsz4 hi2 hlt
          go_wp2
          go_ret2
          refine ⟨?_, by (repeat (first | with_reducible exact Fr.refl _ _ | with_reducible assumption | with_reducible refine Fr.alloc ?_ _ | with_reducible refine Fr.drew ?_ | with_reducible refine Fr.drewN ?_ _ | with_reducible refine Fr.setCell ?_ (by simp; try omega) _))⟩
          rw [HO.out.1, HO.out.2, HVI.out, HIE.out, HS4.out]; rfl
end Go.Proofs.YtjoklcjpihadiaaGreatDoor

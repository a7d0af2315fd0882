/- strings.IndexRune at three ASCII bytes and a rune that is none: -1. -/
import Derived.Test.YtjoklcjpihadiaaGreatDoorRoH
import Derived.Laws.Runes
import Derived.WalkMore
set_option linter.unusedVariables false
set_option linter.unusedSimpArgs false
set_option linter.unnecessarySimpa false
namespace Go.Proofs.YtjoklcjpihadiaaGreatDoor
open Go Go.RowKit Sluice Go.Proofs.Ro Go.Shelf

theorem decodeN_valid (n b0 b1 b2 b3 : Nat) : (Lib.decodeN n b0 b1 b2 b3).1 < 55296 ∨ 57344 ≤ (Lib.decodeN n b0 b1 b2 b3).1 := by
  unfold Lib.decodeN
  repeat' split
  all_goals simp only
  all_goals omega
/-- The bytes of a rune above 127: two to four, each above 127. -/
theorem encode_big (r : Nat) (h0 : 128 ≤ r) (h1 : r ≤ 1114111) (h2 : r < 55296 ∨ 57344 ≤ r) :
    (∃ a b : UInt8, Utf8.encode (r : Int) = ⟨#[a, b]⟩ ∧ 128 ≤ b.toNat) ∨ (∃ a b c : UInt8, Utf8.encode (r : Int) = ⟨#[a, b, c]⟩ ∧ 128 ≤ c.toNat) ∨ (∃ a b c d : UInt8, Utf8.encode (r : Int) = ⟨#[a, b, c, d]⟩ ∧ 128 ≤ d.toNat) := by
  have hv : Utf8.valid (r : Int) = true := by unfold Utf8.valid; simp; omega
  have hm : ∀ x : Nat, 128 ≤ (UInt8.ofNat (0x80 + x % 64)).toNat := fun x => by
    have := Nat.mod_lt x (show 0 < 64 by omega)
    simp only [UInt8.toNat_ofNat']
    omega
  by_cases c1 : r < 0x800
  · have e : Utf8.encode (r : Int) = ⟨#[UInt8.ofNat (0xC0 + r / 64), UInt8.ofNat (0x80 + r % 64)]⟩ := by
      unfold Utf8.encode
      simp only [hv, if_true, Int.toNat_natCast]
      rw [if_neg (by omega), if_pos c1]
    exact .inl ⟨_, _, e, hm r⟩
  · by_cases c2 : r < 0x10000
    · have e : Utf8.encode (r : Int) = ⟨#[UInt8.ofNat (0xE0 + r / 4096), UInt8.ofNat (0x80 + r / 64 % 64), UInt8.ofNat (0x80 + r % 64)]⟩ := by
        unfold Utf8.encode
        simp only [hv, if_true, Int.toNat_natCast]
        rw [if_neg (by omega), if_neg c1, if_pos c2]
      exact .inr (.inl ⟨_, _, _, e, hm r⟩)
    · have e : Utf8.encode (r : Int) = ⟨#[UInt8.ofNat (0xF0 + r / 262144), UInt8.ofNat (0x80 + r / 4096 % 64), UInt8.ofNat (0x80 + r / 64 % 64), UInt8.ofNat (0x80 + r % 64)]⟩ := by
        unfold Utf8.encode
        simp only [hv, if_true, Int.toNat_natCast]
        rw [if_neg (by omega), if_neg c1, if_neg c2]
      exact .inr (.inr ⟨_, _, _, _, e, hm r⟩)
set_option maxRecDepth 1000000 in
theorem validRune_any (r : Nat) (h1 : r ≤ 1114111) (h2 : r < 55296 ∨ 57344 ≤ r) (w : World) :
    Calls Tryz.prog 68 #[.int .i32 (r : Int)] w fun e w' => e = .returned (.bool true) ∧ Keeps w w' := by
  have g0 : (0 : Int) ≤ (r : Int) := by omega
  rcases h2 with h | h
  · have g1 : (r : Int) < 55296 := by omega
    clear h1 h
    go_enter Tryz.func68, Tryz.ntmps68
    go_wp2
    go_ret; exact ⟨rfl, by (repeat (first | with_reducible exact Fr.refl _ _ | with_reducible assumption | with_reducible refine Fr.alloc ?_ _ | with_reducible refine Fr.drew ?_ | with_reducible refine Fr.drewN ?_ _ | with_reducible refine Fr.setCell ?_ (by simp; try omega) _))⟩
  · have g1 : ¬ (r : Int) < 55296 := by omega
    have g2 : (57343 : Int) < (r : Int) := by omega
    have g3 : (r : Int) ≤ 1114111 := by omega
    clear h1 h
    go_enter Tryz.func68, Tryz.ntmps68
    go_wp2
    go_ret; exact ⟨rfl, by (repeat (first | with_reducible exact Fr.refl _ _ | with_reducible assumption | with_reducible refine Fr.alloc ?_ _ | with_reducible refine Fr.drew ?_ | with_reducible refine Fr.drewN ?_ _ | with_reducible refine Fr.setCell ?_ (by simp; try omega) _))⟩
theorem indexByte_any (s : ByteArray) (c : UInt8) (w : World) : Calls Tryz.prog 67 #[.string s, .int .u8 (c.toNat : Int)] w fun e w' => e = .returned (.int .i64 (Lib.indexByte s.data.toList c)) ∧ Keeps w w' := by
  refine (Tryz.strings_IndexByte s c.toNat w).mono ?_
  rintro e w' ⟨rfl, rfl⟩
  exact ⟨by simp, Fr.refl _ _⟩

def tnr : ByteArray := ⟨#[9, 10, 13]⟩
set_option maxHeartbeats 4000000 in
set_option maxRecDepth 1000000 in
theorem indexRune_wide (cs : ByteArray) (h3s : cs.size = 3) (x1 x2 : UInt8) (hx1 : ∀ h : 1 < cs.size, cs[1]'h = x1) (hx2 : ∀ h : 2 < cs.size, cs[2]'h = x2) (hl1 : x1.toNat < 128) (hl2 : x2.toNat < 128) (hno : ∀ k (c : UInt8), 128 ≤ c.toNat → Lib.indexByte (cs.extract k cs.size).data.toList c = -1)
    (r : Nat) (h0 : 128 ≤ r) (h1 : r ≤ 1114111) (h2 : r < 55296 ∨ 57344 ≤ r) (h3 : r ≠ 65533) (w : World) :
    Calls Tryz.prog 58 #[.string cs, .int .i32 (r : Int)] w fun e w' => e = .returned (.int .i64 (-1)) ∧ Keeps w w' := by
  have cV := Lib.hid (validRune_any r h1 h2)
  have hz0 : ¬ ((r : Int) < 128) := by omega
  have hz1 : ¬ ((r : Int) = 65533) := by omega
  have hz2 : (0 : Int) ≤ (r : Int) := by omega
  have hE := encode_big r h0 h1 h2
  obtain ⟨rs, hrs⟩ : ∃ rs, Utf8.encode (r : Int) = rs := ⟨_, rfl⟩
  rw [hrs] at hE
  clear h0 h1 h2 h3
  have hcv : ∀ w, (convert 21 9 (.int .i32 (r : Int))).run Tryz.prog w = .ok (.string rs) w := fun w => by rw [← hrs]; exact run_convert_int_string w _ _ _ _ (by rw [Tryz.underlying21]; rfl) Tryz.underlying9
  clear hrs
  have HNo := Lib.hid hno
  clear hno
  have hE2 : (∃ b : UInt8, rs.size = 2 ∧ (∀ h : 1 < rs.size, rs[1]'h = b) ∧ 128 ≤ b.toNat) ∨ (∃ b : UInt8, rs.size = 3 ∧ (∀ h : 2 < rs.size, rs[2]'h = b) ∧ 128 ≤ b.toNat) ∨ rs.size = 4 := by
    rcases hE with ⟨a, b, rfl, hb⟩ | ⟨a, b, c, rfl, hb⟩ | ⟨a, b, c, d, rfl, hb⟩
    · exact .inl ⟨b, rfl, fun _ => rfl, hb⟩
    · exact .inr (.inl ⟨c, rfl, fun _ => rfl, hb⟩)
    · exact .inr (.inr rfl)
  clear hE
  rcases hE2 with ⟨b, hs2, hrb, hb⟩ | ⟨b, hs2, hrb, hb⟩ | hs2
  · have hgt : (1 : Nat) < cs.size := by omega
    have hgt2 : (1 : Nat) < rs.size := by omega
    have hx := hx1 hgt
    have hr := hrb hgt2
    have HO := HNo.out 2 b hb
    have hne : ((x1.toNat : Int) != (b.toNat : Int)) = true := bne_iff_ne.2 (by omega)
    have cI := Lib.hid (indexByte_any (cs.extract 2 cs.size) b)
    rw [HO] at cI
    have hx3 : cs.extract 2 3 = cs.extract 2 cs.size := by rw [h3s]
    have hne2 : ¬ ((x1.toNat : Int) = (b.toNat : Int)) := by omega
    have hne3 : ((x1.toNat : Int) == (b.toNat : Int)) = false := beq_eq_false_iff_ne.2 hne2
    clear HO
    go_enter Tryz.func58, Tryz.ntmps58
    go_wp2_with (first
      | (go_at_call 68; refine (cV.out _).mono ?_; rintro e w1 ⟨rfl, hk⟩))
    go_step3
    go_wp2
    go_loopw [9] (fun t9 wr => t9 = .int .i64 1 ∧ Keeps w wr) (fun _ _ => 0)
    case atStart => exact ⟨rfl, hk⟩
    case round =>
      obtain ⟨rfl, hK⟩ := hrel
      go_wp2
      go_step3
      go_upto_region 6 with fail
      go_region
      go_upto_region 7 with fail
      go_region_with (go_at_call 67; refine (cI.out _).mono ?_; rintro e w2 ⟨rfl, hk2⟩)
      all_goals
        go_wp2
        change bodyPost Tryz.prog Tryz.f58 (fun e w' => e = .returned (.int .i64 (-1)) ∧ Keeps w w') Exit.ret _ _
        go_ret
        exact ⟨rfl, (hK.drew.drew).keeps hk2⟩
  · have hgt : (2 : Nat) < cs.size := by omega
    have hgt2 : (2 : Nat) < rs.size := by omega
    have hx := hx2 hgt
    have hr := hrb hgt2
    have HO := (rfl : Lib.indexByte ByteArray.empty.data.toList b = -1)
    have hne : ((x2.toNat : Int) != (b.toNat : Int)) = true := bne_iff_ne.2 (by omega)
    have cI := Lib.hid (indexByte_any ByteArray.empty b)
    rw [HO] at cI
    have hne2 : ¬ ((x2.toNat : Int) = (b.toNat : Int)) := by omega
    have hne3 : ((x2.toNat : Int) == (b.toNat : Int)) = false := beq_eq_false_iff_ne.2 hne2
    clear HO
    go_enter Tryz.func58, Tryz.ntmps58
    go_wp2_with (first
      | (go_at_call 68; refine (cV.out _).mono ?_; rintro e w1 ⟨rfl, hk⟩))
    go_step3
    go_wp2
    go_loopw [9] (fun t9 wr => t9 = .int .i64 2 ∧ Keeps w wr) (fun _ _ => 0)
    case atStart => exact ⟨rfl, hk⟩
    case round =>
      obtain ⟨rfl, hK⟩ := hrel
      go_wp2
      go_step3
      go_upto_region 6 with fail
      go_region
      go_upto_region 7 with fail
      go_region_with (go_at_call 67; refine (cI.out _).mono ?_; rintro e w2 ⟨rfl, hk2⟩)
      all_goals
        go_wp2
        change bodyPost Tryz.prog Tryz.f58 (fun e w' => e = .returned (.int .i64 (-1)) ∧ Keeps w w') Exit.ret _ _
        go_ret
        exact ⟨rfl, (hK.drew.drew).keeps hk2⟩
  · go_enter Tryz.func58, Tryz.ntmps58
    go_wp2_with (first
      | (go_at_call 68; refine (cV.out _).mono ?_; rintro e w1 ⟨rfl, hk⟩))
    go_step3
    go_wp2
    go_loopw [9] (fun t9 wr => t9 = .int .i64 3 ∧ Keeps w wr) (fun _ _ => 0)
    case atStart => exact ⟨rfl, hk⟩
    case round =>
      obtain ⟨rfl, hK⟩ := hrel
      go_wp2
      change bodyPost Tryz.prog Tryz.f58 (fun e w' => e = .returned (.int .i64 (-1)) ∧ Keeps w w') Exit.ret _ _
      go_ret
      exact ⟨rfl, by (repeat (first | with_reducible exact Fr.refl _ _ | with_reducible assumption | with_reducible refine Fr.alloc ?_ _ | with_reducible refine Fr.drew ?_ | with_reducible refine Fr.drewN ?_ _ | with_reducible refine Fr.setCell ?_ (by simp; try omega) _))⟩
end Go.Proofs.YtjoklcjpihadiaaGreatDoor

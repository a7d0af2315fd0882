/- The document's: the characters of a text, and whether they may stand there. -/
import Derived.Test.YtjoklcjpihadiaaGreatDoorRo5
import Derived.Test.YtjoklcjpihadiaaGreatDoorRoO
set_option linter.unusedVariables false
set_option linter.unusedSimpArgs false
set_option linter.unnecessarySimpa false
namespace Go.Proofs.YtjoklcjpihadiaaGreatDoor
open Go Go.RowKit Sluice Go.Proofs.Ro Go.Lib

set_option maxHeartbeats 4000000 in
set_option maxRecDepth 100000 in
theorem wide_any (s : ByteArray) (hs : s.size ≤ 1099511627776) (pos : Nat) (hp : pos < s.size) (w : World) :
    Calls Tryz.prog 54 #[.string s, .int .i64 (pos : Int)] w (WideTo s pos w) := by
  have hpz : (pos : Int) < (s.size : Int) := by omega
  have x0 := get_at s pos hp
  obtain ⟨n0, hn⟩ : ∃ n0, (s.get! pos).toNat = n0 := ⟨_, rfl⟩
  have hn256 : n0 < 256 := hn ▸ UInt8.toNat_lt _
  by_cases h1 : n0 < 128
  · have hd : Utf8.decode s pos = (n0, 1) := by rw [decode_at, hn, decodeN_ascii _ _ _ _ _ h1]
    have hv : wideV (n0, 1) = (n0 : Int) := by unfold wideV; rw [if_neg (by simp; omega)]
    rw [hn] at x0
    have HD := Lib.hid hd
    have HV := Lib.hid hv
    have hz : (n0 : Int) < 128 := by omega
    clear hd hv hn
    go_enter Tryz.func54, Tryz.ntmps54
    go_wp2
    go_ret2
    exact ⟨by rw [HD.out, HV.out]; rfl, by (repeat (first | with_reducible exact Fr.refl _ _ | with_reducible assumption | with_reducible refine Fr.alloc ?_ _ | with_reducible refine Fr.drew ?_ | with_reducible refine Fr.drewN ?_ _ | with_reducible refine Fr.setCell ?_ (by simp; try omega) _))⟩
  · by_cases h2 : n0 < 194 ∨ 245 ≤ n0
    · have hd : Utf8.decode s pos = (65533, 1) := by rw [decode_at, hn, decodeN_bad _ _ _ _ _ (by omega)]
      rw [hn] at x0
      have HD := Lib.hid hd
      have hz : ¬ (n0 : Int) < 128 := by omega
      clear hd hn
      rcases h2 with h2 | h2
      · have z1 : ¬ (194 : Int) ≤ (n0 : Int) := by omega
        have z2 : ¬ (224 : Int) ≤ (n0 : Int) := by omega
        have z3 : ¬ (240 : Int) ≤ (n0 : Int) := by omega
        go_enter Tryz.func54, Tryz.ntmps54
        go_wp2
        go_ret2
        exact ⟨by rw [HD.out, wideV_bad]; rfl, by (repeat (first | with_reducible exact Fr.refl _ _ | with_reducible assumption | with_reducible refine Fr.alloc ?_ _ | with_reducible refine Fr.drew ?_ | with_reducible refine Fr.drewN ?_ _ | with_reducible refine Fr.setCell ?_ (by simp; try omega) _))⟩
      · have z1 : (194 : Int) ≤ (n0 : Int) := by omega
        have z2 : (224 : Int) ≤ (n0 : Int) := by omega
        have z3 : (240 : Int) ≤ (n0 : Int) := by omega
        have z4 : ¬ (n0 : Int) ≤ 223 := by omega
        have z5 : ¬ (n0 : Int) ≤ 239 := by omega
        have z6 : ¬ (n0 : Int) ≤ 244 := by omega
        go_enter Tryz.func54, Tryz.ntmps54
        go_wp2
        go_ret2
        exact ⟨by rw [HD.out, wideV_bad]; rfl, by (repeat (first | with_reducible exact Fr.refl _ _ | with_reducible assumption | with_reducible refine Fr.alloc ?_ _ | with_reducible refine Fr.drew ?_ | with_reducible refine Fr.drewN ?_ _ | with_reducible refine Fr.setCell ?_ (by simp; try omega) _))⟩
    · have hl : ∃ sz lo hi v0, Lead n0 sz lo hi v0 := by
        unfold Lead
        by_cases c1 : n0 < 224
        · exact ⟨2, 128, 191, _, .inl ⟨by omega, c1, rfl, rfl, rfl, rfl⟩⟩
        by_cases c2 : n0 = 224
        · exact ⟨3, 160, 191, 0, .inr (.inl ⟨c2, rfl, rfl, rfl, rfl⟩)⟩
        by_cases c3 : n0 = 237
        · exact ⟨3, 128, 159, 13, .inr (.inr (.inr (.inl ⟨c3, rfl, rfl, rfl, rfl⟩)))⟩
        by_cases c4 : n0 < 240
        · exact ⟨3, 128, 191, _, .inr (.inr (.inl ⟨by omega, rfl, rfl, rfl, rfl⟩))⟩
        by_cases c5 : n0 = 240
        · exact ⟨4, 144, 191, 0, .inr (.inr (.inr (.inr (.inl ⟨c5, rfl, rfl, rfl, rfl⟩))))⟩
        by_cases c6 : n0 = 244
        · exact ⟨4, 128, 143, 4, .inr (.inr (.inr (.inr (.inr (.inr ⟨c6, rfl, rfl, rfl, rfl⟩)))))⟩
        · exact ⟨4, 128, 191, _, .inr (.inr (.inr (.inr (.inr (.inl ⟨by omega, by omega, rfl, rfl, rfl, rfl⟩)))))⟩
      obtain ⟨sz, lo, hi, v0, hl⟩ := hl
      exact wide_lead s hs pos hp n0 sz lo hi v0 hn hl w

theorem width_le (s : ByteArray) (pos : Nat) (hp : pos < s.size) : pos + (Utf8.decode s pos).2 ≤ s.size := by
  rw [decode_at]
  have : 1 ≤ s.size - pos := by omega
  generalize (s.get! pos).toNat = b0
  generalize (s.get! (pos + 1)).toNat = b1
  generalize (s.get! (pos + 2)).toNat = b2
  generalize (s.get! (pos + 3)).toNat = b3
  unfold decodeN
  repeat' split
  all_goals simp only
  all_goals omega

/-- The numbers of the characters from a place on. -/
def numsFrom (s : ByteArray) : Nat → Nat → List Int
  | 0, _ => []
  | f + 1, pos => if pos < s.size then wideV (Utf8.decode s pos) :: numsFrom s f (pos + (Utf8.decode s pos).2) else []
def goodZ (z : Int) : Bool := decide (32 ≤ z ∨ z = 9 ∨ z = 10 ∨ z = 13)
theorem good_wide (d : Nat × Nat) : goodZ (wideV d) = !(decide (d.1 = 65533 ∧ d.2 = 1) || oddR d.1) := by
  unfold wideV goodZ
  by_cases h : d.1 = 65533 ∧ d.2 = 1
  · rw [if_pos h, decide_eq_true h]; rfl
  · rw [if_neg h, decide_eq_false h, Bool.false_or, Bool.eq_iff_iff]
    unfold oddR
    simp only [decide_eq_true_eq, Bool.not_eq_true', Bool.and_eq_false_iff, decide_eq_false_iff_not, ne_eq, Decidable.not_not]
    omega
theorem nums_ok (s : ByteArray) : ∀ f pos, (numsFrom s f pos).all goodZ = okFrom s f pos
  | 0, _ => rfl
  | f + 1, pos => by
    unfold numsFrom okFrom
    split
    · rw [List.all_cons, nums_ok s f, good_wide]
      by_cases h : (Utf8.decode s pos).1 = 65533 ∧ (Utf8.decode s pos).2 = 1
      · rw [if_pos h, decide_eq_true h]; rfl
      · rw [if_neg h, decide_eq_false h]
        cases ho : oddR (Utf8.decode s pos).1
        · rw [if_neg Bool.false_ne_true]; simp
        · rw [if_pos rfl]; simp
    · rfl
end Go.Proofs.YtjoklcjpihadiaaGreatDoor

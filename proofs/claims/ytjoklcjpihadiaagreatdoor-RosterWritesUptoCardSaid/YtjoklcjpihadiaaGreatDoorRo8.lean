/- The document's: how a value is written. -/
import Derived.Test.YtjoklcjpihadiaaGreatDoorRoX
set_option linter.unusedVariables false
set_option linter.unusedSimpArgs false
set_option linter.unnecessarySimpa false
namespace Go.Proofs.YtjoklcjpihadiaaGreatDoor
open Go Go.RowKit Sluice Go.Proofs.Ro Go.Lib

theorem bl_append (a b : ByteArray) : bl (a ++ b) = bl a ++ bl b := by unfold bl; simp [ByteArray.data_append]
theorem bl_inj {a b : ByteArray} (h : bl a = bl b) : a = b := by
  apply toList_inj
  rw [Lib.toList_data, Lib.toList_data]; exact h
theorem bl_size (a : ByteArray) : a.size = (bl a).length := Lib.size_eq a
theorem bl_sub (s : ByteArray) (i : Nat) (h : i < s.size) : bl (s.extract i (i + 1)) = [(bl s).getD i 0] := by
  unfold bl
  rw [ByteArray.data_extract, Array.toList_extract]
  have e : s.data.toList.length = s.size := (Lib.size_eq s).symm
  rw [List.getD_eq_getElem?_getD, List.getElem?_eq_getElem (by omega)]
  rw [List.extract_eq_take_drop, Nat.add_sub_cancel_left, List.drop_eq_getElem_cons (by omega)]
  rfl
theorem any_take {l : List UInt8} {i : Nat} (h : i < l.length) : (l.take (i + 1)).any ctl = ((l.take i).any ctl || ctl (l.getD i 0)) := by
  rw [take_succ_getD h, List.any_append]; simp

/-- What is told of the first and last bytes. -/
def endsOk (l : List UInt8) : Bool := decide (l.head? ≠ some 32) && decide (l.getLast? ≠ some 32) && decide (l.head? ≠ some 34)
theorem plain_ends {l : List UInt8} (h : l ≠ []) : plainL l = (endsOk l && !l.any ctl) := by
  unfold plainL endsOk
  have : l.isEmpty = false := by cases l with | nil => exact absurd rfl h | cons _ _ => rfl
  rw [this]
  cases l.any ctl <;> cases decide (l.head? ≠ some 32) <;> cases decide (l.getLast? ≠ some 32) <;> cases decide (l.head? ≠ some 34) <;> rfl
theorem ends_nat (s : ByteArray) (h0 : 0 < s.size) (h1 : s.size - 1 < s.size) : endsOk (bl s) = (decide ((s[0]'h0).toNat ≠ 32) && decide ((s[s.size - 1]'h1).toNat ≠ 32) && decide ((s[0]'h0).toNat ≠ 34)) := by
  have e1 : (bl s).head? = some (s[0]'h0) := by rw [List.head?_eq_getElem?]; exact Lib.data_getElem? s 0 h0
  have e2 : (bl s).getLast? = some (s[s.size - 1]'h1) := by
    rw [List.getLast?_eq_getElem?, ← bl_size]; exact Lib.data_getElem? s _ h1
  unfold endsOk
  rw [e1, e2]
  have k : ∀ (c : UInt8) (n : Nat) (d : UInt8), d.toNat = n → decide (some c ≠ some d) = decide (c.toNat ≠ n) := by
    intro c n d hd
    rw [Bool.eq_iff_iff]
    simp only [decide_eq_true_eq, ne_eq, Option.some.injEq]
    constructor
    · intro h h2; exact h (UInt8.toNat_inj.1 (h2.trans hd.symm))
    · intro h h2; exact h (by rw [h2, hd])
  rw [k _ 32 32 rfl, k _ 32 32 rfl, k _ 34 34 rfl]

set_option maxHeartbeats 8000000 in
set_option maxRecDepth 100000 in
theorem written7_any (s : ByteArray) (hs : s.size ≤ 1048576) (w : World) :
    Calls Tryz.prog 22 #[.string s] w fun r w' => r = .returned (.string ⟨(writtenL (bl s)).toArray⟩) ∧ w' = w := by
  by_cases h0 : 0 < s.size
  · have h1 : s.size - 1 < s.size := by omega
    have hne : bl s ≠ [] := fun h => by
      have e1 : (bl s).length = 0 := by rw [h]; rfl
      have e2 := bl_size s
      omega
    have hen := ends_nat s h0 h1
    obtain ⟨a, ha⟩ : ∃ a, (s[0]'h0).toNat = a := ⟨_, rfl⟩
    obtain ⟨z, hz⟩ : ∃ z, (s[s.size - 1]'h1).toNat = z := ⟨_, rfl⟩
    rw [ha, hz] at hen
    have HW : Hid (writtenL (bl s) = if (endsOk (bl s) && !(bl s).any ctl) then bl s else quoteL (bl s)) := by
      show _ = _
      unfold writtenL; rw [plain_ends hne]
    have h0z : (0 : Int) < (s.size : Int) := by omega
    have hlz : (s.size : Int) - 1 < (s.size : Int) := by omega
    have hge : (0 : Int) ≤ (s.size : Int) - 1 := by omega
    have HE := Lib.hid hen
    clear hen hne
    go_enter Tryz.func22, Tryz.ntmps22
    go_wp2
    all_goals
      go_loopw [4, 5, 6] (fun t4 t5 t6 wr => ∃ (i : Nat) (q : ByteArray) (pb : Bool), i ≤ s.size ∧ t6 = .int .i64 (i : Int) ∧ t5 = .string q ∧ t4 = .bool pb ∧ pb = (endsOk (bl s) && !((bl s).take i).any ctl) ∧ bl q = 34 :: outL ((bl s).take i) ∧ q.size ≤ 2 * i + 1 ∧ wr = w) (fun _ _ t6 _ => s.size - (intOf t6).toNat)
      case atStart =>
        refine ⟨0, ⟨#[34]⟩, _, by omega, rfl, rfl, rfl, ?_, rfl, by show 1 ≤ _; omega, by first | rfl | trivial⟩
        rw [HE.out, Bool.eq_iff_iff]
        simp
        try omega
      case round =>
        obtain ⟨i, q, pb, hi, rfl, rfl, rfl, hpb, hbq, hqz, rfl⟩ := hrel
        have HPB := Lib.hid hpb
        have HBQ := Lib.hid hbq
        have hblz := bl_size s
        clear hpb hbq
        by_cases hlt : i < s.size
        · have hiz : (i : Int) < (s.size : Int) := by omega
          have hot := outL_take (l := bl s) (i := i) (by omega)
          have han := any_take (l := bl s) (i := i) (by omega)
          have hgd := get_bl s i hlt
          have hsub := bl_sub s i hlt
          obtain ⟨c, hcc⟩ : ∃ c, (bl s).getD i 0 = c := ⟨_, rfl⟩
          rw [hcc] at hot han hgd hsub
          have HSub := Lib.hid hsub
          obtain ⟨n, hn⟩ : ∃ n : Nat, c.toNat = n := ⟨_, rfl⟩
          have hx : (s[i]'hlt).toNat = n := by rw [← hgd, hn]
          have hqq : q.size ≤ 3000000 := by omega
          clear hcc hsub hblz
          have hcl : n = 9 ∨ n = 10 ∨ n = 13 ∨ n = 34 ∨ n = 92 ∨ (n ≠ 9 ∧ n ≠ 10 ∧ n ≠ 13 ∧ n ≠ 34 ∧ n ≠ 92) := by omega
          rcases hcl with rfl | rfl | rfl | rfl | rfl | hdef
          · obtain rfl : c = 9 := UInt8.toNat_inj.1 (by rw [hn]; rfl)
            have hes : escB 9 = [92, 116] := by decide
            rw [hes] at hot
            have HOT := Lib.hid hot
            have HAN := Lib.hid han
            clear hot han hgd hn
            go_wp2
            go_roundw
            case measure => simp [intOf]; omega
            case rel => exact ⟨i + 1, q ++ ⟨#[92, 116]⟩, false, by omega, rfl, rfl, rfl, (by rw [HAN.out]; simp [show ctl 9 = true from rfl]), by rw [bl_append, HBQ.out, HOT.out]; rfl, by rw [ByteArray.size_append]; show q.size + 2 ≤ _; omega, by first | rfl | trivial⟩
          · obtain rfl : c = 10 := UInt8.toNat_inj.1 (by rw [hn]; rfl)
            have hes : escB 10 = [92, 110] := by decide
            rw [hes] at hot
            have HOT := Lib.hid hot
            have HAN := Lib.hid han
            clear hot han hgd hn
            go_wp2
            go_roundw
            case measure => simp [intOf]; omega
            case rel => exact ⟨i + 1, q ++ ⟨#[92, 110]⟩, false, by omega, rfl, rfl, rfl, (by rw [HAN.out]; simp [show ctl 10 = true from rfl]), by rw [bl_append, HBQ.out, HOT.out]; rfl, by rw [ByteArray.size_append]; show q.size + 2 ≤ _; omega, by first | rfl | trivial⟩
          · obtain rfl : c = 13 := UInt8.toNat_inj.1 (by rw [hn]; rfl)
            have hes : escB 13 = [92, 114] := by decide
            rw [hes] at hot
            have HOT := Lib.hid hot
            have HAN := Lib.hid han
            clear hot han hgd hn
            go_wp2
            go_roundw
            case measure => simp [intOf]; omega
            case rel => exact ⟨i + 1, q ++ ⟨#[92, 114]⟩, false, by omega, rfl, rfl, rfl, (by rw [HAN.out]; simp [show ctl 13 = true from rfl]), by rw [bl_append, HBQ.out, HOT.out]; rfl, by rw [ByteArray.size_append]; show q.size + 2 ≤ _; omega, by first | rfl | trivial⟩
          · obtain rfl : c = 34 := UInt8.toNat_inj.1 (by rw [hn]; rfl)
            have hes : escB 34 = [92, 34] := by decide
            rw [hes] at hot
            have HOT := Lib.hid hot
            have HAN := Lib.hid han
            clear hot han hgd hn
            go_wp2
            go_roundw
            case measure => simp [intOf]; omega
            case rel => exact ⟨i + 1, q ++ ⟨#[92, 34]⟩, pb, by omega, rfl, rfl, rfl, (by rw [HPB.out, HAN.out]; simp [show ctl 34 = false from rfl]), by rw [bl_append, HBQ.out, HOT.out]; rfl, by rw [ByteArray.size_append]; show q.size + 2 ≤ _; omega, by first | rfl | trivial⟩
          · obtain rfl : c = 92 := UInt8.toNat_inj.1 (by rw [hn]; rfl)
            have hes : escB 92 = [92, 92] := by decide
            rw [hes] at hot
            have HOT := Lib.hid hot
            have HAN := Lib.hid han
            clear hot han hgd hn
            go_wp2
            go_roundw
            case measure => simp [intOf]; omega
            case rel => exact ⟨i + 1, q ++ ⟨#[92, 92]⟩, pb, by omega, rfl, rfl, rfl, (by rw [HPB.out, HAN.out]; simp [show ctl 92 = false from rfl]), by rw [bl_append, HBQ.out, HOT.out]; rfl, by rw [ByteArray.size_append]; show q.size + 2 ≤ _; omega, by first | rfl | trivial⟩
          · have hesc : special c = false := by
              unfold special
              simp only [Bool.or_eq_false_iff, beq_eq_false_iff_ne, ne_eq]
              refine ⟨⟨⟨⟨?_, ?_⟩, ?_⟩, ?_⟩, ?_⟩ <;> (rintro rfl; revert hn; simp; omega)
            have hctl : ctl c = false := by
              unfold ctl
              simp only [Bool.or_eq_false_iff, beq_eq_false_iff_ne, ne_eq]
              refine ⟨⟨?_, ?_⟩, ?_⟩ <;> (rintro rfl; revert hn; simp; omega)
            rw [(special_iff c).1 hesc] at hot
            rw [hctl, Bool.or_false] at han
            have HOT := Lib.hid hot
            have HAN := Lib.hid han
            have z1 : ¬ (n : Int) = 9 := by omega
            have z2 : ¬ (n : Int) = 10 := by omega
            have z3 : ¬ (n : Int) = 13 := by omega
            have z4 : ¬ (n : Int) = 34 := by omega
            have z5 : ¬ (n : Int) = 92 := by omega
            have hiz2 : (i : Int) + 1 ≤ (s.size : Int) := by omega
            have hsz1 : (s.extract i (i + 1)).size = 1 := by rw [bl_size, HSub.out]; rfl
            clear hot han hgd hn hdef hesc hctl
            go_wp2
            go_roundw
            case measure => simp [intOf]; omega
            case rel => exact ⟨i + 1, q ++ s.extract i (i + 1), pb, by omega, rfl, rfl, rfl, by rw [HPB.out, HAN.out], by rw [bl_append, HBQ.out, HOT.out, HSub.out]; rfl, by rw [ByteArray.size_append, hsz1]; omega, by first | rfl | trivial⟩
        · have hie : i = s.size := by omega
          have hiz : ¬ (i : Int) < (s.size : Int) := by omega
          have htk : (bl s).take i = bl s := by rw [hie, hblz, List.take_length]
          have hpb := HPB.out
          have hbq := HBQ.out
          rw [htk] at hpb hbq
          have hqq : q.size ≤ 3000000 := by omega
          have HPB2 := Lib.hid hpb
          have HBQ2 := Lib.hid hbq
          clear hpb hbq htk hblz
          cases hpv : pb
          · go_wp2
            go_ret
            refine ⟨?_, rfl⟩
            have e1 : writtenL (bl s) = quoteL (bl s) := by rw [HW.out, ← HPB2.out, hpv]; rfl
            have e2 : (q ++ ⟨#[34]⟩ : ByteArray) = ⟨(quoteL (bl s)).toArray⟩ := by
              apply bl_inj
              rw [bl_append, HBQ2.out]; rfl
            rw [e1, ← e2]; rfl
          · go_wp2
            go_ret
            refine ⟨?_, rfl⟩
            have e1 : writtenL (bl s) = bl s := by rw [HW.out, ← HPB2.out, hpv]; rfl
            rw [e1, back_bl]; rfl
  · have hnil : bl s = [] := List.length_eq_zero_iff.1 (by rw [← bl_size]; omega)
    have h0z : ¬ (0 : Int) < (s.size : Int) := by omega
    have hsz : s.size = 0 := by omega
    have HW : Hid (writtenL (bl s) = [34, 34]) := by rw [hnil]; rfl
    clear hnil
    go_enter Tryz.func22, Tryz.ntmps22
    go_wp2
    go_loopw [4, 5, 6] (fun t4 t5 t6 wr => t6 = .int .i64 0 ∧ t5 = .string ⟨#[34]⟩ ∧ t4 = .bool false ∧ wr = w) (fun _ _ _ _ => 0)
    case atStart => exact ⟨rfl, rfl, rfl, by first | rfl | trivial⟩
    case round =>
      obtain ⟨rfl, rfl, rfl, rfl⟩ := hrel
      go_wp2
      go_ret
      exact ⟨by rw [HW.out]; rfl, rfl⟩
end Go.Proofs.YtjoklcjpihadiaaGreatDoor

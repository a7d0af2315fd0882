/- How a value is written: the program's answer. -/
import Derived.Test.YtjoklcjpihadiaaGreatDoorRoU
import Derived.Test.YtjoklcjpihadiaaGreatDoorRoW
set_option linter.unusedVariables false
set_option linter.unusedSimpArgs false
set_option linter.unnecessarySimpa false
namespace Go.Proofs.YtjoklcjpihadiaaGreatDoor
open Go Go.RowKit Sluice Go.Proofs.Ro Go.Shelf

set_option maxHeartbeats 1000000 in
theorem containsAny_any (s : ByteArray) (hs : s.size ≤ 1048576) (w : World) :
    Calls Tryz.prog 29 #[.string s, .string ⟨#[9, 10, 13]⟩] w fun e w' => e = .returned (.bool ((bl s).any ctl)) ∧ Keeps w w' := by
  have cI := Lib.hid (indexAny_any s hs)
  generalize (bl s).any ctl = A at cI
  go_enter Tryz.func29, Tryz.ntmps29
  go_wp2_with (go_at_call 43; refine (cI.out _).mono ?_; rintro e w1 ⟨⟨z, rfl, hz⟩, hk⟩)
  go_ret
  exact ⟨congrArg Ending.returned (by first | rfl | exact congrArg Value.bool hz), hk⟩
theorem trim_any (s : ByteArray) (hs : s.size ≤ 1048576) (w : World) :
    Calls Tryz.prog 30 #[.string s, .string ⟨#[32]⟩] w fun e w' => e = .returned (.string ⟨(Lib.trimB (bl s) 32).toArray⟩) ∧ Keeps w w' := by
  refine (Tryz.strings_Trim_one s 32 (by decide) w (by omega)).mono ?_
  rintro e w' ⟨rfl, h⟩
  refine ⟨rfl, ?_⟩
  rcases h with rfl | rfl
  · exact Fr.refl _ _
  · exact Fr.drew (Fr.refl _ _)

theorem trim_test (s : ByteArray) : ((⟨(Lib.trimB (bl s) 32).toArray⟩ : ByteArray).toList == s.toList) = (decide (bl s = []) || (decide ((bl s).head? ≠ some 32) && decide ((bl s).getLast? ≠ some 32))) := by
  rw [Lib.toList_data, Lib.toList_data, Bool.eq_iff_iff]
  have h := trimB_same (bl s)
  simp only [beq_iff_eq, Bool.or_eq_true, Bool.and_eq_true, decide_eq_true_eq]
  exact h
theorem quote_eq (l : List UInt8) : (⟨#[34]⟩ : ByteArray) ++ ⟨(outL l).toArray⟩ ++ ⟨#[34]⟩ = ⟨(quoteL l).toArray⟩ := by
  apply toList_inj
  rw [Lib.toList_data, Lib.toList_data]
  simp [ByteArray.data_append, quoteL, outL]

def ten : Array Value := #[.string ⟨#[92]⟩, .string ⟨#[92, 92]⟩, .string ⟨#[34]⟩, .string ⟨#[92, 34]⟩, .string ⟨#[10]⟩, .string ⟨#[92, 110]⟩, .string ⟨#[9]⟩, .string ⟨#[92, 116]⟩, .string ⟨#[13]⟩, .string ⟨#[92, 114]⟩]
theorem ten_at {w : World} {g0 : Nat} (h : Blk w g0 ten 9) (i : Nat) (s : ByteArray) (hi : oldnew[i]? = some s) : w.cell? ⟨g0, i, none⟩ = some (.string s) := by
  rw [h.cell]
  have e : ten = (oldnew.map Value.string).toArray := rfl
  rw [e]
  simp only [List.getElem?_toArray, List.getElem?_map, hi]; rfl

theorem back_bl (s : ByteArray) : (⟨(bl s).toArray⟩ : ByteArray) = s := by cases s; simp [bl]
theorem plain_cases (s : ByteArray) (TT : Bool) (hT : TT = (decide (bl s = []) || (decide ((bl s).head? ≠ some 32) && decide ((bl s).getLast? ≠ some 32)))) :
    (s.toList.isEmpty = true ∧ plainL (bl s) = false) ∨ (0 < s.size ∧ s.toList.isEmpty = false ∧
      (((bl s).any ctl = true ∧ plainL (bl s) = false) ∨ ((bl s).any ctl = false ∧
        ((TT = false ∧ plainL (bl s) = false) ∨ (TT = true ∧ ∃ h : 0 < s.size, (((s[0]'h).toNat = 34 ∧ plainL (bl s) = false) ∨ ((s[0]'h).toNat ≠ 34 ∧ plainL (bl s) = true))))))) := by
  by_cases h0 : 0 < s.size
  · right
    have hne : bl s ≠ [] := fun h => by
      have h1 := Lib.size_eq s
      have h2 : s.data.toList.length = 0 := by rw [show s.data.toList = [] from h]; rfl
      omega
    have hem : s.toList.isEmpty = false := by rw [Lib.toList_data]; cases hh : s.data.toList with | nil => exact absurd hh hne | cons _ _ => rfl
    have hie : (bl s).isEmpty = false := by rw [Lib.toList_data] at hem; exact hem
    refine ⟨h0, hem, ?_⟩
    cases hA : (bl s).any ctl
    · right
      refine ⟨rfl, ?_⟩
      rw [decide_eq_false hne, Bool.false_or] at hT
      cases hTT : TT
      · left
        refine ⟨rfl, ?_⟩
        unfold plainL
        rw [hTT] at hT
        rw [hie, hA]
        simp only [Bool.not_false, Bool.true_and]
        rw [← hT]; rfl
      · right
        refine ⟨rfl, h0, ?_⟩
        rw [hTT] at hT
        have hg := get_bl s 0 h0
        have hhd : (bl s).head? = some (s[0]'h0) := by
          rw [List.head?_eq_getElem?]
          exact Lib.data_getElem? s 0 h0
        have hpl : plainL (bl s) = decide ((bl s).head? ≠ some 34) := by
          unfold plainL
          rw [hie, hA]
          simp only [Bool.not_false, Bool.true_and]
          rw [← hT]; rfl
        rw [hpl, hhd]
        by_cases h34 : (s[0]'h0).toNat = 34
        · left
          have : s[0]'h0 = 34 := UInt8.toNat_inj.1 (by rw [h34]; rfl)
          rw [this]
          exact ⟨rfl, by decide⟩
        · right
          refine ⟨h34, decide_eq_true fun e => ?_⟩
          have := Option.some.inj e
          rw [this] at h34
          exact h34 rfl
    · left
      refine ⟨rfl, ?_⟩
      unfold plainL
      rw [hie, hA]; rfl
  · left
    have hnil : s.data.toList = [] := List.length_eq_zero_iff.1 (by rw [← Lib.size_eq]; omega)
    refine ⟨by rw [Lib.toList_data, hnil]; rfl, ?_⟩
    unfold plainL bl
    rw [hnil]; rfl

set_option maxHeartbeats 4000000 in
set_option maxRecDepth 100000 in
theorem written_any (s : ByteArray) (hs : s.size ≤ 1048576) (w : World) :
    Calls Tryz.prog 15 #[.string s] w fun e w' => e = .returned (.string ⟨(writtenL (bl s)).toArray⟩) ∧ Keeps w w' := by
  have cA := Lib.hid (containsAny_any s hs)
  have cT := Lib.hid (trim_any s hs)
  have hT := trim_test s
  have hlen : (bl s).length = s.size := (Lib.size_eq s).symm
  have hol : (outL (bl s)).length ≤ 2097152 := by rw [outL_length, hlen]; have := cnt_le (bl s); omega
  have hos : (⟨(outL (bl s)).toArray⟩ : ByteArray).size = (outL (bl s)).length := by simp [ByteArray.size]
  have HQ := Lib.hid (quote_eq (bl s))
  have HB := Lib.hid (back_bl s)
  have HW : Hid (writtenL (bl s) = if plainL (bl s) then bl s else quoteL (bl s)) := rfl
  obtain ⟨TT, hTT⟩ : ∃ TT, ((⟨(Lib.trimB (bl s) 32).toArray⟩ : ByteArray).toList == s.toList) = TT := ⟨_, rfl⟩
  rw [hTT] at hT
  have hpc := plain_cases s TT hT
  have cN := Lib.hid newReplacer_any
  have HSz := Lib.hid hs
  generalize (⟨(Lib.trimB (bl s) 32).toArray⟩ : ByteArray) = ts at cT hTT
  generalize (bl s).any ctl = A at cA hpc
  generalize plainL (bl s) = PL at HW hpc
  generalize quoteL (bl s) = QL at HW HQ
  obtain ⟨os, hos2⟩ : ∃ os : ByteArray, (⟨(outL (bl s)).toArray⟩ : ByteArray) = os := ⟨_, rfl⟩
  rw [hos2] at hos HQ
  have hosz : os.size ≤ 2097152 := by omega
  have cR : Hid (∀ (R g cap : Nat) (w : World), Blk w R (replA 0 (.slice (some ⟨g, 0, none⟩) 10 cap) .nilIface 0 0) 101 → (∀ i s, oldnew[i]? = some s → w.cell? ⟨g, i, none⟩ = some (.string s)) → g ≠ R →
      Calls Tryz.prog 32 #[.pointer (some ⟨R, 0, none⟩), .string s] w fun e w' => e = .returned (.string os) ∧ Fr (fun k => k = R) w w') := by
    intro R g cap w h1 h2 h3
    rw [← hos2]
    exact replacer_any R g cap s hs w h1 h2 h3
  clear hT hs hos hol hos2
  rcases hpc with ⟨hem, rfl⟩ | ⟨h0, hem, ⟨rfl, rfl⟩ | ⟨rfl, ⟨rfl, rfl⟩ | ⟨rfl, h0', ⟨h34, rfl⟩ | ⟨h34, rfl⟩⟩⟩⟩
  case inr.inr.inr.inr =>
    obtain ⟨n, hn⟩ : ∃ n, (s[0]'h0').toNat = n := ⟨_, rfl⟩
    rw [hn] at h34
    have h34z : ((n : Int) != 34) = true := bne_iff_ne.2 (by omega)
    have h34y : ¬ ((n : Int) = 34) := by omega
    go_enter Tryz.func15, Tryz.ntmps15
    go_wp2_with (first
      | (go_at_call 29; refine (cA.out _).mono ?_; rintro e w1 ⟨rfl, hk1⟩)
      | (go_at_call 30; refine (cT.out _).mono ?_; rintro e w2 ⟨rfl, hk2⟩)
      | ((go_at_call 31); (refine (cN.out _ _ (ten_at (Blk.new _ _ _))).mono ?_); (rintro e w3 ⟨R, g, cap, rfl, hb3, hg3, hgR, hwR, hk3⟩); (have hB3 := Lib.hid hb3); (have hG3 := Lib.hid hg3); (clear hb3 hg3))
      | ((go_at_call 32); (refine (cR.out R g cap _ hB3.out hG3.out hgR).mono ?_); (rintro e w4 ⟨rfl, hf4⟩)))
    go_ret
    have ew : writtenL (bl s) = bl s := HW.out
    exact ⟨by rw [ew, HB.out]; rfl, hk1.keeps hk2⟩
  case inl =>
    go_enter Tryz.func15, Tryz.ntmps15
    go_wp2_with (first
      | (go_at_call 29; refine (cA.out _).mono ?_; rintro e w1 ⟨rfl, hk1⟩)
      | (go_at_call 30; refine (cT.out _).mono ?_; rintro e w2 ⟨rfl, hk2⟩)
      | ((go_at_call 31); (refine (cN.out _ _ (ten_at (Blk.new _ _ _))).mono ?_); (rintro e w3 ⟨R, g, cap, rfl, hb3, hg3, hgR, hwR, hk3⟩); (have hB3 := Lib.hid hb3); (have hG3 := Lib.hid hg3); (clear hb3 hg3))
      | ((go_at_call 32); (refine (cR.out R g cap _ hB3.out hG3.out hgR).mono ?_); (rintro e w4 ⟨rfl, hf4⟩)))
    go_ret
    have ew : writtenL (bl s) = QL := HW.out
    have hk4 : Keeps w w4 := Fr.trans ((Fr.alloc (Fr.refl _ w) _).keeps hk3) hf4 (fun i hi h => by have := hwR; simp at this; omega)
    exact ⟨by rw [ew, ← HQ.out]; rfl, hk4⟩
  case inr.inl =>
    go_enter Tryz.func15, Tryz.ntmps15
    go_wp2_with (first
      | (go_at_call 29; refine (cA.out _).mono ?_; rintro e w1 ⟨rfl, hk1⟩)
      | (go_at_call 30; refine (cT.out _).mono ?_; rintro e w2 ⟨rfl, hk2⟩)
      | ((go_at_call 31); (refine (cN.out _ _ (ten_at (Blk.new _ _ _))).mono ?_); (rintro e w3 ⟨R, g, cap, rfl, hb3, hg3, hgR, hwR, hk3⟩); (have hB3 := Lib.hid hb3); (have hG3 := Lib.hid hg3); (clear hb3 hg3))
      | ((go_at_call 32); (refine (cR.out R g cap _ hB3.out hG3.out hgR).mono ?_); (rintro e w4 ⟨rfl, hf4⟩)))
    go_ret
    have ew : writtenL (bl s) = QL := HW.out
    have hk4 : Keeps w w4 := Fr.trans ((Fr.alloc hk1 _).keeps hk3) hf4 (fun i hi h => by have := hk1.size; have := hwR; simp at this; omega)
    exact ⟨by rw [ew, ← HQ.out]; rfl, hk4⟩
  case inr.inr.inl =>
    go_enter Tryz.func15, Tryz.ntmps15
    go_wp2_with (first
      | (go_at_call 29; refine (cA.out _).mono ?_; rintro e w1 ⟨rfl, hk1⟩)
      | (go_at_call 30; refine (cT.out _).mono ?_; rintro e w2 ⟨rfl, hk2⟩)
      | ((go_at_call 31); (refine (cN.out _ _ (ten_at (Blk.new _ _ _))).mono ?_); (rintro e w3 ⟨R, g, cap, rfl, hb3, hg3, hgR, hwR, hk3⟩); (have hB3 := Lib.hid hb3); (have hG3 := Lib.hid hg3); (clear hb3 hg3))
      | ((go_at_call 32); (refine (cR.out R g cap _ hB3.out hG3.out hgR).mono ?_); (rintro e w4 ⟨rfl, hf4⟩)))
    go_ret
    have ew : writtenL (bl s) = QL := HW.out
    have hk4 : Keeps w w4 := Fr.trans ((Fr.alloc (hk1.keeps hk2) _).keeps hk3) hf4 (fun i hi h => by have := hk1.size; have := hk2.size; have := hwR; simp at this; omega)
    exact ⟨by rw [ew, ← HQ.out]; rfl, hk4⟩
  case inr.inr.inr.inl =>
    obtain ⟨n, hn⟩ : ∃ n, (s[0]'h0').toNat = n := ⟨_, rfl⟩
    rw [hn] at h34
    subst h34
    go_enter Tryz.func15, Tryz.ntmps15
    go_wp2_with (first
      | (go_at_call 29; refine (cA.out _).mono ?_; rintro e w1 ⟨rfl, hk1⟩)
      | (go_at_call 30; refine (cT.out _).mono ?_; rintro e w2 ⟨rfl, hk2⟩)
      | ((go_at_call 31); (refine (cN.out _ _ (ten_at (Blk.new _ _ _))).mono ?_); (rintro e w3 ⟨R, g, cap, rfl, hb3, hg3, hgR, hwR, hk3⟩); (have hB3 := Lib.hid hb3); (have hG3 := Lib.hid hg3); (clear hb3 hg3))
      | ((go_at_call 32); (refine (cR.out R g cap _ hB3.out hG3.out hgR).mono ?_); (rintro e w4 ⟨rfl, hf4⟩)))
    go_ret
    have ew : writtenL (bl s) = QL := HW.out
    have hk4 : Keeps w w4 := Fr.trans ((Fr.alloc (hk1.keeps hk2) _).keeps hk3) hf4 (fun i hi h => by have := hk1.size; have := hk2.size; have := hwR; simp at this; omega)
    exact ⟨by rw [ew, ← HQ.out]; rfl, hk4⟩
end Go.Proofs.YtjoklcjpihadiaaGreatDoor

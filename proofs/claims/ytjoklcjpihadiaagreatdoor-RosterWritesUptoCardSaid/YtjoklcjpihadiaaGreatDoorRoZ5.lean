/- untouched; the law RosterWrites. -/
import Derived.Test.YtjoklcjpihadiaaGreatDoorRoZ4
import Derived.Test.YtjoklcjpihadiaaGreatDoorRo9
set_option linter.unusedVariables false
set_option linter.unusedSimpArgs false
set_option linter.unnecessarySimpa false
namespace Go.Proofs.YtjoklcjpihadiaaGreatDoor
open Go Go.RowKit Sluice Go.Proofs.Ro Go.Lib

set_option maxHeartbeats 8000000 in
set_option maxRecDepth 100000 in
theorem untouched_any (ss : List Sec) (t v : Value) (w0 : World) (ht : Twin w0 t ss) (hm : SecsAt w0 v ss) (hn : ss.length ≤ 1048575) (hsz : ∀ x ∈ ss, x.2.length ≤ 1048575) :
    Calls Tryz.prog 9 #[t, v] w0 fun r w' => r = .returned (.bool true) ∧ Keeps w0 w' := by
  have cS := Lib.hid (same_any ss t v w0 ht.secs hm (by omega) (fun x hx => by have := hsz x hx; omega))
  obtain ⟨g, cap, rfl, hcap, hall, hlast⟩ := ht
  obtain ⟨base, capv, rfl, -, -⟩ := hm
  have HC := Lib.hid hall
  have HZ := Lib.hid hsz
  have hcz : (ss.length : Int) + 1 ≤ (cap : Int) := by omega
  have q1 := ent_neq_same ⟨#[109, 97, 114, 107]⟩ ⟨#[98, 101, 104, 105, 110, 100]⟩
  have q2 := ent_guard
  clear hall hsz
  go_enter Tryz.func9, Tryz.ntmps9
  go_wp2_with (go_at_call 23; refine cS.out.mono ?_; rintro e w1 ⟨rfl, n1, hw1⟩; have hk1 : Keeps w0 w1 := (by rw [hw1]; exact Fr.drewN (Fr.refl _ _) _); have hlast1 := cell_of_keeps hk1 hlast; clear hw1)
  go_loopw [6, 7, 8] (fun t6 t7 t8 wr => ∃ (k : Nat), k ≤ ss.length ∧ t6 = .int .i64 (k : Int) ∧ Keeps w0 wr) (fun t6 _ _ _ => ss.length - (intOf t6).toNat)
  case atStart => exact ⟨0, by omega, rfl, hk1⟩
  case round =>
    obtain ⟨k, hk, rfl, hK⟩ := hrel
    by_cases hlt : k < ss.length
    · have hkz : (k : Int) < (ss.length : Int) := by omega
      obtain ⟨x, hx⟩ : ∃ x, ss[k]? = some x := ⟨_, List.getElem?_eq_getElem hlt⟩
      obtain ⟨ev, ge, e0, e1, hM⟩ := HC.out k x hx
      have hxl := HZ.out x (List.mem_of_getElem? hx)
      rw [Nat.zero_add] at e1
      have e1 := cell_of_keeps hK e1
      obtain ⟨ec, rfl, hec, m0, m1⟩ := hM.mark
      have m0 := cell_of_keeps hK m0
      have m1 := cell_of_keeps hK m1
      have hez : (x.2.length : Int) + 1 ≤ (ec : Int) := by omega
      clear hx hM e0
      go_wp2
      go_roundw
      case measure => simp [intOf]; omega
      case rel => exact ⟨k + 1, by omega, by go_num, hK⟩
    · have hkz : ¬ ((k : Int) < (ss.length : Int)) := by omega
      go_wp2
      go_ret
      exact ⟨rfl, hK⟩

set_option maxHeartbeats 8000000 in
set_option maxRecDepth 100000 in
theorem rosterWrites_walk (ss : List Sec) (v : Value) (w0 : World) (hm : SecsAt w0 v ss) (hn : ss.length ≤ 1099511627776) (hT : Tabs w0) (hsz : ∀ x ∈ ss, x.1.size ≤ 1099511627776 ∧ x.2.length ≤ 1099511627776 ∧ ∀ y ∈ x.2, y.1.size ≤ 1099511627776 ∧ y.2.size ≤ 1099511627776) :
    Calls Tryz.prog 3 #[v] w0 fun r w' => r = .returned (.bool true) ∧ Keeps w0 w' := by
  have cV := Lib.hid (vast_any ss v w0 hm hn (fun x hx => (hsz x hx).2.1))
  by_cases hv : 100000 < spread ss
  · rw [decide_eq_true hv] at cV
    clear hv hm hsz hT
    go_enter Tryz.func3, Tryz.ntmps3
    go_wp2_with (go_at_call 4; refine cV.out.mono ?_; rintro e w1 ⟨rfl, rfl⟩)
    go_ret
    exact ⟨rfl, Fr.refl _ _⟩
  · rw [decide_eq_false hv] at cV
    have hl : ss.length ≤ 1048575 := by have := spread_length ss; omega
    have hle : ∀ x ∈ ss, x.2.length ≤ 1048575 := fun x hx => by have := spread_mem hx; omega
    have cT := Lib.hid (twin_any ss v w0 hm hl hle)
    have cP := Lib.hid (fun (w : World) (t : Value) (hk : Keeps w0 w) (h : Twin w t ss) => print_any ss t w h.secs (by omega) (hT.kept hk) hsz)
    have cQ := Lib.hid (fun (w : World) (hk : Keeps w0 w) => print7_any ss v w (hm.keeps hk) (by omega) hsz)
    have cU := Lib.hid (fun (w : World) (t : Value) (hk : Keeps w0 w) (h : Twin w t ss) => untouched_any ss t v w h (hm.keeps hk) hl hle)
    have cW := Lib.hid (fun (w : World) (t : Value) (hk : Keeps w0 w) (h : Twin w t ss) => rvalid_any ss t w h.secs (by omega) (hT.kept hk) hsz)
    unfold Printed at cP cQ
    generalize hp : printL ss = p at cP cQ cW
    obtain ⟨e, l⟩ := p
    obtain ⟨tx, htx⟩ : ∃ tx : ByteArray, (⟨l.toArray⟩ : ByteArray) = tx := ⟨_, rfl⟩
    have cN := Lib.hid (num_any e)
    dsimp only at cP cQ cW
    have he0 : decide (e = 0) = ((e : Int) == 0) := by rw [Bool.eq_iff_iff]; simp
    rw [he0] at cW
    clear he0
    rw [htx] at cP cQ
    clear hp htx hm hsz hT hle hv
    go_enter Tryz.func3, Tryz.ntmps3
    go_wp2_with (first
      | (go_at_call 4; refine cV.out.mono ?_; rintro e w1 ⟨rfl, rfl⟩)
      | (go_at_call 5; refine cT.out.mono ?_; rintro e w2 ⟨⟨t, rfl, hT2⟩, hk2⟩; have HT2 := Lib.hid hT2; clear hT2)
      | (go_at_call 6; refine (cP.out _ t hk2 HT2.out).mono ?_; rintro e w3 ⟨rfl, hk3⟩; have k3 := hk2.keeps hk3; have HT3 := Lib.hid (HT2.out.keeps hk3); clear HT2 hk2 hk3)
      | (go_at_call 7; refine (cQ.out _ k3).mono ?_; rintro e w4 ⟨rfl, hk4⟩; have k4 := k3.keeps hk4; have HT4 := Lib.hid (HT3.out.keeps hk4); clear HT3 k3 hk4)
      | (go_at_call 8; refine (cN.out _).mono ?_; rintro e w5 ⟨rfl, rfl⟩)
      | (go_at_call 9; refine (cU.out _ t k4 HT4.out).mono ?_; rintro e w6 ⟨rfl, hk6⟩; have k6 := k4.keeps hk6; have HT6 := Lib.hid (HT4.out.keeps hk6); clear HT4 k4 hk6)
      | (go_at_call 10; refine (cW.out _ t k6 HT6.out).mono ?_; rintro e w7 ⟨rfl, hk7⟩; have k7 := k6.keeps hk7; have HT7 := Lib.hid (HT6.out.keeps hk7); clear HT6 k6 hk7)
      | (go_at_call 9; refine (cU.out _ t k7 HT7.out).mono ?_; rintro e w8 ⟨rfl, hk8⟩; have k8 := k7.keeps hk8; clear HT7 hk8))
    all_goals
      go_ret
      exact ⟨rfl, k8⟩
end Go.Proofs.YtjoklcjpihadiaaGreatDoor

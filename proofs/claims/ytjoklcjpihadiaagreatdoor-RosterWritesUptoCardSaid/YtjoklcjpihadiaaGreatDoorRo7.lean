/- The document's: Chars and holds. -/
import Derived.Test.YtjoklcjpihadiaaGreatDoorRo6
set_option linter.unusedVariables false
set_option linter.unusedSimpArgs false
set_option linter.unnecessarySimpa false
namespace Go.Proofs.YtjoklcjpihadiaaGreatDoor
open Go Go.RowKit Sluice Go.Proofs.Ro Go.Lib

theorem info_char : (Tryz.prog.info? 66).map (fun i => (i.zero, i.size, i.bytes)) = some (some (.agg #[.int .i64 0, .string .empty]), 2, 24) := by kernel_rfl
/-- A row of characters with these numbers. -/
def CharsAt (w : World) (v : Value) (L : List Int) : Prop := ∃ xs, Row w 66 2 v L.length xs ∧ ∀ j z, L[j]? = some z → xs[j * 2]? = some (.int .i64 z)
theorem chars_add {w : World} {v : Value} {L : List Int} (h : CharsAt w v L) (z : Int) (t : ByteArray) (hn : L.length ≤ 1099511627776) (b : Nat) (hx : Blk w b #[.int .i64 z, .string t] 66) :
    ∃ v' w', (Builtin.append_ #[63, 63] 63 #[v, .slice (some ⟨b, 0, none⟩) 1 1]).run Tryz.prog w = .ok v' w' ∧ CharsAt w' v' (L ++ [z]) ∧ Fr (fun k => v.ownBlock = some k) w w' ∧
      ∀ k, v'.ownBlock = some k → v.ownBlock = some k ∨ w.heap.size ≤ k := by
  obtain ⟨xs, hr, hxs⟩ := h
  obtain ⟨v', w', hrun, hrow, hgrow, hnew⟩ := run_append_row (P := Tryz.prog) w 63 63 66 (.agg #[.int .i64 0, .string .empty]) 2 24 Tryz.underlying63 info_char rfl (by omega)
    v L.length xs hr ⟨b, 0, none⟩ 1 1 [.int .i64 z, .string t] rfl
    (by intro j u hj
        have hadd : (⟨b, 0, none⟩ : Addr).add j = ⟨b, j, none⟩ := by unfold Addr.add; split <;> simp_all
        rw [hadd, hx.cell]; simpa using hj)
    (by simp [Value.oneCell']) (by unfold maxLen; omega) (by omega)
  refine ⟨v', w', hrun, ⟨xs ++ [.int .i64 z, .string t], by rw [List.length_append, List.length_singleton]; exact hrow, fun j y hj => ?_⟩, (Fr.refl _ w).grown hgrow (fun k hk _ => hk), hnew⟩
  have hlen : xs.length = L.length * 2 := hr.1
  rcases Nat.lt_or_ge j L.length with h1 | h1
  · rw [List.getElem?_append_left h1] at hj
    rw [List.getElem?_append_left (by omega)]
    exact hxs j y hj
  · have hj2 := (List.getElem?_eq_some_iff.1 hj).1
    rw [List.length_append, List.length_singleton] at hj2
    have : j = L.length := by omega
    subst this
    rw [List.getElem?_append_right (Nat.le_refl _), Nat.sub_self] at hj
    cases hj
    rw [List.getElem?_append_right (by omega), hlen, Nat.sub_self]; rfl
theorem CharsAt.kept {w w' : World} {v : Value} {L : List Int} (h : CharsAt w v L) {S : Nat → Prop} (hf : Fr S w w') (hn : ∀ k, v.ownBlock = some k → ¬ S k) : CharsAt w' v L := by
  obtain ⟨xs, hr, hxs⟩ := h
  exact ⟨xs, row_kept hr hf hn, hxs⟩
theorem nums_len (s : ByteArray) : ∀ f pos, (numsFrom s f pos).length ≤ f
  | 0, _ => Nat.le_refl _
  | f + 1, pos => by
    unfold numsFrom
    split
    · rw [List.length_cons]; have := nums_len s f (pos + (Utf8.decode s pos).2); omega
    · exact Nat.zero_le _

set_option maxHeartbeats 4000000 in
set_option maxRecDepth 100000 in
theorem chars_any (s : ByteArray) (hs : s.size ≤ 1099511627776) (w : World) :
    Calls Tryz.prog 35 #[.string s] w fun r w' => ∃ v, r = .returned v ∧ CharsAt w' v (numsFrom s s.size 0) ∧ Keeps w w' := by
  have hlen := nums_len s s.size 0
  go_enter Tryz.func35, Tryz.ntmps35
  go_wp2
  go_loopw [3, 4] (fun t3 t4 wr => ∃ (pos f : Nat) (L : List Int) (vb : Option Addr) (vn vc : Nat), t4 = .int .i64 (pos : Int) ∧ t3 = .slice vb vn vc ∧ pos ≤ s.size ∧ s.size ≤ pos + f ∧ L ++ numsFrom s f pos = numsFrom s s.size 0 ∧ CharsAt wr (.slice vb vn vc) L ∧ (∀ k, Value.ownBlock (.slice vb vn vc) = some k → w.heap.size ≤ k) ∧ Keeps w wr) (fun _ t4 _ => s.size - (intOf t4).toNat)
  case atStart => exact ⟨0, s.size, [], none, 0, 0, rfl, rfl, by omega, by omega, rfl, ⟨[], ⟨rfl, .inl ⟨rfl, rfl⟩⟩, fun j z h => by simp at h⟩, (fun k h => by cases h), Fr.refl _ _⟩
  case round =>
    obtain ⟨pos, f, L, vb, vn, vc, rfl, rfl, hp, hf, hL, hC, hown, hK⟩ := hrel
    by_cases hlt : pos < s.size
    · have hlz : (pos : Int) < (s.size : Int) := by omega
      obtain ⟨f', rfl⟩ : ∃ f', f = f' + 1 := ⟨f - 1, by omega⟩
      have hnf : numsFrom s (f' + 1) pos = wideV (Utf8.decode s pos) :: numsFrom s f' (pos + (Utf8.decode s pos).2) := by rw [numsFrom, if_pos hlt]
      have hwl := width_le s pos hlt
      have hwp := Lib.width_pos s pos
      have cW := Lib.hid (wide_any s hs pos hlt)
      have hLl : L.length ≤ s.size := by have := congrArg List.length hL; rw [List.length_append] at this; omega
      unfold WideTo at cW
      rw [hnf] at hL
      generalize (Utf8.decode s pos).2 = n at cW hL hwl hwp
      generalize wideV (Utf8.decode s pos) = z at cW hL
      have HL := Lib.hid hL
      have HC := Lib.hid hC
      have HOwn := Lib.hid hown
      have hlz2 : (pos : Int) + (n : Int) ≤ (s.size : Int) := by omega
      clear hL hC hown hnf hlen
      go_wp2_with (first
        | ((go_at_call 54); (refine (cW.out _).mono ?_); (rintro e w1 ⟨rfl, hk1⟩); (obtain ⟨v', w3, hap, hC3, hF3, hv'⟩ := chars_add (w := w1.alloc (.cells #[.int .i64 z, .string (s.extract pos (pos + n))] 66)) (HC.out.kept (hk1.keeps (Fr.alloc (Fr.refl _ w1) _)) (fun k _ h => h)) z _ (by omega) w1.heap.size (Blk.new _ _ _)); (obtain ⟨vb', vn', vc', hvs⟩ : ∃ a b c, v' = .slice a b c := by obtain ⟨xs, hr, -⟩ := hC3; obtain ⟨a, c, h⟩ := row_slice hr; exact ⟨a, _, c, h⟩); (subst hvs); (have HAp := Lib.hid hap); (have HC3 := Lib.hid hC3); (have HF3 := Lib.hid hF3); (have HV3 := Lib.hid hv'); (clear hap hC3 hF3 hv'))
        | ((at_builtin); (refine wpList_append_run rfl _ _ 63 rfl _ _ _ w3 rfl rfl HAp.out ?_)))
      go_roundw
      case measure => simp [intOf]; omega
      case rel =>
        have k2 : Keeps w (w1.alloc (.cells #[.int .i64 z, .string (s.extract pos (pos + n))] 66)) := (hK.keeps hk1).alloc _
        refine ⟨pos + n, f', L ++ [z], vb', vn', vc', rfl, rfl, hwl, by omega, by rw [List.append_assoc]; exact HL.out, HC3.out, fun k h => ?_, Fr.trans k2 HF3.out (fun i hi h => by have := HOwn.out i h; omega)⟩
        rcases HV3.out k h with h1 | h1
        · exact HOwn.out k h1
        · have := k2.size; omega
    · have hlz : ¬ (pos : Int) < (s.size : Int) := by omega
      have hnil : numsFrom s f pos = [] := by cases f with | zero => rfl | succ f => rw [numsFrom, if_neg hlt]
      rw [hnil, List.append_nil] at hL
      have HL := Lib.hid hL
      have HC := Lib.hid hC
      clear hL hC hnil hown hlen
      go_wp2
      go_ret
      exact ⟨_, rfl, by rw [← HL.out]; exact HC.out, hK⟩

set_option maxHeartbeats 4000000 in
set_option maxRecDepth 100000 in
theorem holds7_any (s : ByteArray) (hs : s.size ≤ 1099511627776) (w : World) :
    Calls Tryz.prog 21 #[.string s] w fun r w' => r = .returned (.bool (okV s)) ∧ Keeps w w' := by
  have hnl := nums_len s s.size 0
  have hok : okV s = (numsFrom s s.size 0).all goodZ := (nums_ok s s.size 0).symm
  have cC := Lib.hid (chars_any s hs)
  generalize numsFrom s s.size 0 = L at cC hok hnl
  have HOK := Lib.hid hok
  clear hok
  go_enter Tryz.func21, Tryz.ntmps21
  go_wp2_with ((go_at_call 35); (refine (cC.out _).mono ?_); (rintro e w1 ⟨v, rfl, hC, hk1⟩); (obtain ⟨xs, hr, hxs⟩ := hC); (obtain ⟨vb, vc, rfl⟩ := row_slice hr); (have HR := Lib.hid hr); (have HXS := Lib.hid hxs); (clear hr hxs))
  go_loopw [4] (fun t4 wr => ∃ k : Nat, k ≤ L.length ∧ t4 = .int .i64 (k : Int) ∧ (∀ j z, j < k → L[j]? = some z → goodZ z = true) ∧ Keeps w1 wr) (fun t4 _ => L.length - (intOf t4).toNat)
  case atStart => exact ⟨0, by omega, rfl, fun j z h => by omega, Fr.refl _ _⟩
  case round =>
    obtain ⟨k, hk, rfl, hg, hK⟩ := hrel
    have HG := Lib.hid hg
    clear hg
    by_cases hlt : k < L.length
    · obtain ⟨z, hz⟩ : ∃ z, L[k]? = some z := ⟨_, List.getElem?_eq_getElem hlt⟩
      have hlz : (k : Int) < (L.length : Int) := by omega
      rcases HR.out.2 with ⟨-, h⟩ | ⟨g, cap, cur, hv, hb, h5, h6, h7, h8⟩
      · omega
      · cases hv
        have hx := HXS.out k z hz
        have hkx : k * 2 < L.length * 2 := by omega
        have hcell : w1.cell? ⟨g, k * 2, none⟩ = some (.int .i64 z) := by
          rw [hb.cell, ← Array.getElem?_toList]
          have e : cur.toList[k * 2]? = (cur.toList.take (L.length * 2))[k * 2]? := by rw [List.getElem?_take_of_lt hkx]
          rw [e, h8]; exact hx
        have hcw := cell_of_keeps hK hcell
        have cG := Lib.hid (good7_any z)
        have HZ := Lib.hid hz
        clear hb h8 hx hcell hz
        cases hgz : goodZ z
        · have hgz2 : decide (32 ≤ z ∨ z = 9 ∨ z = 10 ∨ z = 13) = false := hgz
          rw [hgz2] at cG
          clear hgz2
          go_wp2_with (go_at_call 36; refine (cG.out _).mono ?_; rintro e w2 ⟨rfl, hk2⟩)
          go_ret
          refine ⟨ret_bool ?_, (hk1.keeps hK).keeps hk2⟩
          rw [HOK.out]
          symm
          rw [Bool.eq_false_iff]
          intro hall
          have := List.all_eq_true.1 hall z (List.mem_of_getElem? HZ.out)
          rw [hgz] at this; cases this
        · have hgz2 : decide (32 ≤ z ∨ z = 9 ∨ z = 10 ∨ z = 13) = true := hgz
          rw [hgz2] at cG
          clear hgz2
          go_wp2_with (go_at_call 36; refine (cG.out _).mono ?_; rintro e w2 ⟨rfl, hk2⟩)
          go_roundw
          case measure => simp [intOf]; omega
          case rel =>
            refine ⟨k + 1, by omega, rfl, fun j y hj hy => ?_, hK.keeps hk2⟩
            rcases Nat.lt_or_ge j k with h1 | h1
            · exact HG.out j y h1 hy
            · have : j = k := by omega
              subst this
              rw [HZ.out] at hy
              cases hy
              exact hgz
    · have hlz : ¬ (k : Int) < (L.length : Int) := by omega
      go_wp2
      go_ret
      refine ⟨ret_bool ?_, hk1.keeps hK⟩
      rw [HOK.out]
      symm
      rw [List.all_eq_true]
      intro z hz
      obtain ⟨j, hj⟩ := List.getElem?_of_mem hz
      exact HG.out j z (by have := (List.getElem?_eq_some_iff.1 hj).1; omega) hj
end Go.Proofs.YtjoklcjpihadiaaGreatDoor

/- Whether a text is a name: the program's answer, the document's. -/
import Derived.Test.YtjoklcjpihadiaaGreatDoorRo1
import Derived.Laws.RangeString
import Derived.Lib.OthersKept
import Derived.Lib.IndexBytes
import Derived.Shelf.GgClosure.StringsIndexFunc
import Derived.Deep.LoopGhost
set_option linter.unusedVariables false
set_option linter.unusedSimpArgs false
set_option linter.unnecessarySimpa false
namespace Go.Proofs.YtjoklcjpihadiaaGreatDoor
open Go Go.RowKit Sluice Go.Proofs.Ro Go.Lib

theorem get_bl (s : ByteArray) (i : Nat) (h : i < s.size) : (bl s).getD i 0 = s[i]'h := by
  have h1 := Lib.data_getElem? s i h
  rw [bl, List.getD_eq_getElem?_getD, h1]; rfl
theorem nameB_ge (i n : Nat) (h : nameB i n = true) : n < 128 := by
  refine Nat.lt_of_not_le fun hc => ?_
  rw [nameB_big hc] at h
  cases h

/-- The rune of 'for i, c := range s' at a byte that is none of a name's: it is none of a name's. -/
theorem decode_name (s : ByteArray) (i : Nat) (h : i < s.size) : (nameB i ((bl s).getD i 0).toNat = true ∧ Utf8.decode s i = (((bl s).getD i 0).toNat, 1)) ∨ nameB i (Utf8.decode s i).1 = false ∧ nameB i ((bl s).getD i 0).toNat = false := by
  rw [get_bl s i h]
  by_cases ha : (s[i]'h).toNat < 128
  · rw [decode_ascii s i h ha]
    cases hb : nameB i (s[i]'h).toNat
    · exact .inr ⟨rfl, rfl⟩
    · exact .inl ⟨rfl, rfl⟩
  · refine .inr ⟨?_, nameB_big (by omega)⟩
    apply nameB_big
    rw [decode_at]
    have e : s.get! i = s[i]'h := by rw [← Lib.getD_get!', ← get_bl s i h]; rfl
    rw [e]
    unfold decodeN
    repeat' split
    all_goals simp only
    all_goals omega

theorem iter_keeps {w w1 : World} (h : Keeps w w1) {k : Nat} {s : ByteArray} {pos : Nat} (hk : w.heap[k]? = some (.stringIter s pos)) : w1.heap[k]? = some (.stringIter s pos) :=
  (h.block k (Array.getElem?_eq_some_iff.1 hk).1 (fun x => x)).trans hk

theorem named_bad {l : List UInt8} {pos n R K : Nat} (H1 : nameB pos n = true ∧ (R, K) = (n, 1) ∨ nameB pos R = false ∧ nameB pos n = false) (H3 : nameB pos n = false → nameUpto l l.length = false) (h : nameB pos R = false) : isNameL l = false := by
  rcases H1 with ⟨h1, h2⟩ | ⟨-, h2⟩
  · rw [Prod.mk.injEq] at h2
    rw [h2.1, h1] at h; cases h
  · unfold isNameL; rw [H3 h2, Bool.and_false]
theorem named_good {l : List UInt8} {pos n R K : Nat} (H1 : nameB pos n = true ∧ (R, K) = (n, 1) ∨ nameB pos R = false ∧ nameB pos n = false) (H2 : nameUpto l (pos + 1) = (nameUpto l pos && nameB pos n)) (hup : nameUpto l pos = true) (h : nameB pos R = true) : K = 1 ∧ nameUpto l (pos + 1) = true := by
  rcases H1 with ⟨h1, h2⟩ | ⟨h2, -⟩
  · rw [Prod.mk.injEq] at h2
    exact ⟨h2.2, by rw [H2, hup, h1]; rfl⟩
  · rw [h2] at h; cases h
theorem named_size {l : List UInt8} (h : nameUpto l l.length = true) : isNameL l = (decide (1 ≤ l.length) && decide (l.length ≤ 32)) := by unfold isNameL; rw [h, Bool.and_true]

set_option maxHeartbeats 4000000 in
set_option maxRecDepth 100000 in
theorem named_any (s : ByteArray) (w : World) : Calls Tryz.prog 24 #[.string s] w fun r w' => r = .returned (.bool (isNameL (bl s))) ∧ Keeps w w' := by
  have hlen : (bl s).length = s.size := (Lib.size_eq s).symm
  go_enter Tryz.func24, Tryz.ntmps24
  go_wp2
  go_loopg [] s.size (fun gf wx => ∃ pos : Nat, wx.heap[w.heap.size]? = some (.stringIter s pos) ∧ Keeps w wx ∧ nameUpto (bl s) pos = true ∧ s.size = pos + gf)
  case atStart => exact ⟨0, World.iter_heap w s 0, Fr.alloc (Fr.refl _ w) _, rfl, by omega⟩
  case round =>
    obtain ⟨pos, hit, hbw, hup, hfu⟩ := hrel
    by_cases hps : pos < s.size
    · obtain ⟨g', rfl⟩ : ∃ g', gk = g' + 1 := ⟨gk - 1, by omega⟩
      have hnx : ∀ ty, (Instr.next (.pointer (some ⟨w.heap.size, 0, none⟩)) true ty).run Tryz.prog wr = _ := fun ty => Lib.run_next_any_at wr w.heap.size s pos ty hit hps
      have hdn := decode_name s pos hps
      have hsu := nameUpto_succ (bl s) pos
      have hfa := nameUpto_false (bl s) pos (by omega)
      generalize ((bl s).getD pos 0).toNat = n at hdn hsu hfa
      obtain ⟨R, hR⟩ : ∃ R, (Utf8.decode s pos).1 = R := ⟨_, rfl⟩
      obtain ⟨K, hK⟩ : ∃ K, (Utf8.decode s pos).2 = K := ⟨_, rfl⟩
      have hpair : Utf8.decode s pos = (R, K) := by rw [← hR, ← hK]
      rw [hR, hK] at hnx
      rw [hpair] at hdn
      have hit2 := Lib.iterAt_heap wr w.heap.size s pos (pos + K) hit
      have hbw2 : Keeps w (wr.iterAt w.heap.size s (pos + K)) := Keeps.ofBelow (Lib.below_iterAt hbw.below (k := w.heap.size) (Nat.le_refl _) s (pos + K))
      obtain ⟨W, hWd⟩ : ∃ W, wr.iterAt w.heap.size s (pos + K) = W := ⟨_, rfl⟩
      rw [hWd] at hnx hit2 hbw2
      clear hWd hit hbw hpair hR hK
      have HN : Hid (nameB pos R = (goesN R && !(decide (65 ≤ R) && decide (R ≤ 90)) && (decide (pos ≠ 0) || beginsN R))) := rfl
      have cF := Lib.hid (first_any R)
      have cG := Lib.hid (further_any R)
      generalize beginsN R = bB at HN cF
      generalize goesN R = bG at HN cG
      have hp0 : pos = 0 ∨ 0 < pos := by omega
      have H1 := Lib.hid hdn
      have H2 := Lib.hid hsu
      have H3 := Lib.hid hfa
      clear hdn hsu hfa
      go_wp2_with (first
        | (go_at_call 38; refine (cF.out _).mono ?_; rintro r w1 ⟨rfl, hk1⟩)
        | (go_at_call 39; refine (cG.out _).mono ?_; rintro r w2 ⟨rfl, hk2⟩))
      all_goals first
        | (go_ret
           have hb : nameB pos R = false := by
             rw [HN.out]
             simp only [Bool.and_eq_false_iff, Bool.or_eq_false_iff, Bool.not_eq_false', Bool.and_eq_true, decide_eq_true_eq, decide_eq_false_iff_not, *, reduceCtorEq, false_or, or_false, true_and, and_true, not_true_eq_false, not_false_eq_true, true_or, or_true, false_and, and_false, ne_eq]
             try omega
           refine ⟨ret_bool (named_bad H1.out H3.out hb).symm, ?_⟩
           first | exact (hbw2.keeps hk1).keeps hk2 | exact hbw2.keeps hk2 | exact hbw2.keeps hk1)
        | (have hb : nameB pos R = true := by
             rw [HN.out]
             simp only [Bool.and_eq_true, Bool.or_eq_true, Bool.not_eq_true', Bool.and_eq_false_iff, decide_eq_true_eq, decide_eq_false_iff_not, *, reduceCtorEq, false_or, or_false, true_and, and_true, not_true_eq_false, not_false_eq_true, true_or, or_true, false_and, and_false, ne_eq]
             try omega
           obtain ⟨rfl, hu⟩ := named_good H1.out H2.out hup hb
           go_roundg g'
           case measure => omega
           case rel =>
             refine ⟨pos + 1, ?_, ?_, hu, by omega⟩
             · first | exact iter_keeps hk2 (iter_keeps hk1 hit2) | exact iter_keeps hk2 hit2
             · first | exact (hbw2.keeps hk1).keeps hk2 | exact hbw2.keeps hk2)
    · have hpe : pos = s.size := by omega
      subst hpe
      have hnx : ∀ ty, (Instr.next (.pointer (some ⟨w.heap.size, 0, none⟩)) true ty).run Tryz.prog wr = _ := fun ty => Lib.run_next_end_at wr w.heap.size s s.size ty hit hps
      have hL := named_size (l := bl s) (by rw [hlen]; exact hup)
      rw [hlen] at hL
      have HL := Lib.hid hL
      clear hL hfu hps hup hit
      go_wp2
      all_goals
        go_ret
        rw [HL.out]
        refine ⟨ret_b ?_, by first | exact hbw | exact hbw.drew⟩
        simp only [Bool.and_eq_true, decide_eq_true_eq, reduceCtorEq, false_iff, true_iff]
        omega
end Go.Proofs.YtjoklcjpihadiaaGreatDoor

/- Readers: All, and what it ranges over. -/
import Derived.Test.YtcefockebphbaaaDoorGL
import Derived.Test.YtcefockebphbaaaDoorRF
import Derived.OwnWalkIn
import Derived.TacticsInMore
import Derived.LoopNIn
import Derived.LoopIn
import Derived.Shelf.RegionOpen
set_option linter.unusedVariables false
set_option linter.unusedSimpArgs false
set_option linter.unnecessarySimpa false
namespace Go.Proofs.YtcefockebphbaaaDoor
open Go Go.RowKit Sluice
attribute [local go_sem] Oper.semAt_some

set_option maxHeartbeats 4000000 in
set_option maxRecDepth 100000 in
theorem all_any (rb : Nat) (w : World) : Calls Tryd.prog 21 #[.pointer (some ⟨rb, 0, none⟩)] w fun r w' => r = .returned (.func (.func 48) #[] #[.pointer (some ⟨w.heap.size, 0, none⟩)]) ∧ w' = w.alloc (.cells #[.pointer (some ⟨rb, 0, none⟩)] 42) := by
  go_enter Tryd.func21, Tryd.ntmps21
  go_wp2
  go_ret
  exact ⟨rfl, rfl⟩

set_option maxHeartbeats 8000000 in
set_option maxRecDepth 100000 in
/-- I: a Reader that has told so many; J: the next one told; E: none is left; X: the loop has been left. -/
theorem all1_any (l ab rb : Nat) (xs : List (List UInt8)) (hN : xs.length ≤ 1099511627776) (I J : Nat → World → Prop) (E X : World → Prop)
    (hbox : ∀ i W, I i W → Blk W ab #[.pointer (some ⟨rb, 0, none⟩)] 42)
    (hbox2 : ∀ i W, J i W → Blk W ab #[.pointer (some ⟨rb, 0, none⟩)] 42)
    (htold : ∀ i W, I i W → W.cell? ⟨rb, 18, none⟩ = some (.int .i64 (i : Int)))
    (htold2 : ∀ i W, J i W → W.cell? ⟨rb, 18, none⟩ = some (.int .i64 ((i : Int) + 1)) ∧ W.frozen? ⟨rb, 18, none⟩ = false)
    (hle : ∀ i W, I i W → i ≤ xs.length)
    (hend : ∀ i W, xs[i]? = none → I i W → Calls Tryd.prog 42 #[.pointer (some ⟨rb, 0, none⟩)] W fun r W' => r = .returned (.tuple #[.string ⟨#[]⟩, .bool false]) ∧ E W')
    (hnext : ∀ i x W, xs[i]? = some x → I i W → Calls Tryd.prog 42 #[.pointer (some ⟨rb, 0, none⟩)] W fun r W' => r = .returned (.tuple #[.string (strB x), .bool true]) ∧ J i W')
    (hround : ∀ i x W, xs[i]? = some x → J i W → YieldAt Fence.wide 8 Tryd.prog l #[.int .i64 (i : Int), .string (strB x)] W fun e W' => (e = .returned (.bool true) ∧ I (i + 1) W') ∨ (e = .returned (.bool false) ∧ X W'))
    (i0 : Nat) (W : World) (h0 : I i0 W) :
    Calls Tryd.prog 48 #[.func (.yield l) #[] #[], .pointer (some ⟨ab, 0, none⟩)] W fun e W' => (∃ v, e = .returned v) ∧ (E W' ∨ X W') := by
  refine (callsIn_wide (n := 9)).1 ?_
  refine callsIn_of_wp Tryd.func48 rfl trivial ?_ rfl
  simp only [Tryd.ntmps48, List.size_toArray, List.length_cons, List.length_nil, Nat.reduceAdd, Nat.reduceSub, Array.replicate_succ, Array.replicate_zero, List.push_toArray, List.append_toArray, List.nil_append, List.cons_append]
  gi_wp2_with fail
  gi_loopw [] (fun wr => ∃ i, I i wr) (fun wr => xs.length - (match wr.cell? ⟨rb, 18, none⟩ with | some (.int _ x) => x.toNat | _ => 0))
  case atStart => exact ⟨i0, h0⟩
  case round =>
    obtain ⟨i, hI⟩ := hrel
    have hb := (hbox i wr hI).cell 0
    have hN2 := hN
    have hli := hle i wr hI
    have ht0 := htold i wr hI
    have HE := Lib.hid (hend i wr)
    have HN := Lib.hid (hnext i)
    have HR := Lib.hid (hround i)
    have HB2 := Lib.hid (hbox2 i)
    have HT2 := Lib.hid (htold2 i)
    have HT := Lib.hid htold
    have HLe := Lib.hid hle
    have HI := Lib.hid hI
    clear hbox hbox2 htold htold2 hle hnext hend hround hN hI
    cases hx : xs[i]? with
    | none =>
      have HX := Lib.hid hx
      clear hx
      gi_wp2_with ((refine ⟨trivial, ?_⟩); (gi_at_call 42); (refine (callsIn_wide.2 (HE.out HX.out HI.out)).mono ?_); (rintro r w1 ⟨rfl, hE⟩))
      refine ⟨fun _ h => (by cases h), ?_⟩
      gi_wp2_with fail
      refine bodyPost_ret (results_none rfl _ _ _) rfl ?_
      exact ⟨⟨_, rfl⟩, .inl hE⟩
    | some x =>
      have hlt : i < xs.length := (List.getElem?_eq_some_iff.1 hx).1
      have hw1 : IntKind.i64.wrap ((i : Int) + 1 - 1) = (i : Int) := by
        have e : (i : Int) + 1 - 1 = (i : Int) := by omega
        rw [e]; exact IntWalk.i64_in _ (by omega)
      have HX := Lib.hid hx
      clear hx
      gi_wp2_with ((refine ⟨trivial, ?_⟩); (gi_at_call 42); (refine (callsIn_wide.2 (HN.out x wr HX.out HI.out)).mono ?_); (rintro r w1 ⟨rfl, hJ⟩); (have hb1 := (HB2.out w1 hJ).cell 0); (obtain ⟨ht1, hf1⟩ := HT2.out w1 hJ); (obtain ⟨fn, tmps, assign, body, hy, hR⟩ := HR.out x w1 HX.out hJ); (have HRo := Lib.hid hR); (have HJ := Lib.hid hJ); (clear hR hJ))
      refine HRo.out.mono ?_
      rintro e w2 (⟨rfl, hI2⟩ | ⟨rfl, hX2⟩)
      · gi_wp2_with fail
        go_roundw
        case rel => exact ⟨i + 1, hI2⟩
        case measure =>
          rw [HT.out (i + 1) w2 hI2, ht0]
          simp only [Int.toNat_natCast]
          omega
      · gi_wp2_with fail
        refine bodyPost_ret (results_none rfl _ _ _) rfl ?_
        exact ⟨⟨_, rfl⟩, .inr hX2⟩
end Go.Proofs.YtcefockebphbaaaDoor

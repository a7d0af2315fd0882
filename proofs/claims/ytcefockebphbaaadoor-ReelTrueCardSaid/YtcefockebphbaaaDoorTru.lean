/- ReelTrue: a file with bits turned: true at every input, with the listed variables as the text lays them. -/
import Derived.Test.YtcefockebphbaaaDoorCards
import Derived.Test.YtcefockebphbaaaDoorTie
import Derived.Test.YtcefockebphbaaaDoorArgs
import Derived.Test.YtcefockebphbaaaDoorTrW
import Derived.Test.YtcefockebphbaaaDoorRow
import Derived.Deep.DeepHandedRow
import Derived.Lay
set_option linter.unusedVariables false
set_option linter.unusedSimpArgs false
set_option linter.unnecessarySimpa false
namespace Go.Proofs.YtcefockebphbaaaDoor.reelTrue
open Go.ChangeShapes Go.WideShapes Go.ChangeAt Go.RowKit Go.Joins Sluice

theorem steps_laid {W : World} (h : laidMet Tryd.prog Rows.reelTrueRow.laid W) : Steps W := by
  have h2 := h.tail
  have h3 : Lib.TabIs Tryd.prog W "sluice/grain.steps" .u32 (stepsTab.map (fun (n : Nat) => (n : Int))) := Lib.tabIs_of_head (t := 151) (e := 64) (n := 16) (g := 1) (by kernel_rfl) (by kernel_rfl) (by kernel_rfl) (by kernel_rfl) (by kernel_rfl) (by kernel_rfl) h2
  have hc : ∀ i, i < 16 → W.cell? ⟨1, i, none⟩ = some (.int .u32 (stepsTab.getD i 0 : Nat)) := fun i hi => by
    have hl : stepsTab.length = 16 := rfl
    have := h3.cell (g := 1) (by kernel_rfl) i (by rw [List.length_map, hl]; exact hi)
    rw [this]
    congr 2
    rw [List.getD_eq_getElem?_getD, List.getD_eq_getElem?_getD, List.getElem?_map, List.getElem?_eq_getElem (by omega)]
    rfl
  exact ⟨World.block_lt_of_cell? _ _ (hc 0 (by omega)), hc⟩

theorem own : ownKnob Tryd.prog.godebug = none := by kernel_rfl
theorem laid : laidOutB Tryd.prog = true := by kernel_rfl
theorem cellsL : Tryd.prog.cellsOf 26 = 6 := by kernel_rfl

set_option maxRecDepth 100000 in
theorem open_lay {H : Type} {enc : TypeId × Value → H} {W : World} {base : Nat} {v : Value} {d : DataW H} {p : List MemPlace} (hv : Value.okWide Tryd.prog W .any base 26 v) (h : DataW.Trod enc Tryd.prog W 0 (fun _ => true) true 26 v d p) :
    ∃ a t b c ca cn cc ra rn rc f g, v = layV a (t : Nat) b c (.slice ca cn cc) (.slice ra rn rc) ∧ t < 18446744073709551616 ∧ LayArgs W ra ca rn cn f g := by
  obtain ⟨cs, rfl, hsz⟩ := okWide_struct Tryd.underlying26 hv
  obtain ⟨c0, c1, c2, c3, c4, c5, rfl⟩ := array6 (hsz.trans cellsL)
  obtain ⟨fuel, hf⟩ := h
  obtain ⟨xs, n, _, hx, hl, hlen, hg⟩ := DataW.trod_struct Tryd.underlying26 hf
  obtain ⟨y0, y1, y2, y3, y4, y5, hxs⟩ : ∃ y0 y1 y2 y3 y4 y5, xs = [y0, y1, y2, y3, y4, y5] := by
    obtain ⟨b0, b1, b2, b3, b4, b5, hb⟩ := array6 (cs := xs.toArray) (by simpa using hlen)
    exact ⟨b0, b1, b2, b3, b4, b5, by simpa using congrArg Array.toList hb⟩
  subst hxs
  have h0 := hg 0 _ rfl
  have h1 := hg 1 _ rfl
  have h2 := hg 2 _ rfl
  have h3 := hg 3 _ rfl
  have h4 := hg 4 _ rfl
  have h5 := hg 5 _ rfl
  have e1 : Tryd.prog.cellsOf 3 = 1 := by kernel_rfl
  have e2 : Tryd.prog.cellsOf 22 = 1 := by kernel_rfl
  have e3 : Tryd.prog.cellsOf 23 = 1 := by kernel_rfl
  have e4 : Tryd.prog.cellsOf 24 = 1 := by kernel_rfl
  simp [Value.cells, e1, e2, e3, e4] at h0 h1 h2 h3 h4 h5
  clear hg hx hl hsz hv hf
  obtain ⟨a, q0, -, -⟩ := DataW.trod_int Tryd.underlying3 h0
  obtain ⟨t, q1, -, w1⟩ := DataW.trod_int Tryd.underlying22 h1
  obtain ⟨b, q2, -, -⟩ := DataW.trod_int Tryd.underlying3 h2
  obtain ⟨c, q3, -, -⟩ := DataW.trod_int Tryd.underlying3 h3
  obtain ⟨ca, cn, cc, g, q4, hcn, hB⟩ := open_flags Tryd.underlying23 h4
  obtain ⟨ra, rn, rc, f, q5, hT⟩ := open_texts Tryd.underlying24 h5
  simp at q0 q1 q2 q3
  subst q0 q1 q2 q3 q4 q5
  have ht : 0 ≤ t ∧ t ≤ 18446744073709551615 := by simpa [Lit.wf, IntKind.min, IntKind.max, IntKind.signed, IntKind.bits] using w1
  refine ⟨a, t.toNat, b, c, ca, cn, cc, ra, rn, rc, f, g, ?_, by omega, hT, hB, hcn⟩
  unfold layV
  rw [Int.toNat_of_nonneg ht.1]

set_option maxRecDepth 100000 in
theorem contract (H : Type) (enc : TypeId × Value → H) (W : World) (base : Nat) (args : Array Value) (ds gs : List (DataW H)) (before : List MemPlace)
    (hval : ∀ (j : Nat) t v, Tryd.f5.params[j]? = some t → args[j]? = some v → Value.okWide Tryd.prog W .any base t v)
    (hW : DataW.Whole enc Tryd.prog Tryd.f5.params.toList Rows.reelTrueSpec.vars false W args.toList ds gs before) (hL : laidMet Tryd.prog Rows.reelTrueRow.laid W) :
    Calls Tryd.prog 5 args W fun e W' => ∃ v, e = .returned v ∧ Rows.reelTrueSpec.post enc Tryd.prog Tryd.f5 false true false false W args v W' := by
  have hW' := hW
  obtain ⟨p, q, hA0, hV, rfl, hfz, hnd⟩ := hW
  have hA : DataW.TrodAll enc Tryd.prog W 0 (fun _ => true) true Tryd.f5.params.toList args.toList ds p := hA0
  rw [Tryd.params5] at hA hval
  obtain ⟨v0, vs0, d0, ds0, p0, q0, hargs, rfl, rfl, h0, r0⟩ := trodAll_cons hA
  obtain ⟨v1, vs1, d1, ds1, p1, q1, rfl, rfl, rfl, h1, r1⟩ := trodAll_cons r0
  obtain ⟨rfl, rfl, rfl⟩ := trodAll_nil r1
  obtain rfl : args = #[v0, v1] := by cases args; simp_all
  have o0 := hval 0 26 v0 rfl rfl
  have o1 := hval 1 66 v1 rfl rfl
  clear hA hA0 hval r0 r1 hargs
  obtain ⟨a, t, b, c, ca, cn, cc, ra, rn, rc, f, g, rfl, ht, hLA⟩ := open_lay o0 h0
  obtain ⟨u0, u1, y0, y1, n, rfl, -, -, g0, g1⟩ := open_agg2 Tryd.underlying66 (by kernel_rfl) (by kernel_rfl) o1 h1
  obtain ⟨x, q0, -, w0⟩ := DataW.trod_int Tryd.underlying2 g0
  obtain ⟨m, q1, -, w1⟩ := DataW.trod_int Tryd.underlying64 g1
  simp at q0 q1
  subst q0 q1
  have hx : -9223372036854775808 ≤ x ∧ x ≤ 9223372036854775807 := by simpa [Lit.wf, IntKind.min, IntKind.max, IntKind.signed, IntKind.bits] using w0
  have hm : 0 ≤ m ∧ m ≤ 4294967295 := by simpa [Lit.wf, IntKind.min, IntKind.max, IntKind.signed, IntKind.bits] using w1
  obtain ⟨k, rfl⟩ := Int.eq_ofNat_of_zero_le hm.1
  refine (turn_walk a b c x k t rn rc cn cc ra ca f g W ht hx.1 hx.2 (by omega) (steps_laid hL) hLA).mono fun e W' ⟨he, hk⟩ => ⟨_, he, ?_⟩
  exact law_post hW' laid (by kernel_rfl) 4 (by kernel_rfl) Tryd.underlying4 rfl (fun ds hd => by
    match ds, hd with
    | [x, y], _ => rfl) hk

noncomputable def laidWorld (os : Os) : World := World.laidAll Tryd.prog os Rows.reelTrueRow.laid
theorem laid_met (os : Os) : laidMet Tryd.prog Rows.reelTrueRow.laid ((laidWorld os).forCall (fun _ _ => 0) ⟨#[], #[.agg #[.int .i64 0, .int .u64 0, .int .i64 0, .int .i64 0, .slice none 0 0, .slice none 0 0], .agg #[.int .i64 0, .int .u32 0]], []⟩).memory :=
  laidMet_laidAll _ (by kernel_rfl) (by kernel_rfl)
theorem ok (os : Os) : Input.okWideB Tryd.checked.prog ((laidWorld os).forCall (fun _ _ => 0) ⟨#[], #[.agg #[.int .i64 0, .int .u64 0, .int .i64 0, .int .i64 0, .slice none 0 0, .slice none 0 0], .agg #[.int .i64 0, .int .u32 0]], []⟩) 5 ⟨#[], #[.agg #[.int .i64 0, .int .u64 0, .int .i64 0, .int .i64 0, .slice none 0 0, .slice none 0 0], .agg #[.int .i64 0, .int .u32 0]], []⟩ = true := by kernel_rfl
theorem reads (os : Os) {H : Type} (enc : TypeId × Value → H) : ∃ places, DataW.whole enc Tryd.prog ((laidWorld os).forCall (fun _ _ => 0) ⟨#[], #[.agg #[.int .i64 0, .int .u64 0, .int .i64 0, .int .i64 0, .slice none 0 0, .slice none 0 0], .agg #[.int .i64 0, .int .u32 0]], []⟩).memory Tryd.f5.params.toList Rows.reelTrueSpec.vars false #[Value.agg #[.int .i64 0, .int .u64 0, .int .i64 0, .int .i64 0, .slice none 0 0, .slice none 0 0], .agg #[.int .i64 0, .int .u32 0]].toList 8 = some ([.agg [.lit (.int .i64 0), .lit (.int .u64 0), .lit (.int .i64 0), .lit (.int .i64 0), .nil, .nil], .agg [.lit (.int .i64 0), .lit (.int .u32 0)]], [], places) :=
  ⟨[], by kernel_rfl⟩

set_option maxRecDepth 100000 in
theorem lifted (os : Os) (started : os.Started) (H : Type) (enc : TypeId × Value → H) (F : Stop.Interp) :
    ReturnsInHanded {} Tryd.checked os 5 .any ((OpenSpec.ofChange Rows.reelTrueSpec).preRow enc Tryd.prog Tryd.f5 Rows.reelTrueRow.domain false Rows.reelTrueRow.laid) (((OpenSpec.ofChange Rows.reelTrueSpec).at F).post enc Tryd.prog Tryd.f5 false true false false) := by
  obtain ⟨places, hx⟩ := reads os enc
  refine returnsInHanded_of_row (C := Tryd.checked) (s := OpenSpec.ofChange Rows.reelTrueSpec) own started (by kernel_rfl) Tryd.func5
    ⟨laidWorld os, fun _ _ => 0, ⟨#[], #[.agg #[.int .i64 0, .int .u64 0, .int .i64 0, .int .i64 0, .slice none 0 0, .slice none 0 0], .agg #[.int .i64 0, .int .u32 0]], []⟩, World.laidAll_os _ _ _, World.shaped_of_ZipB (by kernel_rfl) (by kernel_rfl), (Input.okWide_of_okWideB (base := 0) (ok os)).1, (Input.okWide_of_okWideB (ok os)).2, OpenSpec.preRow_of_cond 8 hx (by kernel_rfl) (fun k hk => by cases hk) (by kernel_rfl) (laid_met os), by
      simp only [Assume.holds]
      exact ⟨by simp, by simp, fun _ => Modest.zero, by simp, by simp⟩⟩ ?_
  intro W base args ds gs before hval hW _ _ _ hL _ _
  exact contract H enc W base args ds gs before hval hW hL

theorem said : Rows.ReelTrueSaid :=
  OpenClaim.holds_of_cond 5 Tryd.f5 rfl rfl rfl rfl rfl rfl rfl ⟨rfl, rfl, rfl, rfl, rfl⟩ rfl rfl rfl rfl rfl (by kernel_rfl) Tryd.func5 (by kernel_rfl)
    (of_decide_eq_true (by kernel_rfl)) (by unfold Func.isWrapper; first | (rw [if_pos (by decide +kernel)]; kernel_rfl) | (rw [if_neg (by decide +kernel)]; exact ⟨rfl, rfl⟩))
    (fun os started H enc _ F => by rw [OpenClaim.pre_eq_preRow]; exact lifted os started H enc F)

theorem plain (f : FuncId) (fn : Func) (hf : Tryd.pinned.checked.prog.funcNamed "sluice/sluicelaw06.ReelTrue" = some f) (hfn : Tryd.pinned.checked.prog.funcs[f]? = some fn) :
    false = Tryd.pinned.checked.prog.looks [] ∧ ∀ (j : Nat) t, fn.params[j]? = some t → Tryd.pinned.checked.prog.wantsStandIn t = false := by
  obtain rfl : f = 5 := Option.some.inj ((show Tryd.prog.funcNamed "sluice/sluicelaw06.ReelTrue" = some 5 by kernel_rfl).symm.trans hf) |>.symm
  obtain rfl : fn = Tryd.f5 := (Option.some.inj (Tryd.func5.symm.trans hfn)).symm
  refine ⟨by kernel_rfl, fun j t ht => ?_⟩
  rw [Tryd.params5] at ht
  have hm := Array.mem_of_getElem? ht
  simp at hm
  rcases hm with rfl | rfl
  · exact (show Tryd.prog.wantsStandIn 26 = false by kernel_rfl)
  · exact (show Tryd.prog.wantsStandIn 66 = false by kernel_rfl)

theorem card : Rows.ReelTrueCardSaid :=
  Claim7.holds_tied_plain_at .later [] _ _ _ _ said (fun _ h => by cases h) (by kernel_rfl) (fun _ h => by cases h) reelTrue_row_tie rfl ⟨rfl, rfl⟩ (by kernel_rfl) rfl plain (by kernel_rfl)
#print axioms card
end Go.Proofs.YtcefockebphbaaaDoor.reelTrue

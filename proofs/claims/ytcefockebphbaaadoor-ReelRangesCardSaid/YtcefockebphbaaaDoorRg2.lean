/- ReelRanges: a file that was cut, or has bytes behind it: at every input, the listed variables as the text lays them. -/
import Derived.Test.YtcefockebphbaaaDoorCards
import Derived.Test.YtcefockebphbaaaDoorTie
import Derived.Test.YtcefockebphbaaaDoorArgs
import Derived.Test.YtcefockebphbaaaDoorRow
import Derived.Test.YtcefockebphbaaaDoorRgW
import Derived.Deep.DeepHandedRow
import Derived.Lay
set_option linter.unusedVariables false
set_option linter.unusedSimpArgs false
set_option linter.unnecessarySimpa false
namespace Go.Proofs.YtcefockebphbaaaDoor.reelRanges
open Go.ChangeShapes Go.WideShapes Go.ChangeAt Go.RowKit Go.Joins Sluice

theorem steps_laid {W : World} (h : laidMet Tryd.prog Rows.reelRangesRow.laid W) : Steps W := by
  have h2 := h
  have h3 : Lib.TabIs Tryd.prog W "sluice/grain.steps" .u32 (stepsTab.map (fun (n : Nat) => (n : Int))) := Lib.tabIs_of_head (t := 151) (e := 64) (n := 16) (g := 1) (by kernel_rfl) (by kernel_rfl) (by kernel_rfl) (by kernel_rfl) (by kernel_rfl) (by kernel_rfl) h2
  have hc : ∀ i, i < 16 → W.cell? ⟨1, i, none⟩ = some (.int .u32 (stepsTab.getD i 0 : Nat)) := fun i hi => by
    have hl : stepsTab.length = 16 := rfl
    have := h3.cell (g := 1) (by kernel_rfl) i (by rw [List.length_map, hl]; exact hi)
    rw [this]
    congr 2
    rw [List.getD_eq_getElem?_getD, List.getD_eq_getElem?_getD, List.getElem?_map, List.getElem?_eq_getElem (by omega)]
    rfl
  exact ⟨World.block_lt_of_cell? _ _ (hc 0 (by omega)), hc⟩

theorem own : ownKnob Tryd.prog.godebug = none := by kernel_rfl
theorem laid : laidOutB Tryd.prog = true := by kernel_rfl
theorem cellsL : Tryd.prog.cellsOf 26 = 6 := by kernel_rfl

set_option maxRecDepth 100000 in
theorem open_lay {H : Type} {enc : TypeId × Value → H} {W : World} {base : Nat} {v : Value} {d : DataW H} {p : List MemPlace} (hv : Value.okWide Tryd.prog W .any base 26 v) (h : DataW.Trod enc Tryd.prog W 0 (fun _ => true) true 26 v d p) :
    ∃ a t b c ca cn cc ra rn rc f g, v = layV a (t : Nat) b c (.slice ca cn cc) (.slice ra rn rc) ∧ t < 18446744073709551616 ∧ LayArgs W ra ca rn cn f g := by
  obtain ⟨cs, rfl, hsz⟩ := okWide_struct Tryd.underlying26 hv
  obtain ⟨c0, c1, c2, c3, c4, c5, rfl⟩ := array6 (hsz.trans cellsL)
  obtain ⟨fuel, hf⟩ := h
  obtain ⟨xs, n, _, hx, hl, hlen, hg⟩ := DataW.trod_struct Tryd.underlying26 hf
  obtain ⟨y0, y1, y2, y3, y4, y5, hxs⟩ : ∃ y0 y1 y2 y3 y4 y5, xs = [y0, y1, y2, y3, y4, y5] := by
    obtain ⟨b0, b1, b2, b3, b4, b5, hb⟩ := array6 (cs := xs.toArray) (by simpa using hlen)
    exact ⟨b0, b1, b2, b3, b4, b5, by simpa using congrArg Array.toList hb⟩
  subst hxs
  have h0 := hg 0 _ rfl
  have h1 := hg 1 _ rfl
  have h2 := hg 2 _ rfl
  have h3 := hg 3 _ rfl
  have h4 := hg 4 _ rfl
  have h5 := hg 5 _ rfl
  have e1 : Tryd.prog.cellsOf 3 = 1 := by kernel_rfl
  have e2 : Tryd.prog.cellsOf 22 = 1 := by kernel_rfl
  have e3 : Tryd.prog.cellsOf 23 = 1 := by kernel_rfl
  have e4 : Tryd.prog.cellsOf 24 = 1 := by kernel_rfl
  simp [Value.cells, e1, e2, e3, e4] at h0 h1 h2 h3 h4 h5
  clear hg hx hl hsz hv hf
  obtain ⟨a, q0, -, -⟩ := DataW.trod_int Tryd.underlying3 h0
  obtain ⟨t, q1, -, w1⟩ := DataW.trod_int Tryd.underlying22 h1
  obtain ⟨b, q2, -, -⟩ := DataW.trod_int Tryd.underlying3 h2
  obtain ⟨c, q3, -, -⟩ := DataW.trod_int Tryd.underlying3 h3
  obtain ⟨ca, cn, cc, g, q4, hcn, hB⟩ := open_flags Tryd.underlying23 h4
  obtain ⟨ra, rn, rc, f, q5, hT⟩ := open_texts Tryd.underlying24 h5
  simp at q0 q1 q2 q3
  subst q0 q1 q2 q3 q4 q5
  have ht : 0 ≤ t ∧ t ≤ 18446744073709551615 := by simpa [Lit.wf, IntKind.min, IntKind.max, IntKind.signed, IntKind.bits] using w1
  refine ⟨a, t.toNat, b, c, ca, cn, cc, ra, rn, rc, f, g, ?_, by omega, hT, hB, hcn⟩
  unfold layV
  rw [Int.toNat_of_nonneg ht.1]

set_option maxRecDepth 100000 in
theorem contract (H : Type) (enc : TypeId × Value → H) (W : World) (base : Nat) (args : Array Value) (ds gs : List (DataW H)) (before : List MemPlace)
    (hval : ∀ (j : Nat) t v, Tryd.f4.params[j]? = some t → args[j]? = some v → Value.okWide Tryd.prog W .any base t v)
    (hW : DataW.Whole enc Tryd.prog Tryd.f4.params.toList Rows.reelRangesSpec.vars false W args.toList ds gs before) (hsz : (DataW.weightsEach Tryd.prog (Tryd.f4.params.toList ++ (OpenSpec.ofChange Rows.reelRangesSpec).bare.plain.varTypes Tryd.prog) (ds ++ gs)).all (· ≤ reachBytes) = true) (hL : laidMet Tryd.prog Rows.reelRangesRow.laid W) :
    Calls Tryd.prog 4 args W fun e W' => ∃ v, e = .returned v ∧ Rows.reelRangesSpec.post enc Tryd.prog Tryd.f4 false true false false W args v W' := by
  have hW' := hW
  obtain ⟨p, q, hA0, hV, rfl, hfz, hnd⟩ := hW
  have hA : DataW.TrodAll enc Tryd.prog W 0 (fun _ => true) true Tryd.f4.params.toList args.toList ds p := hA0
  rw [Tryd.params4] at hA hval hsz
  obtain ⟨v0, vs0, d0, ds0, p0, q0, hargs, rfl, rfl, h0, r0⟩ := trodAll_cons hA
  obtain ⟨v1, vs1, d1, ds1, p1, q1, rfl, rfl, rfl, h1, r1⟩ := trodAll_cons r0
  obtain ⟨rfl, rfl, rfl⟩ := trodAll_nil r1
  obtain rfl : args = #[v0, v1] := by cases args; simp_all
  have o0 := hval 0 26 v0 rfl rfl
  have o1 := hval 1 47 v1 rfl rfl
  clear hA hA0 hval r0 r1 hargs
  obtain ⟨a, t, b, c, ca, cn, cc, ra, rn, rc, f, g, rfl, ht, hLA⟩ := open_lay o0 h0
  obtain ⟨fuel, h2⟩ := h1
  have hv2 : v1.cells = #[v1] := by
    obtain ⟨x, l, cp, rfl⟩ := okWide_slice Tryd.underlying47 o1
    rfl
  rw [hv2] at h2
  rcases open_ints Tryd.underlying47 Tryd.underlying3 (by kernel_rfl) h2 with ⟨e1, e2⟩ | ⟨x, len, cap, zs, e1, e2, hl, hm, hz, e3, hx, hw⟩
  · obtain rfl : v1 = .slice none 0 0 := by simpa using e1
    refine (ranges_walk a b c t rn rc cn cc 0 0 ra ca none f g (fun _ => 0) W ht (steps_laid hL) hLA (fun i hi => by omega) (by omega)).mono fun e W' ⟨he, hk⟩ => ⟨_, he, ?_⟩
    exact law_post hW' laid (by kernel_rfl) 4 (by kernel_rfl) Tryd.underlying4 rfl (fun ds hd => by
      match ds, hd with
      | [x, y], _ => rfl) hk
  · obtain rfl : v1 = .slice (some x) len cap := by simpa using e1
    simp only [if_true] at hz
    obtain ⟨rfl, -⟩ := (Prod.mk.injEq _ _ _ _).mp e3
    have hlen : len ≤ 17592186044416 := by
      have hm2 : (List.length (lits (H := H) IntKind.i64 (List.take len zs)) + List.length (lits (H := H) IntKind.i64 (List.drop len zs))) * Tryd.prog.bytesOf 3 ≤ reachBytes := of_decide_eq_true (List.all_eq_true.1 hsz _ (by
        simp only [List.cons_append, DataW.weightsEach, List.nil_append]
        refine List.mem_append_right _ (List.mem_append_left _ ?_)
        simp only [DataW.weights, Tryd.underlying47]
        exact List.mem_cons_self ..))
      rw [show Tryd.prog.bytesOf 3 = 8 from by kernel_rfl] at hm2
      unfold reachBytes at hm2
      simp [lits] at hm2
      omega
    refine (ranges_walk a b c t rn rc cn cc len cap ra ca (some x) f g (fun i => zs.getD i 0) W ht (steps_laid hL) hLA (fun i hi => ?_) hlen).mono fun e W' ⟨he, hk⟩ => ⟨_, he, ?_⟩
    · obtain ⟨b, off, rfl⟩ := plain_addr (hx 0 (by omega))
      have h2 := hx i (by omega)
      rw [WideShapes.add_plain] at h2
      have h5 : (⟨b, off + i, none⟩ : Addr).block < W.heap.size := World.block_lt_of_cell? _ _ h2
      refine ⟨⟨b, off, none⟩, rfl, h5, ?_⟩
      rw [WideShapes.add_plain]
      exact h2
    · exact law_post hW' laid (by kernel_rfl) 4 (by kernel_rfl) Tryd.underlying4 rfl (fun ds hd => by
        match ds, hd with
        | [x, y], _ => rfl) hk
end Go.Proofs.YtcefockebphbaaaDoor.reelRanges

/- Readers: step. -/
import Derived.Test.YtcefockebphbaaaDoorGR
set_option linter.unusedVariables false
set_option linter.unusedSimpArgs false
set_option linter.unnecessarySimpa false
namespace Go.Proofs.YtcefockebphbaaaDoor
open Go Go.RowKit Sluice

theorem step_over (b p q g B fw size at_ fam wd tag seq recs told rb : Nat) (body left : Value) (sum : BitVec 32) (code : Int) (done : Bool) (ho : done = true ∨ code ≠ 0) (w : World) (hR : Blk w rb (rdCells b p q g B fw size at_ fam wd tag seq body recs sum code done left told) 106) :
    Calls Tryd.prog 61 #[.pointer (some ⟨rb, 0, none⟩)] w fun r w' => r = .returned (.bool false) ∧ w = w' := by
  have hc := hR.cell
  unfold rdCells at hc
  cases done with
  | true =>
    clear ho
    go_enter Tryd.func61, Tryd.ntmps61
    go_wp2
    go_ret
    exact ⟨rfl, rfl⟩
  | false =>
    have hb : (code != 0) = true := by rw [bne_iff_ne]; exact ho.elim (fun h => by cases h) id
    clear ho
    go_enter Tryd.func61, Tryd.ntmps61
    go_wp2
    go_ret
    exact ⟨rfl, rfl⟩

/-- Is the end right? -/
def endOk (bs : List UInt8) (at_ recs : Nat) (sum : BitVec 32) (bd : List UInt8) : Bool := decide (ofLe (bd.take 8) = recs) && decide (ofLe ((bd.drop 8).take 4) = sum.toNat) && decide (bs.length ≤ at_ + 24 + bd.length)
/-- What a step comes to. -/
def StepTo (S : Nat → Prop) (n b p q g B fw rb : Nat) (bs : List UInt8) (at_ fam wd tag seq recs : Nat) (sum : BitVec 32) (left : Value) (told : Nat) (r : Ending) (w' : World) : Prop :=
  match chunkR bs B wd at_ seq with
  | none => r = .returned (.bool false) ∧ ∃ (e : Int) (a2 : Nat) (bd : Value) (buf : List UInt8), 1 ≤ e ∧ e ≤ 100 ∧ RdAt w' S n b p q g B fw rb bs a2 fam wd tag seq bd recs sum e false left told buf
  | some (kind, count, bd) =>
    if kind = 3 then r = .returned (.bool false) ∧ ∃ (e : Int) (buf : List UInt8), 0 ≤ e ∧ e ≤ 100 ∧ (e = 0 ↔ endOk bs at_ recs sum bd = true) ∧ RdAt w' S n b p q g B fw rb bs (at_ + 24 + bd.length) fam wd tag (seq + 1) (.slice (some ⟨g, 0, none⟩) bd.length bd.length) recs sum e (endOk bs at_ recs sum bd) left told buf
    else r = .returned (.bool true) ∧ ∃ buf : List UInt8, buf.take bd.length = bd ∧ RdAt w' S n b p q g B fw rb bs (at_ + 24 + bd.length) fam wd tag (seq + 1) (.slice (some ⟨g, 0, none⟩) bd.length bd.length) (recs + count) (more sum bd) 0 false left told buf
theorem chunk_count {bs : List UInt8} {B wd at_ seq : Nat} {k : UInt8} {c : Nat} {bd : List UInt8} (h : chunkR bs B wd at_ seq = some (k, c, bd)) : c < 4294967296 ∧ bd.length ≤ B := by
  obtain ⟨-, -, h3, -, -, -, h7, -, h9⟩ := chunkR_some h
  exact ⟨by rw [h7]; exact ofLe4_lt _, by omega⟩
theorem end_len {bs : List UInt8} {B wd at_ seq : Nat} {c : Nat} {bd : List UInt8} (hs : seq ≠ 0) (h : chunkR bs B wd at_ seq = some (3, c, bd)) : bd.length = 12 := by
  obtain ⟨-, h2, -, -, -, h6, -, -, h9⟩ := chunkR_some h
  rw [h9]
  unfold mayP at h2
  rw [if_neg hs, ← h6] at h2
  simp only [if_true, Bool.and_eq_true, beq_iff_eq] at h2
  exact h2.2.2

theorem bytes_take {bf bd : List UInt8} (h : bf.take bd.length = bd) : ((bytesA bf).toList.drop 0).take bd.length = bd.map bv := by
  have h1 : (bytesA bf).toList = bf.map bv := by simp [bytesA]
  rw [h1, List.drop_zero, ← List.map_take, h]
theorem step_close {S S' : Nat → Prop} {n b p q g B fw rb : Nat} {bs : List UInt8} {at_ fam wd tag seq recs told : Nat} {body left : Value} {sum : BitVec 32} {buf : List UInt8} {w wx : World} (K' : RdK S' g rb p q B fw) (h : RdAt wx S' n b p q g B fw rb bs at_ fam wd tag seq body recs sum 0 false left told buf) (hs : ∀ k, S k → S' k) (hf : Fr (RdFr S g rb) w wx) (e : Int) (d : Bool) :
    Fr (RdFr S g rb) w ((wx.setCell ⟨rb, 13, none⟩ (.bool d)).setCell ⟨rb, 12, none⟩ (.int .i64 e)) ∧ RdAt ((wx.setCell ⟨rb, 13, none⟩ (.bool d)).setCell ⟨rb, 12, none⟩ (.int .i64 e)) S n b p q g B fw rb bs at_ fam wd tag seq body recs sum e d left told buf := by
  have hF : Fr (· = rb) wx ((wx.setCell ⟨rb, 13, none⟩ (.bool d)).setCell ⟨rb, 12, none⟩ (.int .i64 e)) := Fr.setEq (Fr.setEq (Fr.refl (· = rb) wx) _) _
  refine ⟨hf.then (hF.mono fun k' _ e => Or.inr (Or.inr e)), RdAt.less (h.own K' hF (code2 := e) (done2 := d) ?_) hs⟩
  exact (h.cells.set 13 (.bool d)).set 12 (.int .i64 e)
attribute [local irreducible] ChunkTo chunkR headGood headR crc regs mayP StepTo endOk more
set_option maxHeartbeats 16000000 in
set_option maxRecDepth 100000 in
theorem step_run (S : Nat → Prop) (n b p q g B fw rb : Nat) (K : RdK S g rb p q B fw) (bs : List UInt8) (at_ fam wd tag seq recs told : Nat) (body left : Value) (sum : BitVec 32) (buf : List UInt8) (hsl : bs.length ≤ 1099511627776) (hwd : wd ≤ 65535) (hwd0 : 1 ≤ wd) (hs0 : seq ≠ 0) (hseq : seq < 4294967295) (hat : at_ ≤ bs.length) (hrec : recs ≤ 1099511627776) (w : World)
    (hR : RdAt w S n b p q g B fw rb bs at_ fam wd tag seq body recs sum 0 false left told buf) :
    Calls Tryd.prog 61 #[.pointer (some ⟨rb, 0, none⟩)] w fun r w' => Fr (RdFr S g rb) w w' ∧ StepTo S n b p q g B fw rb bs at_ fam wd tag seq recs sum left told r w' := by
  have hc := hR.cells.cell
  have hlr := hR.cells.lt
  unfold rdCells at hc
  have HR := Lib.hid hR
  clear hR
  go_enter Tryd.func61, Tryd.ntmps61
  go_wp2_with fail
  refine (rchunk_any S n b p q g B fw rb K bs at_ fam wd tag seq recs told body left sum 0 false buf hsl hwd (fun _ => hwd0) hseq hat w HR.out).mono ?_
  rintro r w1 ⟨hF1, hT⟩
  have HF1 := Lib.hid hF1
  have hz1 := hF1.size
  unfold ChunkTo at hT
  clear hF1 hc
  cases hch : chunkR bs B wd at_ seq with
  | none =>
    rewrite [hch] at hT
    obtain ⟨h, e, a2, bd, bf, rfl, he1, he2, hR1⟩ := hT
    dsimp only [headV]
    have hb : ((e : Int) == 0) = false := by rw [beq_eq_false_iff_ne]; omega
    have hb2 : ((e : Int) != 0) = true := by rw [bne_iff_ne]; omega
    have HCh := Lib.hid hch
    have hr1 := hR1.cells.cell
    have hrf1 := hR1.cells.free
    have hlr1 := hR1.cells.lt
    unfold rdCells at hr1
    have HR1 := Lib.hid hR1
    clear hch hR1
    go_upto_region 4 with fail
    have hR2 := HR1.out.keeps ((Fr.refl _ w1).alloc (.cells #[.int .u8 (h.kind.toNat : Int), .int .u32 (h.seq : Int), .int .u32 (h.count : Int), .int .u32 (h.length : Int), .int .u32 (h.body : Int)] 134))
    have hM2 : Blk (w1.alloc (.cells #[.int .u8 (h.kind.toNat : Int), .int .u32 (h.seq : Int), .int .u32 (h.count : Int), .int .u32 (h.length : Int), .int .u32 (h.body : Int)] 134)) w1.heap.size #[.int .u8 (h.kind.toNat : Int), .int .u32 (h.seq : Int), .int .u32 (h.count : Int), .int .u32 (h.length : Int), .int .u32 (h.body : Int)] 134 := Blk.new' rfl
    have hF2 := HF1.out.alloc (.cells #[.int .u8 (h.kind.toNat : Int), .int .u32 (h.seq : Int), .int .u32 (h.count : Int), .int .u32 (h.length : Int), .int .u32 (h.body : Int)] 134)
    generalize w1.alloc (.cells #[.int .u8 (h.kind.toNat : Int), .int .u32 (h.seq : Int), .int .u32 (h.count : Int), .int .u32 (h.length : Int), .int .u32 (h.body : Int)] 134) = w2 at *
    have hr2 := hR2.cells.cell
    have hrf2 := hR2.cells.free
    have hm2 := hM2.cell
    unfold rdCells at hr2
    have HR2 := Lib.hid hR2
    have HF2 := Lib.hid hF2
    clear hR2 hM2 hF2 hr1 hrf1
    go_wp2_with fail
    go_ret
    have hF3 : Fr (· = rb) w2 (w2.setCell ⟨rb, 12, none⟩ (.int .i64 e)) := Fr.setEq (Fr.refl (· = rb) w2) _
    have hR3 := HR2.out.own K hF3 (code2 := e) (HR2.out.cells.set 12 (.int .i64 e))
    refine ⟨HF2.out.then (hF3.mono fun k' _ e => Or.inr (Or.inr e)), ?_⟩
    unfold StepTo
    rw [HCh.out]
    exact ⟨rfl, e, a2, bd, bf, he1, he2, hR3⟩
  | some x =>
    obtain ⟨kd, cn, bd⟩ := x
    rewrite [hch] at hT
    obtain ⟨h, bf, rfl, hkd, hcn, hR1, htk⟩ := hT
    subst hkd hcn
    have hcc := (chunk_count hch).1
    have hbB := (chunk_count hch).2
    have hkB := K.b2
    dsimp only [headV]
    have k3 := kind_eq h.kind 3 (by omega)
    have e3 : UInt8.ofNat 3 = 3 := rfl
    rewrite [e3] at k3
    have hr1 := hR1.cells.cell
    have hrf1 := hR1.cells.free
    have hlr1 := hR1.cells.lt
    unfold rdCells at hr1
    have HCh := Lib.hid hch
    have HR1 := Lib.hid hR1
    have HTk := Lib.hid htk
    clear hch hR1 htk
    go_upto_region 4 with fail
    have hR2 := HR1.out.keeps ((Fr.refl _ w1).alloc (.cells #[.int .u8 (h.kind.toNat : Int), .int .u32 (h.seq : Int), .int .u32 (h.count : Int), .int .u32 (h.length : Int), .int .u32 (h.body : Int)] 134))
    have hM2 : Blk (w1.alloc (.cells #[.int .u8 (h.kind.toNat : Int), .int .u32 (h.seq : Int), .int .u32 (h.count : Int), .int .u32 (h.length : Int), .int .u32 (h.body : Int)] 134)) w1.heap.size #[.int .u8 (h.kind.toNat : Int), .int .u32 (h.seq : Int), .int .u32 (h.count : Int), .int .u32 (h.length : Int), .int .u32 (h.body : Int)] 134 := Blk.new' rfl
    have hF2 := HF1.out.alloc (.cells #[.int .u8 (h.kind.toNat : Int), .int .u32 (h.seq : Int), .int .u32 (h.count : Int), .int .u32 (h.length : Int), .int .u32 (h.body : Int)] 134)
    generalize w1.alloc (.cells #[.int .u8 (h.kind.toNat : Int), .int .u32 (h.seq : Int), .int .u32 (h.count : Int), .int .u32 (h.length : Int), .int .u32 (h.body : Int)] 134) = w2 at *
    have hz2 := hM2.lt
    have hr2 := hR2.cells.cell
    have hrf2 := hR2.cells.free
    have hm2 := hM2.cell
    unfold rdCells at hr2
    have HR2 := Lib.hid hR2
    have HF2 := Lib.hid hF2
    have HM2 := Lib.hid hM2
    clear hR2 hM2 hF2 hr1 hrf1
    by_cases hk3 : h.kind = 3
    · have hb3 : ((h.kind.toNat : Int) == 3) = true := by
        have : ((h.kind.toNat : Int) == ((3 : Nat) : Int)) = true := by rw [k3, hk3]; rfl
        simpa using this
      have HK3 := Lib.hid hk3
      clear k3 e3 hk3
      have hl12 := end_len (c := h.count) hs0 (by rw [← HK3.out]; exact HCh.out)
      have HL12 := Lib.hid hl12
      go_upto_region 6 with fail
      have hR3 := HR2.out.more (S' := fun k => S k ∨ k = w2.heap.size) ((Fr.refl _ w2).alloc (.cells #[.int .i64 0] 3)) (fun k h => by
        rcases h with h | h
        · exact Or.inl h
        · right; rw [h, World.size_alloc]; omega)
      have K3 := K.more (S' := fun k => S k ∨ k = w2.heap.size) (fun k h => Or.inl h)
      have hP3 : Blk (w2.alloc (.cells #[.int .i64 0] 3)) w2.heap.size #[.int .i64 ((0 : Nat) : Int)] 3 := Blk.new' rfl
      have hF03 := HF2.out.alloc (.cells #[.int .i64 0] 3)
      have hlr2 := HR2.out.cells.lt
      have hlg2 := HR2.out.mem.lt
      have hlp2 := HR2.out.forms.1.lt
      have hlq2 := HR2.out.forms.2.lt
      have hls2 := HR2.out.steps.1
      have hsz2 := hz1
      obtain ⟨N6, hN6⟩ : ∃ N6, N6 = w2.heap.size := ⟨_, rfl⟩
      rewrite [← hN6] at hR3 K3 hP3 hlr2 hlg2 hlp2 hlq2 hls2 ⊢
      have hzN : w.heap.size ≤ N6 := by have := HF2.out.size; omega
      have hN0 : ∀ k', k' = N6 → (fun k => S k ∨ k = N6) k' ∧ k' ≠ rb ∧ k' ≠ g ∧ k' ≠ p ∧ k' ≠ q ∧ k' ≠ 1 := fun k' e => by subst e; exact ⟨Or.inr rfl, by omega, by omega, by omega, by omega, by omega⟩
      generalize w2.alloc (.cells #[.int .i64 0] 3) = w3 at *
      have hv8 : (bf.drop 0).take 8 = bd.take 8 := by
        have := take12 (buf := bf) (bd := bd) (by rw [← HL12.out]; exact HTk.out) (a := 0) (m := 8) (by omega)
        rw [this]; rfl
      have hv4 : (bf.drop 8).take 4 = (bd.drop 8).take 4 := take12 (buf := bf) (bd := bd) (by rw [← HL12.out]; exact HTk.out) (a := 8) (m := 4) (by omega)
      have hfl : 12 ≤ bf.length := by
        have := congrArg List.length HTk.out
        rw [List.length_take, HL12.out] at this; omega
      have hx10 : w3.drew.cell? ⟨rb, 10, none⟩ = some (.int .i64 (recs : Int)) := hR3.cells.drew.cell 10
      have hwr : IntKind.u64.wrap (recs : Int) = (recs : Int) := IntWalk.u64_in _ (by omega)
      have hlr3 := hR3.cells.lt
      have HR3 := Lib.hid hR3
      have HP3 := Lib.hid hP3
      have HF03 := Lib.hid hF03
      have HN0 := Lib.hid hN0
      have HN6 := Lib.hid hN6
      have HV8 := Lib.hid hv8
      have HV4 := Lib.hid hv4
      clear hR3 hP3 hF03 hN0 hN6 hv8 hv4 hr2 hrf2 hm2 hl12
      go_region_held3 (fun w' => w'.cell? ⟨rb, 10, none⟩ = some (.int .i64 (recs : Int)))
        (((try dsimp only); first | with_reducible exact hx10 | exact hR4.cells.cell 10 | fail))
        (((go_at_call 74); (go_must (refine (rget_lit g 0 12 12 0 8 8 rfl (by omega) (by omega) (by omega) (by omega) (by omega) bf 5 (by simpa using hfl) N6 _ HR3.out.mem.drew HP3.out.drew).mono ?_)); (rintro r w4 ⟨rfl, hF4, hP4⟩); (rewrite [Nat.zero_add, HV8.out]); (have hR4 := (HR3.out.keeps (Fr.refl _ _).drew).stays K3 hF4 (fun k' _ e => HN0.out k' e))))
      have hF04 : Fr (RdFr S g rb) w w4 := Fr.trans HF03.out.drew hF4 (fun i hi e => absurd hi (by omega))
      have hr4 := hR4.cells.cell
      have hrf4 := hR4.cells.free
      unfold rdCells at hr4
      have HR4 := Lib.hid hR4
      have HP4 := Lib.hid hP4
      have HF04 := Lib.hid hF04
      clear hR4 hP4 hF04 hF4 hx10
      by_cases hA : ofLe (bd.take 8) = recs
      · have hbA : ((ofLe (bd.take 8) : Int) != (recs : Int)) = false := by rw [bne_eq_false_iff_eq]; omega
        have HA := Lib.hid hA
        clear hA
        go_upto_region 7 with fail
        have hx11 : w4.drew.cell? ⟨rb, 11, none⟩ = some (.int .u32 (sum.toNat : Int)) := HR4.out.cells.drew.cell 11
        have hw4 := wrap_le4 ((bd.drop 8).take 4) (by rw [List.length_take]; omega)
        go_region_held3 (fun w' => w'.cell? ⟨rb, 11, none⟩ = some (.int .u32 (sum.toNat : Int)))
          (((try dsimp only); first | with_reducible exact hx11 | exact hR5.cells.cell 11 | fail))
          (((go_at_call 74); (go_must (refine (rget_lit g 0 12 12 8 4 12 rfl (by omega) (by omega) (by omega) (by omega) (by omega) bf 5 (by simpa using hfl) N6 _ HR4.out.mem.drew HP4.out.drew).mono ?_)); (rintro r w5 ⟨rfl, hF5, hP5⟩); (rewrite [Nat.zero_add, HV4.out]); (have hR5 := (HR4.out.keeps (Fr.refl _ _).drew).stays K3 hF5 (fun k' _ e => HN0.out k' e))))
        have hF05 : Fr (RdFr S g rb) w w5 := Fr.trans HF04.out.drew hF5 (fun i hi e => absurd hi (by omega))
        have hr5 := hR5.cells.cell
        have hrf5 := hR5.cells.free
        unfold rdCells at hr5
        have HR5 := Lib.hid hR5
        have HF05 := Lib.hid hF05
        clear hR5 hF05 hF5 hx11 hP5 hr4 hrf4
        by_cases hB : ofLe ((bd.drop 8).take 4) = sum.toNat
        · have hbB : ((ofLe ((bd.drop 8).take 4) : Int) != (sum.toNat : Int)) = false := by rw [bne_eq_false_iff_eq]; omega
          have HB := Lib.hid hB
          clear hB
          go_upto_region 9 with fail
          by_cases hC : bs.length ≤ at_ + 24 + bd.length
          · have hbC : ¬ (((at_ + 24 + bd.length : Nat) : Int) < (bs.length : Int)) := by omega
            have hbD : decide (((at_ + 24 + bd.length : Nat) : Int) < (bs.length : Int)) = false := by rw [decide_eq_false_iff_not]; exact hbC
            have hok : endOk bs at_ recs sum bd = true := by unfold endOk; rw [HA.out, HB.out]; simp [hC]
            have HOk := Lib.hid hok
            clear hok hC
            go_region
            go_wp2_with fail
            go_ret
            have hcl := step_close (S := S) K3 HR5.out (fun k h => Or.inl h) HF05.out 0 true
            refine ⟨hcl.1.drew, ?_⟩
            unfold StepTo
            rw [HCh.out]
            dsimp only
            rw [if_pos HK3.out, HOk.out]
            exact ⟨rfl, 0, bf, by omega, by omega, by simp, hcl.2.keeps (Fr.refl _ _).drew⟩
          · have hbC : (((at_ + 24 + bd.length : Nat) : Int) < (bs.length : Int)) := by omega
            have hbD : decide (((at_ + 24 + bd.length : Nat) : Int) < (bs.length : Int)) = true := by rw [decide_eq_true_eq]; exact hbC
            have hok : endOk bs at_ recs sum bd = false := by unfold endOk; simp [hC]
            have HOk := Lib.hid hok
            clear hok hC
            go_region
            go_wp2_with fail
            go_ret
            have hcl := step_close (S := S) K3 HR5.out (fun k h => Or.inl h) HF05.out 66 false
            refine ⟨hcl.1.drew, ?_⟩
            unfold StepTo
            rw [HCh.out]
            dsimp only
            rw [if_pos HK3.out, HOk.out]
            exact ⟨rfl, 66, bf, by omega, by omega, by simp, hcl.2.keeps (Fr.refl _ _).drew⟩
        · have hbB : ((ofLe ((bd.drop 8).take 4) : Int) != (sum.toNat : Int)) = true := by rw [bne_iff_ne]; omega
          have hok : endOk bs at_ recs sum bd = false := by unfold endOk; simp [hB]
          have HOk := Lib.hid hok
          clear hok hB
          go_wp2_with fail
          go_ret
          have hcl := step_close (S := S) K3 HR5.out (fun k h => Or.inl h) HF05.out 65 false
          refine ⟨hcl.1, ?_⟩
          unfold StepTo
          rw [HCh.out]
          dsimp only
          rw [if_pos HK3.out, HOk.out]
          exact ⟨rfl, 65, bf, by omega, by omega, by simp, hcl.2⟩
      · have hbA : ((ofLe (bd.take 8) : Int) != (recs : Int)) = true := by rw [bne_iff_ne]; omega
        have hok : endOk bs at_ recs sum bd = false := by unfold endOk; simp [hA]
        have HOk := Lib.hid hok
        clear hok hA
        go_wp2_with fail
        go_ret
        have hcl := step_close (S := S) K3 HR4.out (fun k h => Or.inl h) HF04.out 65 false
        refine ⟨hcl.1, ?_⟩
        unfold StepTo
        rw [HCh.out]
        dsimp only
        rw [if_pos HK3.out, HOk.out]
        exact ⟨rfl, 65, bf, by omega, by omega, by simp, hcl.2⟩
    · have hb3 : ((h.kind.toNat : Int) == 3) = false := by
        have : ((h.kind.toNat : Int) == ((3 : Nat) : Int)) = false := by rw [k3]; rw [beq_eq_false_iff_ne]; exact hk3
        simpa using this
      have HK3 := Lib.hid hk3
      have hwr : IntKind.i64.wrap ((recs : Int) + (h.count : Int)) = (recs : Int) + (h.count : Int) := IntWalk.i64_in _ (by omega)
      have hwc : IntKind.i64.wrap (h.count : Int) = (h.count : Int) := IntWalk.i64_in _ (by omega)
      clear k3 e3 hk3
      go_wp2_with fail
      have hF3 : Fr (· = rb) w2 (w2.setCell ⟨rb, 12, none⟩ (.int .i64 0)) := Fr.setEq (Fr.refl (· = rb) w2) _
      have hR3 := HR2.out.own K hF3 (code2 := 0) (HR2.out.cells.set 12 (.int .i64 0))
      have hM3 := hF3.blk HM2.out (fun e => by omega)
      have hF03 : Fr (RdFr S g rb) w (w2.setCell ⟨rb, 12, none⟩ (.int .i64 0)) := HF2.out.then (hF3.mono fun k' _ e => Or.inr (Or.inr e))
      generalize w2.setCell ⟨rb, 12, none⟩ (.int .i64 0) = w3 at *
      have hr3 := hR3.cells.cell
      have hrf3 := hR3.cells.free
      have hm3 := hM3.cell
      unfold rdCells at hr3
      have HR3 := Lib.hid hR3
      have HF03 := Lib.hid hF03
      clear hR3 hF03 hr2 hrf2 hm2 hM3 hF3
      refine region_tail 10 (by kernel_rfl) (by kernel_rfl) ?_
      simp only [List.take_succ_cons, List.take_zero, List.drop_succ_cons, List.drop_zero]
      repeat still_step
      refine wpStill_nil ?_
      go_wp2_with fail
      have hF4 : Fr (· = rb) w3 (w3.setCell ⟨rb, 10, none⟩ (.int .i64 ((recs : Int) + (h.count : Int)))).drew := (Fr.setEq (Fr.refl (· = rb) w3) _).drew
      have hR4 := HR3.out.own K hF4 (recs2 := recs + h.count) (HR3.out.cells.set 10 (.int .i64 ((recs : Int) + (h.count : Int)))).drew
      have hF04 : Fr (RdFr S g rb) w (w3.setCell ⟨rb, 10, none⟩ (.int .i64 ((recs : Int) + (h.count : Int)))).drew := HF03.out.then (hF4.mono fun k' _ e => Or.inr (Or.inr e))
      generalize (w3.setCell ⟨rb, 10, none⟩ (.int .i64 ((recs : Int) + (h.count : Int)))).drew = w4 at *
      have hr4 := hR4.cells.cell
      have hrf4 := hR4.cells.free
      unfold rdCells at hr4
      have HR4 := Lib.hid hR4
      have HF04 := Lib.hid hF04
      clear hR4 hF04 hr3 hrf3 hm3 hF4
      refine region_tail 12 (by kernel_rfl) (by kernel_rfl) ?_
      simp only [List.take_succ_cons, List.take_zero, List.drop_succ_cons, List.drop_zero]
      repeat still_step
      still_call ((more_same sum g 0 bd.length bd (bytesA bf) 5 (bytes_take HTk.out) (by omega) _ (HR4.out.steps.kept (Fr.refl (fun _ => False) w4).drew (fun h => h)) HR4.out.mem.drew).mono fun q w' h => ⟨h.1, h.2.symm⟩)
      repeat still_step
      refine wpStill_nil ?_
      go_wp2_with fail
      go_ret
      have hF5 : Fr (· = rb) w4 (w4.setCell ⟨rb, 11, none⟩ (.int .u32 ((more sum bd).toNat : Int))).drew := (Fr.setEq (Fr.refl (· = rb) w4) _).drew
      have hR5 := HR4.out.own K hF5 (sum2 := more sum bd) (HR4.out.cells.set 11 (.int .u32 ((more sum bd).toNat : Int))).drew
      refine ⟨HF04.out.then (hF5.mono fun k' _ e => Or.inr (Or.inr e)), ?_⟩
      unfold StepTo
      rw [HCh.out]
      dsimp only
      rw [if_neg HK3.out]
      exact ⟨rfl, bf, HTk.out, hR5⟩
end Go.Proofs.YtcefockebphbaaaDoor

namespace Go.Proofs.YtcefockebphbaaaDoor
open Go Go.RowKit Sluice

theorem split_len (wd : Nat) : ∀ (n : Nat) (b : List UInt8), (split wd n b).length = n
  | 0, _ => rfl
  | n + 1, b => by simp [split, split_len wd n]
theorem split_flat {wd : Nat} : ∀ (n : Nat) (b : List UInt8), b.length = n * wd → (split wd n b).flatten = b
  | 0, b, h => by
    have : b = [] := List.eq_nil_of_length_eq_zero (by omega)
    rw [this]; rfl
  | n + 1, b, h => by
    rw [Nat.add_mul] at h
    rw [split, List.flatten_cons, split_flat n (b.drop wd) (by rw [List.length_drop]; omega), List.take_append_drop]
theorem split_width {wd : Nat} : ∀ (n : Nat) (b : List UInt8), b.length = n * wd → ∀ r ∈ split wd n b, r.length = wd
  | 0, _, _, r, hr => by cases hr
  | n + 1, b, h, r, hr => by
    rw [Nat.add_mul] at h
    rw [split] at hr
    rcases List.mem_cons.1 hr with rfl | hr
    · rw [List.length_take]; omega
    · exact split_width n (b.drop wd) (by rw [List.length_drop]; omega) r hr

theorem data_len {bs : List UInt8} {B fw at_ seq : Nat} {k : UInt8} {c : Nat} {bd : List UInt8} (hs : seq ≠ 0) (hk : k ≠ 3) (hf : 1 ≤ fw) (h : chunkR bs B fw at_ seq = some (k, c, bd)) : fw ≤ bd.length ∧ bd.length = c * fw := by
  obtain ⟨-, h2, -, -, -, h6, h7, -, h9⟩ := chunkR_some h
  rw [h9]
  unfold mayP at h2
  rw [if_neg hs, ← h6, if_neg hk] at h2
  simp only [Bool.and_eq_true, beq_iff_eq] at h2
  obtain ⟨-, h3⟩ := h2
  split at h3
  · simp only [Bool.and_eq_true, beq_iff_eq, decide_eq_true_eq] at h3
    rw [← h7] at h3
    refine ⟨?_, h3.1.2⟩
    rw [h3.1.2]
    exact Nat.le_mul_of_pos_left _ h3.1.1
  · cases h3
/-- What is left behind a record. -/
def LeftTo (g o m fw : Nat) (left' : Value) : Prop := (m = fw ∧ ∃ a c, left' = .slice a 0 c) ∨ (fw < m ∧ left' = .slice (some ⟨g, o + fw, none⟩) (m - fw) (m - fw))
attribute [local irreducible] ChunkTo chunkR headGood headR crc regs mayP StepTo endOk more
set_option maxHeartbeats 16000000 in
set_option maxRecDepth 100000 in
theorem next_tell (S : Nat → Prop) (n b p q g B fw rb : Nat) (K : RdK S g rb p q B fw) (bs : List UInt8) (at_ fam wd tag seq recs told : Nat) (body : Value) (sum : BitVec 32) (code : Int) (done : Bool) (buf : List UInt8) (o m : Nat) (hm : fw ≤ m) (hom : o + m ≤ B) (htold : told ≤ 1099511627776) (w : World)
    (hR : RdAt w S n b p q g B fw rb bs at_ fam wd tag seq body recs sum code done (.slice (some ⟨g, o, none⟩) m m) told buf) :
    Calls Tryd.prog 42 #[.pointer (some ⟨rb, 0, none⟩)] w fun r w' => r = .returned (.tuple #[.string (strB ((buf.drop o).take fw)), .bool true]) ∧ Fr (RdFr S g rb) w w' ∧
      ∃ left', LeftTo g o m fw left' ∧ RdAt w' S n b p q g B fw rb bs at_ fam wd tag seq body recs sum code done left' (told + 1) buf := by
  have hc := hR.cells.cell
  have hf := hR.cells.free
  have hlr := hR.cells.lt
  have hbl := hR.blen
  have hf1 := K.f1
  have hb2 := K.b2
  unfold rdCells at hc
  have hd0 : ((m : Int) == 0) = false := by rw [beq_eq_false_iff_ne]; omega
  have hd1 : (fw : Int) ≤ (m : Int) := by omega
  have hd2 : (0 : Int) ≤ (fw : Int) := by omega
  have hd3 : max (fw : Int) 0 = (fw : Int) := by omega
  have hd4 : IntKind.i64.wrap ((told : Int) + 1) = (told : Int) + 1 := IntWalk.i64_in _ (by omega)
  have hd5 : ¬ fw = 0 := by omega
  have hd6 : ¬ m = 0 := by omega
  have HR := Lib.hid hR
  have HBl := Lib.hid hbl
  clear hR hbl
  go_enter Tryd.func42, Tryd.ntmps42
  go_upto_region 7 with fail
  refine region_tail 20 (by kernel_rfl) (by kernel_rfl) ?_
  simp only [List.take_succ_cons, List.take_zero, List.drop_succ_cons, List.drop_zero]
  repeat still_step
  refine wpStill_nil ?_
  go_wp2_with ((go_at_call 68); (refine (form2_any g o fw fw buf _ (by rw [HBl.out]; omega) q _ HR.out.forms.2.drew HR.out.mem.drew).mono ?_); (rintro r w1 ⟨rfl, rfl⟩))
  by_cases hmf : m = fw
  · subst hmf
    refine region_tail 13 (by kernel_rfl) (by kernel_rfl) ?_
    simp only [List.take_succ_cons, List.take_zero, List.drop_succ_cons, List.drop_zero]
    repeat still_step
    refine wpStill_nil ?_
    go_wp2_with fail
    have hF3 : Fr (· = rb) w ((w.drew.setCell ⟨rb, 17, none⟩ (.slice (some ⟨g, o, none⟩) 0 0)).setCell ⟨rb, 18, none⟩ (.int .i64 ((told : Int) + 1))).drew := (Fr.setEq (Fr.setEq (Fr.refl (· = rb) w).drew _) _).drew
    have hR3 := HR.out.own K hF3 (left2 := .slice (some ⟨g, o, none⟩) 0 0) (told2 := told + 1) (((HR.out.cells.drew.set 17 (.slice (some ⟨g, o, none⟩) 0 0)).set 18 (.int .i64 ((told : Int) + 1))).drew)
    go_ret2
    exact ⟨rfl, hF3.mono fun k' _ e => Or.inr (Or.inr e), _, Or.inl ⟨rfl, _, _, rfl⟩, hR3⟩
  · have hd7 : fw ≤ m := hm
    refine region_tail 13 (by kernel_rfl) (by kernel_rfl) ?_
    simp only [List.take_succ_cons, List.take_zero, List.drop_succ_cons, List.drop_zero]
    repeat still_step
    refine wpStill_nil ?_
    go_wp2_with fail
    have hF3 : Fr (· = rb) w ((w.drew.setCell ⟨rb, 17, none⟩ (.slice (some ⟨g, o + fw, none⟩) (m - fw) (m - fw))).setCell ⟨rb, 18, none⟩ (.int .i64 ((told : Int) + 1))).drew := (Fr.setEq (Fr.setEq (Fr.refl (· = rb) w).drew _) _).drew
    have hR3 := HR.out.own K hF3 (left2 := .slice (some ⟨g, o + fw, none⟩) (m - fw) (m - fw)) (told2 := told + 1) (((HR.out.cells.drew.set 17 (.slice (some ⟨g, o + fw, none⟩) (m - fw) (m - fw))).set 18 (.int .i64 ((told : Int) + 1))).drew)
    go_ret2
    exact ⟨rfl, hF3.mono fun k' _ e => Or.inr (Or.inr e), _, Or.inr ⟨by omega, rfl⟩, hR3⟩

/-- What a Next comes to where no record is left of the chunk. -/
def NextTo (S : Nat → Prop) (n b p q g B fw rb : Nat) (bs : List UInt8) (at_ fam wd tag seq recs : Nat) (sum : BitVec 32) (told : Nat) (r : Ending) (w' : World) : Prop :=
  match chunkR bs B wd at_ seq with
  | none => r = .returned (.tuple #[.string ⟨#[]⟩, .bool false]) ∧ ∃ (e : Int) (a2 : Nat) (bd : Value) (la : Option Addr) (lc : Nat) (buf : List UInt8), 1 ≤ e ∧ e ≤ 100 ∧ RdAt w' S n b p q g B fw rb bs a2 fam wd tag seq bd recs sum e false (.slice la 0 lc) told buf
  | some (kind, count, bd) =>
    if kind = 3 then r = .returned (.tuple #[.string ⟨#[]⟩, .bool false]) ∧ ∃ (e : Int) (a2 s2 : Nat) (bv : Value) (la : Option Addr) (lc : Nat) (buf : List UInt8), 0 ≤ e ∧ e ≤ 100 ∧ (e = 0 ↔ endOk bs at_ recs sum bd = true) ∧ RdAt w' S n b p q g B fw rb bs a2 fam wd tag s2 bv recs sum e (endOk bs at_ recs sum bd) (.slice la 0 lc) told buf
    else r = .returned (.tuple #[.string (strB (bd.take fw)), .bool true]) ∧ ∃ (left' : Value) (buf : List UInt8), buf.take bd.length = bd ∧ LeftTo g 0 bd.length fw left' ∧
      RdAt w' S n b p q g B fw rb bs (at_ + 24 + bd.length) fam wd tag (seq + 1) (.slice (some ⟨g, 0, none⟩) bd.length bd.length) (recs + count) (more sum bd) 0 false left' (told + 1) buf

theorem next_over (S : Nat → Prop) (n b p q g B fw rb : Nat) (bs : List UInt8) (at_ fam wd tag seq recs told : Nat) (body : Value) (sum : BitVec 32) (code : Int) (done : Bool) (buf : List UInt8) (ho : done = true ∨ code ≠ 0) (a : Option Addr) (c : Nat) (w : World)
    (hR : RdAt w S n b p q g B fw rb bs at_ fam wd tag seq body recs sum code done (.slice a 0 c) told buf) :
    Calls Tryd.prog 42 #[.pointer (some ⟨rb, 0, none⟩)] w fun r w' => r = .returned (.tuple #[.string ⟨#[]⟩, .bool false]) ∧ w = w' := by
  have hc := hR.cells.cell
  have HS := Lib.hid (step_over b p q g B fw bs.length at_ fam wd tag seq recs told rb body (.slice a 0 c) sum code done ho w hR.cells)
  unfold rdCells at hc
  clear hR ho
  go_enter Tryd.func42, Tryd.ntmps42
  go_wp2_with (go_at_call 61; refine HS.out.mono ?_; rintro r w1 ⟨rfl, rfl⟩)
  go_ret2
  exact ⟨rfl, rfl⟩

theorem take_of_take {buf bd : List UInt8} {m : Nat} (h : buf.take bd.length = bd) (hm : m ≤ bd.length) : buf.take m = bd.take m := by
  have h2 := congrArg (List.take m) h
  rw [List.take_take, Nat.min_eq_left hm] at h2
  exact h2
attribute [local irreducible] NextTo
set_option maxHeartbeats 16000000 in
set_option maxRecDepth 100000 in
theorem next_step (S : Nat → Prop) (n b p q g B fw rb : Nat) (K : RdK S g rb p q B fw) (bs : List UInt8) (at_ fam wd tag seq recs told : Nat) (body : Value) (sum : BitVec 32) (buf : List UInt8) (hsl : bs.length ≤ 1099511627776) (hwd : wd ≤ 65535) (hwf : wd = fw) (hs0 : seq ≠ 0) (hseq : seq < 4294967295) (hat : at_ ≤ bs.length) (hrec : recs ≤ 1099511627776) (htold : told ≤ 1099511627776) (a : Option Addr) (c : Nat) (w : World)
    (hR : RdAt w S n b p q g B fw rb bs at_ fam wd tag seq body recs sum 0 false (.slice a 0 c) told buf) :
    Calls Tryd.prog 42 #[.pointer (some ⟨rb, 0, none⟩)] w fun r w' => Fr (RdFr S g rb) w w' ∧ NextTo S n b p q g B fw rb bs at_ fam wd tag seq recs sum told r w' := by
  have hc := hR.cells.cell
  have hf1 := K.f1
  have hb2 := K.b2
  unfold rdCells at hc
  have HS := Lib.hid (step_run S n b p q g B fw rb K bs at_ fam wd tag seq recs told body (.slice a 0 c) sum buf hsl hwd (by omega) hs0 hseq hat hrec w hR)
  clear hR
  go_enter Tryd.func42, Tryd.ntmps42
  go_wp2_with fail
  refine HS.out.mono ?_
  rintro r w1 ⟨hF1, hT⟩
  have HF1 := Lib.hid hF1
  unfold StepTo at hT
  clear hF1 hc
  cases hch : chunkR bs B wd at_ seq with
  | none =>
    rewrite [hch] at hT
    obtain ⟨rfl, e, a2, bd, bf, he1, he2, hR1⟩ := hT
    have HCh := Lib.hid hch
    have HR1 := Lib.hid hR1
    clear hch hR1
    go_wp2_with fail
    go_ret2
    refine ⟨HF1.out, ?_⟩
    unfold NextTo
    rw [HCh.out]
    exact ⟨rfl, e, a2, bd, _, _, bf, he1, he2, HR1.out⟩
  | some x =>
    obtain ⟨kd, cn, bd⟩ := x
    rewrite [hch] at hT
    dsimp only at hT
    by_cases hk3 : kd = 3
    · rewrite [if_pos hk3] at hT
      obtain ⟨rfl, e, bf, he1, he2, he3, hR1⟩ := hT
      have HCh := Lib.hid hch
      have HR1 := Lib.hid hR1
      have HK3 := Lib.hid hk3
      have HE3 := Lib.hid he3
      clear hch hR1 hk3 he3
      go_wp2_with fail
      go_ret2
      refine ⟨HF1.out, ?_⟩
      unfold NextTo
      rw [HCh.out]
      dsimp only
      rw [if_pos HK3.out]
      exact ⟨rfl, e, _, _, _, _, _, bf, he1, he2, HE3.out, HR1.out⟩
    · rewrite [if_neg hk3] at hT
      obtain ⟨rfl, buf2, htk, hR1⟩ := hT
      obtain ⟨L, hLL⟩ : ∃ L, L = bd.length := ⟨_, rfl⟩
      have hm : fw ≤ L := by rw [hLL]; subst hwf; exact (data_len hs0 hk3 (by omega) hch).1
      have hLB : L ≤ B := by rw [hLL]; exact (chunk_count hch).2
      rewrite [← hLL] at hR1
      have hbl2 := hR1.blen
      have hr1 := hR1.cells.cell
      have hrf1 := hR1.cells.free
      unfold rdCells at hr1
      have HCh := Lib.hid hch
      have HR1 := Lib.hid hR1
      have HK3 := Lib.hid hk3
      have HTk := Lib.hid htk
      have HLL := Lib.hid hLL
      have HBl2 := Lib.hid hbl2
      clear hch hR1 hk3 htk hLL hbl2
      go_upto_region 7 with fail
      have hF2 : Fr (· = rb) w1 (w1.setCell ⟨rb, 17, none⟩ (.slice (some ⟨g, 0, none⟩) L L)) := Fr.setEq (Fr.refl (· = rb) w1) _
      have hR2 := HR1.out.own K hF2 (left2 := .slice (some ⟨g, 0, none⟩) L L) (HR1.out.cells.set 17 (.slice (some ⟨g, 0, none⟩) L L))
      have hF02 : Fr (RdFr S g rb) w (w1.setCell ⟨rb, 17, none⟩ (.slice (some ⟨g, 0, none⟩) L L)) := HF1.out.then (hF2.mono fun k' _ e => Or.inr (Or.inr e))
      generalize w1.setCell ⟨rb, 17, none⟩ (.slice (some ⟨g, 0, none⟩) L L) = w2 at *
      have hr2 := hR2.cells.cell
      have hrf2 := hR2.cells.free
      unfold rdCells at hr2
      have HR2 := Lib.hid hR2
      have HF2 := Lib.hid hF02
      clear hR2 hF02 hF2 hr1 hrf1
      have hd0 : ((L : Int) == 0) = false := by rw [beq_eq_false_iff_ne]; omega
      have hd1 : (fw : Int) ≤ (L : Int) := by omega
      have hd2 : (0 : Int) ≤ (fw : Int) := by omega
      have hd3 : max (fw : Int) 0 = (fw : Int) := by omega
      have hd4 : IntKind.i64.wrap ((told : Int) + 1) = (told : Int) + 1 := IntWalk.i64_in _ (by omega)
      have hd5 : ¬ fw = 0 := by omega
      have hd6 : ¬ L = 0 := by omega
      refine region_tail 20 (by kernel_rfl) (by kernel_rfl) ?_
      simp only [List.take_succ_cons, List.take_zero, List.drop_succ_cons, List.drop_zero]
      repeat still_step
      refine wpStill_nil ?_
      go_wp2_with ((go_at_call 68); (refine (form2_any g 0 fw fw buf2 _ (by rw [HBl2.out]; omega) q _ HR2.out.forms.2.drew HR2.out.mem.drew).mono ?_); (rintro r w1 ⟨rfl, rfl⟩))
      by_cases hmf : L = fw
      · subst hmf
        refine region_tail 13 (by kernel_rfl) (by kernel_rfl) ?_
        simp only [List.take_succ_cons, List.take_zero, List.drop_succ_cons, List.drop_zero]
        repeat still_step
        refine wpStill_nil ?_
        go_wp2_with fail
        have hF3 : Fr (· = rb) w2 ((w2.drew.setCell ⟨rb, 17, none⟩ (.slice (some ⟨g, 0, none⟩) 0 0)).setCell ⟨rb, 18, none⟩ (.int .i64 ((told : Int) + 1))).drew := (Fr.setEq (Fr.setEq (Fr.refl (· = rb) w2).drew _) _).drew
        have hR3 := HR2.out.own K hF3 (left2 := .slice (some ⟨g, 0, none⟩) 0 0) (told2 := told + 1) (((HR2.out.cells.drew.set 17 (.slice (some ⟨g, 0, none⟩) 0 0)).set 18 (.int .i64 ((told : Int) + 1))).drew)
        go_ret2
        refine ⟨HF2.out.then (hF3.mono fun k' _ e => Or.inr (Or.inr e)), ?_⟩
        unfold NextTo
        rw [HCh.out]
        dsimp only
        rw [if_neg HK3.out]
        have hst := take_of_take (m := L) HTk.out (by rw [← HLL.out]; exact Nat.le_refl _)
        refine ⟨?_, .slice (some ⟨g, 0, none⟩) 0 0, buf2, HTk.out, Or.inl ⟨HLL.out.symm, _, _, rfl⟩, ?_⟩
        · rw [← hst]; rfl
        · rw [← HLL.out]; exact hR3
      · have hd7 : fw ≤ L := hm
        refine region_tail 13 (by kernel_rfl) (by kernel_rfl) ?_
        simp only [List.take_succ_cons, List.take_zero, List.drop_succ_cons, List.drop_zero]
        repeat still_step
        refine wpStill_nil ?_
        go_wp2_with fail
        have hF3 : Fr (· = rb) w2 ((w2.drew.setCell ⟨rb, 17, none⟩ (.slice (some ⟨g, fw, none⟩) (L - fw) (L - fw))).setCell ⟨rb, 18, none⟩ (.int .i64 ((told : Int) + 1))).drew := (Fr.setEq (Fr.setEq (Fr.refl (· = rb) w2).drew _) _).drew
        have hR3 := HR2.out.own K hF3 (left2 := .slice (some ⟨g, fw, none⟩) (L - fw) (L - fw)) (told2 := told + 1) (((HR2.out.cells.drew.set 17 (.slice (some ⟨g, fw, none⟩) (L - fw) (L - fw))).set 18 (.int .i64 ((told : Int) + 1))).drew)
        go_ret2
        refine ⟨HF2.out.then (hF3.mono fun k' _ e => Or.inr (Or.inr e)), ?_⟩
        unfold NextTo
        rw [HCh.out]
        dsimp only
        rw [if_neg HK3.out]
        have hst := take_of_take (m := fw) HTk.out (by rw [← HLL.out]; exact hm)
        refine ⟨?_, .slice (some ⟨g, fw, none⟩) (L - fw) (L - fw), buf2, HTk.out, ?_, ?_⟩
        · rw [← hst]; rfl
        · rw [← HLL.out]; exact Or.inr ⟨by omega, by rw [Nat.zero_add]⟩
        · rw [← HLL.out]; exact hR3
end Go.Proofs.YtcefockebphbaaaDoor

namespace Go.Proofs.YtcefockebphbaaaDoor
open Go Go.RowKit Sluice

/-- The records of the chunk that were not told yet, as they lie in the buffer. -/
def LeftIs (g fw B : Nat) (buf : List UInt8) (left : Value) (ls : List (List UInt8)) : Prop :=
  (ls = [] ∧ ∃ a c, left = .slice a 0 c) ∨ (ls ≠ [] ∧ ∃ o, left = .slice (some ⟨g, o, none⟩) (ls.length * fw) (ls.length * fw) ∧ o + ls.length * fw ≤ B ∧ (buf.drop o).take (ls.length * fw) = ls.flatten)
/-- A Reader that has these records left to tell, and is then done or not. -/
def RdSt (w : World) (S : Nat → Prop) (n b p q g B fw tag rb : Nat) (bs : List UInt8) (rest : List (List UInt8) × Bool) (told : Nat) (over : Bool) : Prop :=
  ∃ at_ seq body recs sum code done left buf ls, RdAt w S n b p q g B fw rb bs at_ 3 fw tag seq body recs sum code done left told buf ∧ LeftIs g fw B buf left ls ∧ (∀ r ∈ ls, r.length = fw) ∧
    if over then ls = [] ∧ rest = ([], done) ∧ (code = 0 ↔ done = true) ∧ 0 ≤ code ∧ code ≤ 100
    else code = 0 ∧ done = false ∧ seq ≠ 0 ∧ 24 * seq ≤ at_ ∧ at_ ≤ bs.length ∧ recs ≤ at_ ∧ rest = (ls ++ (tells bs B fw at_ seq recs sum).1, (tells bs B fw at_ seq recs sum).2)

/-- What a Next comes to. -/
def NextSt (S : Nat → Prop) (n b p q g B fw tag rb : Nat) (bs : List UInt8) (rest : List (List UInt8) × Bool) (told : Nat) (r : Ending) (w' : World) : Prop :=
  match rest.1 with
  | [] => r = .returned (.tuple #[.string ⟨#[]⟩, .bool false]) ∧ RdSt w' S n b p q g B fw tag rb bs rest told true
  | x :: xs => r = .returned (.tuple #[.string (strB x), .bool true]) ∧ x.length = fw ∧ RdSt w' S n b p q g B fw tag rb bs (xs, rest.2) (told + 1) false

theorem leftIs_next {g fw B o : Nat} {buf : List UInt8} {x : List UInt8} {xs : List (List UInt8)} {left' : Value} (hx : x.length = fw) (h : (buf.drop o).take ((x :: xs).length * fw) = (x :: xs).flatten) (hB : o + (x :: xs).length * fw ≤ B) (hf : 1 ≤ fw)
    (hl : LeftTo g o ((x :: xs).length * fw) fw left') : (buf.drop o).take fw = x ∧ LeftIs g fw B buf left' xs := by
  have e : (x :: xs).length * fw = fw + xs.length * fw := by rw [List.length_cons, Nat.add_mul]; omega
  rw [e, List.flatten_cons] at h
  rw [e] at hl hB
  have h1 : (buf.drop o).take fw = x := by
    have := congrArg (List.take fw) h
    rw [List.take_take, Nat.min_eq_left (by omega), List.take_left' hx] at this
    exact this
  have h2 : (buf.drop (o + fw)).take (xs.length * fw) = xs.flatten := by
    have := congrArg (List.drop fw) h
    rw [List.drop_take, List.drop_drop, List.drop_left' hx, Nat.add_sub_cancel_left] at this
    exact this
  refine ⟨h1, ?_⟩
  rcases hl with ⟨hm, a, c, rfl⟩ | ⟨hm, rfl⟩
  · have hz : xs.length * fw = 0 := by omega
    have : xs = [] := by
      rcases Nat.mul_eq_zero.1 hz with h | h
      · exact List.eq_nil_of_length_eq_zero h
      · omega
    exact Or.inl ⟨this, a, c, rfl⟩
  · refine Or.inr ⟨fun e => by subst e; simp at hm, o + fw, ?_, by omega, h2⟩
    rw [Nat.add_sub_cancel_left]

theorem next_st (S : Nat → Prop) (n b p q g B fw tag rb : Nat) (K : RdK S g rb p q B fw) (bs : List UInt8) (hsl : bs.length ≤ 2147483648) (rest : List (List UInt8) × Bool) (told : Nat) (htold : told ≤ 1099511627776) (over : Bool) (w : World) (hR : RdSt w S n b p q g B fw tag rb bs rest told over) :
    Calls Tryd.prog 42 #[.pointer (some ⟨rb, 0, none⟩)] w fun r w' => Fr (RdFr S g rb) w w' ∧ NextSt S n b p q g B fw tag rb bs rest told r w' := by
  obtain ⟨at_, seq, body, recs, sum, code, done, left, buf, ls, hA, hL, hw, ho⟩ := hR
  cases over with
  | true =>
    simp only [if_true] at ho
    obtain ⟨rfl, rfl, hcd, hc0, hc1⟩ := ho
    rcases hL with ⟨-, a, c, rfl⟩ | ⟨h, -⟩
    · refine (next_over S n b p q g B fw rb bs at_ 3 fw tag seq recs told body sum code done buf ?_ a c w hA).mono ?_
      · cases done with
        | true => exact Or.inl rfl
        | false => exact Or.inr fun h => by have := hcd.1 h; cases this
      · rintro r w' ⟨rfl, rfl⟩
        exact ⟨Fr.refl _ _, rfl, at_, seq, body, recs, sum, code, done, _, buf, [], hA, Or.inl ⟨rfl, a, c, rfl⟩, hw, by simp only [if_true]; exact ⟨trivial, trivial, hcd, hc0, hc1⟩⟩
    · exact absurd rfl h
  | false =>
    simp only [Bool.false_eq_true, if_false] at ho
    obtain ⟨rfl, rfl, hs0, hs1, ha, hrc, rfl⟩ := ho
    have hf1 := K.f1
    have hf3 := K.f3
    cases ls with
    | cons x xs =>
      rcases hL with ⟨h, -⟩ | ⟨-, o, rfl, hB, hbf⟩
      · cases h
      · have hx := hw x (List.mem_cons_self ..)
        have hfm : fw ≤ (x :: xs).length * fw := Nat.le_mul_of_pos_left _ (by simp)
        refine (next_tell S n b p q g B fw rb K bs at_ 3 fw tag seq recs told body sum 0 false buf o ((x :: xs).length * fw) hfm hB htold w hA).mono ?_
        rintro r w' ⟨rfl, hF, left', hl, hA'⟩
        obtain ⟨h1, h2⟩ := leftIs_next hx hbf hB hf1 hl
        refine ⟨hF, ?_⟩
        unfold NextSt
        simp only [List.cons_append]
        refine ⟨by rw [h1], hx, at_, seq, body, recs, sum, 0, false, left', buf, xs, hA', h2, fun r hr => hw r (List.mem_cons_of_mem _ hr), ?_⟩
        simp only [Bool.false_eq_true, if_false]
        exact ⟨trivial, trivial, hs0, hs1, ha, hrc, trivial⟩
    | nil =>
      rcases hL with ⟨-, a, c, rfl⟩ | ⟨h, -⟩
      · refine (next_step S n b p q g B fw rb K bs at_ 3 fw tag seq recs told body sum buf (by omega) (by omega) rfl hs0 (by omega) ha (by omega) htold a c w hA).mono ?_
        rintro r w' ⟨hF, hT⟩
        refine ⟨hF, ?_⟩
        unfold NextTo at hT
        unfold NextSt
        have hte := tells_eq bs B fw at_ seq recs sum
        cases hch : chunkR bs B fw at_ seq with
        | none =>
          rw [hch] at hT hte
          obtain ⟨rfl, e, a2, bd, la, lc, bf, he1, he2, hA'⟩ := hT
          rw [hte]
          simp only [List.nil_append]
          refine ⟨trivial, a2, seq, bd, recs, sum, e, false, _, bf, [], hA', Or.inl ⟨rfl, la, lc, rfl⟩, hw, ?_⟩
          simp only [if_true]
          exact ⟨trivial, trivial, ⟨fun h => by omega, fun h => by cases h⟩, by omega, he2⟩
        | some x =>
          obtain ⟨kd, cn, bd⟩ := x
          rw [hch] at hT hte
          dsimp only at hT hte
          by_cases hk3 : kd = 3
          · rw [if_pos hk3] at hT hte
            obtain ⟨rfl, e, a2, s2, bv, la, lc, bf, he1, he2, he3, hA'⟩ := hT
            have hok : endOk bs at_ recs sum bd = decide (ofLe (bd.take 8) = recs ∧ ofLe ((bd.drop 8).take 4) = sum.toNat ∧ bs.length ≤ at_ + 24 + bd.length) := by
              unfold endOk
              rw [Bool.eq_iff_iff]
              simp [and_assoc]
            rw [← hok] at hte
            rw [hte]
            simp only [List.nil_append]
            refine ⟨trivial, a2, s2, bv, recs, sum, e, endOk bs at_ recs sum bd, _, bf, [], hA', Or.inl ⟨rfl, la, lc, rfl⟩, hw, ?_⟩
            simp only [if_true]
            exact ⟨trivial, trivial, he3, he1, he2⟩
          · rw [if_neg hk3] at hT hte
            obtain ⟨rfl, left', bf, htk, hl, hA'⟩ := hT
            obtain ⟨hd1, hd2⟩ := data_len hs0 hk3 hf1 hch
            have hbB := (chunk_count hch).2
            have h24 := (chunkR_some hch).2.2.2.1
            have hbl := (chunkR_some hch).2.2.2.2.2.2.2.2
            have hcn : 1 ≤ cn := by
              rcases Nat.eq_zero_or_pos cn with h | h
              · rw [h] at hd2; omega
              · exact h
            obtain ⟨c1, rfl⟩ : ∃ c1, cn = c1 + 1 := ⟨cn - 1, by omega⟩
            have hcb : c1 + 1 ≤ bd.length := by rw [hd2]; exact Nat.le_mul_of_pos_right _ hf1
            have hsl1 := split_len fw (c1 + 1) bd
            have hsf := split_flat (wd := fw) (c1 + 1) bd hd2
            have hsw := split_width (wd := fw) (c1 + 1) bd hd2
            rw [hte]
            simp only [List.nil_append]
            have hsp : split fw (c1 + 1) bd = bd.take fw :: split fw c1 (bd.drop fw) := rfl
            rw [hsp] at hsl1 hsf hsw ⊢
            simp only [List.cons_append]
            have hx : (bd.take fw).length = fw := by rw [List.length_take]; omega
            have hlm : (bd.take fw :: split fw c1 (bd.drop fw)).length * fw = bd.length := by rw [hsl1]; exact hd2.symm
            obtain ⟨h1, h2⟩ := leftIs_next (g := g) (B := B) (o := 0) (buf := bf) hx (by rw [hlm, List.drop_zero, htk, hsf]) (by rw [hlm]; omega) hf1 (by rw [hlm]; exact hl)
            refine ⟨trivial, hx, at_ + 24 + bd.length, seq + 1, _, recs + (c1 + 1), more sum bd, 0, false, left', bf, split fw c1 (bd.drop fw), hA', h2, fun r hr => hsw r (List.mem_cons_of_mem _ hr), ?_⟩
            simp only [Bool.false_eq_true, if_false]
            exact ⟨trivial, trivial, by omega, by omega, by omega, by omega, trivial⟩
      · exact absurd rfl h
end Go.Proofs.YtcefockebphbaaaDoor

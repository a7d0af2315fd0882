/- ReelRanges: the walk. -/
import Derived.Test.YtcefockebphbaaaDoorRN
import Derived.Deep.CutRange
import Derived.Sort.QuietIn
set_option linter.unusedVariables false
set_option linter.unusedSimpArgs false
set_option linter.unnecessarySimpa false
namespace Go.Proofs.YtcefockebphbaaaDoor
open Go Go.RowKit Sluice
attribute [local go_sem] Oper.semAt_some
attribute [local irreducible] readR tells openR

/-- The ints of an argument. -/
def Ints (w : World) (a : Option Addr) (n : Nat) (f : Nat → Int) : Prop := ∀ i, i < n → ∃ b : Addr, a = some b ∧ b.block < w.heap.size ∧ w.cell? (b.add i) = some (.int .i64 (f i))

set_option maxHeartbeats 8000000 in
set_option maxRecDepth 100000 in
theorem ranges_ret {ds : List Deferred} {tmps : Array Value} {k4 : Nat} {w0 w : World} {T : Nat → Prop} (h4 : tmps.getD 4 undef = .pointer (some ⟨k4, 0, none⟩)) (hM : Marks T ds w) (hb : Blk w k4 #[.bool true] 4) (hk : Keeps w0 w) (hT : ∀ k, T k → w0.heap.size ≤ k) :
    bodyPostM Fence.wide 9 Tryd.prog Tryd.f4 (fun r w' => r = .returned (.bool true) ∧ Keeps w0 w') .ret { tmps := tmps, defers := ds } w := by
  refine leaves_marks (T := T) ds w hM ?_
  intro w' hf hbl
  have hc := (hbl _ _ _ hb).cell 0
  refine ⟨.bool true, ?_, rfl, hk.trans hf (fun i hi hx => by have := hT i hx; omega)⟩
  simp at hc
  have h4 : tmps[4]?.getD undef = .pointer (some ⟨k4, 0, none⟩) := by simpa using h4
  simp [results, Tryd.results4, h4, hc, go_sem]

/-- A frame of ReelRanges between two ranges. -/
def RgSlots (k2 k3 k4 k7 rb k14 k15 : Nat) (ds : List Deferred) (a : Act) : Prop :=
  ∃ (s0 s1 s5 s6 s8 s9 s10 s11 s13 s16 s17 s18 s19 s20 s21 s22 s23 s24 s25 s26 s27 s28 s29 s30 s31 s32 s33 s34 s35 s36 s37 s38 s39 s40 s41 s42 s43 s44 s45 s46 s47 s48 s49 s50 s51 s52 s53 s54 s55 s56 s57 s58 s59 s60 s61 s62 s63 s64 s65 s66 s67 s68 s69 s70 s71 s72 s73 s74 s75 s76 s77 s78 s79 s80 s81 s82 s83 s84 s85 s86 s87 s88 s89 s90 s91 s92 s93 s94 s95 s96 s97 s98 s99 s100 s101 s102 s103 s104 s105 s106 s107 s108 s109 s110 s111 s112 s113 s114 s115 s116 s117 s118 s119 s120 s121 s122 s123 s124 s125 s126 s127 s128 s129 s130 : Value), a = { tmps := #[s0, s1, .pointer (some ⟨k2, 0, none⟩), .pointer (some ⟨k3, 0, none⟩), .pointer (some ⟨k4, 0, none⟩), s5, s6, .pointer (some ⟨k7, 0, none⟩), s8, s9, s10, s11, .pointer (some ⟨rb, 0, none⟩), s13, .pointer (some ⟨k14, 0, none⟩), .pointer (some ⟨k15, 0, none⟩), s16, s17, s18, s19, s20, s21, s22, s23, s24, s25, s26, s27, s28, s29, s30, s31, s32, s33, s34, s35, s36, s37, s38, s39, s40, s41, s42, s43, s44, s45, s46, s47, s48, s49, s50, s51, s52, s53, s54, s55, s56, s57, s58, s59, s60, s61, s62, s63, s64, s65, s66, s67, s68, s69, s70, s71, s72, s73, s74, s75, s76, s77, s78, s79, s80, s81, s82, s83, s84, s85, s86, s87, s88, s89, s90, s91, s92, s93, s94, s95, s96, s97, s98, s99, s100, s101, s102, s103, s104, s105, s106, s107, s108, s109, s110, s111, s112, s113, s114, s115, s116, s117, s118, s119, s120, s121, s122, s123, s124, s125, s126, s127, s128, s129, s130], defers := ds }
theorem isSeqF : isFunc Tryd.prog 60 = true := by kernel_rfl
/-- What ReelRanges' Open comes to. -/
def MadeN (w3 : World) (S : Nat → Prop) (n b B fw tag : Nat) (bs : List UInt8) (want : List (List UInt8)) (x e : Value) (w : World) : Prop :=
  ∃ p q g rb, x = .pointer (some ⟨rb, 0, none⟩) ∧ e = .int .i64 0 ∧ Fr (fun k => ¬ S k) w3 w ∧ w3.heap.size ≤ p ∧ w3.heap.size ≤ q ∧ w3.heap.size ≤ g ∧ w3.heap.size ≤ rb ∧ RdK (InR S p q g rb nilV) g rb p q B fw ∧ RdSt w (InR S p q g rb nilV) n b p q g B fw tag rb bs (want, true) 0 false

set_option maxHeartbeats 8000000 in
set_option maxRecDepth 100000 in
theorem ranges_walk (W Wr Rd : Int) (tag rn rc cn cc sn sc : Nat) (ra ca sa : Option Addr) (f : Nat → ByteArray) (c : Nat → Bool) (sf : Nat → Int) (w : World) (ht : tag < 18446744073709551616) (hS : Steps w) (hA : LayArgs w ra ca rn cn f c)
    (hI : Ints w sa sn sf) (hsn : sn ≤ 17592186044416) :
    Calls Tryd.prog 4 #[layV W (tag : Int) Wr Rd (.slice ca cn cc) (.slice ra rn rc), .slice sa sn sc] w fun r w' => r = .returned (.bool true) ∧ Keeps w w' := by
  obtain ⟨hw1, hw2⟩ := wdOf_le W
  obtain ⟨ha1, ha3, ha2⟩ := aOf_le W Wr
  obtain ⟨hb1, hb2⟩ := bOf_le W Wr Rd
  have hcn := hA.cn
  have HMu := Lib.hid (much_any W (tag : Int) Wr Rd (.slice ca cn cc) ra rn rc)
  have HSz := Lib.hid (sizes_any W (tag : Int) Wr Rd (.slice ca cn cc) (.slice ra rn rc))
  have HA := Lib.hid hA
  have HS := Lib.hid hS
  have HI := Lib.hid hI
  have HSn := Lib.hid hsn
  unfold maxLen at hcn
  clear hA hS hI hsn
  have HL := Lib.hid (fun b n w S hn hrn ss hS hD hr hc => laylay_any S b n tag rn rc cn cc W Wr Rd ra ca f c hn ht hrn HA.out.cn ss w hS hD hr hc)
  unfold layV at *
  refine (callsIn_wide (n := 9)).1 ?_
  refine callsIn_of_wp_marks Tryd.func4 rfl trivial ?_ rfl
  simp only [Tryd.ntmps4, List.size_toArray, List.length_cons, List.length_nil, Nat.reduceAdd, Nat.reduceSub, Array.replicate_succ, Array.replicate_zero, List.push_toArray, List.append_toArray, List.nil_append, List.cons_append]
  refine wpIn_wide.2 ?_
  by_cases hmuch : 262144 < rn
  · have hmd : decide (262144 < rn) = true := by simp; omega
    rw [hmd] at HMu
    go_wp2_with (first
      | ((go_at_call 6); (refine (HMu.out _).mono ?_); (rintro r w0 ⟨rfl, hk0⟩); (have hB4 : Blk w0 (w.heap.size + 1 + 1) #[.bool false] 4 := hk0.blk (Blk.new' (by simp)) (fun h => h)); (have hc4 := hB4.cell); (have hf4 := hB4.free 0))
      | fail)
    exact ranges_ret (T := fun k => w.heap.size ≤ k) (k4 := w.heap.size + 1 + 1) rfl trivial (hB4.set 0 (.bool true)) (Fr.setCell (Fr.keeps (by (repeat (first | with_reducible exact Fr.refl _ _ | with_reducible assumption | with_reducible refine Fr.alloc ?_ _ | with_reducible refine Fr.drew ?_ | with_reducible refine Fr.drewN ?_ _ | with_reducible refine Fr.setCell ?_ (by simp; try omega) _))) hk0) (by simp; try omega) _) (fun _ h => h)
  · have hmd : decide (262144 < rn) = false := by simp; omega
    rw [hmd] at HMu
    go_upto_region 8 with (first
      | ((go_at_call 6); (refine (HMu.out _).mono ?_); (rintro r w0 ⟨rfl, hk0⟩); (have hB0 : Blk w0 w.heap.size #[.int .i64 W, .int .u64 (tag : Int), .int .i64 Wr, .int .i64 Rd, .slice ca cn cc, .slice ra rn rc] 26 := hk0.blk (Blk.alloc (Blk.alloc (Blk.new' rfl) _) _) (fun h => h)); (have hB3 : Blk w0 (w.heap.size + 1) #[.slice sa sn sc] 47 := hk0.blk (Blk.alloc (Blk.new' (by simp)) _) (fun h => h)); (have hB4 : Blk w0 (w.heap.size + 1 + 1) #[.bool false] 4 := hk0.blk (Blk.new' (by simp)) (fun h => h)); (have hK0 : Keeps w w0 := Fr.keeps (by (repeat (first | with_reducible exact Fr.refl _ _ | with_reducible assumption | with_reducible refine Fr.alloc ?_ _ | with_reducible refine Fr.drew ?_ | with_reducible refine Fr.drewN ?_ _ | with_reducible refine Fr.setCell ?_ (by simp; try omega) _))) hk0); (have hlt4 := hB4.lt); (have hlt0 := hB0.lt); (clear hk0))
      | ((go_at_call 7); (refine (new_disk (fun k => k ≤ w.heap.size + 1 + 1) w0 (fun k hk => by omega)).mono ?_); (rintro r w1 ⟨b, rfl, hD1, hk1⟩); (have hB1 := hk1.blk hB0 (fun h => h)); (have hK1 : Keeps w w1 := hK0.keeps hk1); (have hlt1 := hB1.lt); (have hB31 := hk1.blk hB3 (fun h => h)); (have hB41 := hk1.blk hB4 (fun h => h)); (have hbx1 := hB1.cell))
      | ((go_at_call 8); (refine (num_any 0 (by omega) (by omega) _).mono ?_); (rintro r wn ⟨rfl, rfl⟩))
      | ((go_at_call 9); (refine (HL.out b 0 w1 (fun k => k ≤ w.heap.size + 1 + 1) (by omega) (by omega) (by have := HS.out.1; omega) (HS.out.kept hK1 (fun h => h)) hD1 (HA.out.recs.mono hK1 (fun k hk => by omega)) (HA.out.cuts.mono hK1 (fun k hk => by omega))).mono ?_); (rintro r w2 ⟨v, rfl, gs, g1, g2, g3, g4, g5, g6⟩); (have hl : gs.flatten.length = rn := by rw [g1]; simp); (obtain ⟨base, cap, hv, hrc, hcap, hcell⟩ := g3.form); (rw [hl] at hv hrc); (subst hv); (have hB2 := g6.blk hB1 (fun hn => hn (by omega))); (have hB32 := g6.blk hB31 (fun hn => hn (by omega))); (have hB42 := g6.blk hB41 (fun hn => hn (Nat.le_refl _))); (have hsz2 := g6.size); (have hlt2 := hB2.lt); (have hlt42 := hB42.lt); (have hbx2 := hB2.cell); (have hK2 : Keeps w w2 := hK1.trans g6 (fun i hi hx => by omega)); (have HK2 := Lib.hid hK2); (have HG1 := Lib.hid g1); (have HG2 := Lib.hid g2); (have HG3 := Lib.hid g3); (have HG4 := Lib.hid g4); (have HG5 := Lib.hid g5); (have HCell := Lib.hid hcell); (clear hK2 g1 g2 g3 g4 g5 g6 hcell))
      | ((go_at_call 18); (refine (HSz.out _).mono ?_); (rintro r w3 ⟨rfl, hk3⟩); (have hB23 := hk3.blk (hB2.alloc (.cells #[.slice base rn cap] 24)) (fun h => h)); (have hB33 := hk3.blk (hB32.alloc (.cells #[.slice base rn cap] 24)) (fun h => h)); (have hB43 := hk3.blk (hB42.alloc (.cells #[.slice base rn cap] 24)) (fun h => h)); (have hB73 : Blk w3 w2.heap.size #[.slice base rn cap] 24 := hk3.blk (Blk.new' rfl) (fun h => h)); (have hk23 : Keeps w2 w3 := Fr.keeps ((Fr.refl _ w2).alloc _) hk3); (have hbx3 := hB23.cell))
      | fail)
    have hfl := fileB_len (tag := tag) HG2.out hw2 (by rw [hl]; omega)
    obtain ⟨hop, htl⟩ := read_behind (tag := tag) (M := (aOf W Wr - 24) / wdOf W) (B := bOf W Wr Rd) (by have := Nat.div_mul_le_self (aOf W Wr - 24) (wdOf W); omega) (by omega) (by have := Nat.div_mul_le_self (aOf W Wr - 24) (wdOf W); omega) (by have := Nat.div_le_self (aOf W Wr - 24) (wdOf W); omega) (by omega) (by omega) (by omega) (by rw [hl]; omega) HG2.out []
    simp only [List.append_nil, decide_true] at hop htl
    obtain ⟨bs, hbs⟩ : ∃ bs, fileB (wdOf W) tag gs = bs := ⟨_, rfl⟩
    obtain ⟨want, hwant⟩ : ∃ want, gs.flatten = want := ⟨_, rfl⟩
    have hD3 : DiskAt w3 b 1 (some (fileB (wdOf W) tag gs)) (fun x => (x ≤ w.heap.size + 1 + 1 ∨ (Value.slice base rn cap).ownBlock = some x) ∨ x = w2.heap.size) := HG5.out.more hk23 (fun k hk => by
      rcases hk with hk | hk
      · exact Or.inl hk
      · right; subst hk; exact ⟨Nat.le_refl _, hB73.lt⟩)
    have hK3 : Keeps w w3 := HK2.out.keeps hk23
    have hG33 := HG3.out.keeps hk23 (fun _ _ h => h)
    rw [hwant] at hG33
    obtain ⟨base0, cap0, hv0, -, -, hcell3⟩ := hG33.form
    have HG33 := Lib.hid hG33
    have hbase : base = base0 := by injection hv0 with h
    subst hbase
    have HCell3 := Lib.hid hcell3
    clear hv0 hcell3 hG33
    have hG3 := HG3.out
    have hG4 := HG4.out
    rw [hbs] at hop htl hfl hD3
    rw [hwant] at hl htl hG3
    generalize bOf W Wr Rd = B at *
    generalize wdOf W = wd at *
    generalize aOf W Wr = a at *
    have hmk := fun w => run_make_one (P := Tryd.prog) w 27 5 (.int .u8 0) 1 Tryd.underlying27 info_u8 rfl .i64 .i64 B (by omega) (by omega)
    have hrw : Array.replicate B (.int .u8 0) = bytesA (List.replicate B 0) := by simp [bytesA_replicate, bv]
    rw [hrw] at hmk
    have HOp := Lib.hid hop
    have HTl := Lib.hid htl
    have HD3 := Lib.hid hD3
    have HK3 := Lib.hid hK3
    have HFl := Lib.hid hfl
    have HG3' := Lib.hid hG3
    have HG4' := Lib.hid hG4
    have hct := hB23.cell
    have hlt3 := hB23.lt
    have hmk2 := hmk w3.drew
    clear hop htl hD3 hK3 hfl hG3 hG4 hrw hbs hwant hB0 hB1 hB2 hB3 hB31 hB32 hB4 hB41 hB42 hK0 hK1 hk1 hbx1 hbx2 hbx3 hk3 hk23
    have hS3 : ∀ x, x ≤ w.heap.size + 1 + 1 → (fun x => (x ≤ w.heap.size + 1 + 1 ∨ (Value.slice base rn cap).ownBlock = some x) ∨ x = w2.heap.size) x := fun x hx => Or.inl (Or.inl hx)
    have hS7 : ∀ x, x = w2.heap.size → (fun x => (x ≤ w.heap.size + 1 + 1 ∨ (Value.slice base rn cap).ownBlock = some x) ∨ x = w2.heap.size) x := fun x hx => Or.inr hx
    have hSo : ∀ x, (Value.slice base rn cap).ownBlock = some x → (fun x => (x ≤ w.heap.size + 1 + 1 ∨ (Value.slice base rn cap).ownBlock = some x) ∨ x = w2.heap.size) x := fun x hx => Or.inl (Or.inr hx)
    generalize (fun x => (x ≤ w.heap.size + 1 + 1 ∨ (Value.slice base rn cap).ownBlock = some x) ∨ x = w2.heap.size) = S at *
    have hst := HS.out.1
    go_cut [12, 13] from 45 to 58 (fun s12 s13 wx => MadeN w3 S 1 b B wd tag bs want s12 s13 wx)
    case first =>
      go_region_held3 (fun w' => ∀ i, w'.cell? ⟨w.heap.size, i, none⟩ = (#[.int .i64 W, .int .u64 (tag : Int), .int .i64 Wr, .int .i64 Rd, .slice ca cn cc, .slice ra rn rc] : Array Value)[i]?)
        (((try dsimp only); first | with_reducible exact fun i => Blk.cell hBo i | with_reducible exact fun i => Blk.cell hBt i | with_reducible exact fun i => Blk.cell (Blk.alloc hBt _) i | with_reducible exact fun i => Blk.cell (Blk.drew (Blk.alloc hB23 _)) i | with_reducible exact fun i => Blk.cell (Blk.drew hB23) i | fail))
        (first
          | ((go_at_call 20); (refine (textForm_any (wd : Int) _).mono ?_); (rintro r wt ⟨p, q, rfl, hFt, hp, hq, hkt⟩); (have hBt : Blk wt w.heap.size #[.int .i64 W, .int .u64 (tag : Int), .int .i64 Wr, .int .i64 Rd, .slice ca cn cc, .slice ra rn rc] 26 := hkt.blk (by first | exact ((hB23.alloc _).drew) | exact hB23.drew) (fun h => h)); (have hmk3 := hmk wt))
          | ((go_at_call 19); (refine (ran_open S 1 b B wd tag p q w3.heap.size bs (by have := HFl.out; omega) hw1 hw2 (by omega) (by omega) (by omega) ht (hS3 _ (by omega)) w3 wt (HS.out.kept HK3.out (fun h => h)) HD3.out (Fr.keeps (((Fr.refl _ w3).alloc _).drew) hkt) hFt (by simp at hp; omega) (by simp at hq; omega) (hkt.blk (Blk.new' rfl) (fun h => h)) (Nat.le_refl _) HOp.out).mono ?_); (rintro r wo ⟨rb, rfl, hFo, hrb, hKo, hRo⟩); (have hBo : Blk wo w.heap.size #[.int .i64 W, .int .u64 (tag : Int), .int .i64 Wr, .int .i64 Rd, .slice ca cn cc, .slice ra rn rc] 26 := hFo.blk hB23 (fun hn => hn (hS3 _ (by omega)))))
          | ((go_at_call 19); (have hs2 := hkt.size); (refine (ran_open S 1 b B wd tag p q wt.heap.size bs (by have := HFl.out; omega) hw1 hw2 (by omega) (by omega) (by omega) ht (hS3 _ (by omega)) w3 (wt.alloc (.cells (bytesA (List.replicate B 0)) 5)) (HS.out.kept HK3.out (fun h => h)) HD3.out ((Fr.keeps (Fr.refl _ w3).drew hkt).alloc _) ⟨hFt.1.alloc _, hFt.2.alloc _⟩ (by simp at hp; omega) (by simp at hq; omega) (Blk.new' rfl) (by simp at hs2; omega) HOp.out).mono ?_); (rintro r wo ⟨rb, rfl, hFo, hrb, hKo, hRo⟩); (have hBo : Blk wo w.heap.size #[.int .i64 W, .int .u64 (tag : Int), .int .i64 Wr, .int .i64 Rd, .slice ca cn cc, .slice ra rn rc] 26 := hFo.blk hB23 (fun hn => hn (hS3 _ (by omega))))))
      all_goals (
        (try go_wp2_with fail)
        go_meet
        rw [HTl.out] at hRo
        refine ⟨p, q, _, rb, rfl, rfl, hFo, ?_, ?_, ?_, ?_, hKo, hRo⟩
        all_goals (have hs3 := hkt.size; simp at hp hq hs3 hrb; (try simp); (try omega)))
    case rest =>
      unfold MadeN at hcut
      obtain ⟨p, q, g, rb, rfl, rfl, hFo, hp, hq, hg, hrb, hKo, hRo⟩ := hcut
      clear hmk2 hct hlt3 hmk
      go_wp2_with (first
        | ((go_at_call 8); (refine (num_any 0 (by omega) (by omega) _).mono ?_); (rintro r wn ⟨rfl, rfl⟩))
        | fail)
      have hS0 : ∀ k, InR S p q g rb nilV k → k < wc.heap.size := by
        obtain ⟨f1, f2, -, -⟩ := rdSt_forms hRo
        obtain ⟨-, -, f3, f4⟩ := rdSt_told hRo
        have hsf := hFo.size
        rintro k (hk | hk | hk | hk | hk | hk)
        · have := HD3.out.lt hk; omega
        · omega
        · omega
        · omega
        · omega
        · cases hk
      have hm : rb < wc.heap.size ∧ p < wc.heap.size ∧ q < wc.heap.size ∧ g < wc.heap.size ∧ 1 < wc.heap.size := ⟨hS0 _ hKo.sr, hS0 _ hKo.sp, hS0 _ hKo.sq, hS0 _ hKo.sg, hS0 _ hKo.ss⟩
      have HSt := Lib.hid (ran_first hS0 hRo)
      have hin : ∀ k cs t, S k → Blk w3 k cs t → Blk wc k cs t ∧ InR S p q g rb nilV k ∧ k ≠ g ∧ k ≠ rb := fun k cs t hk hb => by
        have := hb.lt
        exact ⟨hFo.blk hb (fun hn => hn hk), Or.inl hk, by omega, by omega⟩
      have h3c := hin _ _ _ (hS3 _ (Nat.le_refl _)) hB43
      have h4c := hin _ _ _ (hS3 _ (by omega)) hB33
      have h7c := hin _ _ _ (hS7 _ rfl) hB73
      have HIn := Lib.hid hin
      have HKo := Lib.hid hKo
      have HFo := Lib.hid hFo
      clear hin hKo hFo hRo
      refine wp_loop (fun a' w' => ∃ (k15 : Nat) (ds : List Deferred), RngEx wc (InR S p q g rb nilV) 1 b p q g B wd tag rb bs want sn k15 ds w' ∧ RgSlots w.heap.size (w.heap.size + 1) (w.heap.size + 1 + 1) w2.heap.size rb wc.heap.size k15 ds a')
        (fun a' w' => match a'.tmps.getD 15 undef with | .pointer (some x) => (match w'.cell? x with | some (.int _ x) => sn + 1 - x.toNat | _ => 0) | _ => 0) ?_ ?_
      · refine ⟨_, [], ⟨0, 0, false, _, ⟨Nat.zero_le _, Nat.zero_le _, fun h => by omega⟩, HSt.out⟩, ?_⟩
        unfold RgSlots
        (repeat apply Exists.intro)
        rfl
      rintro a' wr ⟨k15, ds, ⟨i, t, over, O, ⟨hi1, ht1, hlast⟩, hO⟩, hsl⟩
      unfold RgSlots at hsl
      obtain ⟨s0, hsl⟩ := hsl; obtain ⟨s1, hsl⟩ := hsl; obtain ⟨s5, hsl⟩ := hsl; obtain ⟨s6, hsl⟩ := hsl; obtain ⟨s8, hsl⟩ := hsl; obtain ⟨s9, hsl⟩ := hsl; obtain ⟨s10, hsl⟩ := hsl; obtain ⟨s11, hsl⟩ := hsl; obtain ⟨s13, hsl⟩ := hsl; obtain ⟨s16, hsl⟩ := hsl; obtain ⟨s17, hsl⟩ := hsl; obtain ⟨s18, hsl⟩ := hsl; obtain ⟨s19, hsl⟩ := hsl; obtain ⟨s20, hsl⟩ := hsl; obtain ⟨s21, hsl⟩ := hsl; obtain ⟨s22, hsl⟩ := hsl; obtain ⟨s23, hsl⟩ := hsl; obtain ⟨s24, hsl⟩ := hsl; obtain ⟨s25, hsl⟩ := hsl; obtain ⟨s26, hsl⟩ := hsl; obtain ⟨s27, hsl⟩ := hsl; obtain ⟨s28, hsl⟩ := hsl; obtain ⟨s29, hsl⟩ := hsl; obtain ⟨s30, hsl⟩ := hsl; obtain ⟨s31, hsl⟩ := hsl; obtain ⟨s32, hsl⟩ := hsl; obtain ⟨s33, hsl⟩ := hsl; obtain ⟨s34, hsl⟩ := hsl; obtain ⟨s35, hsl⟩ := hsl; obtain ⟨s36, hsl⟩ := hsl; obtain ⟨s37, hsl⟩ := hsl; obtain ⟨s38, hsl⟩ := hsl; obtain ⟨s39, hsl⟩ := hsl; obtain ⟨s40, hsl⟩ := hsl; obtain ⟨s41, hsl⟩ := hsl; obtain ⟨s42, hsl⟩ := hsl; obtain ⟨s43, hsl⟩ := hsl; obtain ⟨s44, hsl⟩ := hsl; obtain ⟨s45, hsl⟩ := hsl; obtain ⟨s46, hsl⟩ := hsl; obtain ⟨s47, hsl⟩ := hsl; obtain ⟨s48, hsl⟩ := hsl; obtain ⟨s49, hsl⟩ := hsl; obtain ⟨s50, hsl⟩ := hsl; obtain ⟨s51, hsl⟩ := hsl; obtain ⟨s52, hsl⟩ := hsl; obtain ⟨s53, hsl⟩ := hsl; obtain ⟨s54, hsl⟩ := hsl; obtain ⟨s55, hsl⟩ := hsl; obtain ⟨s56, hsl⟩ := hsl; obtain ⟨s57, hsl⟩ := hsl; obtain ⟨s58, hsl⟩ := hsl; obtain ⟨s59, hsl⟩ := hsl; obtain ⟨s60, hsl⟩ := hsl; obtain ⟨s61, hsl⟩ := hsl; obtain ⟨s62, hsl⟩ := hsl; obtain ⟨s63, hsl⟩ := hsl; obtain ⟨s64, hsl⟩ := hsl; obtain ⟨s65, hsl⟩ := hsl; obtain ⟨s66, hsl⟩ := hsl; obtain ⟨s67, hsl⟩ := hsl; obtain ⟨s68, hsl⟩ := hsl; obtain ⟨s69, hsl⟩ := hsl; obtain ⟨s70, hsl⟩ := hsl; obtain ⟨s71, hsl⟩ := hsl; obtain ⟨s72, hsl⟩ := hsl; obtain ⟨s73, hsl⟩ := hsl; obtain ⟨s74, hsl⟩ := hsl; obtain ⟨s75, hsl⟩ := hsl; obtain ⟨s76, hsl⟩ := hsl; obtain ⟨s77, hsl⟩ := hsl; obtain ⟨s78, hsl⟩ := hsl; obtain ⟨s79, hsl⟩ := hsl; obtain ⟨s80, hsl⟩ := hsl; obtain ⟨s81, hsl⟩ := hsl; obtain ⟨s82, hsl⟩ := hsl; obtain ⟨s83, hsl⟩ := hsl; obtain ⟨s84, hsl⟩ := hsl; obtain ⟨s85, hsl⟩ := hsl; obtain ⟨s86, hsl⟩ := hsl; obtain ⟨s87, hsl⟩ := hsl; obtain ⟨s88, hsl⟩ := hsl; obtain ⟨s89, hsl⟩ := hsl; obtain ⟨s90, hsl⟩ := hsl; obtain ⟨s91, hsl⟩ := hsl; obtain ⟨s92, hsl⟩ := hsl; obtain ⟨s93, hsl⟩ := hsl; obtain ⟨s94, hsl⟩ := hsl; obtain ⟨s95, hsl⟩ := hsl; obtain ⟨s96, hsl⟩ := hsl; obtain ⟨s97, hsl⟩ := hsl; obtain ⟨s98, hsl⟩ := hsl; obtain ⟨s99, hsl⟩ := hsl; obtain ⟨s100, hsl⟩ := hsl; obtain ⟨s101, hsl⟩ := hsl; obtain ⟨s102, hsl⟩ := hsl; obtain ⟨s103, hsl⟩ := hsl; obtain ⟨s104, hsl⟩ := hsl; obtain ⟨s105, hsl⟩ := hsl; obtain ⟨s106, hsl⟩ := hsl; obtain ⟨s107, hsl⟩ := hsl; obtain ⟨s108, hsl⟩ := hsl; obtain ⟨s109, hsl⟩ := hsl; obtain ⟨s110, hsl⟩ := hsl; obtain ⟨s111, hsl⟩ := hsl; obtain ⟨s112, hsl⟩ := hsl; obtain ⟨s113, hsl⟩ := hsl; obtain ⟨s114, hsl⟩ := hsl; obtain ⟨s115, hsl⟩ := hsl; obtain ⟨s116, hsl⟩ := hsl; obtain ⟨s117, hsl⟩ := hsl; obtain ⟨s118, hsl⟩ := hsl; obtain ⟨s119, hsl⟩ := hsl; obtain ⟨s120, hsl⟩ := hsl; obtain ⟨s121, hsl⟩ := hsl; obtain ⟨s122, hsl⟩ := hsl; obtain ⟨s123, hsl⟩ := hsl; obtain ⟨s124, hsl⟩ := hsl; obtain ⟨s125, hsl⟩ := hsl; obtain ⟨s126, hsl⟩ := hsl; obtain ⟨s127, hsl⟩ := hsl; obtain ⟨s128, hsl⟩ := hsl; obtain ⟨s129, hsl⟩ := hsl; obtain ⟨s130, hsl⟩ := hsl
      subst hsl
      clear HSt
      have hc15 := hO.b15.cell
      have hf15 := hO.b15.free
      have hlt15 := hO.b15.lt
      have hlt14 := hO.b14.lt
      have hszr := hO.fr.size
      have noF : ∀ k, (InR S p q g rb nilV k ∧ k ≠ g ∧ k ≠ rb) → ¬ RdFr (InR S p q g rb nilV) g rb k := fun k hk hx => hx.elim (fun hx => hx hk.1) (fun hx => hx.elim hk.2.1 hk.2.2)
      have h3r := hO.fr.blk h4c.1 (noF _ h4c.2)
      have hc3 := h3r.cell
      by_cases hi : i ≤ sn
      · have hii : (i : Int) ≤ (sn : Int) := by omega
        have HO := Lib.hid hO
        have hql := fun w f g c => run_eql_func Tryd.prog 60 isSeqF w f g c
        clear hO
        go_wp2_with (first
          | ((go_at_call 21); (refine (all_any rb _).mono ?_); (rintro r wa ⟨rfl, rfl⟩))
          | fail)
        refine range_wp2 (gf := 48) (lb := #[.pointer (some ⟨wr.heap.size + 1, 0, none⟩)]) (by first | rfl | simp [go_sem]) (enters_of Tryd.func48 (by kernel_rfl) rfl) ?_
        intro rec r1 r2 r3 r4 r5 r6
        have es : ∀ o1 o2, ((wr.alloc o1).alloc o2).heap.size + 1 = wr.heap.size + 3 := by intro o1 o2; simp
        rw [es]
        have hfw : (((wr.alloc (.cells #[.int .i64 0] 3)).alloc (.cells #[.pointer (some ⟨rb, 0, none⟩)] 42)).alloc (.deferred (some []))).alloc (.loop rec) = fourW wr rb rec := rfl
        rw [hfw]
        have K := HO.out.kk HKo.out hm
        have hbl : bs.length ≤ 2147483648 := by have := HFl.out; omega
        have HW7 := Lib.hid (fun (W' : World) (rec' : Loop) (t' left told : Nat) (over' : Bool) (hR : RanI (fourW wr rb rec) (Four O wr) 1 b p q g B wd tag rb bs want wc.heap.size wr.heap.size (wr.heap.size + 3) rec' t' left told over' W') => HO.out.still hm hR)
        have HB := Lib.hid (fun (W' : World) (rec' : Loop) (t' left told : Nat) (over' : Bool) (hR : RanI (fourW wr rb rec) (Four O wr) 1 b p q g B wd tag rb bs want wc.heap.size wr.heap.size (wr.heap.size + 3) rec' t' left told over' W') => HO.out.stillB hm hR)
        have HRec := Lib.hid (show ({ { rec with state := .busy } with state := if (none : Option Code).isNone then .ready else .done, pending := none } : Loop) = rec from by obtain ⟨x1, x2, x3, x4, x5, x6, x7, x8⟩ := rec; simp only at r1 r2; subst r1 r2; rfl)
        refine (all1_any (wr.heap.size + 3) (wr.heap.size + 1) rb want (by omega)
          (fun u W' => u ≤ want.length ∧ t ≤ u ∧ ∃ over', RanI (fourW wr rb rec) (Four O wr) 1 b p q g B wd tag rb bs want wc.heap.size wr.heap.size (wr.heap.size + 3) rec u (u - t) u over' W')
          (fun u W' => t ≤ u ∧ RanI (fourW wr rb rec) (Four O wr) 1 b p q g B wd tag rb bs want wc.heap.size wr.heap.size (wr.heap.size + 3) rec u (u - t) (u + 1) false W')
          (fun W' => ∃ left, RanI (fourW wr rb rec) (Four O wr) 1 b p q g B wd tag rb bs want wc.heap.size wr.heap.size (wr.heap.size + 3) rec want.length left want.length true W')
          (fun W' => ∃ u left rec', u ≤ want.length ∧ i < sn ∧ rec'.pending = some (.exit 2) ∧ rec'.state = .done ∧ RanI (fourW wr rb rec) (Four O wr) 1 b p q g B wd tag rb bs want wc.heap.size wr.heap.size (wr.heap.size + 3) rec' u left u false W')
          ?_ ?_ ?_ ?_ ?_ ?_ ?_ ?_ t _ ⟨ht1, Nat.le_refl _, over, by rw [Nat.sub_self]; exact HO.out.start rec⟩).mono ?_
        · rintro u W' ⟨-, -, over', hR⟩
          exact (HW7.out _ _ _ _ _ _ hR).2.2.1
        · rintro u W' ⟨-, hR⟩
          exact (HW7.out _ _ _ _ _ _ hR).2.2.1
        · rintro u W' ⟨-, -, over', hR⟩
          exact (rdSt_told hR.rd).1
        · rintro u W' ⟨-, hR⟩
          obtain ⟨f1, f2, -, -⟩ := rdSt_told hR.rd
          exact ⟨by rw [f1]; push_cast; rfl, f2⟩
        · rintro u W' ⟨hu, -, -⟩
          exact hu
        · rintro u W' hx ⟨hu, htu, over', hR⟩
          refine (hR.stop K hbl (by omega) hx).mono ?_
          rintro r W2 ⟨rfl, hR2⟩
          have e : u = want.length := by have := List.getElem?_eq_none_iff.1 hx; omega
          subst e
          exact ⟨rfl, _, hR2⟩
        · rintro u x W' hx ⟨hu, htu, over', hR⟩
          refine (hR.next K hbl (by omega) hx).mono ?_
          rintro r W2 ⟨rfl, hR2⟩
          exact ⟨rfl, htu, hR2⟩
        · rintro u x W' hx ⟨htu, hR⟩
          suffices key : ∀ RR : Ending → World → Prop, (∀ W', (u + 1 ≤ want.length ∧ t ≤ u + 1 ∧ ∃ over', RanI (fourW wr rb rec) (Four O wr) 1 b p q g B wd tag rb bs want wc.heap.size wr.heap.size (wr.heap.size + 3) rec (u + 1) (u + 1 - t) (u + 1) over' W') → RR (.returned (.bool true)) W') → (∀ W', (∃ u left rec', u ≤ want.length ∧ i < sn ∧ rec'.pending = some (.exit 2) ∧ rec'.state = .done ∧ RanI (fourW wr rb rec) (Four O wr) 1 b p q g B wd tag rb bs want wc.heap.size wr.heap.size (wr.heap.size + 3) rec' u left u false W') → RR (.returned (.bool false)) W') → YieldAt Fence.wide 8 Tryd.prog (wr.heap.size + 3) #[.int .i64 (u : Int), .string (strB x)] W' RR from
            key _ (fun W' h => Or.inl ⟨rfl, h⟩) (fun W' h => Or.inr ⟨rfl, h⟩)
          intro RR hgo hstop
          have HGo := Lib.hid hgo
          have HStop := Lib.hid hstop
          clear hgo hstop
          refine yield_at (r := rec) hR.lp r1 (by rw [r4]; rfl) ?_
          rw [r3, r4, r5, r6]
          gi_wp2_with fail
          refine ⟨rec, hR.lp, r1, ?_⟩
          have hRb := hR.loop K { rec with state := .busy }
          generalize hW1 : W'.putObj (wr.heap.size + 3) (.loop { rec with state := .busy }) = W1 at hRb ⊢
          clear hW1 hR
          obtain ⟨hlt, hxu⟩ := List.getElem?_eq_some_iff.1 hx
          obtain ⟨hS1, hB15', -, -⟩ := HW7.out _ _ _ _ _ _ hRb
          have h14c := hRb.b14.cell 0
          have h14f := hRb.b14.free 0
          have h16c := hRb.b16.cell 0
          have h16f := hRb.b16.free 0
          have h15c := hB15'.cell 0
          have h3b := (hS1 _ _ _ h4c.2.1 h4c.2.2.1 h4c.2.2.2 h4c.1).cell 0
          have h7b := (hS1 _ _ _ h7c.2.1 h7c.2.2.1 h7c.2.2.2 h7c.1).cell 0
          obtain ⟨gg, hbe, hcu⟩ := HCell3.out u hlt
          have hcw : W1.cell? ⟨gg, u, none⟩ = some (.string (strB x)) := by
            have hown : (Value.slice base rn cap).ownBlock = some gg := by rw [hbe]; rfl
            obtain ⟨cs, hbk⟩ := HG33.out.blk hown
            have hb1 := HIn.out gg cs _ (hSo gg hown) hbk
            have hb2 := hS1 _ _ _ hb1.2.1 hb1.2.2.1 hb1.2.2.2 hb1.1
            rw [hb2.cell, ← hbk.cell, hcu, hxu]
          have hult : (u : Int) < (rn : Int) := by omega
          have hne1 := K.ne
          obtain ⟨hne2, hne3⟩ := hRb.neL
          subst hbe
          have HRb := Lib.hid hRb
          have HHx := Lib.hid hx
          have HK := Lib.hid K
          have H4c := Lib.hid h4c
          have HS3 := Lib.hid hS3
          clear hRb hS1 hB15' hcu hx hxu K HCell3 HG33 h3r hc3 hc15 hf15 hlast hql hfw es noF HIn HKo h3c h4c h7c hS0 hm hS3 hS7 hSo r1 r2 r3 r4 r5 r6 HL HMu HSz
          gi_wp2_with fail
          have hR2 := (HRb.out.set14 HK.out (u + 1)).set16 HK.out (u - t + 1)
          rw [show ((u + 1 : Nat) : Int) = (u : Int) + 1 from by push_cast; rfl, show ((u - t + 1 : Nat) : Int) = ((u - t : Nat) : Int) + 1 from by push_cast; rfl] at hR2
          generalize hW2 : (W1.setCell ⟨wc.heap.size, 0, none⟩ (.int .i64 ((u : Int) + 1))).setCell ⟨wr.heap.size, 0, none⟩ (.int .i64 (((u - t : Nat) : Int) + 1)) = W2 at hR2 ⊢
          clear hW2 h14c h14f h16c h16f h15c h3b h7b hcw
          obtain ⟨hS2, hB15q, -, -⟩ := HW7.out _ _ _ _ _ _ hR2
          have h16q := hR2.b16.cell 0
          have h15q := hB15q.cell 0
          have h3q := (hS2 _ _ _ H4c.out.2.1 H4c.out.2.2.1 H4c.out.2.2.2 H4c.out.1).cell 0
          by_cases hbi : i < sn
          · obtain ⟨bb, hsa, hbl2, hbc⟩ := HI.out i hbi
            have hadd : (bb.add i).block = bb.block := by unfold Addr.add; split <;> rfl
            have hstop : W2.cell? (bb.add i) = some (.int .i64 (sf i)) := by
              have hk3 := HK3.out
              have hs3 := hk3.size
              have hsf := HFo.out.size
              have e1 := hk3.block bb.block hbl2 (fun h => h)
              have e2 := HFo.out.block bb.block (by omega) (fun hn => hn (HS3.out _ (by omega)))
              have e3 := HB.out _ _ _ _ _ _ hR2 bb.block (Or.inl (HS3.out _ (by omega))) (by omega) (by omega) (by omega)
              rw [← hbc]
              exact World.cell?_of_block (by rw [hadd]; exact e3.trans (e2.trans e1))
            have hd1 : decide ((i : Int) < (sn : Int)) = true := decide_eq_true (by omega)
            have hii2 : (i : Int) < (sn : Int) := by omega
            subst hsa
            have HR2 := Lib.hid hR2
            clear hR2 hS2 hB15q hbc
            by_cases hlf : (((u - t : Nat) : Int) + 1) = sf i
            · have hd2 : ((((u - t : Nat) : Int) + 1) == sf i) = true := by rw [beq_iff_eq]; exact hlf
              refine quiet_in_round (wr.heap.size + 3) (by kernel_rfl) (by kernel_rfl) (by kernel_rfl) ?_
              repeat (gi_big_quiet_step (fail))
              refine wpQuietIn_nil ?_
              rintro w' ⟨nq, rfl⟩
              gi_wp2_with fail
              have hR3 := HR2.out.drewN nq
              exact ⟨_, _, run_endRound (some (.exit 2)) hR3.lp, HStop.out _ ⟨u + 1, u - t + 1, _, by omega, hbi, rfl, rfl, hR3.loop HK.out _⟩⟩
            · have hd2 : ((((u - t : Nat) : Int) + 1) == sf i) = false := by rw [beq_eq_false_iff_ne]; exact hlf
              refine quiet_in_round (wr.heap.size + 3) (by kernel_rfl) (by kernel_rfl) (by kernel_rfl) ?_
              repeat (gi_big_quiet_step (fail))
              refine wpQuietIn_nil ?_
              rintro w' ⟨nq, rfl⟩
              gi_wp2_with fail
              have hR3 := HR2.out.drewN nq
              refine ⟨_, _, run_endRound none hR3.lp, HGo.out _ ⟨by omega, by omega, false, ?_⟩⟩
              have hR4 := hR3.loop HK.out rec
              rw [show u + 1 - t = u - t + 1 from by omega]
              refine Eq.mp ?_ hR4
              congr 3
              exact HRec.out.symm
          · have hd1 : decide ((i : Int) < (sn : Int)) = false := decide_eq_false (by omega)
            have hii2 : ¬ ((i : Int) < (sn : Int)) := by omega
            have HR2 := Lib.hid hR2
            clear hR2 hS2 hB15q
            refine quiet_in_round (wr.heap.size + 3) (by kernel_rfl) (by kernel_rfl) (by kernel_rfl) ?_
            repeat (gi_big_quiet_step (fail))
            refine wpQuietIn_nil ?_
            rintro w' ⟨nq, rfl⟩
            gi_wp2_with fail
            have hR3 := HR2.out.drewN nq
            refine ⟨_, _, run_endRound none hR3.lp, HGo.out _ ⟨by omega, by omega, false, ?_⟩⟩
            have hR4 := hR3.loop HK.out rec
            rw [show u + 1 - t = u - t + 1 from by omega]
            refine Eq.mp ?_ hR4
            congr 3
            exact HRec.out.symm
        · rintro e W3 ⟨⟨v, rfl⟩, (⟨left, hR⟩ | ⟨u, left, rec', hu, hisn, hpe, hdo, hR⟩)⟩
          · have hdummy : True := trivial
            have hOt := HO.out.then HKo.out hm hR { rec with state := .exhausted }
            have hR4 := hR.loop K { rec with state := .exhausted }
            have h15q := (HW7.out _ _ _ _ _ _ hR4).2.1
            have hsz4 : (W3.putObj (wr.heap.size + 3) (.loop { rec with state := .exhausted })).heap.size = W3.heap.size := by unfold World.putObj; simp
            have hend := run_endLoop (P := Tryd.prog) hR.lp (by rw [r1]; simp)
            generalize hW4 : W3.putObj (wr.heap.size + 3) (.loop { rec with state := .exhausted }) = W4 at hOt hR4 h15q hsz4 hend
            rw [r2] at hend
            have h15c := h15q.cell 0
            have h15l := h15q.lt
            have HOt := Lib.hid hOt
            clear hW4 hR4 h15q hR hOt
            refine ⟨none, W4, hend, ?_⟩
            dsimp only
            have hwr : IntKind.i64.wrap ((i : Int) + 1) = (i : Int) + 1 := IntWalk.i64_in _ (by have := HSn.out; omega)
            clear hend r1 r2 r3 r4 r5 r6
            go_wp2_with fail
            refine ⟨⟨_, _, ⟨i + 1, want.length, true, _, ⟨by omega, by omega, fun h => ⟨rfl, rfl⟩⟩, HOt.out⟩, ?_⟩, ?_⟩
            · unfold RgSlots
              (repeat apply Exists.intro)
              rfl
            · omega
          · have hdummy : True := trivial
            have hOt := HO.out.then HKo.out hm hR { rec' with state := .exhausted }
            have hR4 := hR.loop K { rec' with state := .exhausted }
            have h15q := (HW7.out _ _ _ _ _ _ hR4).2.1
            have hsz4 : (W3.putObj (wr.heap.size + 3) (.loop { rec' with state := .exhausted })).heap.size = W3.heap.size := by unfold World.putObj; simp
            have hend := run_endLoop (P := Tryd.prog) hR.lp (by rw [hdo]; simp)
            generalize hW4 : W3.putObj (wr.heap.size + 3) (.loop { rec' with state := .exhausted }) = W4 at hOt hR4 h15q hsz4 hend
            rw [hpe] at hend
            have h15c := h15q.cell 0
            have h15l := h15q.lt
            have HOt := Lib.hid hOt
            clear hW4 hR4 h15q hR hOt
            refine ⟨some (.exit 2), W4, hend, ?_⟩
            dsimp only
            refine wpIn_wide.2 ?_
            have hwr : IntKind.i64.wrap ((i : Int) + 1) = (i : Int) + 1 := IntWalk.i64_in _ (by have := HSn.out; omega)
            clear hend r1 r2 r3 r4 r5 r6
            go_wp2_with fail
            refine ⟨⟨_, _, ⟨i + 1, u, false, _, ⟨by omega, by omega, fun h => by omega⟩, HOt.out⟩, ?_⟩, ?_⟩
            · unfold RgSlots
              (repeat apply Exists.intro)
              rfl
            · omega
      · have hie : i = sn + 1 := by omega
        obtain ⟨h1, h2⟩ := hlast hie
        subst h1 h2 hie
        have hnc : ¬ ((sn : Int) + 1 ≤ (sn : Int)) := by omega
        push_cast at hc15
        have h14r := hO.b14.cell 0
        rw [hl] at h14r
        have h7r := (hO.fr.blk h7c.1 (noF _ h7c.2)).cell 0
        have h4r := hO.fr.blk h3c.1 (noF _ h3c.2)
        have h4rc := h4r.cell 0
        have h4rf := h4r.free 0
        have hov : RdOver wr rb true 0 := rdSt_end (by have := hO.rd; rw [List.drop_length] at this; exact this)
        obtain ⟨c1, c2, c3, c4, c5, c6, c7, c8, c9, c10, c11, c12, c13, c14, c15, c16, c17, hBr⟩ := hov
        have hKw : Keeps w wr := by
          have hsz3 := HK3.out.size
          refine Fr.trans (Fr.trans HK3.out HFo.out ?_) hO.fr ?_
          · intro k hk hn
            exact hn (hS3 _ (by omega))
          · rintro k hk (hn | hn | hn)
            · exact hn (Or.inl (hS3 _ (by omega)))
            · omega
            · omega
        have hM : Marks (fun D => O D ∧ wc.heap.size ≤ D) ds (wr.setCell ⟨w.heap.size + 1 + 1, 0, none⟩ (.bool true)) := hO.marks.keeps (Fr.setEq (Fr.refl (· = w.heap.size + 1 + 1) wr) _) (fun D _ hD _ (e : D = w.heap.size + 1 + 1) => by have := hD.2; have := h3c.1.lt; omega)
        have HM := Lib.hid hM
        have H4r := Lib.hid h4r
        have HBr := Lib.hid hBr
        have HKw := Lib.hid hKw
        have hwle : w.heap.size ≤ wc.heap.size := by have := h3c.1.lt; omega
        clear hM h4r hBr hKw hO hlast
        go_wp2_with (first
          | ((go_at_call 17); (refine (rdone_any _ _ _ _ _ _ _ _ _ _ _ _ _ _ _ _ _ _ _ _ _ HBr.out).mono ?_); (rintro r wn ⟨rfl, rfl⟩))
          | ((go_at_call 22); (refine (rcode_any _ _ _ _ _ _ _ _ _ _ _ _ _ _ _ _ _ _ _ _ _ HBr.out).mono ?_); (rintro r wn ⟨rfl, rfl⟩))
          | ((go_at_call 8); (refine (num_any 0 (by omega) (by omega) _).mono ?_); (rintro r wn ⟨rfl, rfl⟩))
          | fail)
        exact ranges_ret (T := fun D => O D ∧ wc.heap.size ≤ D) (k4 := w.heap.size + 1 + 1) rfl HM.out (H4r.out.set 0 (.bool true)) (Fr.setCell HKw.out (by simp; try omega) _) (fun _ h => Nat.le_trans hwle h.2)
end Go.Proofs.YtcefockebphbaaaDoor

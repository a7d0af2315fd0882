/- strings.Replacer.Replace, the walk. -/
import Derived.Test.YtjoklcjpihadiaaGreatDoorRoQ0
import Derived.Laws.CopyRow
import Derived.Test.YtjoklcjpihadiaaGreatDoorRoB
set_option linter.unusedVariables false
set_option linter.unusedSimpArgs false
set_option linter.unnecessarySimpa false
namespace Go.Proofs.YtjoklcjpihadiaaGreatDoor
open Go Go.RowKit Sluice Go.Proofs.Ro Go.Shelf

/-- Cells with others laid into them. -/
def spl (cs : Array Value) (o : Nat) (l : List Value) : Array Value := (cs.toList.take o ++ l ++ cs.toList.drop (o + l.length)).toArray
theorem spl_size {cs : Array Value} {o : Nat} {l : List Value} (h : o + l.length ≤ cs.size) : (spl cs o l).size = cs.size := by
  simp [spl]; omega

theorem run_copy_blk {P : Program} (w : World) (dT sT ty elem : TypeId) (g o dLen dCap : Nat) (a : Addr) (sLen sCap : Nat) (cur : Array Value) (t : TypeId) (cs : List Value)
    (hu : P.underlying dT = some (.slice elem)) (hs : (P.info? elem).map (·.size) = some 1)
    (hg : Blk w g cur t) (hn : cs.length = Nat.min sLen dLen)
    (hsrc : ∀ j v, cs[j]? = some v → w.cell? (a.add j) = some v) (hfit : o + cs.length ≤ cur.size) (h1 : ∀ v ∈ cs, v.oneCell' = true) :
    ∃ w', (Builtin.copy_ #[dT, sT] ty #[.slice (some ⟨g, o, none⟩) dLen dCap, .slice (some a) sLen sCap]).run P w = .ok (goInt cs.length) w' ∧ Blk w' g (spl cur o cs) t ∧ Fr (· = g) w w' :=
  ⟨_, run_copy_row P w dT sT ty elem g o dLen dCap a sLen sCap cur t cs hu hs hg hn hsrc hfit h1, setRow_heap w g cur _ t _ hg, ⟨rfl, rfl, rfl, by simp, fun k _ hk => setRow_other w g k _ hk⟩⟩

theorem step_copy_run {P : Program} {ops : Array Oper} {o : Oper} {a : Act} {w : World} {K : Act → World → Prop} {Q : Exit → Act → World → Prop} {E : Prop}
    (hg : o.guard = none) (s x : Operand) (t u : TypeId) (hop : o.op = Op.call { callee := Callee.builtin Builtin.copy, args := #[s, x], argTypes := #[t, u] })
    (sv xv v : Value) (w' : World) (hs : a.eval s = sv) (hx : a.eval x = xv) (hrun : (Builtin.copy_ #[t, u] o.type #[sv, xv]).run P w = .ok v w')
    (hK : K (a.put o.dst v) w') :
    if Region.wanted o (yielded ops a.tmps) = true then Oper.wp P o a w K Q else E := by
  have hw : Region.wanted o (yielded ops a.tmps) = true := by simp [Region.wanted, hg]
  rw [if_pos hw]
  unfold Oper.wp
  simp [execOp, hop, resolve, invoke, builtin, hs, hx, hrun, Result.andThen]
  exact hK


theorem count_any (s : ByteArray) (c : UInt8) (w : World) : Calls Tryz.prog 136 #[.string s, .string ⟨#[c]⟩] w fun e w' => e = .returned (.int .i64 ((bl s).count c : Nat)) ∧ Keeps w w' := by
  refine (Tryz.strings_Count_one s c w).mono ?_
  rintro e w' ⟨rfl, rfl⟩
  exact ⟨rfl, Fr.refl _ _⟩

/-- A buffer of N bytes, begun with these. -/
def begun (N : Nat) (A : List UInt8) : Array Value := bytesA (A ++ List.replicate (N - A.length) 0)
theorem begun_none (N : Nat) : made (.int .u8 0) N = begun N [] := by
  unfold begun
  rw [List.nil_append, List.length_nil, Nat.sub_zero, bytesA_replicate]
  exact madeCells_one _ _
theorem begun_size {N : Nat} {A : List UInt8} (h : A.length ≤ N) : (begun N A).size = N := by unfold begun; rw [bytesA_size, List.length_append, List.length_replicate]; omega
theorem begun_one {N : Nat} {A : List UInt8} (c : UInt8) (h : A.length + 1 ≤ N) : (begun N A).setIfInBounds A.length (bv c) = begun N (A ++ [c]) := by
  unfold begun
  rw [bytesA_set, List.set_append_right _ _ (Nat.le_refl _), Nat.sub_self]
  obtain ⟨m, hm⟩ : ∃ m, N - A.length = m + 1 := ⟨N - A.length - 1, by omega⟩
  have e : N - (A ++ [c]).length = m := by rw [List.length_append, List.length_singleton]; omega
  rw [hm, e, List.replicate_succ, List.set_cons_zero, List.append_assoc]
  rfl
theorem begun_two {N : Nat} {A : List UInt8} (c d : UInt8) (h : A.length + 2 ≤ N) : spl (begun N A) A.length [bv c, bv d] = begun N (A ++ [c, d]) := by
  obtain ⟨m, hm⟩ : ∃ m, N - A.length = m + 2 := ⟨N - A.length - 2, by omega⟩
  have e : N - (A ++ [c, d]).length = m := by rw [List.length_append]; show N - (A.length + 2) = m; omega
  unfold begun spl bytesA
  rw [e, hm]
  congr 1
  rw [List.map_append, List.toList_toArray, List.take_left' (by simp), List.map_append, List.map_append]
  have e2 : (List.replicate (m + 2) (0 : UInt8)).map bv = bv 0 :: bv 0 :: (List.replicate m (0 : UInt8)).map bv := by rw [List.replicate_succ, List.replicate_succ]; rfl
  rw [e2]
  have e3 : (A.map bv ++ bv 0 :: bv 0 :: (List.replicate m (0 : UInt8)).map bv).drop (A.length + [bv c, bv d].length) = (List.replicate m (0 : UInt8)).map bv := by
    rw [← List.drop_drop, List.drop_left' (by simp)]; rfl
  rw [e3]
  rfl
theorem outL_take {l : List UInt8} {i : Nat} (h : i < l.length) : outL (l.take (i + 1)) = outL (l.take i) ++ escB (l.getD i 0) := by
  rw [take_succ_getD h, outL_append]
  congr 1
  unfold outL
  simp
theorem outL_take_le (l : List UInt8) (i : Nat) : (outL (l.take i)).length ≤ (outL l).length := by
  have h : outL l = outL (l.take i) ++ outL (l.drop i) := by rw [← outL_append, List.take_append_drop]
  rw [h, List.length_append]; omega

theorem vint {a b : Int} (h : a = b) : Value.int .i64 a = .int .i64 b := by rw [h]
theorem vbool {a b : Bool} (h : a = b) : Value.bool a = .bool b := by rw [h]
theorem infoByteQ : (Tryz.prog.info? 5).map (fun i => (i.zero, i.size, i.bytes)) = some (some (.int .u8 0), 1, 1) := by kernel_rfl

set_option maxHeartbeats 8000000 in
set_option maxRecDepth 1000000 in
theorem breplace_any (B P : Nat) (s : ByteArray) (hs : s.size ≤ 1048576) (w : World) (hR : ReplK B P pairs w) :
    Calls Tryz.prog 134 #[.pointer (some ⟨P, 0, none⟩), .string s] w fun e w' => e = .returned (.string ⟨(outL (bl s)).toArray⟩) ∧ Keeps w w' := by
  have hlen : (bl s).length = s.size := (Lib.size_eq s).symm
  obtain ⟨tb, tcap, h256, hfv⟩ := repl_list hR
  have HC := Lib.hid (repl_cell hR)
  have HV := Lib.hid hfv
  obtain ⟨C, hC⟩ : ∃ C, cnt (bl s) = C := ⟨_, rfl⟩
  have hCl : C ≤ s.size := by have := cnt_le (bl s); omega
  clear hfv hR
  by_cases h40 : 40 ≤ s.size
  · have h40z : (40 : Int) ≤ (s.size : Int) := by omega
    go_enter Tryz.func134, Tryz.ntmps134
    go_wp2
    go_loopw [5, 6, 32] (fun t5 t6 t32 wr => ∃ k S : Nat, k ≤ 5 ∧ t32 = .int .i64 (k : Int) ∧ t5 = .int .i64 ((s.size + S : Nat) : Int) ∧ t6 = .bool (decide (S ≠ 0)) ∧ psum (bl s) (fives.take k) = S ∧ Keeps w wr) (fun _ _ t32 _ => 5 - (intOf t32).toNat)
    case atStart => exact ⟨0, 0, by omega, rfl, rfl, rfl, rfl, Fr.refl _ _⟩
    case round =>
      obtain ⟨k, S0, hk, rfl, rfl, rfl, hS0, hK⟩ := hrel
      by_cases h5 : k < 5
      · obtain ⟨p, hp⟩ : ∃ p, fives[k]? = some p := ⟨_, List.getElem?_eq_getElem h5⟩
        have hlz : (k : Int) < 5 := by omega
        have e0 := cell_of_keeps hK (HV.out k p hp)
        have hsp : special p = true := by
          have := List.mem_of_getElem? hp
          unfold fives at this
          simp only [List.mem_cons, List.not_mem_nil, or_false] at this
          rcases this with rfl | rfl | rfl | rfl | rfl <;> rfl
        rcases HC.out p with ⟨h1, -⟩ | ⟨x, kb, kcap, -, -, hc, -, -, -⟩
        · rw [hsp] at h1; cases h1
        have e1 := cell_of_keeps hK hc
        have hps := psum_take (bl s) hp
        have hpl := psum_le (bl s) k
        have hcl := count_le (bl s) p
        rw [hS0] at hps hpl
        obtain ⟨s1, hs1⟩ : ∃ s1 : ByteArray, s1 = ⟨#[p]⟩ := ⟨_, rfl⟩
        have cC := Lib.hid (count_any s p)
        rw [← hs1] at e0 cC
        obtain ⟨n, hn⟩ : ∃ n : Nat, p.toNat = n := ⟨_, rfl⟩
        have hz1 : s1.size = 1 := by rw [hs1]; rfl
        have hx1 : ∀ h : 0 < s1.size, (s1[0]'h).toNat = n := by subst hs1; intro _; exact hn
        have hx0 := hx1 (by omega)
        have hn256 : n < 256 := hn ▸ p.toNat_lt
        rw [hn] at e1
        have HP := Lib.hid hps
        generalize (bl s).count p = m at cC HP hcl
        have hm0 : m = 0 ∨ 0 < m := by omega
        have HPp := Lib.hid hp
        have hl5 : (bl s).length ≤ 1048576 := by omega
        clear hp hsp hc hps hs1 hn hS0
        rcases hm0 with rfl | hm
        · go_wp2_with (go_at_call 136; refine (cC.out _).mono ?_; rintro e w1 ⟨rfl, hk1⟩)
          go_roundw
          case measure => simp [intOf]; omega
          case rel => exact ⟨k + 1, S0, by omega, rfl, vint (by omega), vbool (by rw [Bool.eq_iff_iff]; simp), HP.out, hK.keeps hk1⟩
        · go_upto_region 9 with (go_at_call 136; refine (cC.out _).mono ?_; rintro e w1 ⟨rfl, hk1⟩; have e2 := cell_of_keeps hk1 e1)
          go_region
          all_goals
            go_wp2
            go_roundw
            case measure => simp [intOf]; omega
            case rel => exact ⟨k + 1, S0 + m, by omega, rfl, vint (by omega), vbool (by rw [Bool.eq_iff_iff]; simp; try omega), HP.out, (hK.keeps hk1).drew⟩
      · have h5e : k = 5 := by omega
        subst h5e
        have hSC : S0 = C := by rw [← hS0, ← hC, ← psum_fives]; rfl
        subst hSC
        clear hS0 h5 hk
        by_cases hC0 : S0 = 0
        · have HC0 := Lib.hid hC0
          subst hC0
          go_wp2
          go_ret
          exact ⟨congrArg Ending.returned (congrArg Value.string (by rw [outL_same hC]; rfl)), by (repeat (first | with_reducible exact Fr.refl _ _ | with_reducible assumption | with_reducible refine Fr.alloc ?_ _ | with_reducible refine Fr.drew ?_ | with_reducible refine Fr.drewN ?_ _ | with_reducible refine Fr.setCell ?_ (by simp; try omega) _))⟩
        · have hCz : ¬ ((S0 : Int) = 0) := by omega
          have hdec : decide (S0 ≠ 0) = true := decide_eq_true hC0
          obtain ⟨N, hN⟩ : ∃ N, s.size + S0 = N := ⟨_, rfl⟩
          have hNl : N ≤ 2097152 := by omega
          have hmk := run_make_any (P := Tryz.prog) wr 39 5 (.int .u8 0) 1 1 Tryz.underlying39 infoByteR .i64 .i64 N (by omega) (by omega)
          rewrite [hdec]
          rewrite [hN]
          go_wp2
          have B0 : Hid (Blk (wr.alloc (.cells (made (.int .u8 0) N) 5)) wr.heap.size (begun N []) 5) := by rw [← begun_none]; exact Blk.new _ _ _
          have K0 : Hid (Keeps w (wr.alloc (.cells (made (.int .u8 0) N) 5))) := hK.alloc _
          have hgs := hK.size
          generalize wr.alloc (.cells (made (.int .u8 0) N) 5) = W0 at B0 K0 ⊢
          generalize wr.heap.size = g at B0 hgs ⊢
          have hON : (outL (bl s)).length = N := by rw [outL_length, hC, hlen, hN]
          have HON := Lib.hid hON
          clear hmk hON hN hdec
          go_loopw [13, 14] (fun t13 t14 wr => ∃ i j : Nat, i ≤ s.size ∧ t14 = .int .i64 (i : Int) ∧ t13 = .int .i64 (j : Int) ∧ (outL ((bl s).take i)).length = j ∧ Blk wr g (begun N (outL ((bl s).take i))) 5 ∧ Keeps w wr) (fun _ t14 _ => s.size - (intOf t14).toNat)
          case atStart => exact ⟨0, 0, by omega, rfl, rfl, rfl, B0.out, K0.out⟩
          case round =>
            obtain ⟨i, j, hi, rfl, rfl, hj, hB, hK2⟩ := hrel
            by_cases h5 : i < s.size
            · have hlz : (i : Int) < (s.size : Int) := by omega
              have hot := outL_take (l := bl s) (i := i) (by omega)
              have hol := outL_take_le (bl s) (i + 1)
              rw [HON.out, hot, List.length_append, hj] at hol
              have hgd := get_bl s i h5
              obtain ⟨c, hc⟩ : ∃ c, (bl s).getD i 0 = c := ⟨_, rfl⟩
              rw [hc] at hot hgd hol
              obtain ⟨n, hn⟩ : ∃ n : Nat, c.toNat = n := ⟨_, rfl⟩
              have hx0 : (s[i]'h5).toNat = n := by rw [← hgd, hn]
              have hn256 : n < 256 := hn ▸ c.toNat_lt
              have hn256z : (n : Int) < 256 := by omega
              have HOT := Lib.hid hot
              have HBB := Lib.hid hB
              rcases HC.out c with ⟨h1, hcc⟩ | ⟨x, kb, kcap, h1, hesc, hcc, hkl, hk0, hk1⟩
              · have e1 := cell_of_keeps hK2 hcc
                rw [hn] at e1
                have hesc := (special_iff c).1 h1
                rw [hesc] at hol
                have hjN : j + 1 ≤ N := hol
                have hjz : (j : Int) < (N : Int) := by omega
                have hne : ∀ w, (binOp .neq 39 (.slice none 0 0) (.slice none 0 0)).run Tryz.prog w = .ok (.bool false) w := fun w => run_neq_slice_nil_any w 39 5 none 0 0 0 0 Tryz.underlying39
                have cj := hB.cell j
                have fj := hB.free j
                have hcj : (begun N (outL ((bl s).take i)))[j]? = some (bv 0) := by
                  unfold begun
                  rw [bytesA_get, List.getElem?_append_right (by omega), hj, Nat.sub_self, List.getElem?_replicate, if_pos (by omega)]; rfl
                rw [hcj] at cj
                have hset := begun_one (N := N) (A := outL ((bl s).take i)) c (by omega)
                rw [hj] at hset
                have hBn := hB.set j (bv c)
                rw [hset] at hBn
                unfold bv at cj hBn
                rw [hn] at hBn
                have HBn := Lib.hid hBn
                clear hot hc hgd hcc hn hB hBn hset hcj hol
                go_wp2
                go_roundw
                case measure => simp [intOf]; omega
                case rel => exact ⟨i + 1, j + 1, by omega, rfl, rfl, by rw [HOT.out, hesc, List.length_append, hj]; rfl, by rw [HOT.out, hesc]; exact HBn.out, by (repeat (first | with_reducible exact Fr.refl _ _ | with_reducible assumption | with_reducible refine Fr.alloc ?_ _ | with_reducible refine Fr.drew ?_ | with_reducible refine Fr.drewN ?_ _ | with_reducible refine Fr.setCell ?_ (by simp; try omega) _))⟩
              · have e1 := cell_of_keeps hK2 hcc
                rw [hn] at e1
                rw [hesc] at hol
                have hjN : j + 2 ≤ N := hol
                have hjz : (j : Int) ≤ (N : Int) := by omega
                have hNj : ¬ (N = j) := by omega
                have hne : ∀ w, (binOp .neq 39 (.slice (some ⟨kb, 0, none⟩) 2 kcap) (.slice none 0 0)).run Tryz.prog w = .ok (.bool true) w := fun w => run_neq_slice_nil_any w 39 5 (some ⟨kb, 0, none⟩) 2 kcap 0 0 Tryz.underlying39
                have hk0' := cell_of_keeps hK2 hk0
                have hk1' := cell_of_keeps hK2 hk1
                obtain ⟨w3, hrun, hg3, hfr⟩ := run_copy_blk (P := Tryz.prog) wr.drew 39 39 3 5 g j (N - j) (N - j) ⟨kb, 0, none⟩ 2 kcap _ 5 [bv 92, bv x]
                  Tryz.underlying39 (by kernel_rfl) hB.drew (show 2 = Nat.min 2 (N - j) from (Nat.min_eq_left (by omega)).symm)
                  (by
                    intro q v hq
                    match q, hq with
                    | 0, hq => cases hq; exact hk0'
                    | 1, hq => cases hq; exact hk1')
                  (by rw [begun_size (by omega)]; exact hjN)
                  (by intro v hv; simp only [List.mem_cons, List.not_mem_nil, or_false] at hv; rcases hv with rfl | rfl <;> rfl)
                have hset := begun_two (N := N) (A := outL ((bl s).take i)) 92 x (by omega)
                rw [hj] at hset
                rw [hset] at hg3
                have HG3 := Lib.hid hg3
                have HFR := Lib.hid hfr
                have HR := Lib.hid hrun
                have hK3 : Hid (Keeps w w3) := Fr.trans hK2.drew hfr (fun q hq h => by omega)
                clear hot hc hgd hcc hn hB hset hol hrun hg3 hfr hk0 hk1 hk0' hk1'
                go_upto_region 28 with fail
                have hrun := HR.out
                rw [show ([bv 92, bv x] : List Value).length = 2 from rfl] at hrun
                go_region
                all_goals
                  go_wp2
                  go_roundw
                  case measure => simp [intOf]; omega
                  case rel => exact ⟨i + 1, j + 2, by omega, rfl, by first | rfl | (simp [goInt]; done) | exact vint (by simp), by rw [HOT.out, hesc, List.length_append, hj]; rfl, by rw [HOT.out, hesc]; exact HG3.out, hK3.out⟩
            · have h5e : i = s.size := by omega
              subst h5e
              have hlz : ¬ ((s.size : Int) < (s.size : Int)) := by omega
              have htk : (bl s).take s.size = bl s := by rw [← hlen, List.take_length]
              rw [htk] at hB hj
              have hBe : begun N (outL (bl s)) = bytesA (outL (bl s)) := by unfold begun; rw [HON.out, Nat.sub_self]; simp
              rw [hBe] at hB
              have hcv := run_convert_bytes_back (P := Tryz.prog) wr 39 9 5 ⟨g, 0, none⟩ N (outL (bl s)) Tryz.underlying39 Tryz.underlying5 Tryz.underlying9 (by
                intro q hq
                have hadd : (⟨g, 0, none⟩ : Addr).add q = ⟨g, q, none⟩ := by unfold Addr.add; split <;> simp_all
                rw [hadd, hB.cell, bytesA_get, List.getElem?_eq_getElem hq]; rfl)
              rw [HON.out] at hcv
              clear hB hj hBe htk h5 hi
              go_wp2
              go_ret
              exact ⟨rfl, hK2⟩
  · have h40z : ¬ (40 : Int) ≤ (s.size : Int) := by omega
    go_enter Tryz.func134, Tryz.ntmps134
    go_wp2
    go_loopw [5, 6, 10] (fun t5 t6 t10 wr => ∃ k S : Nat, k ≤ s.size ∧ t10 = .int .i64 (k : Int) ∧ t5 = .int .i64 ((s.size + S : Nat) : Int) ∧ t6 = .bool (decide (S ≠ 0)) ∧ cnt ((bl s).take k) = S ∧ Keeps w wr) (fun _ _ t10 _ => s.size - (intOf t10).toNat)
    case atStart => exact ⟨0, 0, by omega, rfl, rfl, rfl, rfl, Fr.refl _ _⟩
    case round =>
      obtain ⟨k, S0, hk, rfl, rfl, rfl, hS0, hK⟩ := hrel
      by_cases h5 : k < s.size
      · have hlz : (k : Int) < (s.size : Int) := by omega
        have hct := cnt_take (l := bl s) (i := k) (by omega)
        have hcl := cnt_take_le (bl s) k
        rw [hS0] at hct hcl
        have hgd := get_bl s k h5
        obtain ⟨c, hc⟩ : ∃ c, (bl s).getD k 0 = c := ⟨_, rfl⟩
        rw [hc] at hct hgd
        obtain ⟨n, hn⟩ : ∃ n : Nat, c.toNat = n := ⟨_, rfl⟩
        have hx0 : (s[k]'h5).toNat = n := by rw [← hgd, hn]
        have hn256 : n < 256 := hn ▸ c.toNat_lt
        have hn256z : (n : Int) < 256 := by omega
        have HCT := Lib.hid hct
        rcases HC.out c with ⟨h1, hcc⟩ | ⟨x, kb, kcap, h1, -, hcc, -, -, -⟩
        · have e1 := cell_of_keeps hK hcc
          rw [hn] at e1
          have hne : ∀ w, (binOp .neq 39 (.slice none 0 0) (.slice none 0 0)).run Tryz.prog w = .ok (.bool false) w := fun w => run_neq_slice_nil_any w 39 5 none 0 0 0 0 Tryz.underlying39
          clear hct hc hgd hcc hn hS0
          go_wp2
          go_roundw
          case measure => simp [intOf]; omega
          case rel => exact ⟨k + 1, S0, by omega, rfl, rfl, rfl, by rw [HCT.out, h1]; simp, hK⟩
        · have e1 := cell_of_keeps hK hcc
          rw [hn] at e1
          have hne : ∀ w, (binOp .neq 39 (.slice (some ⟨kb, 0, none⟩) 2 kcap) (.slice none 0 0)).run Tryz.prog w = .ok (.bool true) w := fun w => run_neq_slice_nil_any w 39 5 (some ⟨kb, 0, none⟩) 2 kcap 0 0 Tryz.underlying39
          clear hct hc hgd hcc hn hS0
          go_wp2
          go_roundw
          case measure => simp [intOf]; omega
          case rel => exact ⟨k + 1, S0 + 1, by omega, rfl, vint (by omega), vbool (by rw [Bool.eq_iff_iff]; simp), by rw [HCT.out, h1]; simp, by (repeat (first | with_reducible exact Fr.refl _ _ | with_reducible assumption | with_reducible refine Fr.alloc ?_ _ | with_reducible refine Fr.drew ?_ | with_reducible refine Fr.drewN ?_ _ | with_reducible refine Fr.setCell ?_ (by simp; try omega) _))⟩
      · have h5e : k = s.size := by omega
        subst h5e
        have hSC : S0 = C := by rw [← hS0, ← hC, ← hlen, List.take_length]
        subst hSC
        have hlz : ¬ ((s.size : Int) < (s.size : Int)) := by omega
        clear hS0 h5 hk
        by_cases hC0 : S0 = 0
        · have HC0 := Lib.hid hC0
          subst hC0
          go_wp2
          go_ret
          exact ⟨congrArg Ending.returned (congrArg Value.string (by rw [outL_same hC]; rfl)), by (repeat (first | with_reducible exact Fr.refl _ _ | with_reducible assumption | with_reducible refine Fr.alloc ?_ _ | with_reducible refine Fr.drew ?_ | with_reducible refine Fr.drewN ?_ _ | with_reducible refine Fr.setCell ?_ (by simp; try omega) _))⟩
        · have hCz : ¬ ((S0 : Int) = 0) := by omega
          have hdec : decide (S0 ≠ 0) = true := decide_eq_true hC0
          obtain ⟨N, hN⟩ : ∃ N, s.size + S0 = N := ⟨_, rfl⟩
          have hNl : N ≤ 2097152 := by omega
          have hmk := run_make_any (P := Tryz.prog) wr 39 5 (.int .u8 0) 1 1 Tryz.underlying39 infoByteR .i64 .i64 N (by omega) (by omega)
          rewrite [hdec]
          rewrite [hN]
          go_wp2
          have B0 : Hid (Blk (wr.alloc (.cells (made (.int .u8 0) N) 5)) wr.heap.size (begun N []) 5) := by rw [← begun_none]; exact Blk.new _ _ _
          have K0 : Hid (Keeps w (wr.alloc (.cells (made (.int .u8 0) N) 5))) := hK.alloc _
          have hgs := hK.size
          generalize wr.alloc (.cells (made (.int .u8 0) N) 5) = W0 at B0 K0 ⊢
          generalize wr.heap.size = g at B0 hgs ⊢
          have hON : (outL (bl s)).length = N := by rw [outL_length, hC, hlen, hN]
          have HON := Lib.hid hON
          clear hmk hON hN hdec
          go_loopw [13, 14] (fun t13 t14 wr => ∃ i j : Nat, i ≤ s.size ∧ t14 = .int .i64 (i : Int) ∧ t13 = .int .i64 (j : Int) ∧ (outL ((bl s).take i)).length = j ∧ Blk wr g (begun N (outL ((bl s).take i))) 5 ∧ Keeps w wr) (fun _ t14 _ => s.size - (intOf t14).toNat)
          case atStart => exact ⟨0, 0, by omega, rfl, rfl, rfl, B0.out, K0.out⟩
          case round =>
            obtain ⟨i, j, hi, rfl, rfl, hj, hB, hK2⟩ := hrel
            by_cases h5 : i < s.size
            · have hlz : (i : Int) < (s.size : Int) := by omega
              have hot := outL_take (l := bl s) (i := i) (by omega)
              have hol := outL_take_le (bl s) (i + 1)
              rw [HON.out, hot, List.length_append, hj] at hol
              have hgd := get_bl s i h5
              obtain ⟨c, hc⟩ : ∃ c, (bl s).getD i 0 = c := ⟨_, rfl⟩
              rw [hc] at hot hgd hol
              obtain ⟨n, hn⟩ : ∃ n : Nat, c.toNat = n := ⟨_, rfl⟩
              have hx0 : (s[i]'h5).toNat = n := by rw [← hgd, hn]
              have hn256 : n < 256 := hn ▸ c.toNat_lt
              have hn256z : (n : Int) < 256 := by omega
              have HOT := Lib.hid hot
              have HBB := Lib.hid hB
              rcases HC.out c with ⟨h1, hcc⟩ | ⟨x, kb, kcap, h1, hesc, hcc, hkl, hk0, hk1⟩
              · have e1 := cell_of_keeps hK2 hcc
                rw [hn] at e1
                have hesc := (special_iff c).1 h1
                rw [hesc] at hol
                have hjN : j + 1 ≤ N := hol
                have hjz : (j : Int) < (N : Int) := by omega
                have hne : ∀ w, (binOp .neq 39 (.slice none 0 0) (.slice none 0 0)).run Tryz.prog w = .ok (.bool false) w := fun w => run_neq_slice_nil_any w 39 5 none 0 0 0 0 Tryz.underlying39
                have cj := hB.cell j
                have fj := hB.free j
                have hcj : (begun N (outL ((bl s).take i)))[j]? = some (bv 0) := by
                  unfold begun
                  rw [bytesA_get, List.getElem?_append_right (by omega), hj, Nat.sub_self, List.getElem?_replicate, if_pos (by omega)]; rfl
                rw [hcj] at cj
                have hset := begun_one (N := N) (A := outL ((bl s).take i)) c (by omega)
                rw [hj] at hset
                have hBn := hB.set j (bv c)
                rw [hset] at hBn
                unfold bv at cj hBn
                rw [hn] at hBn
                have HBn := Lib.hid hBn
                clear hot hc hgd hcc hn hB hBn hset hcj hol
                go_wp2
                go_roundw
                case measure => simp [intOf]; omega
                case rel => exact ⟨i + 1, j + 1, by omega, rfl, rfl, by rw [HOT.out, hesc, List.length_append, hj]; rfl, by rw [HOT.out, hesc]; exact HBn.out, by (repeat (first | with_reducible exact Fr.refl _ _ | with_reducible assumption | with_reducible refine Fr.alloc ?_ _ | with_reducible refine Fr.drew ?_ | with_reducible refine Fr.drewN ?_ _ | with_reducible refine Fr.setCell ?_ (by simp; try omega) _))⟩
              · have e1 := cell_of_keeps hK2 hcc
                rw [hn] at e1
                rw [hesc] at hol
                have hjN : j + 2 ≤ N := hol
                have hjz : (j : Int) ≤ (N : Int) := by omega
                have hNj : ¬ (N = j) := by omega
                have hne : ∀ w, (binOp .neq 39 (.slice (some ⟨kb, 0, none⟩) 2 kcap) (.slice none 0 0)).run Tryz.prog w = .ok (.bool true) w := fun w => run_neq_slice_nil_any w 39 5 (some ⟨kb, 0, none⟩) 2 kcap 0 0 Tryz.underlying39
                have hk0' := cell_of_keeps hK2 hk0
                have hk1' := cell_of_keeps hK2 hk1
                obtain ⟨w3, hrun, hg3, hfr⟩ := run_copy_blk (P := Tryz.prog) wr.drew 39 39 3 5 g j (N - j) (N - j) ⟨kb, 0, none⟩ 2 kcap _ 5 [bv 92, bv x]
                  Tryz.underlying39 (by kernel_rfl) hB.drew (show 2 = Nat.min 2 (N - j) from (Nat.min_eq_left (by omega)).symm)
                  (by
                    intro q v hq
                    match q, hq with
                    | 0, hq => cases hq; exact hk0'
                    | 1, hq => cases hq; exact hk1')
                  (by rw [begun_size (by omega)]; exact hjN)
                  (by intro v hv; simp only [List.mem_cons, List.not_mem_nil, or_false] at hv; rcases hv with rfl | rfl <;> rfl)
                have hset := begun_two (N := N) (A := outL ((bl s).take i)) 92 x (by omega)
                rw [hj] at hset
                rw [hset] at hg3
                have HG3 := Lib.hid hg3
                have HFR := Lib.hid hfr
                have HR := Lib.hid hrun
                have hK3 : Hid (Keeps w w3) := Fr.trans hK2.drew hfr (fun q hq h => by omega)
                clear hot hc hgd hcc hn hB hset hol hrun hg3 hfr hk0 hk1 hk0' hk1'
                go_upto_region 28 with fail
                have hrun := HR.out
                rw [show ([bv 92, bv x] : List Value).length = 2 from rfl] at hrun
                go_region
                all_goals
                  go_wp2
                  go_roundw
                  case measure => simp [intOf]; omega
                  case rel => exact ⟨i + 1, j + 2, by omega, rfl, by first | rfl | (simp [goInt]; done) | exact vint (by simp), by rw [HOT.out, hesc, List.length_append, hj]; rfl, by rw [HOT.out, hesc]; exact HG3.out, hK3.out⟩
            · have h5e : i = s.size := by omega
              subst h5e
              have hlz : ¬ ((s.size : Int) < (s.size : Int)) := by omega
              have htk : (bl s).take s.size = bl s := by rw [← hlen, List.take_length]
              rw [htk] at hB hj
              have hBe : begun N (outL (bl s)) = bytesA (outL (bl s)) := by unfold begun; rw [HON.out, Nat.sub_self]; simp
              rw [hBe] at hB
              have hcv := run_convert_bytes_back (P := Tryz.prog) wr 39 9 5 ⟨g, 0, none⟩ N (outL (bl s)) Tryz.underlying39 Tryz.underlying5 Tryz.underlying9 (by
                intro q hq
                have hadd : (⟨g, 0, none⟩ : Addr).add q = ⟨g, q, none⟩ := by unfold Addr.add; split <;> simp_all
                rw [hadd, hB.cell, bytesA_get, List.getElem?_eq_getElem hq]; rfl)
              rw [HON.out] at hcv
              clear hB hj hBe htk h5 hi
              go_wp2
              go_ret
              exact ⟨rfl, hK2⟩
end Go.Proofs.YtjoklcjpihadiaaGreatDoor

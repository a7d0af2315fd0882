/- The statements' helpers: sizes, much, record. -/
import Derived.Test.YtcefockebphbaaaDoorGS
import Derived.Test.YtcefockebphbaaaDoorGA
import Derived.Test.YtcefockebphbaaaDoorGF
import Derived.Deep.DeepCutAuto
import Derived.Deep.Upon
set_option linter.unusedVariables false
set_option linter.unusedSimpArgs false
set_option linter.unnecessarySimpa false
namespace Go.Proofs.YtcefockebphbaaaDoor
open Go Go.RowKit Sluice

/-- A Lay as a value; its width and buffers. -/
def layV (W T Wr Rd : Int) (cuts recs : Value) : Value := .agg #[.int .i64 W, .int .u64 T, .int .i64 Wr, .int .i64 Rd, cuts, recs]
def wdOf (W : Int) : Nat := (min (max W 1) 256).toNat
def aOf (W Wr : Int) : Nat := (min (max Wr (max 36 (24 + (wdOf W : Int)))) 4096).toNat
def bOf (W Wr Rd : Int) : Nat := (min (max Rd (aOf W Wr : Int)) 8192).toNat
theorem wdOf_le (W : Int) : 1 ≤ wdOf W ∧ wdOf W ≤ 256 := by unfold wdOf; omega
theorem aOf_le (W Wr : Int) : 36 ≤ aOf W Wr ∧ 24 + wdOf W ≤ aOf W Wr ∧ aOf W Wr ≤ 4096 := by have := wdOf_le W; unfold aOf; omega
theorem bOf_le (W Wr Rd : Int) : aOf W Wr ≤ bOf W Wr Rd ∧ bOf W Wr Rd ≤ 8192 := by have := aOf_le W Wr; unfold bOf; omega
theorem ret3 {a b c a' b' c' : Int} (h1 : a = a') (h2 : b = b') (h3 : c = c') : Ending.returned (.tuple #[.int .i64 a, .int .i64 b, .int .i64 c]) = .returned (.tuple #[.int .i64 a', .int .i64 b', .int .i64 c']) := by rw [h1, h2, h3]

set_option maxHeartbeats 8000000 in
set_option maxRecDepth 100000 in
theorem sizes_any (W T Wr Rd : Int) (cuts recs : Value) (w : World) :
    Calls Tryd.prog 18 #[layV W T Wr Rd cuts recs] w fun r w' => r = .returned (.tuple #[.int .i64 (wdOf W : Int), .int .i64 (aOf W Wr : Int), .int .i64 (bOf W Wr Rd : Int)]) ∧ Keeps w w' := by
  have hw : ((wdOf W : Nat) : Int) = min (max W 1) 256 := by unfold wdOf; omega
  have ha : ((aOf W Wr : Nat) : Int) = min (max Wr (max 36 (24 + (wdOf W : Int)))) 4096 := by have := wdOf_le W; unfold aOf; omega
  have hb : ((bOf W Wr Rd : Nat) : Int) = min (max Rd (aOf W Wr : Int)) 8192 := by have := aOf_le W Wr; unfold bOf; omega
  have HW := Lib.hid hw
  have HA := Lib.hid ha
  have HB := Lib.hid hb
  clear hw ha hb
  unfold layV
  go_enter Tryd.func18, Tryd.ntmps18
  go_wp2
  all_goals go_region
  all_goals go_wp2
  all_goals go_ret3
  all_goals (have hw := HW.out; have ha := HA.out; have hb := HB.out; refine ⟨ret3 ?_ ?_ ?_, by (repeat (first | with_reducible exact Fr.refl _ _ | with_reducible assumption | with_reducible refine Fr.alloc ?_ _ | with_reducible refine Fr.drew ?_ | with_reducible refine Fr.drewN ?_ _ | with_reducible refine Fr.setCell ?_ (by simp; try omega) _))⟩ <;> omega)

theorem much_any (W T Wr Rd : Int) (cuts : Value) (ra : Option Addr) (rn rc : Nat) (w : World) :
    Calls Tryd.prog 6 #[layV W T Wr Rd cuts (.slice ra rn rc)] w fun r w' => r = .returned (.bool (decide (262144 < rn))) ∧ Keeps w w' := by
  unfold layV
  go_enter Tryd.func6, Tryd.ntmps6
  go_wp2
  go_ret
  refine ⟨ret_bool ?_, by (repeat (first | with_reducible exact Fr.refl _ _ | with_reducible assumption | with_reducible refine Fr.alloc ?_ _ | with_reducible refine Fr.drew ?_ | with_reducible refine Fr.drewN ?_ _ | with_reducible refine Fr.setCell ?_ (by simp; try omega) _))⟩
  rw [Bool.eq_iff_iff]; simp; omega

set_option maxHeartbeats 4000000 in
set_option maxRecDepth 100000 in
theorem record_any (s : ByteArray) (hs : s.size ≤ maxLen) (wd : Nat) (h1 : 1 ≤ wd) (h2 : wd ≤ 256) (w : World) :
    Calls Tryd.prog 27 #[.string s, .int .i64 (wd : Int)] w fun r w' => r = .returned (.string (strB (recB wd s))) ∧ Keeps w w' := by
  have hmk := run_make_one (P := Tryd.prog) w 27 5 (.int .u8 0) 1 Tryd.underlying27 info_u8 rfl .i64 .i64 wd (by omega) (by omega)
  have hls := str_len s
  unfold maxLen at hs
  have HLs := Lib.hid hls
  clear hls
  go_enter Tryd.func27, Tryd.ntmps27
  go_wp2
  go_loopw [6] (fun i wr => ∃ k : Nat, k ≤ wd ∧ k ≤ s.size ∧ i = .int .i64 k ∧ Blk wr w.heap.size (bytesA (s.data.toList.take k ++ List.replicate (wd - k) 0)) 5 ∧ Keeps w wr) (fun i wr => wd - (intOf i).toNat)
  case atStart =>
    refine ⟨0, by omega, by omega, rfl, ?_, by (repeat (first | with_reducible exact Fr.refl _ _ | with_reducible assumption | with_reducible refine Fr.alloc ?_ _ | with_reducible refine Fr.drew ?_ | with_reducible refine Fr.drewN ?_ _ | with_reducible refine Fr.setCell ?_ (by simp; try omega) _))⟩
    have : bytesA (s.data.toList.take 0 ++ List.replicate (wd - 0) 0) = Array.replicate wd (.int .u8 0) := by simp [bytesA_replicate, bv]
    rw [this]; exact Blk.new _ _ _
  case round =>
    obtain ⟨k, hk, hk2, rfl, hb, hw⟩ := hrel
    have hf := hb.free k
    have hlen : (s.data.toList.take k ++ List.replicate (wd - k) 0).length = wd := by rw [List.length_append, List.length_take, List.length_replicate, HLs.out]; omega
    by_cases hlt : k < wd ∧ k < s.size
    · obtain ⟨hl1, hl2⟩ := hlt
      have hc : wr.cell? ⟨w.heap.size, k, none⟩ = some (bv ((s.data.toList.take k ++ List.replicate (wd - k) 0).getD k 0)) := bytes_cell hb k (by omega)
      have hset : (s.data.toList.take k ++ List.replicate (wd - k) 0).set k s[k] = s.data.toList.take (k + 1) ++ List.replicate (wd - (k + 1)) 0 := by
        have hl3 : k < s.data.toList.length := by rw [HLs.out]; exact hl2
        have ht : (s.data.toList.take k).length = k := by rw [List.length_take]; omega
        rw [List.set_append_right _ _ (by omega), ht, Nat.sub_self]
        have h3 : wd - k = (wd - (k + 1)) + 1 := by omega
        rw [h3, List.replicate_succ, List.set_cons_zero, List.take_succ_eq_append_getElem hl3, List.append_assoc]
        rfl
      have hbs := hb.set k (bv s[k])
      rw [bytesA_set, hset] at hbs
      have HB := Lib.hid hbs
      have HW := Lib.hid hw
      unfold bv at hc
      clear hb hbs hw hset hlen
      go_wp2
      go_roundw
      case rel => exact ⟨k + 1, by omega, by omega, by go_num, HB.out, HW.out.setCell (by simp) _⟩
      case measure => simp [intOf]; omega
    · have hfin : s.data.toList.take k ++ List.replicate (wd - k) 0 = recB wd s := by
        by_cases hle : wd ≤ s.size
        · have : k = wd := by omega
          rw [recB_long hle, this, Nat.sub_self]; simp
        · have : k = s.size := by omega
          rw [recB_short (by omega), this, List.take_of_length_le (by rw [HLs.out]; omega)]
      have hrun : (convert 27 9 (.slice (some ⟨w.heap.size, 0, none⟩) wd wd)).run Tryd.prog wr = .ok (.string (strB (recB wd s))) wr := by
        have := run_convert_bytes_back (P := Tryd.prog) wr 27 9 5 ⟨w.heap.size, 0, none⟩ wd (s.data.toList.take k ++ List.replicate (wd - k) 0) Tryd.underlying27 Tryd.underlying5 Tryd.underlying9 (by
          intro j hj
          have hadd : (⟨w.heap.size, 0, none⟩ : Addr).add j = ⟨w.heap.size, 0 + j, none⟩ := by unfold Addr.add; split <;> simp_all
          rw [hadd, Nat.zero_add, bytes_cell hb _ hj]
          simp only [bv]
          congr 3
          rw [List.getD_eq_getElem?_getD, List.getElem?_eq_getElem hj]; rfl)
        rw [hlen, hfin] at this
        exact this
      have HW := Lib.hid hw
      clear hb hw hfin hlen
      by_cases hl1 : k < wd
      · have hl2 : ¬ k < s.size := fun h => hlt ⟨hl1, h⟩
        clear hlt
        go_wp2
        go_ret
        exact ⟨rfl, HW.out⟩
      · clear hlt
        go_wp2
        go_ret
        exact ⟨rfl, HW.out⟩
end Go.Proofs.YtcefockebphbaaaDoor

namespace Go.Proofs.YtcefockebphbaaaDoor
open Go Go.RowKit Sluice

/-- Texts as cells. -/
def strCells (l : List (List UInt8)) : List Value := l.map fun x => .string (strB x)
/-- A slice of these texts. -/
def Strs (w : World) (v : Value) (l : List (List UInt8)) : Prop := Row w 9 1 v l.length (strCells l)
theorem Strs.keeps {w w' : World} {v : Value} {l : List (List UInt8)} (h : Strs w v l) {S : Nat → Prop} (hf : Fr S w w') (hn : ∀ k, v.ownBlock = some k → ¬ S k) : Strs w' v l := Row.kept h hf hn
theorem Strs.form {w : World} {v : Value} {l : List (List UInt8)} (h : Strs w v l) : ∃ base cap, v = .slice base l.length cap ∧ l.length ≤ cap ∧ cap ≤ maxLen ∧ ∀ i (hi : i < l.length), ∃ g, base = some ⟨g, 0, none⟩ ∧ w.cell? ⟨g, i, none⟩ = some (.string (strB l[i])) := by
  obtain ⟨h1, h2⟩ := h
  rcases h2 with ⟨rfl, h0⟩ | ⟨g, cap, cur, rfl, hb, hnc, hcm, hcs, htk⟩
  · exact ⟨none, 0, by rw [h0], by omega, by unfold maxLen; omega, fun i hi => by omega⟩
  · refine ⟨some ⟨g, 0, none⟩, cap, rfl, hnc, hcm, fun i hi => ⟨g, rfl, ?_⟩⟩
    rw [hb.cell]
    have h3 : (strCells l)[i]? = some (.string (strB l[i])) := by simp [strCells, hi]
    rw [← htk, List.getElem?_take_of_lt (by omega)] at h3
    simpa using h3
theorem strB_eq {a b : List UInt8} : ((strB a).toList == (strB b).toList) = decide (a = b) := by
  rw [Bool.eq_iff_iff, beq_iff_eq, decide_eq_true_eq, ByteArray.toList_eq, ByteArray.toList_eq]
  constructor
  · intro h; exact h
  · intro h; rw [h]

set_option maxHeartbeats 4000000 in
set_option maxRecDepth 100000 in
theorem begins_any (v u : Value) (gl wl : List (List UInt8)) (w : World) (hv : Strs w v gl) (hu : Strs w u wl) :
    Calls Tryd.prog 16 #[v, u] w fun r w' => r = .returned (.bool (gl.isPrefixOf wl)) ∧ Keeps w w' := by
  obtain ⟨bv', cv, rfl, hv1, hv2, hv3⟩ := hv.form
  obtain ⟨bu, cu, rfl, hu1, hu2, hu3⟩ := hu.form
  unfold maxLen at hv2 hu2
  clear hv hu
  by_cases hlen : wl.length < gl.length
  · have hb : decide ((wl.length : Int) < (gl.length : Int)) = true := by simp; omega
    have hb2 : (wl.length : Int) < (gl.length : Int) := by omega
    have hf : gl.isPrefixOf wl = false := by
      cases h : gl.isPrefixOf wl with
      | false => rfl
      | true => have := (List.isPrefixOf_iff_prefix.1 h).length_le; omega
    have HF := Lib.hid hf
    clear hf hv3 hu3 hlen
    go_enter Tryd.func16, Tryd.ntmps16
    go_wp2
    go_ret
    exact ⟨ret_bool HF.out.symm, by (repeat (first | with_reducible exact Fr.refl _ _ | with_reducible assumption | with_reducible refine Fr.alloc ?_ _ | with_reducible refine Fr.drew ?_ | with_reducible refine Fr.drewN ?_ _ | with_reducible refine Fr.setCell ?_ (by simp; try omega) _))⟩
  · have hb : decide ((wl.length : Int) < (gl.length : Int)) = false := by simp; omega
    have hb2 : ¬ ((wl.length : Int) < (gl.length : Int)) := by omega
    have HV3 := Lib.hid hv3
    have HU3 := Lib.hid hu3
    have HLen := Lib.hid hlen
    clear hv3 hu3 hlen
    go_enter Tryd.func16, Tryd.ntmps16
    go_wp2
    go_loopw [5] (fun i wr => ∃ k : Nat, k ≤ gl.length ∧ i = .int .i64 k ∧ gl.take k = wl.take k ∧ Keeps w wr) (fun i wr => gl.length - (intOf i).toNat)
    case atStart => exact ⟨0, by omega, rfl, rfl, by (repeat (first | with_reducible exact Fr.refl _ _ | with_reducible assumption | with_reducible refine Fr.alloc ?_ _ | with_reducible refine Fr.drew ?_ | with_reducible refine Fr.drewN ?_ _ | with_reducible refine Fr.setCell ?_ (by simp; try omega) _))⟩
    case round =>
      obtain ⟨k, hk, rfl, heq, hkw⟩ := hrel
      have HEq := Lib.hid heq
      have HK := Lib.hid hkw
      by_cases hlt : k < gl.length
      · have hlt2 : k < wl.length := by have := HLen.out; omega
        obtain ⟨g1, rfl, hc1⟩ := HV3.out k hlt
        obtain ⟨g2, rfl, hc2⟩ := HU3.out k hlt2
        have hd1 := (hkw.cell (World.block_lt_of_cell? _ _ hc1) (fun h => h)).trans hc1
        have hd2 := (hkw.cell (World.block_lt_of_cell? _ _ hc2) (fun h => h)).trans hc2
        have hse := strB_eq (a := gl[k]) (b := wl[k])
        have ht1 : gl.take (k + 1) = gl.take k ++ [gl[k]] := List.take_succ_eq_append_getElem hlt
        have ht2 : wl.take (k + 1) = wl.take k ++ [wl[k]] := List.take_succ_eq_append_getElem hlt2
        have HT1 := Lib.hid ht1
        have HT2 := Lib.hid ht2
        have hi1 : (k : Int) < (gl.length : Int) := by omega
        have hi2 : (k : Int) < (wl.length : Int) := by omega
        clear ht1 ht2 hc1 hc2 heq hkw
        generalize gl[k] = x at *
        generalize wl[k] = y at *
        by_cases hxy : x = y
        · have hse3 : ((strB x).toList == (strB y).toList) = true := by rw [hse, decide_eq_true_eq]; exact hxy
          have hse2 : (strB x == strB y) = true := by rw [beq_toListBytes]; exact hse3
          have hse4 : ((strB x) != (strB y)) = false := by rw [bne, hse2]; rfl
          have hse5 : ((strB x).toList != (strB y).toList) = false := by rw [bne, hse3]; rfl
          have HXY := Lib.hid hxy
          clear hxy hse
          go_wp2_with fail
          go_region
          go_wp2
          all_goals go_roundw
          case rel => exact ⟨k + 1, by omega, by go_num, by rw [HT1.out, HT2.out, HEq.out, HXY.out], HK.out.drew⟩
          case measure => simp [intOf]; omega
        · have hse3 : ((strB x).toList == (strB y).toList) = false := by rw [hse, decide_eq_false_iff_not]; exact hxy
          have hse5 : ((strB x).toList != (strB y).toList) = true := by rw [bne, hse3]; rfl
          have hf : gl.isPrefixOf wl = false := by
            cases h : gl.isPrefixOf wl with
            | false => rfl
            | true =>
              exfalso
              obtain ⟨t, ht⟩ := List.isPrefixOf_iff_prefix.1 h
              have h1 : wl.take (k + 1) = gl.take (k + 1) := by rw [← ht, List.take_append_of_le_length (by omega)]
              rw [HT1.out, HT2.out, HEq.out] at h1
              simp at h1
              exact hxy h1.symm
          have HF := Lib.hid hf
          clear hf hxy hse
          go_wp2_with fail
          go_region
          go_wp2
          go_ret
          exact ⟨ret_bool HF.out.symm, HK.out.drew⟩
      · have hf : gl.isPrefixOf wl = true := by
          have hkk : k = gl.length := by omega
          rw [List.isPrefixOf_iff_prefix]
          rw [hkk, List.take_length] at heq
          rw [heq]
          exact List.take_prefix _ _
        have HF := Lib.hid hf
        clear hf heq hkw
        go_wp2
        go_ret
        exact ⟨ret_bool HF.out.symm, HK.out⟩
end Go.Proofs.YtcefockebphbaaaDoor

namespace Go.Proofs.YtcefockebphbaaaDoor
open Go Go.RowKit Sluice

theorem dataB_snoc (h : List (List UInt8)) : ∀ (gs : List (List (List UInt8))) (n : Nat), dataB n (gs ++ [h]) = dataB n gs ++ chunkB 2 (n + gs.length) h.length h.flatten
  | [], n => by simp [dataB]
  | g :: gs, n => by
    have e : n + 1 + gs.length = n + (gs.length + 1) := by omega
    simp only [List.cons_append, dataB, dataB_snoc h gs (n + 1), List.append_assoc, List.length_cons, e]
theorem startB_snoc (wd tag : Nat) (gs : List (List (List UInt8))) (h : List (List UInt8)) : startB wd tag (gs ++ [h]) = startB wd tag gs ++ chunkB 2 (gs.length + 1) h.length h.flatten := by
  unfold startB
  rw [dataB_snoc, List.append_assoc, Nat.add_comm 1]
theorem dataB_len {wd M : Nat} : ∀ (gs : List (List (List UInt8))) (n : Nat), GoodGroups wd M gs → (dataB n gs).length = gs.length * 24 + gs.flatten.length * wd
  | [], n, _ => by simp [dataB]
  | g :: gs, n, h => by
    have hg := h g (List.mem_cons_self ..)
    have ih := dataB_len gs (n + 1) fun x hx => h x (List.mem_cons_of_mem _ hx)
    have hf := flatten_length hg.2.2
    simp only [dataB, List.length_append, chunkB_length, List.flatten_cons, List.length_cons, ih, hf, Nat.add_mul]
    omega
theorem good_few {wd M : Nat} : ∀ (gs : List (List (List UInt8))), GoodGroups wd M gs → gs.length ≤ gs.flatten.length
  | [], _ => by simp
  | g :: gs, h => by
    have hg := (h g (List.mem_cons_self ..)).1
    have ih := good_few gs fun x hx => h x (List.mem_cons_of_mem _ hx)
    simp only [List.flatten_cons, List.length_append, List.length_cons]
    omega
theorem more_snoc (gs : List (List (List UInt8))) (h : List (List UInt8)) : more (crc gs.flatten.flatten) h.flatten = crc (gs ++ [h]).flatten.flatten := by
  unfold crc
  rw [more_more]
  simp

/-- The records of a Lay so far: in laid groups, and held. -/
structure LaySt (wd M k : Nat) (f : Nat → ByteArray) (gs : List (List (List UInt8))) (hs : List (List UInt8)) : Prop where
  all : gs.flatten ++ hs = (List.range k).map fun i => recB wd (f i)
  good : GoodGroups wd M gs
  held : hs.length < M
  wid : ∀ r ∈ hs, r.length = wd
theorem LaySt.len {wd M k : Nat} {f : Nat → ByteArray} {gs : List (List (List UInt8))} {hs : List (List UInt8)} (h : LaySt wd M k f gs hs) : gs.flatten.length + hs.length = k := by
  have := congrArg List.length h.all
  simpa using this
theorem LaySt.file {wd M k tag : Nat} {f : Nat → ByteArray} {gs : List (List (List UInt8))} {hs : List (List UInt8)} (h : LaySt wd M k f gs hs) (hw : wd ≤ 256) : (startB wd tag gs).length ≤ 36 + k * 280 ∧ gs.length ≤ k := by
  have h1 := h.len
  have h2 := good_few gs h.good
  have h3 := dataB_len gs 1 h.good
  have h4 : gs.flatten.length * wd ≤ gs.flatten.length * 256 := Nat.mul_le_mul_left _ hw
  unfold startB
  rw [List.length_append, start_length, h3]
  omega
theorem LaySt.put {wd M k : Nat} {f : Nat → ByteArray} {gs : List (List (List UInt8))} {hs : List (List UInt8)} (h : LaySt wd M k f gs hs) :
    (hs.length + 1 = M → LaySt wd M (k + 1) f (gs ++ [hs ++ [recB wd (f k)]]) []) ∧ (hs.length + 1 ≠ M → LaySt wd M (k + 1) f gs (hs ++ [recB wd (f k)])) := by
  have hr := recB_length wd (f k)
  have hm := h.held
  have hall : gs.flatten ++ (hs ++ [recB wd (f k)]) = (List.range (k + 1)).map fun i => recB wd (f i) := by
    rw [List.range_succ, List.map_append, ← h.all]
    simp
  have hw : ∀ r ∈ hs ++ [recB wd (f k)], r.length = wd := by
    intro r hx
    rcases List.mem_append.1 hx with hx | hx
    · exact h.wid r hx
    · rw [List.mem_singleton.1 hx]; exact hr
  refine ⟨fun he => ⟨?_, ?_, by simp; omega, by simp⟩, fun he => ⟨hall, h.good, by simp; omega, hw⟩⟩
  · rw [← hall]; simp
  · intro g hg
    rcases List.mem_append.1 hg with hg | hg
    · exact h.good g hg
    · rw [List.mem_singleton.1 hg]; exact ⟨by simp, by simp; omega, hw⟩
theorem LaySt.flush {wd M k : Nat} {f : Nat → ByteArray} {gs : List (List (List UInt8))} {hs : List (List UInt8)} (h : LaySt wd M k f gs hs) (hn : hs ≠ []) : LaySt wd M k f (gs ++ [hs]) [] := by
  have hm := h.held
  refine ⟨?_, ?_, by simp; omega, by simp⟩
  · rw [← h.all]; simp
  · intro g hg
    rcases List.mem_append.1 hg with hg | hg
    · exact h.good g hg
    · rw [List.mem_singleton.1 hg]
      refine ⟨?_, by omega, h.wid⟩
      cases hs with
      | nil => exact absurd rfl hn
      | cons x l => simp

/-- A Writer in the midst of a Lay. -/
def LayWr (w : World) (S : Nat → Prop) (b n p q g a wd M wb tag k : Nat) (f : Nat → ByteArray) : Prop :=
  ∃ gs hs, LaySt wd M k f gs hs ∧ WrAt w S b n p q g a wd M wb (startB wd tag gs) hs (gs.length + 1) k (crc gs.flatten.flatten)

theorem wrAt_more {w w' : World} {S S' T : Nat → Prop} {b n p q g a wd M wb : Nat} {file : List UInt8} {hs : List (List UInt8)} {seq count : Nat} {sum : BitVec 32} (h : WrAt w S b n p q g a wd M wb file hs seq count sum)
    (hf : Fr T w w') (hT : ∀ k, k < w.heap.size → T k → S k) (h1 : ¬ T wb) (h2 : ¬ T p) (h3 : ¬ T q) (h4 : ¬ T 1) (h5 : ¬ T g)
    (hs' : ∀ k, S' k → S k ∨ (w.heap.size ≤ k ∧ k < w'.heap.size)) : WrAt w' S' b n p q g a wd M wb file hs seq count sum := by
  obtain ⟨c1, c2, c3, c4, c5, buf, c6, c7⟩ := h
  refine ⟨hf.blk c1 h1, ⟨hf.blk c2.1 h2, hf.blk c2.2 h3⟩, c3.kept hf h4, ?_, c5, buf, hf.blk c6 h5, c7⟩
  obtain ⟨own, L, D, d1, d2, d3, d4⟩ := c4
  have d2' : IsDisk w' own L D := d2.stays (S := fun k => T k ∧ k < w.heap.size) ⟨hf.os, hf.tape, hf.output, hf.size, fun k hk hn => hf.block k hk (fun ht => hn ⟨ht, hk⟩)⟩ (fun k hk hx => hk (d4 k (hT k hx.2 hx.1)).1)
  refine ⟨own, L, D, d1, d2', d3, fun k hk => ?_⟩
  rcases hs' k hk with h | ⟨h6, h7⟩
  · exact ⟨(d4 k h).1, Nat.lt_of_lt_of_le (d4 k h).2 hf.size⟩
  · exact ⟨d2.out h6, h7⟩
theorem layWr_more {w w' : World} {S S' T : Nat → Prop} {b n p q g a wd M wb tag k : Nat} {f : Nat → ByteArray} (h : LayWr w S b n p q g a wd M wb tag k f)
    (hf : Fr T w w') (hT : ∀ k, k < w.heap.size → T k → S k) (h1 : ¬ T wb) (h2 : ¬ T p) (h3 : ¬ T q) (h4 : ¬ T 1) (h5 : ¬ T g)
    (hs' : ∀ k, S' k → S k ∨ (w.heap.size ≤ k ∧ k < w'.heap.size)) : LayWr w' S' b n p q g a wd M wb tag k f := by
  obtain ⟨gs, hs, e1, e2⟩ := h
  exact ⟨gs, hs, e1, wrAt_more e2 hf hT h1 h2 h3 h4 h5 hs'⟩
theorem WrK.more {S S' : Nat → Prop} {g wb p q a wd M : Nat} (K : WrK S g wb p q a wd M) (h : ∀ k, S k → S' k) : WrK S' g wb p q a wd M :=
  ⟨h _ K.ss, h _ K.sg, h _ K.sw, h _ K.sp, h _ K.sq, K.gs, K.ws, K.w1, K.w2, K.a1, K.a2, K.m1, K.m2⟩

theorem lay_put (S : Nat → Prop) (b n p q g a wd M wb tag k : Nat) (f : Nat → ByteArray) (K : WrK S g wb p q a wd M) (hk : k < 262144) (hsz : (f k).size ≤ maxLen) (sp : Nat) (w : World)
    (hL : LayWr w S b n p q g a wd M wb tag k f) (hsp : Blk w sp #[.string (f k)] 9) :
    Calls Tryd.prog 26 #[.pointer (some ⟨wb, 0, none⟩), .slice (some ⟨sp, 0, none⟩) 1 1] w
      fun r w' => r = .returned (.int .i64 0) ∧ Fr (WrFr S g wb) w w' ∧ LayWr w' S b n p q g a wd M wb tag (k + 1) f := by
  obtain ⟨gs, hs, hst, hW⟩ := hL
  have hfl := hst.file (tag := tag) K.w2
  have hm2 := K.m2
  have ha2 := K.a2
  refine (wput_any S b n p q g a wd M wb K (startB wd tag gs) hs (gs.length + 1) k (crc gs.flatten.flatten) (f k) hsz sp w hst.held (by omega) (by omega) (by omega) hW hsp).mono ?_
  rintro r w' ⟨h1, h2, h3⟩
  refine ⟨h1, h2, ?_⟩
  unfold PutTo at h3
  have hput := hst.put
  rw [List.length_append, List.length_singleton] at h3
  by_cases hM : hs.length + 1 = M
  · rw [if_pos hM] at h3
    refine ⟨_, _, hput.1 hM, ?_⟩
    rw [startB_snoc, ← more_snoc, List.length_append, List.length_singleton, List.length_append, List.length_singleton, hM]
    exact h3
  · rw [if_neg hM] at h3
    exact ⟨_, _, hput.2 hM, h3⟩

theorem lay_flush (S : Nat → Prop) (b n p q g a wd M wb tag k : Nat) (f : Nat → ByteArray) (K : WrK S g wb p q a wd M) (hk : k ≤ 262144) (w : World) (hL : LayWr w S b n p q g a wd M wb tag k f) :
    Calls Tryd.prog 28 #[.pointer (some ⟨wb, 0, none⟩)] w
      fun r w' => r = .returned (.int .i64 0) ∧ Fr (WrFr S g wb) w w' ∧ LayWr w' S b n p q g a wd M wb tag k f := by
  obtain ⟨gs, hs, hst, hW⟩ := hL
  have hfl := hst.file (tag := tag) K.w2
  have hm2 := K.m2
  have ha2 := K.a2
  have hh := hst.held
  refine (wflush_at S b n p q g a wd M wb K (startB wd tag gs) hs (gs.length + 1) k (crc gs.flatten.flatten) w (by omega) (by omega) (by omega) hW).mono ?_
  rintro r w' ⟨h1, h2, h3⟩
  refine ⟨h1, h2, ?_⟩
  by_cases hn : hs = []
  · subst hn
    exact ⟨gs, [], hst, h3⟩
  · refine ⟨_, _, hst.flush hn, ?_⟩
    unfold flushed at h3
    rw [if_neg hn] at h3
    rw [startB_snoc, ← more_snoc, List.length_append, List.length_singleton]
    exact h3

theorem lay_close (S : Nat → Prop) (b n p q g a wd M wb tag k : Nat) (f : Nat → ByteArray) (K : WrK S g wb p q a wd M) (hk : k ≤ 262144) (w : World) (hL : LayWr w S b n p q g a wd M wb tag k f) :
    Calls Tryd.prog 29 #[.pointer (some ⟨wb, 0, none⟩)] w
      fun r w' => r = .returned (.int .i64 0) ∧ Fr (WrFr S g wb) w w' ∧ (∃ x sum, Blk w' wb (wrCells b p q g a wd M 0 x k sum 0) 116) ∧
        ∃ gs, gs.flatten = ((List.range k).map fun i => recB wd (f i)) ∧ GoodGroups wd M gs ∧ DiskAt w' b n (some (fileB wd tag gs)) S := by
  obtain ⟨gs, hs, hst, hW⟩ := hL
  have hfl := hst.file (tag := tag) K.w2
  have hm2 := K.m2
  have ha2 := K.a2
  have hh := hst.held
  have hln := hst.len
  refine (wclose_any S b n p q g a wd M wb K (startB wd tag gs) hs (gs.length + 1) k (crc gs.flatten.flatten) w (by omega) (by omega) (by omega) (by omega) hW).mono ?_
  rintro r w' ⟨h1, h2, ⟨x, h3⟩, h4⟩
  refine ⟨h1, h2, ⟨x, _, h3⟩, ?_⟩
  by_cases hn : hs = []
  · subst hn
    refine ⟨gs, by rw [← hst.all]; simp, hst.good, ?_⟩
    have he : fileB wd tag gs = startB wd tag gs ++ chunkB 3 (gs.length + 1) 0 (lastB k (crc gs.flatten.flatten)) := by
      unfold fileB endB lastB
      rw [← hln]; simp
    rw [he]
    exact h4
  · have hst2 := hst.flush hn
    refine ⟨gs ++ [hs], by rw [← hst2.all]; simp, hst2.good, ?_⟩
    unfold flushed at h4
    rw [if_neg hn] at h4
    have he : fileB wd tag (gs ++ [hs]) = startB wd tag gs ++ chunkB 2 (gs.length + 1) hs.length hs.flatten ++ chunkB 3 (gs.length + 1 + 1) 0 (lastB k (more (crc gs.flatten.flatten) hs.flatten)) := by
      unfold fileB
      rw [startB_snoc, more_snoc]
      unfold endB lastB
      rw [← hln]; simp
    rw [he]
    exact h4

theorem info_str : (Tryd.prog.info? 9).map (fun i => (i.zero, i.size, i.bytes)) = some (some (.string { data := #[] }), 1, 16) := by kernel_rfl
/-- A slice of texts made longer by one. -/
theorem add_one {w : World} {v : Value} {l : List (List UInt8)} (h : Strs w v l) (x : List UInt8) (hn : l.length ≤ 1099511627776) (b : Nat) (hx : Blk w b #[.string (strB x)] 9) :
    ∃ v' w', (Builtin.append_ #[24, 24] 24 #[v, .slice (some ⟨b, 0, none⟩) 1 1]).run Tryd.prog w = .ok v' w' ∧ Strs w' v' (l ++ [x]) ∧ Fr (fun k => v.ownBlock = some k) w w' ∧
      ∀ k, v'.ownBlock = some k → v.ownBlock = some k ∨ w.heap.size ≤ k := by
  obtain ⟨v', w', hrun, hrow, hgrow, hnew⟩ := run_append_row (P := Tryd.prog) w 24 24 9 (.string { data := #[] }) 1 16 Tryd.underlying24 info_str rfl (by omega)
    v l.length (strCells l) h ⟨b, 0, none⟩ 1 1 [.string (strB x)] rfl
    (by intro j u hj
        have hadd : (⟨b, 0, none⟩ : Addr).add j = ⟨b, j, none⟩ := by unfold Addr.add; split <;> simp_all
        rw [hadd, hx.cell]; simpa using hj)
    (by simp [Value.oneCell']) (by unfold maxLen; omega) (by omega)
  refine ⟨v', w', hrun, ?_, (Fr.refl _ w).grown hgrow (fun k hk _ => hk), hnew⟩
  unfold Strs
  rw [List.length_append, List.length_singleton]
  have e : strCells (l ++ [x]) = strCells l ++ [.string (strB x)] := by simp [strCells]
  rw [e]
  exact hrow
end Go.Proofs.YtcefockebphbaaaDoor

namespace Go.Proofs.YtcefockebphbaaaDoor
open Go Go.RowKit Sluice

/-- A slice of texts that is only read: any base. -/
def Texts (w : World) (S : Nat → Prop) (a : Option Addr) (n : Nat) (f : Nat → ByteArray) : Prop :=
  ∀ i, i < n → ∃ b off, a = some ⟨b, off, none⟩ ∧ S b ∧ w.cell? ⟨b, off + i, none⟩ = some (.string (f i)) ∧ (f i).size ≤ maxLen
def Bools (w : World) (S : Nat → Prop) (a : Option Addr) (n : Nat) (f : Nat → Bool) : Prop :=
  ∀ i, i < n → ∃ b off, a = some ⟨b, off, none⟩ ∧ S b ∧ w.cell? ⟨b, off + i, none⟩ = some (.bool (f i))
/-- The blocks that stay outside the disk while a Lay is laid. -/
def InS (S : Nat → Prop) (box p q g wb : Nat) (v : Value) : Nat → Prop := fun k => S k ∨ k = box ∨ k = p ∨ k = q ∨ k = g ∨ k = wb ∨ v.ownBlock = some k
def nilV : Value := .slice none 0 0
structure LayK (w0 : World) (S : Nat → Prop) (box p q g wb a wd M : Nat) : Prop where
  k : WrK (InS S box p q g wb nilV) g wb p q a wd M
  box0 : w0.heap.size ≤ box
  g0 : w0.heap.size ≤ g
  p0 : w0.heap.size ≤ p
  q0 : w0.heap.size ≤ q
  wb0 : w0.heap.size ≤ wb
  st : S 1
  st0 : Steps w0
  s0 : ∀ k, S k → k < w0.heap.size
/-- In the midst of a Lay: k records are given to the Writer, j are wanted. -/
structure LayIn (w0 w : World) (S : Nat → Prop) (box p q g wb b n a wd M tag : Nat) (f : Nat → ByteArray) (cells : Array Value) (k j : Nat) (v : Value) : Prop where
  fr : Fr (fun k => ¬ S k) w0 w
  bx : Blk w box cells 26
  strs : Strs w v ((List.range j).map fun i => recB wd (f i))
  own : ∀ x, v.ownBlock = some x → w0.heap.size ≤ x
  wr : LayWr w (InS S box p q g wb v) b n p q g a wd M wb tag k f

section
variable {w0 w : World} {S : Nat → Prop} {box p q g wb b n a wd M tag : Nat} {f : Nat → ByteArray} {cells : Array Value} {k j : Nat} {v : Value}

theorem LayK.more (K : LayK w0 S box p q g wb a wd M) (v : Value) : WrK (InS S box p q g wb v) g wb p q a wd M := K.k.more fun k h => by
  unfold InS at *
  rcases h with h | h | h | h | h | h | h
  · exact Or.inl h
  · exact Or.inr (Or.inl h)
  · exact Or.inr (Or.inr (Or.inl h))
  · exact Or.inr (Or.inr (Or.inr (Or.inl h)))
  · exact Or.inr (Or.inr (Or.inr (Or.inr (Or.inl h))))
  · exact Or.inr (Or.inr (Or.inr (Or.inr (Or.inr (Or.inl h)))))
  · cases h
theorem Strs.blk {w : World} {v : Value} {l : List (List UInt8)} (h : Strs w v l) {x : Nat} (hx : v.ownBlock = some x) : ∃ cs, Blk w x cs 9 := by
  rcases h.2 with ⟨rfl, _⟩ | ⟨g, cap, cur, rfl, hb, _⟩
  · cases hx
  · simp [Value.ownBlock] at hx; subst hx; exact ⟨cur, hb⟩
theorem LayIn.nots (h : LayIn w0 w S box p q g wb b n a wd M tag f cells k j v) : box ≠ g ∧ box ≠ wb ∧ (∀ x, v.ownBlock = some x → x ≠ g ∧ x ≠ wb ∧ x ≠ p ∧ x ≠ q ∧ x ≠ box) := by
  obtain ⟨gs, hs, -, hW⟩ := h.wr
  obtain ⟨buf, hg, -, -⟩ := hW.buf
  refine ⟨Blk.ne h.bx hg (by decide), Blk.ne h.bx hW.cells (by decide), fun x hx => ?_⟩
  obtain ⟨cs, hb⟩ := h.strs.blk hx
  exact ⟨Blk.ne hb hg (by decide), Blk.ne hb hW.cells (by decide), Blk.ne hb hW.forms.1 (by decide), Blk.ne hb hW.forms.2 (by decide), Blk.ne hb h.bx (by decide)⟩
theorem LayIn.keeps (K : LayK w0 S box p q g wb a wd M) (h : LayIn w0 w S box p q g wb b n a wd M tag f cells k j v) {w' : World} (hk : Keeps w w') : LayIn w0 w' S box p q g wb b n a wd M tag f cells k j v :=
  ⟨h.fr.keeps hk, hk.blk h.bx (fun h => h), h.strs.keeps hk (fun _ _ h => h), h.own, layWr_more h.wr hk (fun _ _ h => h.elim) (fun h => h) (fun h => h) (fun h => h) (fun h => h) (fun h => h) (fun _ h => Or.inl h)⟩
/-- What a Writer's operation leaves. -/
theorem LayIn.after (K : LayK w0 S box p q g wb a wd M) (h : LayIn w0 w S box p q g wb b n a wd M tag f cells k j v) {w' : World} (hf : Fr (WrFr (InS S box p q g wb v) g wb) w w') :
    Fr (fun k => ¬ S k) w0 w' ∧ Blk w' box cells 26 ∧ Strs w' v ((List.range j).map fun i => recB wd (f i)) := by
  obtain ⟨h1, h2, h3⟩ := h.nots
  refine ⟨h.fr.trans hf ?_, hf.blk h.bx ?_, h.strs.keeps hf ?_⟩
  · intro i hi hx hs
    rcases hx with hx | hx | hx
    · exact hx (Or.inl hs)
    · have := K.g0; omega
    · have := K.wb0; omega
  · rintro (hx | hx | hx)
    · exact hx (Or.inr (Or.inl rfl))
    · exact h1 hx
    · exact h2 hx
  · intro x hx hn
    obtain ⟨e1, e2, -⟩ := h3 x hx
    rcases hn with hn | hn | hn
    · exact hn (Or.inr (Or.inr (Or.inr (Or.inr (Or.inr (Or.inr hx))))))
    · exact e1 hn
    · exact e2 hn
theorem in_put (K : LayK w0 S box p q g wb a wd M) (h : LayIn w0 w S box p q g wb b n a wd M tag f cells k j v) (hk : k < 262144) (hsz : (f k).size ≤ maxLen) (sp : Nat) (hsp : Blk w sp #[.string (f k)] 9) :
    Calls Tryd.prog 26 #[.pointer (some ⟨wb, 0, none⟩), .slice (some ⟨sp, 0, none⟩) 1 1] w
      fun r w' => r = .returned (.int .i64 0) ∧ LayIn w0 w' S box p q g wb b n a wd M tag f cells (k + 1) j v := by
  refine (lay_put (InS S box p q g wb v) b n p q g a wd M wb tag k f (K.more v) hk hsz sp w h.wr hsp).mono ?_
  rintro r w' ⟨rfl, hF, hW⟩
  obtain ⟨h1, h2, h3⟩ := h.after K hF
  exact ⟨rfl, h1, h2, h3, h.own, hW⟩
theorem in_flush (K : LayK w0 S box p q g wb a wd M) (h : LayIn w0 w S box p q g wb b n a wd M tag f cells k j v) (hk : k ≤ 262144) :
    Calls Tryd.prog 28 #[.pointer (some ⟨wb, 0, none⟩)] w
      fun r w' => r = .returned (.int .i64 0) ∧ LayIn w0 w' S box p q g wb b n a wd M tag f cells k j v := by
  refine (lay_flush (InS S box p q g wb v) b n p q g a wd M wb tag k f (K.more v) hk w h.wr).mono ?_
  rintro r w' ⟨rfl, hF, hW⟩
  obtain ⟨h1, h2, h3⟩ := h.after K hF
  exact ⟨rfl, h1, h2, h3, h.own, hW⟩
theorem in_add (K : LayK w0 S box p q g wb a wd M) (h : LayIn w0 w S box p q g wb b n a wd M tag f cells k j v) (hj : j < 262144) (sp : Nat) (hsp : Blk w sp #[.string (strB (recB wd (f j)))] 9) :
    ∃ v' w', (Builtin.append_ #[24, 24] 24 #[v, .slice (some ⟨sp, 0, none⟩) 1 1]).run Tryd.prog w = .ok v' w' ∧ LayIn w0 w' S box p q g wb b n a wd M tag f cells k (j + 1) v' := by
  obtain ⟨v', w', hrun, h1, h2, h3⟩ := add_one h.strs (recB wd (f j)) (by simp; omega) sp hsp
  obtain ⟨n1, n2, n3⟩ := h.nots
  have hsz := h.fr.size
  refine ⟨v', w', hrun, h.fr.trans h2 (fun i hi hx hs => by have := h.own i hx; omega), h2.blk h.bx (fun e => (n3 _ e).2.2.2.2 rfl), ?_, fun x hx => ?_, ?_⟩
  · rw [List.range_succ, List.map_append]; exact h1
  · rcases h3 x hx with h | h
    · exact LayIn.own ‹_› x h
    · omega
  · refine layWr_more h.wr h2 (fun x _ hx => Or.inr (Or.inr (Or.inr (Or.inr (Or.inr (Or.inr hx)))))) (fun e => (n3 _ e).2.1 rfl) (fun e => (n3 _ e).2.2.1 rfl) (fun e => (n3 _ e).2.2.2.1 rfl) ?_ (fun e => (n3 _ e).1 rfl) ?_
    · intro e
      have := h.own _ e
      have := K.s0 _ K.st
      omega
    · intro x hx
      rcases hx with hx | hx | hx | hx | hx | hx | hx
      · exact Or.inl (Or.inl hx)
      · exact Or.inl (Or.inr (Or.inl hx))
      · exact Or.inl (Or.inr (Or.inr (Or.inl hx)))
      · exact Or.inl (Or.inr (Or.inr (Or.inr (Or.inl hx))))
      · exact Or.inl (Or.inr (Or.inr (Or.inr (Or.inr (Or.inl hx)))))
      · exact Or.inl (Or.inr (Or.inr (Or.inr (Or.inr (Or.inr (Or.inl hx))))))
      · rcases h3 x hx with h | h
        · exact Or.inl (Or.inr (Or.inr (Or.inr (Or.inr (Or.inr (Or.inr h))))))
        · obtain ⟨cs, hb⟩ := h1.blk hx
          exact Or.inr ⟨h, hb.lt⟩
/-- What a lay comes to. -/
def LaidTo (w0 : World) (S : Nat → Prop) (b n wd M tag rn : Nat) (f : Nat → ByteArray) (v : Value) (w : World) : Prop :=
  ∃ gs, gs.flatten = ((List.range rn).map fun i => recB wd (f i)) ∧ GoodGroups wd M gs ∧ Strs w v gs.flatten ∧ (∀ x, v.ownBlock = some x → w0.heap.size ≤ x) ∧
    DiskAt w b n (some (fileB wd tag gs)) (fun x => S x ∨ v.ownBlock = some x) ∧ Fr (fun k => ¬ S k) w0 w
theorem in_close (K : LayK w0 S box p q g wb a wd M) (h : LayIn w0 w S box p q g wb b n a wd M tag f cells k k v) (hk : k ≤ 262144) :
    Calls Tryd.prog 29 #[.pointer (some ⟨wb, 0, none⟩)] w
      fun r w' => r = .returned (.int .i64 0) ∧ (∃ x sum, Blk w' wb (wrCells b p q g a wd M 0 x k sum 0) 116) ∧ LaidTo w0 S b n wd M tag k f v w' := by
  refine (lay_close (InS S box p q g wb v) b n p q g a wd M wb tag k f (K.more v) hk w h.wr).mono ?_
  rintro r w' ⟨rfl, hF, hB, gs, e1, e2, e3⟩
  obtain ⟨h1, h2, h3⟩ := h.after K hF
  refine ⟨rfl, hB, gs, e1, e2, by rw [e1]; exact h3, h.own, e3.less ?_, h1⟩
  rintro x (hx | hx)
  · exact Or.inl hx
  · exact Or.inr (Or.inr (Or.inr (Or.inr (Or.inr (Or.inr hx)))))
end

/-- What lay's Create comes to. -/
def MadeL (w0 : World) (S : Nat → Prop) (box b n a wd tag : Nat) (f : Nat → ByteArray) (cells : Array Value) (x : Value) (w : World) : Prop :=
  ∃ p q g wb, x = .pointer (some ⟨wb, 0, none⟩) ∧ LayK w0 S box p q g wb a wd ((a - 24) / wd) ∧ LayIn w0 w S box p q g wb b (n + 1) a wd ((a - 24) / wd) tag f cells 0 0 nilV
theorem lay_made (S : Nat → Prop) (b n a wd tag box p q g : Nat) (f : Nat → ByteArray) (cells : Array Value) (hn : n ≤ 1000) (h1 : 1 ≤ wd) (h2 : wd ≤ 256) (ht : tag < 18446744073709551616) (a1 : 36 ≤ a) (a2 : a ≤ 1048576) (a3 : 24 + wd ≤ a)
    (ss : S 1) (w w1 wc : World) (hS : Steps w) (hD : DiskAt w b n none S) (hk1 : Keeps w w1) (hb : Blk w1 box cells 26) (hb0 : w.heap.size ≤ box)
    (hk2 : Keeps w1 wc) (hF : FormBoxes wc p q) (hp : w1.heap.size ≤ p) (hq : w1.heap.size ≤ q) (hg : Blk wc g (bytesA (List.replicate a 0)) 5) (hg0 : w1.heap.size ≤ g) :
    Calls Tryd.prog 25 #[volV b, .string nameF, titleV 3 (wd : Int) (tag : Int), textForm (wd : Int) p q, .slice (some ⟨g, 0, none⟩) a a] wc
      fun r w' => ∃ wb, r = .returned (.tuple #[.pointer (some ⟨wb, 0, none⟩), .int .i64 0]) ∧ MadeL w S box b n a wd tag f cells (.pointer (some ⟨wb, 0, none⟩)) w' := by
  have hs1 := hk1.size
  have hst := hS.1
  have hkc : Keeps w wc := hk1.keeps hk2
  have hbc := hk2.blk hb (fun h => h)
  have hltb := hbc.lt
  have hltp := hF.1.lt
  have hltq := hF.2.lt
  have hltg := hg.lt
  have hDc : DiskAt wc b n none (fun k => S k ∨ k = box ∨ k = p ∨ k = q ∨ k = g) := hD.more hkc (fun k hk => by
    rcases hk with h | h | h | h | h
    · exact Or.inl h
    · right; omega
    · right; omega
    · right; omega
    · right; omega)
  have hs0 : ∀ k, S k → k < w.heap.size := fun k hk => hD.lt hk
  have hst2 := hs0 _ ss
  have hgs : g ≠ 1 := by intro e; rw [e] at hg0; omega
  refine (wcreate_any (fun k => S k ∨ k = box ∨ k = p ∨ k = q ∨ k = g) b n p q g a wd tag (List.replicate a 0) hn h1 h2 ht a1 a2 a3 (by simp) (Or.inl ss) (Or.inr (Or.inr (Or.inr (Or.inr rfl)))) (Or.inr (Or.inr (Or.inl rfl))) (Or.inr (Or.inr (Or.inr (Or.inl rfl)))) hgs wc
    (hS.kept hkc (fun h => h)) hF hg hDc).mono ?_
  rintro r w' ⟨wb, rfl, hwb, hFr, hW⟩
  have hne := Blk.ne hbc hg (by decide)
  have hsc := hkc.size
  refine ⟨_, rfl, p, q, g, wb, rfl, ⟨⟨Or.inl ss, ?_, ?_, ?_, ?_, hgs, ?_, h1, h2, a1, a2, ?_, ?_⟩, hb0, by omega, by omega, by omega, by omega, ss, hS, hs0⟩, ⟨?_, ?_, ⟨rfl, Or.inl ⟨rfl, rfl⟩⟩, (fun x hx => by cases hx), [], [], ⟨rfl, (fun g hg => by simp at hg), ?_, by simp⟩, ?_⟩⟩
  · exact Or.inr (Or.inr (Or.inr (Or.inr (Or.inl rfl))))
  · exact Or.inr (Or.inr (Or.inr (Or.inr (Or.inr (Or.inl rfl)))))
  · exact Or.inr (Or.inr (Or.inl rfl))
  · exact Or.inr (Or.inr (Or.inr (Or.inl rfl)))
  · intro e; rw [e] at hwb; omega
  · exact (Nat.one_le_div_iff (by omega)).2 (by omega)
  · have := Nat.div_mul_le_self (a - 24) wd; omega
  · refine Fr.trans (Fr.any hkc) hFr ?_
    rintro i hi (hx | hx) hs
    · exact hx (Or.inl hs)
    · omega
  · refine hFr.blk hbc ?_
    rintro (hx | hx)
    · exact hx (Or.inr (Or.inl rfl))
    · exact hne hx
  · exact (Nat.one_le_div_iff (by omega)).2 (by omega)
  · obtain ⟨c1, c2, c3, c4, c5, c6⟩ := hW
    have he : startB wd tag [] = chunkB 1 0 0 (titleB wd tag) := by unfold startB; simp [dataB]
    have hc0 : crc (([] : List (List (List UInt8))).flatten).flatten = 0 := by unfold crc; simp [more_nil]
    rw [he, hc0]
    refine ⟨c1, c2, c3, c4.less ?_, c5, c6⟩
    rintro x (hx | hx | hx | hx | hx | hx | hx)
    · exact Or.inl (Or.inl hx)
    · exact Or.inl (Or.inr (Or.inl hx))
    · exact Or.inl (Or.inr (Or.inr (Or.inl hx)))
    · exact Or.inl (Or.inr (Or.inr (Or.inr (Or.inl hx))))
    · exact Or.inl (Or.inr (Or.inr (Or.inr (Or.inr hx))))
    · exact Or.inr hx
    · cases hx
end Go.Proofs.YtcefockebphbaaaDoor

namespace Go.Proofs.YtcefockebphbaaaDoor
open Go Go.RowKit Sluice

theorem wpList_append_run {P : Program} {ops : Array Oper} {rest : List Oper} {o : Oper} {a : Act} {w : World} {Q : Exit → Act → World → Prop} (hgd : o.guard = none) (s x : Operand) (t : TypeId)
    (ho : o.op = .call { callee := .builtin .append, args := #[s, x], argTypes := #[t, t] }) (sv xv v : Value) (w' : World) (hs : a.eval s = sv) (hx : a.eval x = xv)
    (hrun : (Builtin.append_ #[t, t] o.type #[sv, xv]).run P w = .ok v w') (h : wpList P ops Q rest (a.put o.dst v) w') : wpList P ops Q (o :: rest) a w :=
  wpList_plain hgd fun _ hK => by
    unfold Oper.wp
    simp [execOp, ho, resolve, invoke, builtin, hs, hx, hrun, Result.andThen]
    exact hK _ _ h
theorem ret_lay {v : Value} {x y : Bool} (h : x = y) : Ending.returned (.tuple #[v, .bool x]) = .returned (.tuple #[v, .bool y]) := by rw [h]

theorem MadeL.bx {w0 w : World} {S : Nat → Prop} {box b n a wd tag : Nat} {f : Nat → ByteArray} {cells : Array Value} {x : Value} (h : MadeL w0 S box b n a wd tag f cells x w) : Blk w box cells 26 := by
  obtain ⟨p, q, g, wb, -, -, h⟩ := h
  exact h.bx

set_option maxHeartbeats 8000000 in
set_option maxRecDepth 100000 in
theorem laylay_any (S : Nat → Prop) (b n tag rn rc cn cc : Nat) (W Wr Rd : Int) (ra ca : Option Addr) (f : Nat → ByteArray) (c : Nat → Bool) (hn : n ≤ 1000) (ht : tag < 18446744073709551616) (hrn : rn ≤ 262144) (hcn : cn ≤ maxLen)
    (ss : S 1) (w : World) (hS : Steps w) (hD : DiskAt w b n none S) (hr : Texts w S ra rn f) (hc : Bools w S ca cn c) :
    Calls Tryd.prog 9 #[layV W (tag : Int) Wr Rd (.slice ca cn cc) (.slice ra rn rc), .pointer (some ⟨b, 0, none⟩)] w
      fun r w' => ∃ v, r = .returned (.tuple #[v, .bool true]) ∧ LaidTo w S b (n + 1) (wdOf W) ((aOf W Wr - 24) / wdOf W) tag rn f v w' := by
  obtain ⟨hw1, hw2⟩ := wdOf_le W
  obtain ⟨ha1, ha3, ha2⟩ := aOf_le W Wr
  have HSz := Lib.hid (sizes_any W (tag : Int) Wr Rd (.slice ca cn cc) (.slice ra rn rc))
  unfold maxLen at hcn
  unfold layV at *
  generalize wdOf W = wd at *
  generalize aOf W Wr = a at *
  generalize hM : (a - 24) / wd = M
  have hmk := fun w => run_make_one (P := Tryd.prog) w 27 5 (.int .u8 0) 1 Tryd.underlying27 info_u8 rfl .i64 .i64 a (by omega) (by omega)
  have hrw : Array.replicate a (.int .u8 0) = bytesA (List.replicate a 0) := by simp [bytesA_replicate, bv]
  rw [hrw] at hmk
  have HS := Lib.hid hS
  have HD := Lib.hid hD
  have HR := Lib.hid hr
  have HC := Lib.hid hc
  have HM := Lib.hid hM
  clear hS hD hr hc hM hrw
  go_enter Tryd.func9, Tryd.ntmps9
  go_upto_region 2 with (first
    | ((go_at_call 18); (refine (HSz.out _).mono ?_); (rintro r w1 ⟨rfl, hk0⟩); (have hB1 : Blk w1 w.heap.size #[.int .i64 W, .int .u64 (tag : Int), .int .i64 Wr, .int .i64 Rd, .slice ca cn cc, .slice ra rn rc] 26 := hk0.blk (Blk.new' rfl) (fun h => h)); (have hk1 : Keeps w w1 := Fr.keeps ((Fr.refl _ w).alloc _) hk0); (clear hk0))
    | fail)
  have hct := hB1.cell
  have hlt1 := hB1.lt
  have hmk2 := hmk w1.drew
  go_cut [9, 10] (fun s9 s10 wx => s10 = .int .i64 0 ∧ (∃ wb, s9 = .pointer (some ⟨wb, 0, none⟩)) ∧ MadeL w S w.heap.size b n a wd tag f #[.int .i64 W, .int .u64 (tag : Int), .int .i64 Wr, .int .i64 Rd, .slice ca cn cc, .slice ra rn rc] s9 wx)
  case first =>
    go_region_held3 (fun w' => ∀ i, w'.cell? ⟨w.heap.size, i, none⟩ = (#[.int .i64 W, .int .u64 (tag : Int), .int .i64 Wr, .int .i64 Rd, .slice ca cn cc, .slice ra rn rc] : Array Value)[i]?)
      (((try dsimp only); first | with_reducible exact fun i => Blk.cell hB3 i | with_reducible exact fun i => Blk.cell hB2 i | with_reducible exact fun i => Blk.cell (Blk.alloc hB2 _) i | with_reducible exact fun i => Blk.cell (Blk.drew (Blk.alloc hB1 _)) i | with_reducible exact fun i => Blk.cell (Blk.drew hB1) i | fail))
      (first
        | ((go_at_call 20); (refine (textForm_any (wd : Int) _).mono ?_); (rintro r w2 ⟨p, q, rfl, hF2, hp, hq, hk2⟩); (have hB2 : Blk w2 w.heap.size #[.int .i64 W, .int .u64 (tag : Int), .int .i64 Wr, .int .i64 Rd, .slice ca cn cc, .slice ra rn rc] 26 := hk2.blk (by first | exact ((hB1.alloc _).drew) | exact hB1.drew) (fun h => h)); (have hmk3 := hmk w2))
        | ((go_at_call 25); (refine (lay_made S b n a wd tag w.heap.size p q w1.heap.size f #[.int .i64 W, .int .u64 (tag : Int), .int .i64 Wr, .int .i64 Rd, .slice ca cn cc, .slice ra rn rc] hn hw1 hw2 ht ha1 (by omega) ha3 ss w w1 w2 HS.out HD.out hk1 hB1 (Nat.le_refl _) (Fr.keeps (((Fr.refl _ w1).alloc _).drew) hk2) hF2 (by simp at hp; omega) (by simp at hq; omega) (hk2.blk (Blk.new' rfl) (fun h => h)) (Nat.le_refl _)).mono ?_); (rintro r w3 ⟨wb, rfl, hMade⟩); (have hB3 := hMade.bx))
        | ((go_at_call 25); (have hs2 := hk2.size); (refine (lay_made S b n a wd tag w.heap.size p q w2.heap.size f #[.int .i64 W, .int .u64 (tag : Int), .int .i64 Wr, .int .i64 Rd, .slice ca cn cc, .slice ra rn rc] hn hw1 hw2 ht ha1 (by omega) ha3 ss w w1 (w2.alloc (.cells (bytesA (List.replicate a 0)) 5)) HS.out HD.out hk1 hB1 (Nat.le_refl _) ((Fr.keeps (Fr.refl _ w1).drew hk2).alloc _) ⟨hF2.1.alloc _, hF2.2.alloc _⟩ (by simp at hp; omega) (by simp at hq; omega) (Blk.new' rfl) (by simp at hs2; omega)).mono ?_); (rintro r w3 ⟨wb, rfl, hMade⟩); (have hB3 := hMade.bx)))
    all_goals (
      (try go_wp2_with fail)
      go_meet
      exact ⟨rfl, ⟨_, rfl⟩, hMade⟩)
  case rest =>
    obtain ⟨rfl, ⟨wb, rfl⟩, p, q, g, wb', hwb, K, hI⟩ := hcut
    simp at hwb
    subst hwb
    rw [HM.out] at K hI
    have HK := Lib.hid K
    have hbx := hI.bx.cell
    have HI := Lib.hid hI
    have hlb := hI.bx.lt
    clear K hI hmk2 hct hlt1 hB1 hk1 hmk
    go_wp2_with (first
      | ((go_at_call 8); (refine (num_any 0 (by omega) (by omega) _).mono ?_); (rintro r wn ⟨rfl, rfl⟩))
      | fail)
    go_loopw [10, 11, 12] (fun s10 s11 s12 wr => ∃ k : Nat, k ≤ rn ∧ s10 = .int .i64 0 ∧ s12 = .int .i64 k ∧ LayIn w wr S w.heap.size p q g wb b (n + 1) a wd M tag f #[.int .i64 W, .int .u64 (tag : Int), .int .i64 Wr, .int .i64 Rd, .slice ca cn cc, .slice ra rn rc] k k s11) (fun s10 s11 s12 wr => rn - (intOf s12).toNat)
    case atStart => exact ⟨0, by omega, rfl, rfl, HI.out⟩
    case round =>
      obtain ⟨k, hk, rfl, rfl, hIn⟩ := hrel
      have hbr := hIn.bx.cell
      have hltr := hIn.bx.lt
      clear hbx HI hlb
      by_cases hlt : k < rn
      · obtain ⟨rb, ro, hra, hSb, hcell, hsz⟩ := HR.out k hlt
        subst hra
        have hltb : rb < w.heap.size := World.block_lt_of_cell? _ _ hcell
        have hcr := (hIn.fr.cell hltb (fun h => h hSb)).trans hcell
        have hI1 := hIn.keeps HK.out ((Fr.refl (fun _ => False) wr).alloc (.cells #[.string (f k)] 9))
        have hd1 : ((k : Int) < (rn : Int)) := by omega
        have HSzf := Lib.hid hsz
        have HI1 := Lib.hid hI1
        clear hsz hI1 hIn
        go_upto_region 10 with (first
          | ((go_at_call 26); (refine (in_put HK.out HI1.out (by omega) HSzf.out wr.heap.size (Blk.new' rfl)).mono ?_); (rintro r w2 ⟨rfl, hI2⟩); (have hb2 := hI2.bx.cell); (have hc2 := (hI2.fr.cell hltb (fun h => h hSb)).trans hcell))
          | fail)
        go_upto_region 11 with (first
          | ((go_at_call 27); (refine (record_any (f k) HSzf.out wd hw1 hw2 _).mono ?_); (rintro r w3 ⟨rfl, hk3⟩); (obtain ⟨v', w5, hrun, hI5⟩ := in_add HK.out (hI2.keeps HK.out (hk3.alloc (.cells #[.string (strB (recB wd (f k)))] 9))) (by omega) w3.heap.size (Blk.new' rfl)); (have hb5 := hI5.bx.cell); (have hlt5 := hI5.bx.lt); (have HI5 := Lib.hid hI5); (have hrun5 := Lib.hid hrun); (clear hrun hI5 hI2 hk3))
          | ((at_builtin); (refine wpList_append_run rfl _ _ 24 rfl _ _ v' w5 rfl rfl hrun5.out ?_))
          | fail)
        clear hrun5 hb2 hc2 hcr hbr hltr
        by_cases hcut : k < cn
        · obtain ⟨cb, co, hca, hSc, hcell2⟩ := HC.out k hcut
          subst hca
          have hltc : cb < w.heap.size := World.block_lt_of_cell? _ _ hcell2
          have hcc := (HI5.out.fr.cell hltc (fun h => h hSc)).trans hcell2
          have hd3 : ((k : Int) < (cn : Int)) := by omega
          generalize c k = ck at hcc hcell2
          clear hcell2
          cases ck
          · go_wp2_with (first
              | ((go_at_call 8); (refine (num_any 0 (by omega) (by omega) _).mono ?_); (rintro r wn ⟨rfl, rfl⟩))
              | fail)
            all_goals go_roundw
            case rel => exact ⟨k + 1, by omega, rfl, by go_num, HI5.out⟩
            case measure => simp [intOf]; omega
          · go_wp2_with (first
              | ((go_at_call 8); (refine (num_any 0 (by omega) (by omega) _).mono ?_); (rintro r wn ⟨rfl, rfl⟩))
              | ((go_at_call 28); (refine (in_flush HK.out HI5.out (by omega)).mono ?_); (rintro r w6 ⟨rfl, hI6⟩); (have hb6 := hI6.bx.cell); (have HI6 := Lib.hid hI6); (clear hI6))
              | fail)
            all_goals go_roundw
            case rel => exact ⟨k + 1, by omega, rfl, by go_num, HI6.out⟩
            case measure => simp [intOf]; omega
        · have hd2 : ¬ ((k : Int) < (cn : Int)) := by omega
          go_wp2_with (first
            | ((go_at_call 8); (refine (num_any 0 (by omega) (by omega) _).mono ?_); (rintro r wn ⟨rfl, rfl⟩))
            | fail)
          all_goals go_roundw
          case rel => exact ⟨k + 1, by omega, rfl, by go_num, HI5.out⟩
          case measure => simp [intOf]; omega
      · have hkk : k = rn := by omega
        subst hkk
        obtain ⟨vb, vc, hv, -, -, -⟩ := hIn.strs.form
        rw [List.length_map, List.length_range] at hv
        subst hv
        have HIn := Lib.hid hIn
        clear hIn
        go_wp2_with (first
          | ((go_at_call 29); (refine (in_close HK.out HIn.out (by omega)).mono ?_); (rintro r w2 ⟨rfl, ⟨x, sum, hB2⟩, hL2⟩); (have HL2 := Lib.hid hL2); (clear hL2))
          | ((go_at_call 30); (refine (wcode_any b p q g a wd M 0 x k wb sum 0 _ hB2).mono ?_); (rintro r wn ⟨rfl, rfl⟩))
          | ((go_at_call 31); (refine (wcount_any b p q g a wd M 0 x k wb sum 0 _ hB2).mono ?_); (rintro r wn ⟨rfl, rfl⟩))
          | ((go_at_call 8); (refine (num_any 0 (by omega) (by omega) _).mono ?_); (rintro r wn ⟨rfl, rfl⟩))
          | fail)
        all_goals go_ret2
        all_goals exact ⟨_, ret_lay (by simp), HL2.out⟩
end Go.Proofs.YtcefockebphbaaaDoor

namespace Go.Proofs.YtcefockebphbaaaDoor
open Go Go.RowKit Sluice

theorem tellsK_len (bs : List UInt8) (B wd : Nat) (hf : 1 ≤ wd) : ∀ (k at_ seq recs : Nat) (sum : BitVec 32), seq ≠ 0 → at_ ≤ bs.length → (tellsK bs B wd k at_ seq recs sum).1.length + at_ ≤ bs.length
  | 0, at_, _, _, _, _, h => by simp only [tellsK, List.length_nil]; omega
  | k + 1, at_, seq, recs, sum, hs, h => by
    simp only [tellsK]
    cases e : chunkR bs B wd at_ seq with
    | none => simp only [List.length_nil]; omega
    | some x =>
      obtain ⟨kind, count, body⟩ := x
      dsimp only
      by_cases h3 : kind = 3
      · rw [if_pos h3]; simp only [List.length_nil]; omega
      · rw [if_neg h3]
        obtain ⟨-, h2⟩ := data_len hs h3 hf e
        have h4 := (chunkR_some e).2.2.2.1
        have h5 := (chunkR_some e).2.2.2.2.2.2.2.2
        rw [← h5] at h4
        have ih := tellsK_len bs B wd hf k (at_ + 24 + body.length) (seq + 1) (recs + count) (more sum body) (by omega) h4
        have h6 : count ≤ body.length := by rw [h2]; exact Nat.le_mul_of_pos_right _ hf
        simp only [List.length_append, split_len]
        omega
theorem tells_len {bs : List UInt8} {B wd at_ seq recs : Nat} {sum : BitVec 32} (hf : 1 ≤ wd) (hs : seq ≠ 0) (ha : at_ ≤ bs.length) : (tells bs B wd at_ seq recs sum).1.length ≤ bs.length := by
  have := tellsK_len bs B wd hf (bs.length + 1) at_ seq recs sum hs ha
  unfold tells
  omega
theorem tells_all_len {bs : List UInt8} {B wd : Nat} (hf : 1 ≤ wd) : (tells bs B wd 36 1 0 0).1.length ≤ bs.length := by
  by_cases h : 36 ≤ bs.length
  · exact tells_len hf (by omega) h
  · have hz : chunkR bs B wd 36 1 = none := by
      unfold chunkR
      rw [if_pos (by omega)]
    rw [tells_eq, hz]
    simp
theorem open_len {bs : List UInt8} {B wd tag : Nat} (h : openR bs B wd tag = true) : 24 ≤ bs.length := by
  unfold openR at h
  cases e : chunkR bs B 0 0 0 with
  | none => rw [e] at h; cases h
  | some x =>
    obtain ⟨kind, count, body⟩ := x
    have := (chunkR_some e).2.2.2.1
    omega

/-- The blocks that stay outside the disk while a file is told. -/
def InR (S : Nat → Prop) (p q g rb : Nat) (v : Value) : Nat → Prop := fun k => S k ∨ k = p ∨ k = q ∨ k = g ∨ k = rb ∨ v.ownBlock = some k
structure ToldK (w0 : World) (S : Nat → Prop) (p q g rb B fw : Nat) : Prop where
  k : RdK (InR S p q g rb nilV) g rb p q B fw
  g0 : w0.heap.size ≤ g
  rb0 : w0.heap.size ≤ rb
  st : S 1
  s0 : ∀ k, S k → k < w0.heap.size
structure ToldIn (w0 w : World) (S : Nat → Prop) (n b p q g B fw tag rb : Nat) (bs : List UInt8) (rest : List (List UInt8) × Bool) (told : Nat) (over : Bool) (got : List (List UInt8)) (v : Value) : Prop where
  fr : Fr (fun k => ¬ S k) w0 w
  strs : Strs w v got
  own : ∀ x, v.ownBlock = some x → w0.heap.size ≤ x
  rd : RdSt w (InR S p q g rb v) n b p q g B fw tag rb bs rest told over

section
variable {w0 w : World} {S : Nat → Prop} {n b p q g B fw tag rb told : Nat} {bs : List UInt8} {rest : List (List UInt8) × Bool} {over : Bool} {got : List (List UInt8)} {v : Value}

theorem ToldK.more (K : ToldK w0 S p q g rb B fw) (v : Value) : RdK (InR S p q g rb v) g rb p q B fw := by
  obtain ⟨⟨h1, h2, h3, h4, h5, h6, h7, h8, h9, h10, h11, h12⟩, -, -, st, -⟩ := K
  exact ⟨Or.inl st, Or.inr (Or.inr (Or.inr (Or.inl rfl))), Or.inr (Or.inr (Or.inr (Or.inr (Or.inl rfl)))), Or.inr (Or.inl rfl), Or.inr (Or.inr (Or.inl rfl)), h6, h7, h8, h9, h10, h11, h12⟩
theorem rdSt_more {w w' : World} {S S' T : Nat → Prop} (h : RdSt w S n b p q g B fw tag rb bs rest told over) (hf : Fr T w w') (hT : ∀ k, k < w.heap.size → T k → S k) (h1 : ¬ T rb) (h2 : ¬ T p) (h3 : ¬ T q) (h4 : ¬ T 1) (h5 : ¬ T g)
    (hs' : ∀ k, S' k → S k ∨ (w.heap.size ≤ k ∧ k < w'.heap.size)) : RdSt w' S' n b p q g B fw tag rb bs rest told over := by
  obtain ⟨at_, seq, body, recs, sum, code, done, left, buf, ls, hA, hL, hw, ho⟩ := h
  obtain ⟨c1, c2, c3, c4, c5, c6⟩ := hA
  refine ⟨at_, seq, body, recs, sum, code, done, left, buf, ls, ⟨hf.blk c1 h1, ⟨hf.blk c2.1 h2, hf.blk c2.2 h3⟩, c3.kept hf h4, ?_, hf.blk c5 h5, c6⟩, hL, hw, ho⟩
  obtain ⟨own, L, D, d1, d2, d3, d4⟩ := c4
  have d2' : IsDisk w' own L D := d2.stays (S := fun k => T k ∧ k < w.heap.size) ⟨hf.os, hf.tape, hf.output, hf.size, fun k hk hn => hf.block k hk (fun ht => hn ⟨ht, hk⟩)⟩ (fun k hk hx => hk (d4 k (hT k hx.2 hx.1)).1)
  refine ⟨own, L, D, d1, d2', d3, fun k hk => ?_⟩
  rcases hs' k hk with h | ⟨h6, h7⟩
  · exact ⟨(d4 k h).1, Nat.lt_of_lt_of_le (d4 k h).2 hf.size⟩
  · exact ⟨d2.out h6, h7⟩
theorem ToldIn.nots (h : ToldIn w0 w S n b p q g B fw tag rb bs rest told over got v) : ∀ x, v.ownBlock = some x → x ≠ g ∧ x ≠ rb ∧ x ≠ p ∧ x ≠ q := by
  obtain ⟨at_, seq, body, recs, sum, code, done, left, buf, ls, hA, -⟩ := h.rd
  intro x hx
  obtain ⟨cs, hb⟩ := h.strs.blk hx
  exact ⟨Blk.ne hb hA.mem (by decide), Blk.ne hb hA.cells (by decide), Blk.ne hb hA.forms.1 (by decide), Blk.ne hb hA.forms.2 (by decide)⟩
theorem ToldIn.keeps (K : ToldK w0 S p q g rb B fw) (h : ToldIn w0 w S n b p q g B fw tag rb bs rest told over got v) {w' : World} (hk : Keeps w w') : ToldIn w0 w' S n b p q g B fw tag rb bs rest told over got v :=
  ⟨h.fr.keeps hk, h.strs.keeps hk (fun _ _ h => h), h.own, rdSt_more h.rd hk (fun _ _ h => h.elim) (fun h => h) (fun h => h) (fun h => h) (fun h => h) (fun h => h) (fun _ h => Or.inl h)⟩
theorem ToldIn.after (K : ToldK w0 S p q g rb B fw) (h : ToldIn w0 w S n b p q g B fw tag rb bs rest told over got v) {w' : World} (hf : Fr (RdFr (InR S p q g rb v) g rb) w w') : Fr (fun k => ¬ S k) w0 w' ∧ Strs w' v got := by
  have h3 := h.nots
  refine ⟨h.fr.trans hf ?_, h.strs.keeps hf ?_⟩
  · intro i hi hx hs
    rcases hx with hx | hx | hx
    · exact hx (Or.inl hs)
    · have := K.g0; omega
    · have := K.rb0; omega
  · intro x hx hn
    obtain ⟨e1, e2, -⟩ := h3 x hx
    rcases hn with hn | hn | hn
    · exact hn (Or.inr (Or.inr (Or.inr (Or.inr (Or.inr hx)))))
    · exact e1 hn
    · exact e2 hn
/-- What a Next comes to, with what was told so far kept. -/
def ToldNext (w0 : World) (S : Nat → Prop) (n b p q g B fw tag rb : Nat) (bs : List UInt8) (rest : List (List UInt8) × Bool) (told : Nat) (got : List (List UInt8)) (v : Value) (r : Ending) (w' : World) : Prop :=
  match rest.1 with
  | [] => r = .returned (.tuple #[.string ⟨#[]⟩, .bool false]) ∧ ToldIn w0 w' S n b p q g B fw tag rb bs rest told true got v
  | x :: xs => r = .returned (.tuple #[.string (strB x), .bool true]) ∧ ToldIn w0 w' S n b p q g B fw tag rb bs (xs, rest.2) (told + 1) false got v
theorem told_next (K : ToldK w0 S p q g rb B fw) (h : ToldIn w0 w S n b p q g B fw tag rb bs rest told over got v) (hsl : bs.length ≤ 2147483648) (htold : told ≤ 1099511627776) :
    Calls Tryd.prog 42 #[.pointer (some ⟨rb, 0, none⟩)] w (ToldNext w0 S n b p q g B fw tag rb bs rest told got v) := by
  refine (next_st (InR S p q g rb v) n b p q g B fw tag rb (K.more v) bs hsl rest told htold over w h.rd).mono ?_
  rintro r w' ⟨hF, hN⟩
  obtain ⟨h1, h2⟩ := h.after K hF
  unfold NextSt at hN
  unfold ToldNext
  obtain ⟨l, d⟩ := rest
  cases l with
  | nil => exact ⟨hN.1, h1, h2, h.own, hN.2⟩
  | cons x xs => exact ⟨hN.1, h1, h2, h.own, hN.2.2⟩
theorem told_add (K : ToldK w0 S p q g rb B fw) (h : ToldIn w0 w S n b p q g B fw tag rb bs rest told over got v) (x : List UInt8) (hj : got.length ≤ 1099511627776) (sp : Nat) (hsp : Blk w sp #[.string (strB x)] 9) :
    ∃ v' w', (Builtin.append_ #[24, 24] 24 #[v, .slice (some ⟨sp, 0, none⟩) 1 1]).run Tryd.prog w = .ok v' w' ∧ ToldIn w0 w' S n b p q g B fw tag rb bs rest told over (got ++ [x]) v' := by
  obtain ⟨v', w', hrun, h1, h2, h3⟩ := add_one h.strs x hj sp hsp
  have n3 := h.nots
  have hsz := h.fr.size
  have hown := h.own
  refine ⟨v', w', hrun, h.fr.trans h2 (fun i hi hx hs => by have := hown i hx; omega), h1, fun x hx => ?_, ?_⟩
  · rcases h3 x hx with h | h
    · exact hown x h
    · omega
  · refine rdSt_more h.rd h2 (fun x _ hx => Or.inr (Or.inr (Or.inr (Or.inr (Or.inr hx))))) (fun e => (n3 _ e).2.1 rfl) (fun e => (n3 _ e).2.2.1 rfl) (fun e => (n3 _ e).2.2.2 rfl) ?_ (fun e => (n3 _ e).1 rfl) ?_
    · intro e
      have := hown _ e
      have := K.s0 _ K.st
      omega
    · intro x hx
      rcases hx with hx | hx | hx | hx | hx | hx
      · exact Or.inl (Or.inl hx)
      · exact Or.inl (Or.inr (Or.inl hx))
      · exact Or.inl (Or.inr (Or.inr (Or.inl hx)))
      · exact Or.inl (Or.inr (Or.inr (Or.inr (Or.inl hx))))
      · exact Or.inl (Or.inr (Or.inr (Or.inr (Or.inr (Or.inl hx)))))
      · rcases h3 x hx with h | h
        · exact Or.inl (Or.inr (Or.inr (Or.inr (Or.inr (Or.inr h)))))
        · obtain ⟨cs, hb⟩ := h1.blk hx
          exact Or.inr ⟨h, hb.lt⟩
end

/-- A Reader at its end, right or not. -/
def RdOver (w : World) (rb : Nat) (done : Bool) (code : Int) : Prop :=
  ∃ b p q g B fw size at_ fam wd tag seq recs told body left sum, Blk w rb (rdCells b p q g B fw size at_ fam wd tag seq body recs sum code done left told) 106
/-- What a told comes to. -/
def ToldTo (w0 : World) (S : Nat → Prop) (B fw tag : Nat) (bs : List UInt8) (r : Ending) (w : World) : Prop :=
  Fr (fun k => ¬ S k) w0 w ∧
    if openR bs B fw tag = true then ∃ v rb code, r = .returned (.tuple #[v, .pointer (some ⟨rb, 0, none⟩), .int .i64 code]) ∧ Strs w v (tells bs B fw 36 1 0 0).1 ∧ RdOver w rb (tells bs B fw 36 1 0 0).2 code ∧ (code = 0 ↔ (tells bs B fw 36 1 0 0).2 = true)
    else ∃ e : Int, r = .returned (.tuple #[.slice none 0 0, .pointer none, .int .i64 e]) ∧ 1 ≤ e

/-- What told's Open comes to. -/
def MadeR (w0 : World) (S : Nat → Prop) (n b B fw tag : Nat) (bs : List UInt8) (x e : Value) (w : World) : Prop :=
  if openR bs B fw tag = true then e = .int .i64 0 ∧ ∃ p q g rb, x = .pointer (some ⟨rb, 0, none⟩) ∧ ToldK w0 S p q g rb B fw ∧ ToldIn w0 w S n b p q g B fw tag rb bs (tells bs B fw 36 1 0 0) 0 false [] nilV
  else x = .pointer none ∧ (∃ c : Int, e = .int .i64 c ∧ 1 ≤ c ∧ c ≤ 100) ∧ Fr (fun k => ¬ S k) w0 w
theorem told_made (S : Nat → Prop) (n b B fw tag p q g box : Nat) (cells : Array Value) (bs : List UInt8) (hsl : bs.length ≤ 2147483648) (f1 : 1 ≤ fw) (f3 : fw ≤ 256) (b1 : 36 ≤ B) (b2 : B ≤ 1048576) (f2 : fw ≤ B) (ht : tag < 18446744073709551616)
    (ss : S 1) (w w1 wc : World) (hS : Steps w) (hD : DiskAt w b n (some bs) S) (hk1 : Keeps w w1) (hb : Blk w1 box cells 26) (hb0 : w.heap.size ≤ box)
    (hk2 : Keeps w1 wc) (hF : FormBoxes wc p q) (hp : w1.heap.size ≤ p) (hq : w1.heap.size ≤ q) (hg : Blk wc g (bytesA (List.replicate B 0)) 5) (hg0 : w1.heap.size ≤ g) :
    Calls Tryd.prog 19 #[volV b, .string nameF, titleV 3 (fw : Int) (tag : Int), textForm (fw : Int) p q, .slice (some ⟨g, 0, none⟩) B B] wc
      fun r w' => ∃ x e, r = .returned (.tuple #[x, e]) ∧ MadeR w S n b B fw tag bs x e w' ∧ Blk w' box cells 26 := by
  have hs1 := hk1.size
  have hkc : Keeps w wc := hk1.keeps hk2
  have hltp := hF.1.lt
  have hltq := hF.2.lt
  have hltg := hg.lt
  have hsc := hkc.size
  have hbc := hk2.blk hb (fun h => h)
  have hltb := hbc.lt
  have hne := Blk.ne hbc hg (by decide)
  have hDc : DiskAt wc b n (some bs) (fun k => S k ∨ k = p ∨ k = q ∨ k = g ∨ k = box) := hD.more hkc (fun k hk => by
    rcases hk with h | h | h | h | h
    · exact Or.inl h
    · right; omega
    · right; omega
    · right; omega
    · right; omega)
  have hs0 : ∀ k, S k → k < w.heap.size := fun k hk => hD.lt hk
  have hst2 := hs0 _ ss
  have hgs : g ≠ 1 := by intro e; rw [e] at hg0; omega
  refine (ropen_any (fun k => S k ∨ k = p ∨ k = q ∨ k = g ∨ k = box) n b p q g B fw tag bs (List.replicate B 0) (by simp) (by omega) f1 f3 b1 b2 f2 ht (Or.inl ss) (Or.inr (Or.inr (Or.inr (Or.inl rfl)))) (Or.inr (Or.inl rfl)) (Or.inr (Or.inr (Or.inl rfl))) hgs wc hF
    (hS.kept hkc (fun h => h)) hDc hg).mono ?_
  intro r w' hO
  unfold OpenTo at hO
  obtain ⟨hFr, hO⟩ := hO
  have hfr : Fr (fun k => ¬ S k) w w' := by
    refine Fr.trans (Fr.any hkc) hFr ?_
    rintro i hi (hx | hx) hs
    · exact hx (Or.inl hs)
    · omega
  have hbx : Blk w' box cells 26 := hFr.blk hbc (fun hx => hx.elim (fun hx => hx (Or.inr (Or.inr (Or.inr (Or.inr rfl))))) (fun hx => hne hx))
  unfold MadeR
  by_cases ho : openR bs B fw tag = true
  · rw [if_pos ho] at hO
    simp only [if_pos ho]
    obtain ⟨rb, buf, rfl, hrb, hR⟩ := hO
    have h24 := open_len ho
    have h36 : 36 ≤ bs.length := by
      unfold openR at ho
      cases e : chunkR bs B 0 0 0 with
      | none => rw [e] at ho; cases ho
      | some x =>
        obtain ⟨kind, count, body⟩ := x
        obtain ⟨-, h2, -, h4, -, -, -, -, h9⟩ := chunkR_some e
        unfold mayP at h2
        rw [if_pos rfl] at h2
        simp only [Bool.and_eq_true, beq_iff_eq] at h2
        omega
    refine ⟨_, _, rfl, ⟨rfl, p, q, g, rb, rfl, ⟨⟨Or.inl ss, ?_, ?_, ?_, ?_, hgs, ?_, b1, b2, f1, f2, f3⟩, by omega, by omega, ss, hs0⟩, ⟨hfr, ⟨rfl, Or.inl ⟨rfl, rfl⟩⟩, (fun x hx => by cases hx), ?_⟩⟩, hbx⟩
    · exact Or.inr (Or.inr (Or.inr (Or.inl rfl)))
    · exact Or.inr (Or.inr (Or.inr (Or.inr (Or.inl rfl))))
    · exact Or.inr (Or.inl rfl)
    · exact Or.inr (Or.inr (Or.inl rfl))
    · intro e; rw [e] at hrb; omega
    · refine ⟨36, 1, _, 0, 0, 0, false, _, buf, [], hR.less ?_, Or.inl ⟨rfl, _, _, rfl⟩, by simp, ?_⟩
      · rintro x (hx | hx | hx | hx | hx | hx)
        · exact Or.inl (Or.inl hx)
        · exact Or.inl (Or.inr (Or.inl hx))
        · exact Or.inl (Or.inr (Or.inr (Or.inl hx)))
        · exact Or.inl (Or.inr (Or.inr (Or.inr (Or.inl hx))))
        · exact Or.inr hx
        · cases hx
      · simp only [Bool.false_eq_true, if_false]
        exact ⟨trivial, trivial, by omega, by omega, h36, by omega, by simp⟩
  · rw [if_neg ho] at hO
    simp only [if_neg ho]
    obtain ⟨e, rfl, h1, h2⟩ := hO
    exact ⟨_, _, rfl, ⟨rfl, ⟨e, rfl, h1, h2⟩, hfr⟩, hbx⟩
end Go.Proofs.YtcefockebphbaaaDoor

namespace Go.Proofs.YtcefockebphbaaaDoor
open Go Go.RowKit Sluice

attribute [local irreducible] openR tells

set_option maxHeartbeats 8000000 in
set_option maxRecDepth 100000 in
theorem told_any (S : Nat → Prop) (b n tag : Nat) (W Wr Rd : Int) (cuts recs : Value) (bs : List UInt8) (hsl : bs.length ≤ 2147483648) (ht : tag < 18446744073709551616)
    (ss : S 1) (w : World) (hS : Steps w) (hD : DiskAt w b n (some bs) S) :
    Calls Tryd.prog 15 #[layV W (tag : Int) Wr Rd cuts recs, .pointer (some ⟨b, 0, none⟩)] w (ToldTo w S (bOf W Wr Rd) (wdOf W) tag bs) := by
  obtain ⟨hw1, hw2⟩ := wdOf_le W
  obtain ⟨ha1, ha3, ha2⟩ := aOf_le W Wr
  obtain ⟨hb1, hb2⟩ := bOf_le W Wr Rd
  have HSz := Lib.hid (sizes_any W (tag : Int) Wr Rd cuts recs)
  unfold layV at *
  generalize bOf W Wr Rd = B at *
  generalize wdOf W = wd at *
  generalize aOf W Wr = a at *
  have hmk := fun w => run_make_one (P := Tryd.prog) w 27 5 (.int .u8 0) 1 Tryd.underlying27 info_u8 rfl .i64 .i64 B (by omega) (by omega)
  have hrw : Array.replicate B (.int .u8 0) = bytesA (List.replicate B 0) := by simp [bytesA_replicate, bv]
  rw [hrw] at hmk
  have HS := Lib.hid hS
  have HD := Lib.hid hD
  clear hS hD hrw
  go_enter Tryd.func15, Tryd.ntmps15
  go_upto_region 2 with (first
    | ((go_at_call 18); (refine (HSz.out _).mono ?_); (rintro r w1 ⟨rfl, hk0⟩); (have hB1 : Blk w1 w.heap.size #[.int .i64 W, .int .u64 (tag : Int), .int .i64 Wr, .int .i64 Rd, cuts, recs] 26 := hk0.blk (Blk.new' rfl) (fun h => h)); (have hk1 : Keeps w w1 := Fr.keeps ((Fr.refl _ w).alloc _) hk0); (clear hk0))
    | fail)
  have hct := hB1.cell
  have hlt1 := hB1.lt
  have hmk2 := hmk w1.drew
  go_cut [10, 11] (fun s10 s11 wx => MadeR w S n b B wd tag bs s10 s11 wx)
  case first =>
    go_region_held3 (fun w' => ∀ i, w'.cell? ⟨w.heap.size, i, none⟩ = (#[.int .i64 W, .int .u64 (tag : Int), .int .i64 Wr, .int .i64 Rd, cuts, recs] : Array Value)[i]?)
      (((try dsimp only); first | with_reducible exact fun i => Blk.cell hB3 i | with_reducible exact fun i => Blk.cell hB2 i | with_reducible exact fun i => Blk.cell (Blk.alloc hB2 _) i | with_reducible exact fun i => Blk.cell (Blk.drew (Blk.alloc hB1 _)) i | with_reducible exact fun i => Blk.cell (Blk.drew hB1) i | fail))
      (first
        | ((go_at_call 20); (refine (textForm_any (wd : Int) _).mono ?_); (rintro r w2 ⟨p, q, rfl, hF2, hp, hq, hk2⟩); (have hB2 : Blk w2 w.heap.size #[.int .i64 W, .int .u64 (tag : Int), .int .i64 Wr, .int .i64 Rd, cuts, recs] 26 := hk2.blk (by first | exact ((hB1.alloc _).drew) | exact hB1.drew) (fun h => h)); (have hmk3 := hmk w2))
        | ((go_at_call 19); (refine (told_made S n b B wd tag p q w1.heap.size w.heap.size #[.int .i64 W, .int .u64 (tag : Int), .int .i64 Wr, .int .i64 Rd, cuts, recs] bs hsl hw1 hw2 (by omega) (by omega) (by omega) ht ss w w1 w2 HS.out HD.out hk1 hB1 (Nat.le_refl _) (Fr.keeps (((Fr.refl _ w1).alloc _).drew) hk2) hF2 (by simp at hp; omega) (by simp at hq; omega) (hk2.blk (Blk.new' rfl) (fun h => h)) (Nat.le_refl _)).mono ?_); (rintro r w3 ⟨x, e, rfl, hMade, hB3⟩))
        | ((go_at_call 19); (have hs2 := hk2.size); (refine (told_made S n b B wd tag p q w2.heap.size w.heap.size #[.int .i64 W, .int .u64 (tag : Int), .int .i64 Wr, .int .i64 Rd, cuts, recs] bs hsl hw1 hw2 (by omega) (by omega) (by omega) ht ss w w1 (w2.alloc (.cells (bytesA (List.replicate B 0)) 5)) HS.out HD.out hk1 hB1 (Nat.le_refl _) ((Fr.keeps (Fr.refl _ w1).drew hk2).alloc _) ⟨hF2.1.alloc _, hF2.2.alloc _⟩ (by simp at hp; omega) (by simp at hq; omega) (Blk.new' rfl) (by simp at hs2; omega)).mono ?_); (rintro r w3 ⟨x, e, rfl, hMade, hB3⟩)))
    all_goals (
      (try go_wp2_with fail)
      go_meet
      exact hMade)
  case rest =>
    unfold MadeR at hcut
    clear hmk2 hct hlt1 hB1 hk1 hmk
    by_cases ho : openR bs B wd tag = true
    · rw [if_pos ho] at hcut
      obtain ⟨rfl, p, q, g, rb, rfl, K, hI⟩ := hcut
      have htl : (tells bs B wd 36 1 0 0).1.length ≤ 2147483648 := Nat.le_trans (tells_all_len hw1) hsl
      have HK := Lib.hid K
      have HI := Lib.hid hI
      have HO := Lib.hid ho
      have HTl := Lib.hid htl
      clear K hI ho htl
      go_wp2_with (first
        | ((go_at_call 8); (refine (num_any 0 (by omega) (by omega) _).mono ?_); (rintro r wn ⟨rfl, rfl⟩))
        | fail)
      go_loopw [12] (fun s12 wr => ∃ got rest, got ++ rest = (tells bs B wd 36 1 0 0).1 ∧ ToldIn w wr S n b p q g B wd tag rb bs (rest, (tells bs B wd 36 1 0 0).2) got.length false got s12) (fun s12 wr => (tells bs B wd 36 1 0 0).1.length - (match s12 with | .slice _ m _ => m | _ => 0))
      case atStart => exact ⟨[], _, rfl, HI.out⟩
      case round =>
        obtain ⟨got, rest, hgr, hIn⟩ := hrel
        have hgl : got.length + rest.length ≤ 2147483648 := by have h1 := congrArg List.length hgr; have h2 := HTl.out; rw [List.length_append] at h1; omega
        have HGr := Lib.hid hgr
        have HN := Lib.hid (told_next HK.out hIn hsl (by omega))
        obtain ⟨vb, vc, hv, -, -, -⟩ := hIn.strs.form
        subst hv
        clear hgr HI
        cases rest with
        | nil =>
          go_wp2_with (first
            | ((go_at_call 42); (refine HN.out.mono ?_); (intro r w2 hT); (unfold ToldNext at hT); (obtain ⟨rfl, hI2⟩ := hT); (obtain ⟨at_, seq, body, recs, sum, code, done, left, buf, ls, hA, hL, hw, hov⟩ := hI2.rd); (simp only [if_true] at hov); (obtain ⟨-, hov2, hcd, hc0, hc1⟩ := hov); (have hdn : done = (tells bs B wd 36 1 0 0).2 := ((Prod.mk.injEq _ _ _ _).mp hov2).2.symm); (have HA := Lib.hid hA); (have HI2 := Lib.hid hI2); (have HCd := Lib.hid hcd); (have HDn := Lib.hid hdn); (clear hI2 hA hL hov2 hcd hdn))
            | ((go_at_call 22); (refine (rcode_any b p q g B wd bs.length at_ 3 wd tag seq recs got.length rb body left sum code done _ HA.out.cells).mono ?_); (rintro r wn ⟨rfl, rfl⟩))
            | ((go_at_call 8); (refine (num_any code (by omega) (by omega) _).mono ?_); (rintro r wn ⟨rfl, rfl⟩))
            | fail)
          go_ret3
          have hg := HGr.out
          rw [List.append_nil] at hg
          refine ⟨HI2.out.fr, ?_⟩
          rw [if_pos HO.out]
          exact ⟨_, rb, code, rfl, by rw [← hg]; exact HI2.out.strs, ⟨_, _, _, _, _, _, _, _, _, _, _, _, _, _, _, _, _, by rw [← HDn.out]; exact HA.out.cells⟩, by rw [← HDn.out]; exact HCd.out⟩
        | cons x xs =>
          rw [List.length_cons] at hgl
          go_wp2_with (first
            | ((go_at_call 42); (refine HN.out.mono ?_); (intro r w2 hT); (unfold ToldNext at hT); (obtain ⟨rfl, hI2⟩ := hT); (obtain ⟨v', w5, hrun, hI5⟩ := told_add HK.out (hI2.keeps HK.out ((Fr.refl _ w2).alloc (.cells #[.string (strB x)] 9))) x (by omega) w2.heap.size (Blk.new' rfl)); (have HI5 := Lib.hid hI5); (have hrun5 := Lib.hid hrun); (clear hrun hI5 hI2))
            | ((at_builtin); (refine wpList_append_run rfl _ _ 24 rfl _ _ v' w5 rfl rfl hrun5.out ?_))
            | fail)
          all_goals go_roundw
          case rel =>
            refine ⟨got ++ [x], xs, by rw [← HGr.out]; simp, ?_⟩
            have h5 := HI5.out
            rw [List.length_append, List.length_singleton]
            exact h5
          case measure =>
            obtain ⟨vb2, vc2, hv2, -, -, -⟩ := HI5.out.strs.form
            rw [hv2, ← HGr.out]
            simp
            omega
    · rw [if_neg ho] at hcut
      obtain ⟨rfl, ⟨c, rfl, hc1, hc2⟩, hfr⟩ := hcut
      go_wp2_with (first
        | ((go_at_call 8); (refine (num_any c (by omega) (by omega) _).mono ?_); (rintro r wn ⟨rfl, rfl⟩))
        | fail)
      all_goals go_ret3
      all_goals (
        refine ⟨hfr, ?_⟩
        rw [if_neg ho]
        exact ⟨c, rfl, hc1⟩)
end Go.Proofs.YtcefockebphbaaaDoor

namespace Go.Proofs.YtcefockebphbaaaDoor
open Go Go.RowKit Sluice

theorem new_disk (S : Nat → Prop) (w : World) (hS : ∀ k, S k → k < w.heap.size) :
    Calls Tryd.prog 7 #[.int .i64 1073741824, .slice none 0 0] w fun r w' => ∃ b, r = .returned (.tuple #[.pointer (some ⟨b, 0, none⟩), .int .i64 0]) ∧ DiskAt w' b 0 none S ∧ Keeps w w' := by
  refine (new_any 1073741824 (by omega) (by omega) w).mono ?_
  rintro r w' ⟨b, m1, m2, rfl, h1, h2, h3, h4, h5, h6, h7, h8, h9, h10⟩
  have l1 := h1.lt
  have l2 := lt_of_block h2
  have l3 := lt_of_block h3
  refine ⟨b, rfl, ⟨fun k => if k = b then .disk else if k = m1 then .now else if k = m2 then .kept else .out, ⟨b, m1, m2, fun _ => 0⟩, ⟨1073741824, [], [], [], [], [], 0, false, false⟩, rfl, ?_, ⟨⟨rfl, rfl, rfl⟩, rfl, rfl, rfl⟩, ?_⟩, h10⟩
  · refine ⟨?_, ⟨by simp, by simp [Ne.symm h7], by simp [Ne.symm h8, Ne.symm h9]⟩, ⟨.slice none 0 0, .slice none 0 0, h1, ⟨rfl, Or.inl ⟨rfl, rfl⟩⟩, (fun k hk => by cases hk), ⟨rfl, Or.inl ⟨rfl, rfl⟩⟩, (fun k hk => by cases hk), fun _ => rfl⟩, ?_, ?_, ?_, ?_, ?_, ?_, ?_⟩
    · intro k hk
      by_cases e1 : k = b
      · omega
      · by_cases e2 : k = m1
        · omega
        · by_cases e3 : k = m2
          · omega
          · simp [e1, e2, e3] at hk
    · exact ⟨#[], 0, h2, rfl, by simp, by simp⟩
    · exact ⟨#[], 0, h3, rfl, by simp, by simp⟩
    · intro i f hi; simp at hi
    · simp
    · simp
    · simp
    · simp
  · intro k hk
    have := hS k hk
    have hs := h10.size
    exact ⟨by simp only [if_neg (show k ≠ b by omega), if_neg (show k ≠ m1 by omega), if_neg (show k ≠ m2 by omega)], by omega⟩

set_option maxHeartbeats 2000000 in
set_option maxRecDepth 100000 in
theorem remove_body (L : Lay) (own : Nat → Tag) (D : PDisk) (name : ByteArray) (hs : name.size ≤ maxLen) (hn : namedB name = true) (i : Nat) (hl : D.now.look name = some i) (hroom : (D.changes.length + 1) * 40 ≤ 140737488355328)
    (w : World) (hD : IsDisk w own L D) (bd bn : Nat) (hcd : Blk w bd #[.pointer (some ⟨L.b, 0, none⟩)] 29) (hcn : Blk w bn #[.string name] 9) :
    Calls Tryd.prog 37 #[zeroFault, .pointer (some ⟨bd, 0, none⟩), .pointer (some ⟨bn, 0, none⟩)] w
      (Does own L { D with changes := D.changes ++ [(name, ⟨#[]⟩, none)], now := D.now.eraseP (fun x => name == x.1) } (.int .i64 0) w) := by
  have hld := hcd.lt
  have hln := hcn.lt
  have hc0 := hcd.cell 0
  have hc1 := hcn.cell 0
  have HD := Lib.hid hD
  have HT := fun w h => turn_core L own D (name, ⟨#[]⟩, none) (by intro j hj; cases hj) hroom (D.now.eraseP (fun x => name == x.1)) (List.Nodup.sublist ((List.eraseP_sublist).map _) hD.names) (fun x hx => hD.ids x (List.mem_of_mem_eraseP hx)) (fun w hm => apply_del L.m1 L.fb D.now name (named_ne hn) w hm) w h
  have HT2 := Lib.hid HT
  clear HT hD
  unfold zeroFault
  go_enter Tryd.func37, Tryd.ntmps37
  go_wp2_with (first
    | ((go_at_call 34); (refine (find_look L own D name hs hn _ (HD.out.keeps (by (repeat (first | with_reducible exact Fr.refl _ _ | with_reducible assumption | with_reducible refine Fr.alloc ?_ _ | with_reducible refine Fr.drew ?_ | with_reducible refine Fr.drewN ?_ _ | with_reducible refine Fr.setCell ?_ (by simp; try omega) _))))).mono ?_); (rw [hl]); (rintro r w1 ⟨rfl, hk⟩); (have hK : Keeps w w1 := Fr.keeps (by (repeat (first | with_reducible exact Fr.refl _ _ | with_reducible assumption | with_reducible refine Fr.alloc ?_ _ | with_reducible refine Fr.drew ?_ | with_reducible refine Fr.drewN ?_ _ | with_reducible refine Fr.setCell ?_ (by simp; try omega) _))) hk); (have hc0' := (hK.blk hcd (fun h => h)).cell 0); (have hc1' := (hK.blk hcn (fun h => h)).cell 0); (have HK := Lib.hid hK); (clear hk hK))
    | ((go_at_call 38); (refine (HT2.out _ (HD.out.keeps HK.out)).mono ?_); (rintro r w2 ⟨rfl, hT⟩)))
  go_ret
  exact ⟨rfl, To.keeps HK.out hT⟩
set_option maxHeartbeats 2000000 in
set_option maxRecDepth 100000 in
theorem remove_calm (L : Lay) (own : Nat → Tag) (D : PDisk) (hcalm : D.Calm) (name : ByteArray) (hs : name.size ≤ maxLen) (hn : namedB name = true) (i : Nat) (hl : D.now.look name = some i) (hroom : (D.changes.length + 1) * 40 ≤ 140737488355328)
    (w : World) (hD : IsDisk w own L D) :
    Calls Tryd.prog 12 #[.pointer (some ⟨L.b, 0, none⟩), .string name] w
      (Does own L { D.tick with changes := D.changes ++ [(name, ⟨#[]⟩, none)], now := D.now.eraseP (fun x => name == x.1) } (.int .i64 0) w) := by
  have HD := Lib.hid hD
  clear hD
  go_enter Tryd.func12, Tryd.ntmps12
  go_wp2_with ((go_at_call 32); (refine operate_calm L own D hcalm _ _ _ _ (HD.out.keeps (by (repeat (first | with_reducible exact Fr.refl _ _ | with_reducible assumption | with_reducible refine Fr.alloc ?_ _ | with_reducible refine Fr.drew ?_ | with_reducible refine Fr.drewN ?_ _ | with_reducible refine Fr.setCell ?_ (by simp; try omega) _)))) _ (fun _ _ => rfl) ?_); (intro w1 hD1 hF1); (refine (remove_body L own D.tick name hs hn i hl hroom w1 hD1 _ _ (hF1.blk (Blk.alloc (Blk.new' rfl) _) (by have := HD.out.lt L.b (by simp [HD.out.mark]); simp; omega)) (hF1.blk (Blk.new' (by simp)) (by have := HD.out.lt L.b (by simp [HD.out.mark]); simp; omega))).mono ?_); (rintro r w2 ⟨rfl, hT⟩); (refine ⟨_, rfl, ?_⟩))
  go_ret
  exact ⟨rfl, To.keeps (((Fr.refl _ _).alloc _).alloc _) (To.head HD.out hF1 hT)⟩

theorem remove_one {w : World} {b n : Nat} {S : Nat → Prop} {bs : List UInt8} (h : DiskAt w b n (some bs) S) (hn : n ≤ 1000) :
    Calls Tryd.prog 12 #[.pointer (some ⟨b, 0, none⟩), .string nameF] w fun r w' => r = .returned (.int .i64 0) ∧ DiskAt w' b (n + 1) none S ∧ Fr (fun k => ¬ S k) w w' := by
  obtain ⟨own, L, D, rfl, h2, ⟨c1, c2, c3, i, f, c4, c5, c6⟩, h4⟩ := h
  refine (remove_calm L own D c1 nameF nameF_size nameF_named i (one_look c4) (by rw [c3]; omega) w h2).mono ?_
  rintro r w' ⟨rfl, hT⟩
  refine ⟨rfl, to_disk rfl hT ⟨c1, c2, ?_, ?_⟩ h4⟩
  · show (D.changes ++ [_]).length = n + 1
    simp [c3]
  · show D.now.eraseP _ = []
    rw [c4]
    have he : (nameF == nameF) = true := by decide
    simp [List.eraseP, he]
end Go.Proofs.YtcefockebphbaaaDoor

namespace Go.Proofs.YtcefockebphbaaaDoor
open Go Go.RowKit Sluice

/-- A slice of bytes that is only read: any base. -/
def BytesIn (w : World) (S : Nat → Prop) (a : Option Addr) (l : List UInt8) : Prop :=
  (a = none → l = []) ∧ ∀ b, a = some b → ∀ j u, (l.map bv)[j]? = some u → S b.block ∧ w.cell? (b.add j) = some u
theorem add_behind {w : World} {g m c : Nat} {buf l : List UInt8} {a : Option Addr} (hg : Blk w g (bytesA buf) 5) (hm : m ≤ buf.length) (hb : buf.length ≤ 1073741824) (hl : l.length ≤ 65536) (hc : l.length ≤ c) (hc0 : a = none → c = 0) (hx : ∀ b, a = some b → ∀ j u, (l.map bv)[j]? = some u → w.cell? (b.add j) = some u) (hn : a = none → l = []) :
    ∃ g' cap' cs w', (Builtin.append_ #[27, 27] 27 #[.slice (some ⟨g, 0, none⟩) m m, .slice a l.length c]).run Tryd.prog w = .ok (.slice (some ⟨g', 0, none⟩) (m + l.length) cap') w' ∧ Blk w' g' cs 5 ∧
      (cs.toList.drop 0).take (m + l.length) = (buf.take m ++ l).map bv ∧ Fr (· = g) w w' ∧ (g' = g ∨ w.heap.size ≤ g') := by
  have hhd : (bytesA buf).toList.take m = (buf.take m).map bv := by simp [bytesA, List.map_take]
  by_cases h0 : l = []
  · subst h0
    obtain ⟨i, hi, h1, h2, h3⟩ := info_parts info_u8
    have hsrc : Src Tryd.prog i.size 27 (.slice a 0 c) 0 [] w := by
      cases a with
      | none => exact Src.ofNil w Tryd.underlying27 c
      | some x => exact Src.ofSlice w Tryd.underlying27 x 0 c [] (by simp) (by simp) (by simp)
    refine ⟨g, m, bytesA buf, w, run_append_nothing w 27 27 27 5 i Tryd.underlying27 hi (some ⟨g, 0, none⟩) m m (Nat.le_refl _) (.slice a 0 c) hsrc, hg, ?_, Fr.refl _ _, Or.inl rfl⟩
    rw [List.append_nil]
    simpa using hhd
  · cases a with
    | none => exact absurd (hn rfl) h0
    | some x =>
      have hpos : 0 < l.length := List.length_pos_iff.2 h0
      obtain ⟨v', w', hrun, hrow, hgrow, hnew⟩ := run_append_row (P := Tryd.prog) w 27 27 5 (.int .u8 0) 1 1 Tryd.underlying27 info_u8 rfl (by omega)
        (.slice (some ⟨g, 0, none⟩) m m) m ((buf.take m).map bv) ⟨by simp; omega, Or.inr ⟨g, m, _, rfl, hg, Nat.le_refl _, by unfold maxLen; omega, by rw [bytesA_size]; omega, by rw [Nat.mul_one]; exact hhd⟩⟩ x l.length c (l.map bv) (by simp) (hx x rfl) (by simp [bv, Value.oneCell']) (by unfold maxLen; omega) (by omega)
      obtain ⟨hr1, hr2⟩ := hrow
      rcases hr2 with ⟨-, hz⟩ | ⟨g', cap', cur, rfl, hb', hnc, hcm, hcs, htk⟩
      · omega
      · refine ⟨g', cap', cur, w', hrun, hb', ?_, (Fr.refl _ w).grown hgrow (fun k hk _ => by simp [Value.ownBlock] at hk; exact hk.symm), ?_⟩
        · rw [List.drop_zero, List.map_append]
          simpa using htk
        · have := hnew g' rfl
          rcases this with h | h
          · left; simp [Value.ownBlock] at h; exact h.symm
          · exact Or.inr h

/-- What a told answers, by what is read of the file. -/
def ToldIs (w0 : World) (S : Nat → Prop) (rd : List (List UInt8) × Bool) (r : Ending) (w : World) : Prop :=
  ∃ base cap rp code, r = .returned (.tuple #[.slice base rd.1.length cap, .pointer rp, .int .i64 code]) ∧ Strs w (.slice base rd.1.length cap) rd.1 ∧ (code = 0 ↔ rd.2 = true) ∧ Fr (fun k => ¬ S k) w0 w ∧
    ((rp = none ∧ rd.2 = false ∧ rd.1 = []) ∨ ∃ rb, rp = some ⟨rb, 0, none⟩ ∧ RdOver w rb rd.2 code)
theorem ToldTo.is {w0 w : World} {S : Nat → Prop} {B fw tag : Nat} {bs : List UInt8} {r : Ending} (h : ToldTo w0 S B fw tag bs r w) : ToldIs w0 S (readR bs B fw tag) r w := by
  obtain ⟨hf, h⟩ := h
  unfold readR
  by_cases ho : openR bs B fw tag = true
  · rw [if_pos ho] at h
    rw [if_pos ho]
    obtain ⟨v, rb, code, rfl, h1, h2, h3⟩ := h
    obtain ⟨base, cap, rfl, -⟩ := h1.form
    exact ⟨base, cap, _, code, rfl, h1, h3, hf, Or.inr ⟨rb, rfl, h2⟩⟩
  · rw [if_neg ho] at h
    rw [if_neg ho]
    obtain ⟨e, rfl, h1⟩ := h
    exact ⟨none, 0, none, e, rfl, ⟨rfl, Or.inl ⟨rfl, rfl⟩⟩, ⟨fun h => by omega, fun h => by cases h⟩, hf, Or.inl ⟨rfl, rfl, rfl⟩⟩
theorem done_over {w : World} {rb : Nat} {done : Bool} {code : Int} (h : RdOver w rb done code) :
    Calls Tryd.prog 17 #[.pointer (some ⟨rb, 0, none⟩)] w fun r w' => r = .returned (.bool done) ∧ w = w' := by
  obtain ⟨b, p, q, g, B, fw, size, at_, fam, wd, tag, seq, recs, told, body, left, sum, hb⟩ := h
  exact rdone_any b p q g B fw size at_ fam wd tag seq recs told rb body left sum code done w hb
theorem RdOver.keeps {w w' : World} {rb : Nat} {done : Bool} {code : Int} (h : RdOver w rb done code) (hk : Keeps w w') : RdOver w' rb done code := by
  obtain ⟨b, p, q, g, B, fw, size, at_, fam, wd, tag, seq, recs, told, body, left, sum, hb⟩ := h
  exact ⟨b, p, q, g, B, fw, size, at_, fam, wd, tag, seq, recs, told, body, left, sum, hk.blk hb (fun h => h)⟩
end Go.Proofs.YtcefockebphbaaaDoor

/- Readers: fill. -/
import Derived.Test.YtcefockebphbaaaDoorGW
import Derived.Test.YtcefockebphbaaaDoorGV
import Derived.Test.YtcefockebphbaaaDoorGF
import Derived.Laws.StructEq
set_option linter.unusedVariables false
set_option linter.unusedSimpArgs false
set_option linter.unnecessarySimpa false
namespace Go.Proofs.YtcefockebphbaaaDoor
open Go Go.RowKit Sluice

/-- The cells of a Reader. -/
def rdCells (b p q g B fw size : Nat) (at_ fam wd tag seq : Nat) (body : Value) (recs : Nat) (sum : BitVec 32) (code : Int) (done : Bool) (left : Value) (told : Nat) : Array Value :=
  #[.iface 29 (.pointer (some ⟨b, 0, none⟩)), .string nameF, .int .i64 (size : Int), .int .i64 ((at_ : Int)), .slice (some ⟨g, 0, none⟩) B B, .int .i64 ((fam : Int)), .int .i64 ((wd : Int)), .int .u64 ((tag : Int)), .int .u32 ((seq : Int)), body, .int .i64 ((recs : Int)), .int .u32 ((sum.toNat : Int)), .int .i64 (code), .bool (done), .int .i64 (fw : Int), .func (.func 67) #[] #[.pointer (some ⟨p, 0, none⟩)], .func (.func 68) #[] #[.pointer (some ⟨q, 0, none⟩)], left, .int .i64 ((told : Int))]

theorem fill_torn (b p q g B fw size at_ fam wd tag seq recs told rb : Nat) (body left : Value) (sum : BitVec 32) (code : Int) (done : Bool) (a : Option Addr) (m cap : Nat) (hsz : size ≤ 1099511627776) (hat : at_ ≤ size) (hm : size < at_ + m) (hm2 : m ≤ 1099511627776)
    (w : World) (hR : Blk w rb (rdCells b p q g B fw size at_ fam wd tag seq body recs sum code done left told) 106) :
    Calls Tryd.prog 75 #[.pointer (some ⟨rb, 0, none⟩), .slice a m cap] w fun r w' => r = .returned (.int .i64 60) ∧ Keeps w w' := by
  have hc := hR.cell
  unfold rdCells at hc
  have hd1 : (size : Int) - (at_ : Int) < (m : Int) := by omega
  have hd2 : IntKind.i64.wrap ((size : Int) - (at_ : Int)) = (size : Int) - (at_ : Int) := IntWalk.i64_in _ (by omega)
  have hd3 : decide ((size : Int) - (at_ : Int) < (m : Int)) = true := by simp; omega
  clear hR
  go_enter Tryd.func75, Tryd.ntmps75
  go_wp2_with fail
  go_region
  go_wp2
  go_ret
  exact ⟨rfl, by (repeat (first | with_reducible exact Fr.refl _ _ | with_reducible assumption | with_reducible refine Fr.alloc ?_ _ | with_reducible refine Fr.drew ?_ | with_reducible refine Fr.drewN ?_ _ | with_reducible refine Fr.setCell ?_ (by simp; try omega) _))⟩

set_option maxHeartbeats 8000000 in
set_option maxRecDepth 100000 in
theorem fill_ok (S : Nat → Prop) (n b p q g B fw size at_ fam wd tag seq recs told rb : Nat) (body left : Value) (sum : BitVec 32) (code : Int) (done : Bool) (tb off m cap : Nat) (bs ls : List UInt8) (t : TypeId) (hm1 : 1 ≤ m) (hsz : size = bs.length) (hsl : bs.length ≤ 1099511627776) (hat : at_ + m ≤ bs.length) (hmc : m ≤ cap) (hfit : off + m ≤ ls.length) (hSh : S tb) (hSr : S rb) (hrh : rb ≠ tb)
    (w : World) (hR : Blk w rb (rdCells b p q g B fw size at_ fam wd tag seq body recs sum code done left told) 106) (hH : Blk w tb (bytesA ls) t) (hD : DiskAt w b n (some bs) S) :
    Calls Tryd.prog 75 #[.pointer (some ⟨rb, 0, none⟩), .slice (some ⟨tb, off, none⟩) m cap] w
      fun r w' => r = .returned (.int .i64 0) ∧ Fr (fun k => ¬ S k ∨ k = tb ∨ k = rb) w w' ∧ Blk w' rb (rdCells b p q g B fw size (at_ + m) fam wd tag seq body recs sum code done left told) 106 ∧
        Blk w' tb (bytesA (splB ls off ((bs.drop at_).take m))) t ∧ DiskAt w' b n (some bs) S := by
  have hc := hR.cell
  have hlt := hR.lt
  have hd2 : IntKind.i64.wrap ((size : Int) - (at_ : Int)) = (size : Int) - (at_ : Int) := IntWalk.i64_in _ (by omega)
  have hd3 : decide ((size : Int) - (at_ : Int) < (m : Int)) = false := by simp; omega
  have hd4 : ¬ ((size : Int) - (at_ : Int) < (m : Int)) := by omega
  have hd5 : (0 : Int) < (m : Int) := by omega
  have hd6 : decide ((m : Int) ≤ 0) = false := by simp; omega
  have hd7 : (0 : Int) ≤ (m : Int) := by omega
  have hd8 : (m : Int) ≤ (cap : Int) := by omega
  have hd9 : IntKind.i64.wrap ((at_ : Int) + (m : Int)) = (at_ : Int) + (m : Int) := IntWalk.i64_in _ (by omega)
  have hd10 : IntKind.i64.wrap (m : Int) = (m : Int) := IntWalk.i64_in _ (by omega)
  unfold rdCells at hc hR
  have HR := Lib.hid hR
  have HH := Lib.hid hH
  have HD := Lib.hid hD
  have HSZ := Lib.hid hsz
  clear hR hH hD hsz
  go_enter Tryd.func75, Tryd.ntmps75
  go_wp2_with fail
  go_region
  go_wp2_with fail
  refine wp_loop_rounds 2 ?_
  rw [rounds_succ]
  go_wp2_with fail
  go_region_held3 (fun w' => ∀ i, w'.cell? ⟨rb, i, none⟩ = (#[.iface 29 (.pointer (some ⟨b, 0, none⟩)), .string nameF, .int .i64 (size : Int), .int .i64 ((at_ : Int)), .slice (some ⟨g, 0, none⟩) B B, .int .i64 ((fam : Int)), .int .i64 ((wd : Int)), .int .u64 ((tag : Int)), .int .u32 ((seq : Int)), body, .int .i64 ((recs : Int)), .int .u32 ((sum.toNat : Int)), .int .i64 (code), .bool (done), .int .i64 (fw : Int), .func (.func 67) #[] #[.pointer (some ⟨p, 0, none⟩)], .func (.func 68) #[] #[.pointer (some ⟨q, 0, none⟩)], left, .int .i64 ((told : Int))] : Array Value)[i]?)
    (((try dsimp only); first | with_reducible exact fun i => Blk.cell hR1 i | with_reducible exact fun i => Blk.cell HR.out.drew.drew i | fail))
    (((go_at_call 11); (go_must (refine (readat_one HD.out.drew.drew hsl at_ tb off m cap hm1 hat ls t hSh hfit HH.out.drew.drew).mono ?_)); (rintro r w1 ⟨rfl, hD1, hF1, hH1⟩); (have hR1 := hF1.blk HR.out.drew.drew (fun hx => hx.elim (fun hx => hx hSr) (fun e => hrh e)))))
  have hc1 := hR1.cell
  have hf1 := hR1.free
  have HR1 := Lib.hid hR1
  have HD1 := Lib.hid hD1
  have HF1 := Lib.hid hF1
  have HH1 := Lib.hid hH1
  clear hR1 hD1 hF1 hH1 hc
  go_wp2
  all_goals rw [rounds_succ]
  all_goals go_wp2
  all_goals go_ret
  all_goals (
    refine ⟨rfl, ?_, ?_, ?_, ?_⟩
    · exact Fr.setIn (Fr.then (Fr.refl (fun k => ¬ S k ∨ k = tb ∨ k = rb) w).drew.drew (HF1.out.mono fun k _ e => e.elim Or.inl (fun e => Or.inr (Or.inl e)))) (Or.inr (Or.inr rfl)) _
    · have := HR1.out.set 3 (.int .i64 ((at_ : Int) + (m : Int)))
      exact this
    · exact (Fr.setEq (Fr.refl (· = rb) _) _).blk HH1.out (fun e => hrh e.symm)
    · exact HD1.out.stays (Fr.setEq (Fr.refl (· = rb) _) _) (fun k _ e => by rw [e]; exact hSr))
end Go.Proofs.YtcefockebphbaaaDoor

namespace Go.Proofs.YtcefockebphbaaaDoor
open Go Go.RowKit Sluice

/-- A head as a value. -/
def headV (h : Head) : Value := .agg #[.int .u8 (h.kind.toNat : Int), .int .u32 (h.seq : Int), .int .u32 (h.count : Int), .int .u32 (h.length : Int), .int .u32 (h.body : Int)]

theorem kind_eq (k : UInt8) (n : Nat) (hn : n < 256) : ((k.toNat : Int) == (n : Int)) = (k == UInt8.ofNat n) := by
  rw [Bool.eq_iff_iff, beq_iff_eq, beq_iff_eq, ← UInt8.toNat_inj]
  have : (UInt8.ofNat n).toNat = n := by simp; omega
  rw [this]; omega

set_option maxHeartbeats 8000000 in
set_option maxRecDepth 100000 in
theorem may_first (b p q g B fw size at_ fam wd tag recs told rb : Nat) (body left : Value) (sum : BitVec 32) (code : Int) (done : Bool) (k : Int) (sq c l bd : Nat)
    (w : World) (hR : Blk w rb (rdCells b p q g B fw size at_ fam wd tag 0 body recs sum code done left told) 106) :
    Calls Tryd.prog 77 #[.pointer (some ⟨rb, 0, none⟩), .agg #[.int .u8 k, .int .u32 (sq : Int), .int .u32 (c : Int), .int .u32 (l : Int), .int .u32 (bd : Int)]] w
      fun r w' => r = .returned (.bool (decide (sq = 0 ∧ k = 1 ∧ c = 0 ∧ l = 12))) ∧ Keeps w w' := by
  have hc := hR.cell
  have hlt := hR.lt
  unfold rdCells at hc
  clear hR
  go_enter Tryd.func77, Tryd.ntmps77
  go_wp2_with fail
  go_region
  go_wp2
  all_goals go_ret
  all_goals refine ⟨ret_bool ?_, by (repeat (first | with_reducible exact Fr.refl _ _ | with_reducible assumption | with_reducible refine Fr.alloc ?_ _ | with_reducible refine Fr.drew ?_ | with_reducible refine Fr.drewN ?_ _ | with_reducible refine Fr.setCell ?_ (by simp; try omega) _))⟩
  all_goals clear hc
  all_goals (rw [Bool.eq_iff_iff]; simp_all)
  all_goals omega

set_option maxHeartbeats 8000000 in
set_option maxRecDepth 100000 in
theorem may_later (b p q g B fw size at_ fam wd tag seq recs told rb : Nat) (body left : Value) (sum : BitVec 32) (code : Int) (done : Bool) (k : Int) (sq c l bd : Nat) (hs0 : seq ≠ 0) (hwd : wd ≤ 65535) (hcl : c < 4294967296) (hl : l < 4294967296)
    (w : World) (hR : Blk w rb (rdCells b p q g B fw size at_ fam wd tag seq body recs sum code done left told) 106) :
    Calls Tryd.prog 77 #[.pointer (some ⟨rb, 0, none⟩), .agg #[.int .u8 k, .int .u32 (sq : Int), .int .u32 (c : Int), .int .u32 (l : Int), .int .u32 (bd : Int)]] w
      fun r w' => r = .returned (.bool (decide (sq = seq ∧ ((k = 3 ∧ c = 0 ∧ l = 12) ∨ (k = 2 ∧ 1 ≤ c ∧ l = c * wd ∧ l ≤ 1048576))))) ∧ Keeps w w' := by
  have hc := hR.cell
  have hlt := hR.lt
  unfold rdCells at hc
  clear hR
  by_cases hsq : sq = seq
  · by_cases hk3 : k = 3
    · have hb1 : ((sq : Int) != (seq : Int)) = false := by simp; omega
      have hb2 : ((seq : Int) == 0) = false := by simp; omega
      have hb3 : (k == 3) = true := by simp; omega
      have HSq := Lib.hid hsq
      have HK3 := Lib.hid hk3
      clear hsq hk3
      go_enter Tryd.func77, Tryd.ntmps77
      go_wp2_with fail
      go_region
      go_wp2
      all_goals go_ret
      all_goals refine ⟨ret_bool ?_, by (repeat (first | with_reducible exact Fr.refl _ _ | with_reducible assumption | with_reducible refine Fr.alloc ?_ _ | with_reducible refine Fr.drew ?_ | with_reducible refine Fr.drewN ?_ _ | with_reducible refine Fr.setCell ?_ (by simp; try omega) _))⟩
      all_goals (have hsq := HSq.out; have hk3 := HK3.out; rw [Bool.eq_iff_iff]; simp; try omega)
    · by_cases hk2 : k = 2
      · have hb1 : ((sq : Int) != (seq : Int)) = false := by simp; omega
        have hb2 : ((seq : Int) == 0) = false := by simp; omega
        have hb3 : (k == 3) = false := by simp; omega
        have hb4 : (k == 2) = true := by simp; omega
        obtain ⟨m, hm⟩ : ∃ m, m = c * wd := ⟨_, rfl⟩
        have hmb : m ≤ 281474976710656 := by
          rw [hm]
          exact Nat.le_trans (Nat.mul_le_mul (show c ≤ 4294967296 by omega) (show wd ≤ 65536 by omega)) (by decide)
        have hw1 : IntKind.u64.wrap (l : Int) = (l : Int) := IntWalk.u64_in _ (by omega)
        have hw2 : IntKind.u64.wrap (c : Int) = (c : Int) := IntWalk.u64_in _ (by omega)
        have hw3 : IntKind.u64.wrap (wd : Int) = (wd : Int) := IntWalk.u64_in _ (by omega)
        have hw4 : IntKind.u64.wrap ((c : Int) * (wd : Int)) = (m : Int) := by
          have : (c : Int) * (wd : Int) = (m : Int) := by rw [hm]; push_cast; rfl
          rw [this]; exact IntWalk.u64_in _ (by omega)
        have HSq := Lib.hid hsq
        have HK3 := Lib.hid hk3
        have HK2 := Lib.hid hk2
        have HM := Lib.hid hm
        have HMb := Lib.hid hmb
        clear hsq hk3 hk2 hm hmb
        by_cases hc1 : 1 ≤ c
        · have hd1 : decide ((1 : Int) ≤ (c : Int)) = true := by simp; omega
          by_cases hlm : l = m
          · have hd2 : ((l : Int) == (m : Int)) = true := by simp; omega
            have HLm := Lib.hid hlm
            clear hlm
            go_enter Tryd.func77, Tryd.ntmps77
            go_wp2_with fail
            go_region
            go_wp2_with fail
            go_quiet (fail)
            go_wp2
            all_goals go_ret
            all_goals refine ⟨ret_bool ?_, by (repeat (first | with_reducible exact Fr.refl _ _ | with_reducible assumption | with_reducible refine Fr.alloc ?_ _ | with_reducible refine Fr.drew ?_ | with_reducible refine Fr.drewN ?_ _ | with_reducible refine Fr.setCell ?_ (by simp; try omega) _))⟩
            all_goals (have hsq := HSq.out; have hk3 := HK3.out; have hk2 := HK2.out; have hm := HM.out; have hlm := HLm.out; rw [Bool.eq_iff_iff]; simp; try omega)
          · have hd2 : ((l : Int) == (m : Int)) = false := by simp; omega
            have HLm := Lib.hid hlm
            clear hlm
            go_enter Tryd.func77, Tryd.ntmps77
            go_wp2_with fail
            go_region
            go_wp2_with fail
            go_quiet (fail)
            go_wp2
            all_goals go_ret
            all_goals refine ⟨ret_bool ?_, by (repeat (first | with_reducible exact Fr.refl _ _ | with_reducible assumption | with_reducible refine Fr.alloc ?_ _ | with_reducible refine Fr.drew ?_ | with_reducible refine Fr.drewN ?_ _ | with_reducible refine Fr.setCell ?_ (by simp; try omega) _))⟩
            all_goals (have hm := HM.out; have hlm := HLm.out; have hk3 := HK3.out; rw [Bool.eq_iff_iff]; simp; try omega)
        · have hd1 : decide ((1 : Int) ≤ (c : Int)) = false := by simp; omega
          have HC1 := Lib.hid hc1
          clear hc1
          go_enter Tryd.func77, Tryd.ntmps77
          go_wp2_with fail
          go_region
          go_wp2_with fail
          go_quiet (fail)
          go_wp2
          all_goals go_ret
          all_goals refine ⟨ret_bool ?_, by (repeat (first | with_reducible exact Fr.refl _ _ | with_reducible assumption | with_reducible refine Fr.alloc ?_ _ | with_reducible refine Fr.drew ?_ | with_reducible refine Fr.drewN ?_ _ | with_reducible refine Fr.setCell ?_ (by simp; try omega) _))⟩
          all_goals (have hc1 := HC1.out; have hk3 := HK3.out; rw [Bool.eq_iff_iff]; simp; try omega)
      · have hb1 : ((sq : Int) != (seq : Int)) = false := by simp; omega
        have hb2 : ((seq : Int) == 0) = false := by simp; omega
        have hb3 : (k == 3) = false := by simp; omega
        have hb4 : (k == 2) = false := by simp; omega
        have HK3 := Lib.hid hk3
        have HK2 := Lib.hid hk2
        clear hsq hk3 hk2
        go_enter Tryd.func77, Tryd.ntmps77
        go_wp2_with fail
        go_region
        go_wp2
        all_goals go_ret
        all_goals refine ⟨ret_bool ?_, by (repeat (first | with_reducible exact Fr.refl _ _ | with_reducible assumption | with_reducible refine Fr.alloc ?_ _ | with_reducible refine Fr.drew ?_ | with_reducible refine Fr.drewN ?_ _ | with_reducible refine Fr.setCell ?_ (by simp; try omega) _))⟩
        all_goals (have hk3 := HK3.out; have hk2 := HK2.out; rw [Bool.eq_iff_iff]; simp; try omega)
  · have hb1 : ((sq : Int) != (seq : Int)) = true := by simp; omega
    go_enter Tryd.func77, Tryd.ntmps77
    go_wp2_with fail
    go_region
    go_wp2
    go_ret
    refine ⟨ret_bool ?_, by (repeat (first | with_reducible exact Fr.refl _ _ | with_reducible assumption | with_reducible refine Fr.alloc ?_ _ | with_reducible refine Fr.drew ?_ | with_reducible refine Fr.drewN ?_ _ | with_reducible refine Fr.setCell ?_ (by simp; try omega) _))⟩
    simp [hsq]
/-- May a chunk with this head stand here? -/
theorem may_any (b p q g B fw size at_ fam wd tag seq recs told rb : Nat) (body left : Value) (sum : BitVec 32) (code : Int) (done : Bool) (h : Head) (hwd : wd ≤ 65535) (hcl : h.count < 4294967296) (hl : h.length < 4294967296)
    (w : World) (hR : Blk w rb (rdCells b p q g B fw size at_ fam wd tag seq body recs sum code done left told) 106) :
    Calls Tryd.prog 77 #[.pointer (some ⟨rb, 0, none⟩), headV h] w fun r w' => r = .returned (.bool (mayP wd seq h)) ∧ Keeps w w' := by
  have hk : ∀ n : Nat, n < 256 → ((h.kind.toNat : Int) = (n : Int) ↔ h.kind = UInt8.ofNat n) := fun n hn => by
    have := kind_eq h.kind n hn
    rw [Bool.eq_iff_iff, beq_iff_eq, beq_iff_eq] at this
    exact this
  have hk1 := hk 1 (by omega)
  have hk2 := hk 2 (by omega)
  have hk3 := hk 3 (by omega)
  by_cases h0 : seq = 0
  · subst h0
    refine (may_first b p q g B fw size at_ fam wd tag recs told rb body left sum code done (h.kind.toNat : Int) h.seq h.count h.length h.body w hR).mono ?_
    rintro r w' ⟨rfl, hK⟩
    refine ⟨ret_bool ?_, hK⟩
    rw [Bool.eq_iff_iff, decide_eq_true_eq]
    unfold mayP
    simp only [if_true, Bool.and_eq_true, beq_iff_eq]
    rw [show ((1 : Int)) = ((1 : Nat) : Int) from rfl, hk1]
    exact ⟨fun ⟨a, b, c, d⟩ => ⟨a, ⟨b, c⟩, d⟩, fun ⟨a, ⟨b, c⟩, d⟩ => ⟨a, b, c, d⟩⟩
  · refine (may_later b p q g B fw size at_ fam wd tag seq recs told rb body left sum code done (h.kind.toNat : Int) h.seq h.count h.length h.body h0 hwd hcl hl w hR).mono ?_
    rintro r w' ⟨rfl, hK⟩
    refine ⟨ret_bool ?_, hK⟩
    rw [Bool.eq_iff_iff, decide_eq_true_eq]
    unfold mayP
    rw [show ((3 : Int)) = ((3 : Nat) : Int) from rfl, hk3, show ((2 : Int)) = ((2 : Nat) : Int) from rfl, hk2]
    have e3 : UInt8.ofNat 3 = 3 := rfl
    have e2 : UInt8.ofNat 2 = 2 := rfl
    rw [e3, e2]
    simp only [if_neg h0, Bool.and_eq_true, beq_iff_eq]
    by_cases g3 : h.kind = 3
    · rw [if_pos g3]
      have g2 : ¬ h.kind = 2 := by rw [g3]; decide
      simp [g3]
    · rw [if_neg g3]
      by_cases g2 : h.kind = 2
      · rw [if_pos g2]; simp [g2, and_assoc]
      · rw [if_neg g2]; simp [g3, g2]
end Go.Proofs.YtcefockebphbaaaDoor

namespace Go.Proofs.YtcefockebphbaaaDoor
open Go Go.RowKit Sluice

def headZ : Head := ⟨0, 0, 0, 0, 0⟩
set_option maxHeartbeats 4000000 in
set_option maxRecDepth 100000 in
theorem headOf_bad (g off cap : Nat) (hcap : 24 ≤ cap) (bs : List UInt8) (t : TypeId) (hfit : off + 24 ≤ bs.length) (w : World) (hg : Blk w g (bytesA bs) t)
    (hbad : ¬ (bs.getD off 0 = 82 ∧ bs.getD (off + 1) 0 = 76 ∧ bs.getD (off + 3) 0 = 1)) :
    Calls Tryd.prog 76 #[.slice (some ⟨g, off, none⟩) 24 cap] w fun q w' => q = .returned (.tuple #[headV headZ, .bool false]) ∧ Keeps w w' := by
  have hlt := hg.lt
  have hn1 : g ≠ w.heap.size := by omega
  have hl1 : g < w.heap.size + 1 := by omega
  have hc0 := bytes_cell hg off (by omega)
  have hc1 := bytes_cell hg (off + 1) (by omega)
  have hc3 := bytes_cell hg (off + 3) (by omega)
  unfold bv at hc0 hc1 hc3
  have k0 := kind_eq (bs.getD off 0) 82 (by omega)
  have k1 := kind_eq (bs.getD (off + 1) 0) 76 (by omega)
  have k3 := kind_eq (bs.getD (off + 3) 0) 1 (by omega)
  have e82 : UInt8.ofNat 82 = 82 := rfl
  have e76 : UInt8.ofNat 76 = 76 := rfl
  have e1 : UInt8.ofNat 1 = 1 := rfl
  rw [e82] at k0
  rw [e76] at k1
  rw [e1] at k3
  generalize bs.getD off 0 = c0 at *
  generalize bs.getD (off + 1) 0 = c1 at *
  generalize bs.getD (off + 3) 0 = c3 at *
  by_cases g0 : c0 = 82
  · have b0 : ((c0.toNat : Int) != 82) = false := by
      have : ((c0.toNat : Int) == ((82 : Nat) : Int)) = true := by rw [k0, g0]; rfl
      simpa using this
    by_cases g1 : c1 = 76
    · have b1 : ((c1.toNat : Int) != 76) = false := by
        have : ((c1.toNat : Int) == ((76 : Nat) : Int)) = true := by rw [k1, g1]; rfl
        simpa using this
      have b3 : ((c3.toNat : Int) != 1) = true := by
        have : ((c3.toNat : Int) == ((1 : Nat) : Int)) = false := by
          rw [k3]; rw [beq_eq_false_iff_ne]; intro e; exact hbad ⟨g0, g1, e⟩
        simpa using this
      clear hbad k0 k1 k3 g0 g1 hg e82 e76 e1
      go_enter Tryd.func76, Tryd.ntmps76
      go_wp2
      go_returns
      exact ⟨rfl, by (repeat (first | with_reducible exact Fr.refl _ _ | with_reducible assumption | with_reducible refine Fr.alloc ?_ _ | with_reducible refine Fr.drew ?_ | with_reducible refine Fr.drewN ?_ _ | with_reducible refine Fr.setCell ?_ (by simp; try omega) _))⟩
    · have b1 : ((c1.toNat : Int) != 76) = true := by
        have : ((c1.toNat : Int) == ((76 : Nat) : Int)) = false := by
          rw [k1]; rw [beq_eq_false_iff_ne]; exact g1
        simpa using this
      clear hbad k0 k1 k3 g0 g1 hg e82 e76 e1
      go_enter Tryd.func76, Tryd.ntmps76
      go_wp2
      go_returns
      exact ⟨rfl, by (repeat (first | with_reducible exact Fr.refl _ _ | with_reducible assumption | with_reducible refine Fr.alloc ?_ _ | with_reducible refine Fr.drew ?_ | with_reducible refine Fr.drewN ?_ _ | with_reducible refine Fr.setCell ?_ (by simp; try omega) _))⟩
  · have b0 : ((c0.toNat : Int) != 82) = true := by
      have : ((c0.toNat : Int) == ((82 : Nat) : Int)) = false := by
        rw [k0]; rw [beq_eq_false_iff_ne]; exact g0
      simpa using this
    clear hbad k0 k1 k3 g0 hg e82 e76 e1
    go_enter Tryd.func76, Tryd.ntmps76
    go_wp2
    go_returns
    exact ⟨rfl, by (repeat (first | with_reducible exact Fr.refl _ _ | with_reducible assumption | with_reducible refine Fr.alloc ?_ _ | with_reducible refine Fr.drew ?_ | with_reducible refine Fr.drewN ?_ _ | with_reducible refine Fr.setCell ?_ (by simp; try omega) _))⟩

theorem sub_drop {bs : List UInt8} {off a n : Nat} (h : a + n ≤ 24) : ((((bs.drop off).take 24).drop a).take n) = (bs.drop (off + a)).take n := by
  rw [List.drop_take, List.take_take, List.drop_drop, Nat.min_eq_left (by omega)]
theorem sub_get {bs : List UInt8} {off a : Nat} (h : a < 24) : ((bs.drop off).take 24).getD a 0 = bs.getD (off + a) 0 := by
  rw [List.getD_eq_getElem?_getD, List.getD_eq_getElem?_getD, List.getElem?_take_of_lt h, List.getElem?_drop]
/-- What headOf comes to. -/
def HeadTo (bs : List UInt8) (off : Nat) (w : World) (q : Ending) (w' : World) : Prop :=
  Keeps w w' ∧ ∃ h : Head, q = .returned (.tuple #[headV h, .bool (headGood ((bs.drop off).take 24))]) ∧ (headGood ((bs.drop off).take 24) = true → h = headR ((bs.drop off).take 24)) ∧ h.count < 4294967296 ∧ h.length < 4294967296
theorem ofLe4_lt (l : List UInt8) : ofLe (l.take 4) < 4294967296 := by
  have h1 := ofLe_lt (l.take 4)
  have h2 : 256 ^ (l.take 4).length ≤ 256 ^ 4 := Nat.pow_le_pow_right (by omega) (by rw [List.length_take]; omega)
  have h3 : 256 ^ 4 = 4294967296 := by decide
  omega
theorem headOf_any (g off cap : Nat) (hcap : 24 ≤ cap) (hcn : cap ≤ 1099511627776) (bs : List UInt8) (t : TypeId) (hfit : off + 24 ≤ bs.length) (w : World) (hS : Steps w) (hg : Blk w g (bytesA bs) t) :
    Calls Tryd.prog 76 #[.slice (some ⟨g, off, none⟩) 24 cap] w (HeadTo bs off w) := by
  have e0 := sub_get (bs := bs) (off := off) (a := 0) (by omega)
  have e1 := sub_get (bs := bs) (off := off) (a := 1) (by omega)
  have e2 := sub_get (bs := bs) (off := off) (a := 2) (by omega)
  have e3 := sub_get (bs := bs) (off := off) (a := 3) (by omega)
  have d4 := sub_drop (bs := bs) (off := off) (a := 4) (n := 4) (by omega)
  have d8 := sub_drop (bs := bs) (off := off) (a := 8) (n := 4) (by omega)
  have d12 := sub_drop (bs := bs) (off := off) (a := 12) (n := 4) (by omega)
  have d16 := sub_drop (bs := bs) (off := off) (a := 16) (n := 4) (by omega)
  have d20 := sub_drop (bs := bs) (off := off) (a := 20) (n := 4) (by omega)
  have t20 : ((bs.drop off).take 24).take 20 = (bs.drop off).take 20 := by rw [List.take_take]; rfl
  rw [Nat.add_zero] at e0
  have hgd : headGood ((bs.drop off).take 24) = (bs.getD off 0 == 82 && bs.getD (off + 1) 0 == 76 && bs.getD (off + 3) 0 == 1 && decide (ofLe ((bs.drop (off + 20)).take 4) = (crc ((bs.drop off).take 20)).toNat)) := by
    unfold headGood
    rw [e0, e1, e3, d20, t20]
  have hrd : headR ((bs.drop off).take 24) = ⟨bs.getD (off + 2) 0, ofLe ((bs.drop (off + 4)).take 4), ofLe ((bs.drop (off + 8)).take 4), ofLe ((bs.drop (off + 12)).take 4), ofLe ((bs.drop (off + 16)).take 4)⟩ := by
    unfold headR
    rw [e2, d4, d8, d12, d16]
  by_cases hgood : bs.getD off 0 = 82 ∧ bs.getD (off + 1) 0 = 76 ∧ bs.getD (off + 3) 0 = 1
  · obtain ⟨h0, h1, h3⟩ := hgood
    refine (headOf_good g off cap hcap hcn bs t hfit w hS hg (bs.getD (off + 2) 0) h0 h1 rfl h3).mono ?_
    rintro q w' ⟨rfl, hK⟩
    refine ⟨hK, headR ((bs.drop off).take 24), ?_, fun _ => rfl, ?_, ?_⟩
    · rw [hrd, hgd, h0, h1, h3]
      simp [headV]
    · rw [hrd]; exact ofLe4_lt _
    · rw [hrd]; exact ofLe4_lt _
  · refine (headOf_bad g off cap hcap bs t hfit w hg hgood).mono ?_
    rintro q w' ⟨rfl, hK⟩
    have hf : headGood ((bs.drop off).take 24) = false := by
      rw [hgd]
      cases hx : (bs.getD off 0 == 82 && bs.getD (off + 1) 0 == 76 && bs.getD (off + 3) 0 == 1) with
      | false => rfl
      | true =>
        exfalso
        apply hgood
        simp only [Bool.and_eq_true, beq_iff_eq] at hx
        exact ⟨hx.1.1, hx.1.2, hx.2⟩
    refine ⟨hK, headZ, by rw [hf], fun h => (by rw [hf] at h; cases h), by decide, by decide⟩
end Go.Proofs.YtcefockebphbaaaDoor

namespace Go.Proofs.YtcefockebphbaaaDoor
open Go Go.RowKit Sluice

structure RdK (S : Nat → Prop) (g rb p q B fw : Nat) : Prop where
  ss : S 1
  sg : S g
  sr : S rb
  sp : S p
  sq : S q
  gs : g ≠ 1
  rs : rb ≠ 1
  b1 : 36 ≤ B
  b2 : B ≤ 1048576
  f1 : 1 ≤ fw
  f2 : fw ≤ B
  f3 : fw ≤ 256
/-- A Reader's state (bs: the file; its chunk's body stands in the buffer). -/
structure RdAt (w : World) (S : Nat → Prop) (n b p q g B fw rb : Nat) (bs : List UInt8) (at_ fam wd tag seq : Nat) (body : Value) (recs : Nat) (sum : BitVec 32) (code : Int) (done : Bool) (left : Value) (told : Nat) (buf : List UInt8) : Prop where
  cells : Blk w rb (rdCells b p q g B fw bs.length at_ fam wd tag seq body recs sum code done left told) 106
  forms : FormBoxes w p q
  steps : Steps w
  disk : DiskAt w b n (some bs) S
  mem : Blk w g (bytesA buf) 5
  blen : buf.length = B
def RdFr (S : Nat → Prop) (g rb : Nat) : Nat → Prop := fun k => ¬ S k ∨ k = g ∨ k = rb

theorem RdK.nst {S : Nat → Prop} {g rb p q B fw : Nat} (K : RdK S g rb p q B fw) : ¬ RdFr S g rb 1 := fun h => h.elim (fun h => h K.ss) (fun h => h.elim (fun e => K.gs e.symm) (fun e => K.rs e.symm))
section
variable {w w' : World} {S : Nat → Prop} {n b p q g B fw rb : Nat} {bs : List UInt8} {at_ fam wd tag seq recs told : Nat} {body left : Value} {sum : BitVec 32} {code : Int} {done : Bool} {buf : List UInt8}
theorem RdAt.nforms (K : RdK S g rb p q B fw) (h : RdAt w S n b p q g B fw rb bs at_ fam wd tag seq body recs sum code done left told buf) : ¬ RdFr S g rb p ∧ ¬ RdFr S g rb q :=
  ⟨fun hx => hx.elim (fun h => h K.sp) (fun hx => hx.elim (fun e => (Blk.ne h.forms.1 h.mem (by decide)) e) (fun e => (Blk.ne h.forms.1 h.cells (by decide)) e)),
   fun hx => hx.elim (fun h => h K.sq) (fun hx => hx.elim (fun e => (Blk.ne h.forms.2 h.mem (by decide)) e) (fun e => (Blk.ne h.forms.2 h.cells (by decide)) e))⟩
theorem RdAt.ne (h : RdAt w S n b p q g B fw rb bs at_ fam wd tag seq body recs sum code done left told buf) : rb ≠ g := Blk.ne h.cells h.mem (by decide)
/-- What keeps all of its blocks keeps the Reader. -/
theorem RdAt.keeps (h : RdAt w S n b p q g B fw rb bs at_ fam wd tag seq body recs sum code done left told buf) (hk : Keeps w w') : RdAt w' S n b p q g B fw rb bs at_ fam wd tag seq body recs sum code done left told buf :=
  ⟨hk.blk h.cells (fun h => h), ⟨hk.blk h.forms.1 (fun h => h), hk.blk h.forms.2 (fun h => h)⟩, h.steps.kept hk (fun h => h), h.disk.keeps hk, hk.blk h.mem (fun h => h), h.blen⟩
theorem RdAt.stays (K : RdK S g rb p q B fw) (h : RdAt w S n b p q g B fw rb bs at_ fam wd tag seq body recs sum code done left told buf) {T : Nat → Prop} (hf : Fr T w w') (ht : ∀ k, k < w.heap.size → T k → S k ∧ k ≠ rb ∧ k ≠ g ∧ k ≠ p ∧ k ≠ q ∧ k ≠ 1) : RdAt w' S n b p q g B fw rb bs at_ fam wd tag seq body recs sum code done left told buf :=
  ⟨hf.blk h.cells (fun e => (ht rb h.cells.lt e).2.1 rfl), ⟨hf.blk h.forms.1 (fun e => (ht p h.forms.1.lt e).2.2.2.1 rfl), hf.blk h.forms.2 (fun e => (ht q h.forms.2.lt e).2.2.2.2.1 rfl)⟩, h.steps.kept hf (fun e => (ht _ h.steps.1 e).2.2.2.2.2 rfl), h.disk.stays hf (fun k hk e => (ht k hk e).1), hf.blk h.mem (fun e => (ht g h.mem.lt e).2.2.1 rfl), h.blen⟩
theorem RdAt.less (h : RdAt w S n b p q g B fw rb bs at_ fam wd tag seq body recs sum code done left told buf) {S' : Nat → Prop} (hs : ∀ k, S' k → S k) : RdAt w S' n b p q g B fw rb bs at_ fam wd tag seq body recs sum code done left told buf :=
  ⟨h.cells, h.forms, h.steps, h.disk.less hs, h.mem, h.blen⟩
/-- The Reader's own cells turned, and nothing else. -/
theorem RdAt.own (K : RdK S g rb p q B fw) (h : RdAt w S n b p q g B fw rb bs at_ fam wd tag seq body recs sum code done left told buf) (hf : Fr (· = rb) w w') {at2 fam2 wd2 tag2 seq2 recs2 told2 : Nat} {body2 left2 : Value} {sum2 : BitVec 32} {code2 : Int} {done2 : Bool}
    (hc : Blk w' rb (rdCells b p q g B fw bs.length at2 fam2 wd2 tag2 seq2 body2 recs2 sum2 code2 done2 left2 told2) 106) : RdAt w' S n b p q g B fw rb bs at2 fam2 wd2 tag2 seq2 body2 recs2 sum2 code2 done2 left2 told2 buf :=
  ⟨hc, ⟨hf.blk h.forms.1 (fun e => (h.nforms K).1 (Or.inr (Or.inr e))), hf.blk h.forms.2 (fun e => (h.nforms K).2 (Or.inr (Or.inr e)))⟩, h.steps.kept hf (fun e => K.rs e.symm), h.disk.stays hf (fun k _ e => by rw [e]; exact K.sr), hf.blk h.mem (fun e => h.ne e.symm), h.blen⟩
theorem RdAt.more (h : RdAt w S n b p q g B fw rb bs at_ fam wd tag seq body recs sum code done left told buf) (hk : Keeps w w') {S' : Nat → Prop} (hs : ∀ k, S' k → S k ∨ (w.heap.size ≤ k ∧ k < w'.heap.size)) : RdAt w' S' n b p q g B fw rb bs at_ fam wd tag seq body recs sum code done left told buf :=
  ⟨hk.blk h.cells (fun h => h), ⟨hk.blk h.forms.1 (fun h => h), hk.blk h.forms.2 (fun h => h)⟩, h.steps.kept hk (fun h => h), h.disk.more hk hs, hk.blk h.mem (fun h => h), h.blen⟩
end
theorem crc_len (g off m cap : Nat) (l : List UInt8) (hm : l.length = m) (cs : Array Value) (t : TypeId) (hc : (cs.toList.drop off).take m = l.map bv) (hl : m ≤ 1099511627776) (p : Nat) (w : World) (hS : Steps w) (hg : Blk w g cs t) (hp : Blk w p #[.slice (some ⟨g, off, none⟩) m cap] 27) :
    Calls Tryd.prog 69 #[.slice (some ⟨p, 0, none⟩) 1 1] w fun q w' => q = .returned (.int .u32 ((crc l).toNat : Int)) ∧ Keeps w w' := by
  subst hm
  exact crc_any g off cap l cs t hc hl p w hS hg hp
theorem RdK.more {S S' : Nat → Prop} {g rb p q B fw : Nat} (K : RdK S g rb p q B fw) (hs : ∀ k, S k → S' k) : RdK S' g rb p q B fw :=
  ⟨hs _ K.ss, hs _ K.sg, hs _ K.sr, hs _ K.sp, hs _ K.sq, K.gs, K.rs, K.b1, K.b2, K.f1, K.f2, K.f3⟩
/-- Stores into a block of one's own. -/
theorem set5_fr {S : Nat → Prop} {w w4 : World} {b : Nat} (h : Fr S w w4) (hb : w.heap.size ≤ b) {v0 v1 v2 v3 v4 : Value} : Fr S w (((((w4.setCell ⟨b, 0, none⟩ v0).setCell ⟨b, 1, none⟩ v1).setCell ⟨b, 2, none⟩ v2).setCell ⟨b, 3, none⟩ v3).setCell ⟨b, 4, none⟩ v4) := by
  have hs : ∀ o, (⟨b, o, none⟩ : Addr).block < w.heap.size → S (⟨b, o, none⟩ : Addr).block := fun o (h : b < _) => absurd h (by omega)
  exact ((((h.setCell (hs _) _).setCell (hs _) _).setCell (hs _) _).setCell (hs _) _).setCell (hs _) _
theorem set5_only {w : World} {b : Nat} {v0 v1 v2 v3 v4 : Value} : Fr (· = b) w (((((w.setCell ⟨b, 0, none⟩ v0).setCell ⟨b, 1, none⟩ v1).setCell ⟨b, 2, none⟩ v2).setCell ⟨b, 3, none⟩ v3).setCell ⟨b, 4, none⟩ v4) :=
  Fr.setEq (Fr.setEq (Fr.setEq (Fr.setEq (Fr.setEq (Fr.refl _ _) _) _) _) _) _

/-- What a chunk's reading comes to. -/
def ChunkTo (S : Nat → Prop) (n b p q g B fw rb : Nat) (bs : List UInt8) (at_ fam wd tag seq recs : Nat) (sum : BitVec 32) (code : Int) (done : Bool) (left : Value) (told : Nat) (r : Ending) (w' : World) : Prop :=
  match chunkR bs B wd at_ seq with
  | none => ∃ (h : Head) (e : Int) (a2 : Nat) (bd : Value) (buf : List UInt8), r = .returned (.tuple #[headV h, .int .i64 e]) ∧ 1 ≤ e ∧ e ≤ 100 ∧ RdAt w' S n b p q g B fw rb bs a2 fam wd tag seq bd recs sum code done left told buf
  | some (kind, count, bd) => ∃ (h : Head) (buf : List UInt8), r = .returned (.tuple #[headV h, .int .i64 0]) ∧ h.kind = kind ∧ h.count = count ∧
      RdAt w' S n b p q g B fw rb bs (at_ + 24 + bd.length) fam wd tag (seq + 1) (.slice (some ⟨g, 0, none⟩) bd.length bd.length) recs sum code done left told buf ∧ buf.take bd.length = bd

theorem chunk_torn_none {bs : List UInt8} {B wd at_ seq : Nat} (h : bs.length < at_ + 24) : chunkR bs B wd at_ seq = none := by unfold chunkR; rw [if_pos h]
theorem chunk_bad_none {bs : List UInt8} {B wd at_ seq : Nat} (h : headGood ((bs.drop at_).take 24) = false) : chunkR bs B wd at_ seq = none := by
  unfold chunkR; split <;> first | rfl | rw [if_pos h]

set_option maxHeartbeats 16000000 in
set_option maxRecDepth 100000 in
theorem rchunk_torn (S : Nat → Prop) (n b p q g B fw rb : Nat) (K : RdK S g rb p q B fw) (bs : List UInt8) (at_ fam wd tag seq recs told : Nat) (body left : Value) (sum : BitVec 32) (code : Int) (done : Bool) (buf : List UInt8) (hsl : bs.length ≤ 1099511627776) (hat : at_ ≤ bs.length) (htorn : bs.length < at_ + 24) (w : World)
    (hR : RdAt w S n b p q g B fw rb bs at_ fam wd tag seq body recs sum code done left told buf) :
    Calls Tryd.prog 64 #[.pointer (some ⟨rb, 0, none⟩)] w fun r w' => Fr (RdFr S g rb) w w' ∧ ChunkTo S n b p q g B fw rb bs at_ fam wd tag seq recs sum code done left told r w' := by
  have HR := Lib.hid hR
  clear hR
  go_enter Tryd.func64, Tryd.ntmps64
  go_wp2_with ((go_at_call 75); (refine (fill_torn b p q g B fw bs.length at_ fam wd tag seq recs told rb body left sum code done _ 24 24 hsl hat htorn (by omega) _ ?_).mono ?_); (· exact (HR.out.cells.alloc _).alloc _); (rintro r w1 ⟨rfl, hk1⟩); (have hK1 : Keeps w w1 := Fr.keeps (((Fr.refl _ w).alloc _).alloc _) hk1); (have hN1 : Blk w1 w.heap.size #[.int .u8 0, .int .u32 0, .int .u32 0, .int .u32 0, .int .u32 0] 134 := hk1.blk (Blk.alloc (Blk.new' rfl) _) (fun h => h)); (have hnc := hN1.cell); (have hnf := hN1.free); (have hsz := hK1.size))
  have hN2 := set5_self (v0 := .int .u8 0) (v1 := .int .u32 0) (v2 := .int .u32 0) (v3 := .int .u32 0) (v4 := .int .u32 0) hN1
  have hc2 := hN2.cell
  have hK2 := set5_keeps (b := w.heap.size) (v0 := .int .u8 0) (v1 := .int .u32 0) (v2 := .int .u32 0) (v3 := .int .u32 0) (v4 := .int .u32 0) hK1 (Nat.le_refl _)
  refine bodyPost_ret (v := .tuple #[headV headZ, .int .i64 60]) ?_ rfl ⟨Fr.any hK2, ?_⟩
  · simp [results, Tryd.results64, hc2, go_sem, headV, headZ]
  · unfold ChunkTo
    rw [chunk_torn_none htorn]
    exact ⟨headZ, 60, at_, body, buf, rfl, by omega, by omega, HR.out.keeps hK2⟩

theorem chunk_may_none {bs : List UInt8} {B wd at_ seq : Nat} (h : mayP wd seq (headR ((bs.drop at_).take 24)) = false) : chunkR bs B wd at_ seq = none := by
  cases hc : chunkR bs B wd at_ seq with
  | none => rfl
  | some x => obtain ⟨a, b, c⟩ := x; have := (chunkR_some hc).2.1; rw [h] at this; cases this

theorem chunk_room_none {bs : List UInt8} {B wd at_ seq : Nat} (h : B < (headR ((bs.drop at_).take 24)).length) : chunkR bs B wd at_ seq = none := by
  cases hc : chunkR bs B wd at_ seq with
  | none => rfl
  | some x => obtain ⟨a, b, c⟩ := x; have := (chunkR_some hc).2.2.1; omega
theorem chunk_short_none {bs : List UInt8} {B wd at_ seq : Nat} (h : bs.length < at_ + 24 + (headR ((bs.drop at_).take 24)).length) : chunkR bs B wd at_ seq = none := by
  cases hc : chunkR bs B wd at_ seq with
  | none => rfl
  | some x => obtain ⟨a, b, c⟩ := x; have := (chunkR_some hc).2.2.2.1; omega
theorem chunk_body_none {bs : List UInt8} {B wd at_ seq : Nat} (h : (crc ((bs.drop (at_ + 24)).take (headR ((bs.drop at_).take 24)).length)).toNat ≠ (headR ((bs.drop at_).take 24)).body) : chunkR bs B wd at_ seq = none := by
  cases hc : chunkR bs B wd at_ seq with
  | none => rfl
  | some x =>
    obtain ⟨a, b, c⟩ := x
    obtain ⟨-, -, -, -, h5, -, -, h8, -⟩ := chunkR_some hc
    rw [h8] at h5
    exact absurd h5 h
theorem chunk_good {bs : List UInt8} {B wd at_ seq : Nat} (h1 : at_ + 24 ≤ bs.length) (h2 : headGood ((bs.drop at_).take 24) = true) (h3 : mayP wd seq (headR ((bs.drop at_).take 24)) = true) (h4 : (headR ((bs.drop at_).take 24)).length ≤ B) (h5 : at_ + 24 + (headR ((bs.drop at_).take 24)).length ≤ bs.length)
    (h6 : (crc ((bs.drop (at_ + 24)).take (headR ((bs.drop at_).take 24)).length)).toNat = (headR ((bs.drop at_).take 24)).body) :
    chunkR bs B wd at_ seq = some ((headR ((bs.drop at_).take 24)).kind, (headR ((bs.drop at_).take 24)).count, (bs.drop (at_ + 24)).take (headR ((bs.drop at_).take 24)).length) := by
  unfold chunkR
  rw [if_neg (by omega), if_neg (by rw [h2]; simp)]
  dsimp only
  rw [if_neg (by rw [h3]; simp), if_neg (by omega), if_neg (by omega), if_neg (by rw [h6]; simp)]
theorem may_pos {wd seq : Nat} {h : Head} (h1 : mayP wd seq h = true) (hw : seq ≠ 0 → 1 ≤ wd) : 1 ≤ h.length := by
  unfold mayP at h1
  simp only [Bool.and_eq_true, beq_iff_eq] at h1
  obtain ⟨-, h2⟩ := h1
  split at h2
  · simp only [Bool.and_eq_true, beq_iff_eq] at h2; omega
  · rename_i hs
    split at h2
    · simp only [Bool.and_eq_true, beq_iff_eq] at h2; omega
    · split at h2
      · simp only [Bool.and_eq_true, beq_iff_eq, decide_eq_true_eq] at h2
        rw [h2.1.2]
        exact Nat.mul_pos (by omega) (hw hs)
      · cases h2

attribute [local irreducible] ChunkTo chunkR headGood headR crc regs mayP

set_option maxHeartbeats 16000000 in
set_option maxRecDepth 100000 in
theorem rchunk_more (S : Nat → Prop) (n b p q g B fw rb : Nat) (K : RdK S g rb p q B fw) (bs : List UInt8) (at_ fam wd tag seq recs told : Nat) (body left : Value) (sum : BitVec 32) (code : Int) (done : Bool) (buf : List UInt8) (hsl : bs.length ≤ 1099511627776) (hwd : wd ≤ 65535) (hwd0 : seq ≠ 0 → 1 ≤ wd) (hseq : seq < 4294967295) (hat : at_ + 24 ≤ bs.length) (w : World)
    (hR : RdAt w S n b p q g B fw rb bs at_ fam wd tag seq body recs sum code done left told buf) :
    Calls Tryd.prog 64 #[.pointer (some ⟨rb, 0, none⟩)] w fun r w' => Fr (RdFr S g rb) w w' ∧ ChunkTo S n b p q g B fw rb bs at_ fam wd tag seq recs sum code done left told r w' := by
  have HR := Lib.hid hR
  clear hR
  go_enter Tryd.func64, Tryd.ntmps64
  go_wp2_with fail
  have hlr := HR.out.cells.lt
  have hlg := HR.out.mem.lt
  have hA2 : Blk ((w.alloc (.cells #[.int .u8 0, .int .u32 0, .int .u32 0, .int .u32 0, .int .u32 0] 134)).alloc (.cells #[.int .u8 0, .int .u8 0, .int .u8 0, .int .u8 0, .int .u8 0, .int .u8 0, .int .u8 0, .int .u8 0, .int .u8 0, .int .u8 0, .int .u8 0, .int .u8 0, .int .u8 0, .int .u8 0, .int .u8 0, .int .u8 0, .int .u8 0, .int .u8 0, .int .u8 0, .int .u8 0, .int .u8 0, .int .u8 0, .int .u8 0, .int .u8 0] 145)) (w.heap.size + 1) (bytesA (List.replicate 24 0)) 145 := Blk.new' (by simp)
  have hH2 : Blk ((w.alloc (.cells #[.int .u8 0, .int .u32 0, .int .u32 0, .int .u32 0, .int .u32 0] 134)).alloc (.cells #[.int .u8 0, .int .u8 0, .int .u8 0, .int .u8 0, .int .u8 0, .int .u8 0, .int .u8 0, .int .u8 0, .int .u8 0, .int .u8 0, .int .u8 0, .int .u8 0, .int .u8 0, .int .u8 0, .int .u8 0, .int .u8 0, .int .u8 0, .int .u8 0, .int .u8 0, .int .u8 0, .int .u8 0, .int .u8 0, .int .u8 0, .int .u8 0] 145)) w.heap.size #[.int .u8 0, .int .u32 0, .int .u32 0, .int .u32 0, .int .u32 0] 134 := Blk.alloc (Blk.new' rfl) _
  have hK2 : Keeps w ((w.alloc (.cells #[.int .u8 0, .int .u32 0, .int .u32 0, .int .u32 0, .int .u32 0] 134)).alloc (.cells #[.int .u8 0, .int .u8 0, .int .u8 0, .int .u8 0, .int .u8 0, .int .u8 0, .int .u8 0, .int .u8 0, .int .u8 0, .int .u8 0, .int .u8 0, .int .u8 0, .int .u8 0, .int .u8 0, .int .u8 0, .int .u8 0, .int .u8 0, .int .u8 0, .int .u8 0, .int .u8 0, .int .u8 0, .int .u8 0, .int .u8 0, .int .u8 0] 145)) := ((Fr.refl _ w).alloc _).alloc _
  have hz2 : ((w.alloc (.cells #[.int .u8 0, .int .u32 0, .int .u32 0, .int .u32 0, .int .u32 0] 134)).alloc (.cells #[.int .u8 0, .int .u8 0, .int .u8 0, .int .u8 0, .int .u8 0, .int .u8 0, .int .u8 0, .int .u8 0, .int .u8 0, .int .u8 0, .int .u8 0, .int .u8 0, .int .u8 0, .int .u8 0, .int .u8 0, .int .u8 0, .int .u8 0, .int .u8 0, .int .u8 0, .int .u8 0, .int .u8 0, .int .u8 0, .int .u8 0, .int .u8 0] 145)).heap.size = w.heap.size + 2 := by simp
  generalize (w.alloc (.cells #[.int .u8 0, .int .u32 0, .int .u32 0, .int .u32 0, .int .u32 0] 134)).alloc (.cells #[.int .u8 0, .int .u8 0, .int .u8 0, .int .u8 0, .int .u8 0, .int .u8 0, .int .u8 0, .int .u8 0, .int .u8 0, .int .u8 0, .int .u8 0, .int .u8 0, .int .u8 0, .int .u8 0, .int .u8 0, .int .u8 0, .int .u8 0, .int .u8 0, .int .u8 0, .int .u8 0, .int .u8 0, .int .u8 0, .int .u8 0, .int .u8 0] 145) = w2 at *
  have hR2 := HR.out.keeps hK2
  have hD2 : DiskAt w2 b n (some bs) (fun k => S k ∨ k = w.heap.size ∨ k = w.heap.size + 1) := HR.out.disk.more hK2 (fun k hk => by
    rcases hk with h | h | h
    · exact Or.inl h
    · right; subst h; omega
    · right; subst h; omega)
  refine (fill_ok (fun k => S k ∨ k = w.heap.size ∨ k = w.heap.size + 1) n b p q g B fw bs.length at_ fam wd tag seq recs told rb body left sum code done (w.heap.size + 1) 0 24 24 bs (List.replicate 24 0) 145 (by omega) rfl hsl hat (by omega) (by simp) (Or.inr (Or.inr rfl)) (Or.inl K.sr) (by omega) w2 hR2.cells hA2 hD2).mono ?_
  rintro r w3 ⟨rfl, hF3, hC3, hA3, hD3⟩
  obtain ⟨hd, hhd⟩ : ∃ hd, hd = (bs.drop at_).take 24 := ⟨_, rfl⟩
  have hdl : hd.length = 24 := by rw [hhd, List.length_take, List.length_drop]; omega
  rewrite [← hhd] at hA3
  have hsp : splB (List.replicate 24 0) 0 hd = hd := by unfold splB; rw [hdl]; simp
  rewrite [hsp] at hA3
  have hH3 := hF3.blk hH2 (fun h => by rcases h with h | h | h; exact h (Or.inr (Or.inl rfl)); omega; omega)
  have hG3 := hF3.blk hR2.mem (fun h => by rcases h with h | h | h; exact h (Or.inl K.sg); omega; exact HR.out.ne h.symm)
  have hP3 : FormBoxes w3 p q := by
    have hn := HR.out.nforms K
    have hlp := HR.out.forms.1.lt
    have hlq := HR.out.forms.2.lt
    refine ⟨hF3.blk hR2.forms.1 (fun h => ?_), hF3.blk hR2.forms.2 (fun h => ?_)⟩
    · rcases h with h | h | h
      · exact h (Or.inl K.sp)
      · omega
      · exact hn.1 (Or.inr (Or.inr h))
    · rcases h with h | h | h
      · exact h (Or.inl K.sq)
      · omega
      · exact hn.2 (Or.inr (Or.inr h))
  have hls := HR.out.steps.1
  have hF03 : Fr (RdFr S g rb) w w3 := Fr.trans (Fr.any hK2) hF3 (fun i hi h => by
    rcases h with h | h | h
    · exact Or.inl fun hs => h (Or.inl hs)
    · omega
    · exact Or.inr (Or.inr h))
  have hS3 := HR.out.steps.kept hF03 K.nst
  have hR3 : RdAt w3 (fun k => S k ∨ k = w.heap.size ∨ k = w.heap.size + 1) n b p q g B fw rb bs (at_ + 24) fam wd tag seq body recs sum code done left told buf := ⟨hC3, hP3, hS3, hD3, hG3, HR.out.blen⟩
  have hlp := HR.out.forms.1.lt
  have hlq := HR.out.forms.2.lt
  have hz3 := hF3.size
  have hgt : headGood ((bs.drop at_).take 24) = headGood hd := by rw [hhd]
  have HF03 := Lib.hid hF03
  have HR3 := Lib.hid hR3
  have HA3 := Lib.hid hA3
  have HH3 := Lib.hid hH3
  have HHd := Lib.hid hhd
  have HS3 := Lib.hid hS3
  have HDl := Lib.hid hdl
  have HGt := Lib.hid hgt
  clear hF03 hR3 hA3 hH3 hhd hS3 hA2 hH2 hK2 hD2 hR2 hF3 hC3 hD3 hsp hG3 hP3 hdl hgt
  go_wp2_with fail
  refine (headOf_any (w.heap.size + 1) 0 24 (by omega) (by omega) hd 145 (by rw [HDl.out]; omega) _ HS3.out HA3.out).mono ?_
  rintro r w4 ⟨hk4, hh, rfl, hgood, hcl, hll⟩
  rewrite [List.drop_zero, List.take_of_length_le (by rw [HDl.out]; omega)] at hgood ⊢
  obtain ⟨k, sq, c, l, bd⟩ := hh
  dsimp only [headV] at hcl hll ⊢
  have hz4 := hk4.size
  have hH4 := hk4.blk HH3.out (fun h => h)
  have hR4 := HR3.out.keeps hk4
  have hF04 := HF03.out.keeps hk4
  have hc4 := hH4.cell
  have hf4 := hH4.free
  have hn1 : w.heap.size ≠ w4.heap.size := by omega
  have hn2 : w.heap.size < w4.heap.size := by omega
  have HG := Lib.hid hgood
  have HH4 := Lib.hid hH4
  have HR4 := Lib.hid hR4
  have HF04 := Lib.hid hF04
  have HCN := Lib.hid (fun (h : headGood hd = false) => chunk_bad_none (bs := bs) (B := B) (wd := wd) (at_ := at_) (seq := seq) (HGt.out.trans h))
  have HCM := Lib.hid (fun (h : headR hd = ⟨k, sq, c, l, bd⟩) (h2 : mayP wd seq ⟨k, sq, c, l, bd⟩ = false) => chunk_may_none (bs := bs) (B := B) (wd := wd) (at_ := at_) (seq := seq) (by rw [← HHd.out, h]; exact h2))
  generalize hgd' : headGood hd = gd at *
  have HGd := Lib.hid hgd'
  clear hgood hk4 hH4 hR4 hF04 hgd'
  have hN0 : ∀ k', k' = w.heap.size → (fun k => S k ∨ k = w.heap.size ∨ k = w.heap.size + 1) k' ∧ k' ≠ rb ∧ k' ≠ g ∧ k' ≠ p ∧ k' ≠ q ∧ k' ≠ 1 := fun k' e => by subst e; exact ⟨Or.inr (Or.inl rfl), by omega, by omega, by omega, by omega, by omega⟩
  have K3 := K.more (S' := fun k => S k ∨ k = w.heap.size ∨ k = w.heap.size + 1) (fun k h => Or.inl h)
  have HN0 := Lib.hid hN0
  clear hN0
  cases gd
  · go_upto_region 7 with fail
    have hH5 := HH4.out.alloc (.cells #[.int .u8 (k.toNat : Int), .int .u32 (sq : Int), .int .u32 (c : Int), .int .u32 (l : Int), .int .u32 (bd : Int)] 134)
    have hM5 : Blk (w4.alloc (.cells #[.int .u8 (k.toNat : Int), .int .u32 (sq : Int), .int .u32 (c : Int), .int .u32 (l : Int), .int .u32 (bd : Int)] 134)) w4.heap.size #[.int .u8 (k.toNat : Int), .int .u32 (sq : Int), .int .u32 (c : Int), .int .u32 (l : Int), .int .u32 (bd : Int)] 134 := Blk.new' rfl
    have hF05 := HF04.out.alloc (.cells #[.int .u8 (k.toNat : Int), .int .u32 (sq : Int), .int .u32 (c : Int), .int .u32 (l : Int), .int .u32 (bd : Int)] 134)
    have hR05 := HR4.out.keeps ((Fr.refl _ _).alloc (.cells #[.int .u8 (k.toNat : Int), .int .u32 (sq : Int), .int .u32 (c : Int), .int .u32 (l : Int), .int .u32 (bd : Int)] 134))
    generalize w4.alloc (.cells #[.int .u8 (k.toNat : Int), .int .u32 (sq : Int), .int .u32 (c : Int), .int .u32 (l : Int), .int .u32 (bd : Int)] 134) = w5 at *
    have hc05 := hH5.cell
    have hf05 := hH5.free
    have hm05 := hM5.cell
    go_wp2_with fail
    have hN5 := set5_self (v0 := .int .u8 (k.toNat : Int)) (v1 := .int .u32 (sq : Int)) (v2 := .int .u32 (c : Int)) (v3 := .int .u32 (l : Int)) (v4 := .int .u32 (bd : Int)) hH5
    have hc5 := hN5.cell
    have hF5 := set5_fr (v0 := .int .u8 (k.toNat : Int)) (v1 := .int .u32 (sq : Int)) (v2 := .int .u32 (c : Int)) (v3 := .int .u32 (l : Int)) (v4 := .int .u32 (bd : Int)) hF05 (Nat.le_refl _)
    have hR5 := hR05.stays K3 (set5_only (v0 := .int .u8 (k.toNat : Int)) (v1 := .int .u32 (sq : Int)) (v2 := .int .u32 (c : Int)) (v3 := .int .u32 (l : Int)) (v4 := .int .u32 (bd : Int))) (fun k' _ e => HN0.out k' e)
    refine bodyPost_ret (v := .tuple #[headV ⟨k, sq, c, l, bd⟩, .int .i64 61]) ?_ rfl ⟨hF5, ?_⟩
    · simp [results, Tryd.results64, hc5, go_sem, headV]
    · unfold ChunkTo
      rw [HCN.out trivial]
      exact ⟨⟨k, sq, c, l, bd⟩, 61, _, body, buf, rfl, by omega, by omega, hR5.less (fun k h => Or.inl h)⟩
  · go_wp2_with fail
    have hR4a := HR4.out.more (S' := fun k => S k ∨ k = w.heap.size ∨ k = w.heap.size + 1 ∨ k = w4.heap.size) ((Fr.refl _ _).alloc (.cells #[.int .u8 (k.toNat : Int), .int .u32 (sq : Int), .int .u32 (c : Int), .int .u32 (l : Int), .int .u32 (bd : Int)] 134)) (fun k h => by
      rcases h with h | h | h | h
      · exact Or.inl (Or.inl h)
      · exact Or.inl (Or.inr (Or.inl h))
      · exact Or.inl (Or.inr (Or.inr h))
      · right; rw [h, World.size_alloc]; omega)
    have K4 := K.more (S' := fun k => S k ∨ k = w.heap.size ∨ k = w.heap.size + 1 ∨ k = w4.heap.size) (fun k h => Or.inl h)
    have hM0 : ∀ k', k' = w.heap.size → (fun k => S k ∨ k = w.heap.size ∨ k = w.heap.size + 1 ∨ k = w4.heap.size) k' ∧ k' ≠ rb ∧ k' ≠ g ∧ k' ≠ p ∧ k' ≠ q ∧ k' ≠ 1 := fun k' e => by subst e; exact ⟨Or.inr (Or.inl rfl), by omega, by omega, by omega, by omega, by omega⟩
    have HM0 := Lib.hid hM0
    clear hM0
    refine (may_any b p q g B fw bs.length (at_ + 24) fam wd tag seq recs told rb body left sum code done ⟨k, sq, c, l, bd⟩ hwd hcl hll _ hR4a.cells).mono ?_
    rintro r w5 ⟨rfl, hk5⟩
    have hR5 := hR4a.keeps hk5
    have hH5 := hk5.blk (HH4.out.alloc (.cells #[.int .u8 (k.toNat : Int), .int .u32 (sq : Int), .int .u32 (c : Int), .int .u32 (l : Int), .int .u32 (bd : Int)] 134)) (fun h => h)
    have hM5 : Blk w5 w4.heap.size #[.int .u8 (k.toNat : Int), .int .u32 (sq : Int), .int .u32 (c : Int), .int .u32 (l : Int), .int .u32 (bd : Int)] 134 := hk5.blk (Blk.new' rfl) (fun h => h)
    have hF05 := (HF04.out.alloc (.cells #[.int .u8 (k.toNat : Int), .int .u32 (sq : Int), .int .u32 (c : Int), .int .u32 (l : Int), .int .u32 (bd : Int)] 134)).keeps hk5
    have hz5 := hk5.size
    simp only [World.size_alloc] at hz5
    have HR5 := Lib.hid hR5
    have HH5 := Lib.hid hH5
    have HM5 := Lib.hid hM5
    have HF05 := Lib.hid hF05
    have hc5 := hH5.cell
    have hf5 := hH5.free
    have hm5 := hM5.cell
    clear hR4a hR5 hH5 hM5 hF05 hc4 hf4 hk5
    cases hmay : mayP wd seq ⟨k, sq, c, l, bd⟩
    · go_wp2_with fail
      have hN6 := set5_self (v0 := .int .u8 (k.toNat : Int)) (v1 := .int .u32 (sq : Int)) (v2 := .int .u32 (c : Int)) (v3 := .int .u32 (l : Int)) (v4 := .int .u32 (bd : Int)) HH5.out
      have hc6 := hN6.cell
      have hF6 := set5_fr (v0 := .int .u8 (k.toNat : Int)) (v1 := .int .u32 (sq : Int)) (v2 := .int .u32 (c : Int)) (v3 := .int .u32 (l : Int)) (v4 := .int .u32 (bd : Int)) HF05.out (Nat.le_refl _)
      have hR6 := HR5.out.stays K4 (set5_only (v0 := .int .u8 (k.toNat : Int)) (v1 := .int .u32 (sq : Int)) (v2 := .int .u32 (c : Int)) (v3 := .int .u32 (l : Int)) (v4 := .int .u32 (bd : Int))) (fun k' _ e => HM0.out k' e)
      refine bodyPost_ret (v := .tuple #[headV ⟨k, sq, c, l, bd⟩, .int .i64 63]) ?_ rfl ⟨hF6, ?_⟩
      · simp [results, Tryd.results64, hc6, go_sem, headV]
      · unfold ChunkTo
        rw [HCM.out (HG.out trivial).symm hmay]
        exact ⟨⟨k, sq, c, l, bd⟩, 63, _, body, buf, rfl, by omega, by omega, hR6.less (fun k h => Or.inl h)⟩
    · have hl1 := may_pos hmay hwd0
      dsimp only at hl1
      have HMay := Lib.hid hmay
      have hhr : headR hd = ⟨k, sq, c, l, bd⟩ := (HG.out trivial).symm
      rewrite [HHd.out] at hhr
      have HHr := Lib.hid hhr
      have hr5 := HR5.out.cells.cell
      unfold rdCells at hr5
      have hlr5 := HR5.out.cells.lt
      clear hmay hhr
      by_cases hB : B < l
      · have hb1 : decide ((B : Int) < (l : Int)) = true := by simp; omega
        have hb2 : (B : Int) < (l : Int) := by omega
        have hcn := chunk_room_none (bs := bs) (B := B) (wd := wd) (at_ := at_) (seq := seq) (by rw [HHr.out]; exact hB)
        have HCX := Lib.hid hcn
        clear hcn hB
        go_wp2_with fail
        go_region
        have hR6 := HR5.out.keeps (Fr.refl _ _).drew
        have hH6 := HH5.out.drew
        have hM6 := HM5.out.drew
        have hF06 := HF05.out.drew
        have hz6 : w5.drew.heap.size = w5.heap.size := rfl
        generalize w5.drew = w6 at *
        have hc6 := hH6.cell
        have hf6 := hH6.free
        have hm6 := hM6.cell
        have hr6 := hR6.cells.cell
        have hrf6 := hR6.cells.free
        unfold rdCells at hr6
        clear hc5 hf5 hm5 hr5
        go_wp2_with fail
        have hN7 := set5_self (v0 := .int .u8 (k.toNat : Int)) (v1 := .int .u32 (sq : Int)) (v2 := .int .u32 (c : Int)) (v3 := .int .u32 (l : Int)) (v4 := .int .u32 (bd : Int)) hH6
        have hc7 := hN7.cell
        have hF7 := set5_fr (v0 := .int .u8 (k.toNat : Int)) (v1 := .int .u32 (sq : Int)) (v2 := .int .u32 (c : Int)) (v3 := .int .u32 (l : Int)) (v4 := .int .u32 (bd : Int)) hF06 (Nat.le_refl _)
        have hR7 := hR6.stays K4 (set5_only (v0 := .int .u8 (k.toNat : Int)) (v1 := .int .u32 (sq : Int)) (v2 := .int .u32 (c : Int)) (v3 := .int .u32 (l : Int)) (v4 := .int .u32 (bd : Int))) (fun k' _ e => HM0.out k' e)
        refine bodyPost_ret (v := .tuple #[headV ⟨k, sq, c, l, bd⟩, .int .i64 67]) ?_ rfl ⟨hF7, ?_⟩
        · simp [results, Tryd.results64, hc7, go_sem, headV]
        · unfold ChunkTo
          rw [HCX.out]
          exact ⟨⟨k, sq, c, l, bd⟩, 67, _, body, buf, rfl, by omega, by omega, hR7.less (fun k h => Or.inl h)⟩
      · have hb1 : decide ((B : Int) < (l : Int)) = false := by simp; omega
        have hb2 : ¬ ((B : Int) < (l : Int)) := by omega
        have hb3 : (l : Int) ≤ (B : Int) := by omega
        have hb4 : l ≤ B := by omega
        have HB := Lib.hid hB
        clear hB
        go_wp2_with fail
        go_region
        have hR6 := HR5.out.keeps (Fr.refl _ _).drew
        have hH6 := HH5.out.drew
        have hM6 := HM5.out.drew
        have hF06 := HF05.out.drew
        have hz6 : w5.drew.heap.size = w5.heap.size := rfl
        generalize w5.drew = w6 at *
        have hc6 := hH6.cell
        have hf6 := hH6.free
        have hm6 := hM6.cell
        have hr6 := hR6.cells.cell
        have hrf6 := hR6.cells.free
        unfold rdCells at hr6
        clear hc5 hf5 hm5 hr5
        have HR6 := Lib.hid hR6
        have HH6 := Lib.hid hH6
        have HM6 := Lib.hid hM6
        have HF06 := Lib.hid hF06
        clear hR6 hH6 hM6 hF06
        go_wp2_with fail
        refine region_tail 12 (by kernel_rfl) (by kernel_rfl) ?_
        simp only [List.take_succ_cons, List.take_zero, List.drop_succ_cons, List.drop_zero]
        repeat still_step
        refine wpStill_nil ?_
        go_wp2_with fail
        have hbl : buf.length = B := HR6.out.blen
        have hF67 : Fr (· = rb) w6 (w6.setCell ⟨rb, 9, none⟩ (.slice (some ⟨g, 0, none⟩) l l)).drew := (Fr.setEq (Fr.refl (· = rb) w6) _).drew
        have hC7 : Blk (w6.setCell ⟨rb, 9, none⟩ (.slice (some ⟨g, 0, none⟩) l l)).drew rb (rdCells b p q g B fw bs.length (at_ + 24) fam wd tag seq (.slice (some ⟨g, 0, none⟩) l l) recs sum code done left told) 106 := (HR6.out.cells.set 9 (.slice (some ⟨g, 0, none⟩) l l)).drew
        have hR7 := HR6.out.own K4 hF67 hC7
        have hM7 := hF67.blk HM6.out (fun e => by omega)
        have hH7 := hF67.blk HH6.out (fun e => by omega)
        have hF07 : Fr (RdFr S g rb) w (w6.setCell ⟨rb, 9, none⟩ (.slice (some ⟨g, 0, none⟩) l l)).drew := HF06.out.then (hF67.mono fun k' _ e => Or.inr (Or.inr e))
        have hz7 := hF67.size
        generalize (w6.setCell ⟨rb, 9, none⟩ (.slice (some ⟨g, 0, none⟩) l l)).drew = w7 at *
        clear hc6 hf6 hm6 hr6 hrf6 hF67 hC7
        by_cases hT : bs.length < at_ + 24 + l
        · have hcn := chunk_short_none (bs := bs) (B := B) (wd := wd) (at_ := at_) (seq := seq) (by rw [HHr.out]; exact hT)
          have HCX := Lib.hid hcn
          clear hcn
          refine (fill_torn b p q g B fw bs.length (at_ + 24) fam wd tag seq recs told rb (.slice (some ⟨g, 0, none⟩) l l) left sum code done _ l l hsl (by omega) (by omega) (by omega) _ hR7.cells).mono ?_
          rintro r w8 ⟨rfl, hk8⟩
          have hR8 := hR7.keeps hk8
          have hH8 := hk8.blk hH7 (fun h => h)
          have hM8 := hk8.blk hM7 (fun h => h)
          have hF08 := hF07.keeps hk8
          have hc8 := hH8.cell
          have hf8 := hH8.free
          have hm8 := hM8.cell
          have hz8 := hk8.size
          clear hk8 hT
          go_wp2_with fail
          have hN9 := set5_self (v0 := .int .u8 (k.toNat : Int)) (v1 := .int .u32 (sq : Int)) (v2 := .int .u32 (c : Int)) (v3 := .int .u32 (l : Int)) (v4 := .int .u32 (bd : Int)) hH8
          have hc9 := hN9.cell
          have hF9 := set5_fr (v0 := .int .u8 (k.toNat : Int)) (v1 := .int .u32 (sq : Int)) (v2 := .int .u32 (c : Int)) (v3 := .int .u32 (l : Int)) (v4 := .int .u32 (bd : Int)) hF08 (Nat.le_refl _)
          have hR9 := hR8.stays K4 (set5_only (v0 := .int .u8 (k.toNat : Int)) (v1 := .int .u32 (sq : Int)) (v2 := .int .u32 (c : Int)) (v3 := .int .u32 (l : Int)) (v4 := .int .u32 (bd : Int))) (fun k' _ e => HM0.out k' e)
          refine bodyPost_ret (v := .tuple #[headV ⟨k, sq, c, l, bd⟩, .int .i64 60]) ?_ rfl ⟨hF9, ?_⟩
          · simp [results, Tryd.results64, hc9, go_sem, headV]
          · unfold ChunkTo
            rw [HCX.out]
            exact ⟨⟨k, sq, c, l, bd⟩, 60, _, _, buf, rfl, by omega, by omega, hR9.less (fun k h => Or.inl h)⟩
        · obtain ⟨bd', hbd'⟩ : ∃ bd', bd' = (bs.drop (at_ + 24)).take l := ⟨_, rfl⟩
          have hbdl : bd'.length = l := by rw [hbd', List.length_take, List.length_drop]; omega
          refine (fill_ok (fun k => S k ∨ k = w.heap.size ∨ k = w.heap.size + 1 ∨ k = w4.heap.size) n b p q g B fw bs.length (at_ + 24) fam wd tag seq recs told rb (.slice (some ⟨g, 0, none⟩) l l) left sum code done g 0 l l bs buf 5 hl1 rfl hsl (by omega) (by omega) (by rw [hbl]; omega) (Or.inl K.sg) (Or.inl K.sr) hR7.ne w7 hR7.cells hR7.mem hR7.disk).mono ?_
          rintro r w8 ⟨rfl, hF8, hC8, hG8, hD8⟩
          rewrite [← hbd'] at hG8
          have hH8 := hF8.blk hH7 (fun h => by rcases h with h | h | h; exact h (Or.inr (Or.inl rfl)); omega; omega)
          have hM8 := hF8.blk hM7 (fun h => by rcases h with h | h | h; exact h (Or.inr (Or.inr (Or.inr rfl))); omega; omega)
          have hP8 : FormBoxes w8 p q := by
            have hn := hR7.nforms K4
            exact ⟨hF8.blk hR7.forms.1 hn.1, hF8.blk hR7.forms.2 hn.2⟩
          have hS8 := hR7.steps.kept hF8 K4.nst
          have hbl8 : (splB buf 0 bd').length = B := by rw [splB_length (by rw [hbdl, hbl]; omega), hbl]
          have hR8 : RdAt w8 (fun k => S k ∨ k = w.heap.size ∨ k = w.heap.size + 1 ∨ k = w4.heap.size) n b p q g B fw rb bs (at_ + 24 + l) fam wd tag seq (.slice (some ⟨g, 0, none⟩) l l) recs sum code done left told (splB buf 0 bd') := ⟨hC8, hP8, hS8, hD8, hG8, hbl8⟩
          have hF08 : Fr (RdFr S g rb) w w8 := Fr.trans hF07 hF8 (fun i hi h => by
            rcases h with h | h | h
            · exact Or.inl fun hs => h (Or.inl hs)
            · exact Or.inr (Or.inl h)
            · exact Or.inr (Or.inr h))
          have hcrcb : ((bytesA (splB buf 0 bd')).toList.drop 0).take l = bd'.map bv := by
            have := crc_bytes (bs := buf) (o := 0) (l := bd') (by rw [hbdl, hbl]; omega)
            rw [hbdl] at this
            exact this
          have hz8 := hF8.size
          have hlr8 := hC8.lt
          have HR8 := Lib.hid hR8
          have HH8 := Lib.hid hH8
          have HM8 := Lib.hid hM8
          have HF08 := Lib.hid hF08
          have HCB := Lib.hid hcrcb
          have HBd := Lib.hid hbd'
          have HBl := Lib.hid hbdl
          have HT := Lib.hid hT
          clear hF8 hC8 hG8 hD8 hR8 hH8 hM8 hF08 hcrcb hbd' hbdl hT hP8 hS8 hbl8 hR7 hH7 hM7 hF07
          go_wp2_with fail
          have hx9 : w8.drew.cell? ⟨rb, 9, none⟩ = some (.slice (some ⟨g, 0, none⟩) l l) := HR8.out.cells.drew.cell 9
          have hx4 : w8.drew.cell? ⟨w4.heap.size, 4, none⟩ = some (.int .u32 (bd : Int)) := HM8.out.drew.cell 4
          have hy9 : (w8.alloc (.cells #[.slice (some ⟨g, 0, none⟩) l l] 27)).drew.cell? ⟨rb, 9, none⟩ = some (.slice (some ⟨g, 0, none⟩) l l) := (HR8.out.cells.alloc _).drew.cell 9
          have hy4 : (w8.alloc (.cells #[.slice (some ⟨g, 0, none⟩) l l] 27)).drew.cell? ⟨w4.heap.size, 4, none⟩ = some (.int .u32 (bd : Int)) := (HM8.out.alloc _).drew.cell 4
          go_region_held3 (fun w' => w'.cell? ⟨rb, 9, none⟩ = some (.slice (some ⟨g, 0, none⟩) l l) ∧ w'.cell? ⟨w4.heap.size, 4, none⟩ = some (.int .u32 (bd : Int)))
            (((try dsimp only); first | with_reducible exact ⟨hx9, hx4⟩ | with_reducible exact ⟨hy9, hy4⟩ | exact ⟨hR9.cells.cell 9, hM9.cell 4⟩ | fail))
            (((go_at_call 69); (go_must (refine (crc_len g 0 l l bd' HBl.out (bytesA (splB buf 0 bd')) 5 HCB.out (by omega) _ _ ?_ ?_ ?_).mono ?_)); (· exact HR8.out.steps.kept ((Fr.refl (fun _ => False) w8).alloc _).drew (fun h => h)); (· exact (HR8.out.mem.alloc _).drew); (· exact Blk.drew (Blk.new' rfl)); (rintro r w9 ⟨rfl, hk9⟩); (have hR9 := (HR8.out.keeps ((Fr.refl _ _).alloc _).drew).keeps hk9); (have hM9 := hk9.blk (HM8.out.alloc _).drew (fun h => h)); (have hH9 := hk9.blk (HH8.out.alloc _).drew (fun h => h)); (have hF09 := (HF08.out.alloc _).drew.keeps hk9)))
          have hc9 := hH9.cell
          have hf9 := hH9.free
          have hm9 := hM9.cell
          have hr9 := hR9.cells.cell
          have hrf9 := hR9.cells.free
          unfold rdCells at hr9
          have hz9 := hR9.cells.lt
          have HR9 := Lib.hid hR9
          have HH9 := Lib.hid hH9
          have HM9 := Lib.hid hM9
          have HF09 := Lib.hid hF09
          have hzz := hk9.size
          simp only [World.size_drew, World.size_alloc] at hzz
          clear hR9 hH9 hM9 hF09 hk9 hx9 hx4 hy9 hy4
          by_cases hcrc : (crc bd').toNat = bd
          · have hb5 : (((crc bd').toNat : Int) != (bd : Int)) = false := by rw [bne_eq_false_iff_eq]; omega
            have hw5 : IntKind.u32.wrap ((seq : Int) + 1) = (seq : Int) + 1 := IntWalk.u32_in _ (by omega)
            have hcn := chunk_good (bs := bs) (B := B) (wd := wd) (at_ := at_) (seq := seq) (by omega) (by rw [← HHd.out]; exact HGd.out) (by rw [HHr.out]; exact HMay.out) (by rw [HHr.out]; exact hb4) (by rw [HHr.out]; have := HT.out; dsimp only; omega) (by rw [HHr.out]; dsimp only; rw [← HBd.out]; exact hcrc)
            rw [HHr.out] at hcn
            dsimp only at hcn
            rw [← HBd.out] at hcn
            have HCX := Lib.hid hcn
            clear hcn hcrc
            go_upto_region 19 with fail
            have hF10 : Fr (· = rb) w9 (w9.setCell ⟨rb, 8, none⟩ (.int .u32 ((seq : Int) + 1))) := Fr.setEq (Fr.refl (· = rb) w9) _
            have hC10 : Blk (w9.setCell ⟨rb, 8, none⟩ (.int .u32 ((seq : Int) + 1))) rb (rdCells b p q g B fw bs.length (at_ + 24 + l) fam wd tag (seq + 1) (.slice (some ⟨g, 0, none⟩) l l) recs sum code done left told) 106 := HR9.out.cells.set 8 (.int .u32 ((seq : Int) + 1))
            have hR10 := HR9.out.own K4 hF10 hC10
            have hM10 := hF10.blk HM9.out (fun e => by omega)
            have hH10 := hF10.blk HH9.out (fun e => by omega)
            have hF010 : Fr (RdFr S g rb) w (w9.setCell ⟨rb, 8, none⟩ (.int .u32 ((seq : Int) + 1))) := HF09.out.then (hF10.mono fun k' _ e => Or.inr (Or.inr e))
            generalize w9.setCell ⟨rb, 8, none⟩ (.int .u32 ((seq : Int) + 1)) = w10 at *
            have hc10 := hH10.cell
            have hf10 := hH10.free
            have hm10 := hM10.cell
            clear hc9 hf9 hm9 hr9 hrf9
            go_wp2_with fail
            have hN11 := set5_self (v0 := .int .u8 (k.toNat : Int)) (v1 := .int .u32 (sq : Int)) (v2 := .int .u32 (c : Int)) (v3 := .int .u32 (l : Int)) (v4 := .int .u32 (bd : Int)) hH10
            have hc11 := hN11.cell
            have hF11 := set5_fr (v0 := .int .u8 (k.toNat : Int)) (v1 := .int .u32 (sq : Int)) (v2 := .int .u32 (c : Int)) (v3 := .int .u32 (l : Int)) (v4 := .int .u32 (bd : Int)) hF010 (Nat.le_refl _)
            have hR11 := hR10.stays K4 (set5_only (v0 := .int .u8 (k.toNat : Int)) (v1 := .int .u32 (sq : Int)) (v2 := .int .u32 (c : Int)) (v3 := .int .u32 (l : Int)) (v4 := .int .u32 (bd : Int))) (fun k' _ e => HM0.out k' e)
            refine bodyPost_ret (v := .tuple #[headV ⟨k, sq, c, l, bd⟩, .int .i64 0]) ?_ rfl ⟨hF11, ?_⟩
            · simp [results, Tryd.results64, hc11, go_sem, headV]
            · unfold ChunkTo
              rw [HCX.out]
              dsimp only
              rw [HBl.out]
              refine ⟨⟨k, sq, c, l, bd⟩, _, rfl, rfl, rfl, hR11.less (fun k h => Or.inl h), ?_⟩
              unfold splB
              rw [List.take_zero, List.nil_append]
              exact List.take_left' HBl.out
          · have hb5 : (((crc bd').toNat : Int) != (bd : Int)) = true := by rw [bne_iff_ne]; omega
            have hcn := chunk_body_none (bs := bs) (B := B) (wd := wd) (at_ := at_) (seq := seq) (by rw [HHr.out]; dsimp only; rw [← HBd.out]; exact hcrc)
            have HCX := Lib.hid hcn
            clear hcn hcrc
            go_wp2_with fail
            have hN11 := set5_self (v0 := .int .u8 (k.toNat : Int)) (v1 := .int .u32 (sq : Int)) (v2 := .int .u32 (c : Int)) (v3 := .int .u32 (l : Int)) (v4 := .int .u32 (bd : Int)) HH9.out
            have hc11 := hN11.cell
            have hF11 := set5_fr (v0 := .int .u8 (k.toNat : Int)) (v1 := .int .u32 (sq : Int)) (v2 := .int .u32 (c : Int)) (v3 := .int .u32 (l : Int)) (v4 := .int .u32 (bd : Int)) HF09.out (Nat.le_refl _)
            have hR11 := HR9.out.stays K4 (set5_only (v0 := .int .u8 (k.toNat : Int)) (v1 := .int .u32 (sq : Int)) (v2 := .int .u32 (c : Int)) (v3 := .int .u32 (l : Int)) (v4 := .int .u32 (bd : Int))) (fun k' _ e => HM0.out k' e)
            refine bodyPost_ret (v := .tuple #[headV ⟨k, sq, c, l, bd⟩, .int .i64 62]) ?_ rfl ⟨hF11, ?_⟩
            · simp [results, Tryd.results64, hc11, go_sem, headV]
            · unfold ChunkTo
              rw [HCX.out]
              exact ⟨⟨k, sq, c, l, bd⟩, 62, _, _, _, rfl, by omega, by omega, hR11.less (fun k h => Or.inl h)⟩

/-- Reading a chunk. -/
theorem rchunk_any (S : Nat → Prop) (n b p q g B fw rb : Nat) (K : RdK S g rb p q B fw) (bs : List UInt8) (at_ fam wd tag seq recs told : Nat) (body left : Value) (sum : BitVec 32) (code : Int) (done : Bool) (buf : List UInt8) (hsl : bs.length ≤ 1099511627776) (hwd : wd ≤ 65535) (hwd0 : seq ≠ 0 → 1 ≤ wd) (hseq : seq < 4294967295) (hat : at_ ≤ bs.length) (w : World)
    (hR : RdAt w S n b p q g B fw rb bs at_ fam wd tag seq body recs sum code done left told buf) :
    Calls Tryd.prog 64 #[.pointer (some ⟨rb, 0, none⟩)] w fun r w' => Fr (RdFr S g rb) w w' ∧ ChunkTo S n b p q g B fw rb bs at_ fam wd tag seq recs sum code done left told r w' := by
  by_cases h : bs.length < at_ + 24
  · exact rchunk_torn S n b p q g B fw rb K bs at_ fam wd tag seq recs told body left sum code done buf hsl hat h w hR
  · exact rchunk_more S n b p q g B fw rb K bs at_ fam wd tag seq recs told body left sum code done buf hsl hwd hwd0 hseq (by omega) w hR
end Go.Proofs.YtcefockebphbaaaDoor

namespace Go.Proofs.YtcefockebphbaaaDoor
open Go Go.RowKit Sluice

/-- What begin comes to. -/
def BeginTo (S : Nat → Prop) (n b p q g B fw rb : Nat) (bs : List UInt8) (r : Ending) (w' : World) : Prop :=
  match chunkR bs B 0 0 0 with
  | none => ∃ e : Int, r = .returned (.int .i64 e) ∧ 1 ≤ e ∧ e ≤ 100
  | some (_, _, bd) =>
    if 1 ≤ ofLe (bd.take 2) ∧ ofLe (bd.take 2) ≤ 255 ∧ 1 ≤ ofLe ((bd.drop 2).take 2) ∧ ofLe ((bd.drop 2).take 2) ≤ 256 then
      r = .returned (.int .i64 0) ∧ ∃ buf, RdAt w' S n b p q g B fw rb bs 36 (ofLe (bd.take 2)) (ofLe ((bd.drop 2).take 2)) (ofLe ((bd.drop 4).take 8)) 1 (.slice (some ⟨g, 0, none⟩) 12 12) 0 0 0 false (.slice none 0 0) 0 buf
    else r = .returned (.int .i64 64)

theorem first_len {bs : List UInt8} {B : Nat} {k : UInt8} {c : Nat} {bd : List UInt8} (h : chunkR bs B 0 0 0 = some (k, c, bd)) : bd.length = 12 := by
  obtain ⟨-, h2, -, -, -, -, -, -, h9⟩ := chunkR_some h
  rw [h9]
  unfold mayP at h2
  simp only [if_true, Bool.and_eq_true, beq_iff_eq] at h2
  exact h2.2.2
theorem take12 {buf bd : List UInt8} (h : buf.take 12 = bd) {a m : Nat} (ham : a + m ≤ 12) : (buf.drop a).take m = (bd.drop a).take m := by
  rw [← h, List.drop_take, List.take_take, Nat.min_eq_left (by omega)]
attribute [local irreducible] ChunkTo chunkR headGood headR crc regs mayP BeginTo
set_option maxHeartbeats 16000000 in
set_option maxRecDepth 100000 in
theorem rbegin_any (S : Nat → Prop) (n b p q g B fw rb : Nat) (K : RdK S g rb p q B fw) (bs : List UInt8) (buf : List UInt8) (hbl : buf.length = B) (hsl : bs.length ≤ 1099511627776) (w : World)
    (hR : Blk w rb (rdCells b p q g B fw 0 0 0 0 0 0 (.slice none 0 0) 0 0 0 false (.slice none 0 0) 0) 106) (hF : FormBoxes w p q) (hS : Steps w) (hD : DiskAt w b n (some bs) S) (hG : Blk w g (bytesA buf) 5) :
    Calls Tryd.prog 44 #[.pointer (some ⟨rb, 0, none⟩)] w fun r w' => Fr (RdFr S g rb) w w' ∧ BeginTo S n b p q g B fw rb bs r w' := by
  have hne := Blk.ne hR hG (by decide)
  have hnp : p ≠ rb := Blk.ne hF.1 hR (by decide)
  have hnq : q ≠ rb := Blk.ne hF.2 hR (by decide)
  have HR := Lib.hid hR
  have HF := Lib.hid hF
  have HS := Lib.hid hS
  have HD := Lib.hid hD
  have HG := Lib.hid hG
  have hx0 : w.drew.cell? ⟨rb, 0, none⟩ = some (.iface 29 (.pointer (some ⟨b, 0, none⟩))) := hR.drew.cell 0
  have hx1 : w.drew.cell? ⟨rb, 1, none⟩ = some (.string nameF) := hR.drew.cell 1
  clear hR hF hS hD hG
  go_enter Tryd.func44, Tryd.ntmps44
  go_wp2_with fail
  go_region_held3 (fun w' => w'.cell? ⟨rb, 0, none⟩ = some (.iface 29 (.pointer (some ⟨b, 0, none⟩))) ∧ w'.cell? ⟨rb, 1, none⟩ = some (.string nameF))
    (((try dsimp only); first | with_reducible exact ⟨hx0, hx1⟩ | exact ⟨hR2.cell 0, hR2.cell 1⟩ | exact ⟨hR1.cell 0, hR1.cell 1⟩ | fail))
    (((go_at_call 10); (go_must (refine (size_one HD.out.drew).mono ?_)); (rintro r w1 ⟨rfl, hD1, hF1⟩); (have hR1 := hF1.blk HR.out.drew (fun h => h K.sr)); (have hf1 := hR1.free); (have hc1 := hR1.cell); (unfold rdCells at hc1); (have hR2 := hR1.set 2 (.int .i64 (bs.length : Int)))))
  have hF2 : Fr (RdFr S g rb) w (w1.setCell ⟨rb, 2, none⟩ (.int .i64 (bs.length : Int))) := Fr.setIn ((Fr.refl (RdFr S g rb) w).drew.then (hF1.mono fun k _ e => Or.inl e)) (Or.inr (Or.inr rfl)) _
  have hR3 : RdAt (w1.setCell ⟨rb, 2, none⟩ (.int .i64 (bs.length : Int))) S n b p q g B fw rb bs 0 0 0 0 0 (.slice none 0 0) 0 0 0 false (.slice none 0 0) 0 buf := by
    have hnp2 : ¬ RdFr S g rb p := fun h => h.elim (fun h => h K.sp) (fun h => h.elim (fun e => (Blk.ne HF.out.1 HG.out (by decide)) e) hnp)
    have hnq2 : ¬ RdFr S g rb q := fun h => h.elim (fun h => h K.sq) (fun h => h.elim (fun e => (Blk.ne HF.out.2 HG.out (by decide)) e) hnq)
    refine ⟨hR2, ⟨hF2.blk HF.out.1 hnp2, hF2.blk HF.out.2 hnq2⟩, HS.out.kept hF2 K.nst, hD1.stays (Fr.setEq (Fr.refl (· = rb) _) _) (fun k _ e => by rw [e]; exact K.sr), ?_, hbl⟩
    exact (Fr.setEq (Fr.refl (· = rb) _) _).blk (hF1.blk HG.out.drew (fun h => h K.sg)) (fun e => hne e.symm)
  generalize w1.setCell ⟨rb, 2, none⟩ (.int .i64 (bs.length : Int)) = w2 at *
  have HF2 := Lib.hid hF2
  clear hF2 hR2 hR1 hf1 hc1 hD1 hF1 hx0 hx1
  go_wp2_with fail
  refine (rchunk_any S n b p q g B fw rb K bs 0 0 0 0 0 0 0 (.slice none 0 0) (.slice none 0 0) 0 0 false buf hsl (by omega) (fun h => absurd rfl h) (by omega) (by omega) w2 hR3).mono ?_
  rintro r w3 ⟨hF3, hT⟩
  have hF03 := HF2.out.then hF3
  have HF03 := Lib.hid hF03
  unfold ChunkTo at hT
  clear hF3 hF03 hR3
  cases hch : chunkR bs B 0 0 0 with
  | none =>
    rewrite [hch] at hT
    obtain ⟨h, e, a2, bd, bf, rfl, he1, he2, hR4⟩ := hT
    dsimp only [headV]
    have hb : ((e : Int) != 0) = true := by rw [bne_iff_ne]; omega
    have HCh := Lib.hid hch
    clear hch hR4
    go_wp2_with fail
    go_ret
    refine ⟨HF03.out, ?_⟩
    unfold BeginTo
    rw [HCh.out]
    exact ⟨e, rfl, he1, he2⟩
  | some x =>
    obtain ⟨kd, cn, bd⟩ := x
    rewrite [hch] at hT
    obtain ⟨h, buf3, rfl, -, -, hR4, htk⟩ := hT
    have hl := first_len hch
    rewrite [hl] at hR4 htk
    dsimp only [headV]
    have t1 : (buf3.drop 0).take 2 = bd.take 2 := by rw [take12 htk (by omega)]; rfl
    have t2 := take12 htk (a := 2) (m := 2) (by omega)
    have t3 := take12 htk (a := 4) (m := 8) (by omega)
    have hr4 := hR4.cells.cell
    have hrf4 := hR4.cells.free
    unfold rdCells at hr4
    have HCh := Lib.hid hch
    have HR4 := Lib.hid hR4
    have HT1 := Lib.hid t1
    have HT2 := Lib.hid t2
    have HT3 := Lib.hid t3
    clear hch hR4 t1 t2 t3 htk hl
    go_wp2_with fail
    refine (titleOf_any g 0 12 (by omega) (by omega) buf3 _ (by rw [HR4.out.blen]; have := K.b1; omega) _ HR4.out.mem).mono ?_
    rintro r w4 ⟨rfl, hk4⟩
    rewrite [HT1.out, Nat.zero_add, Nat.zero_add, HT2.out, HT3.out]
    have hR5 := HR4.out.keeps hk4
    have hF04 := HF03.out.keeps hk4
    have hr5 := hR5.cells.cell
    have hrf5 := hR5.cells.free
    unfold rdCells at hr5
    have HR5 := Lib.hid hR5
    have HF04 := Lib.hid hF04
    clear hk4 hR5 hF04 hr4 hrf4
    have hofw : ofLe ((bd.drop 2).take 2) < 65536 := by
      have h1 := ofLe_lt ((bd.drop 2).take 2)
      have h2 : 256 ^ ((bd.drop 2).take 2).length ≤ 256 ^ 2 := Nat.pow_le_pow_right (by omega) (by rw [List.length_take]; omega)
      have h3 : 256 ^ 2 = 65536 := by decide
      omega
    unfold titleV
    generalize hfv : ofLe (bd.take 2) = fv at *
    generalize hwv : ofLe ((bd.drop 2).take 2) = wv at *
    generalize htv : ofLe ((bd.drop 4).take 8) = tv at *
    have HFV := Lib.hid hfv
    have HWV := Lib.hid hwv
    have HTV := Lib.hid htv
    clear hfv hwv htv
    go_upto_region 8 with fail
    have hF5 : Fr (· = rb) w4 (((w4.setCell ⟨rb, 5, none⟩ (.int .i64 (fv : Int))).setCell ⟨rb, 6, none⟩ (.int .i64 (wv : Int))).setCell ⟨rb, 7, none⟩ (.int .u64 (tv : Int))) := Fr.setEq (Fr.setEq (Fr.setEq (Fr.refl (· = rb) w4) _) _) _
    have hC5 : Blk (((w4.setCell ⟨rb, 5, none⟩ (.int .i64 (fv : Int))).setCell ⟨rb, 6, none⟩ (.int .i64 (wv : Int))).setCell ⟨rb, 7, none⟩ (.int .u64 (tv : Int))) rb (rdCells b p q g B fw bs.length 36 fv wv tv 1 (.slice (some ⟨g, 0, none⟩) 12 12) 0 0 0 false (.slice none 0 0) 0) 106 := ((HR5.out.cells.set 5 (.int .i64 (fv : Int))).set 6 (.int .i64 (wv : Int))).set 7 (.int .u64 (tv : Int))
    have hR6 := HR5.out.own K hF5 hC5
    have hF06 : Fr (RdFr S g rb) w (((w4.setCell ⟨rb, 5, none⟩ (.int .i64 (fv : Int))).setCell ⟨rb, 6, none⟩ (.int .i64 (wv : Int))).setCell ⟨rb, 7, none⟩ (.int .u64 (tv : Int))) := HF04.out.then (hF5.mono fun k' _ e => Or.inr (Or.inr e))
    generalize ((w4.setCell ⟨rb, 5, none⟩ (.int .i64 (fv : Int))).setCell ⟨rb, 6, none⟩ (.int .i64 (wv : Int))).setCell ⟨rb, 7, none⟩ (.int .u64 (tv : Int)) = w5 at *
    have hr6 := hR6.cells.cell
    unfold rdCells at hr6
    have htd := titled_any (fv : Int) (wv : Int) (tv : Int)
    have HR6 := Lib.hid hR6
    have HF06 := Lib.hid hF06
    clear hF5 hC5 hR6 hF06 hr5 hrf5
    by_cases ht : 1 ≤ fv ∧ fv ≤ 255 ∧ 1 ≤ wv ∧ wv ≤ 256
    · have hdt : decide ((1 : Int) ≤ (fv : Int) ∧ (fv : Int) ≤ 255 ∧ 1 ≤ (wv : Int) ∧ (wv : Int) ≤ 256) = true := by rw [decide_eq_true_eq]; omega
      rewrite [hdt] at htd
      unfold titleV at htd
      have HTD := Lib.hid htd
      have HT := Lib.hid ht
      clear htd ht hdt
      go_wp2_with (go_at_call 63; refine (HTD.out _).mono ?_; rintro r w6 ⟨rfl, hk6⟩)
      go_ret
      refine ⟨HF06.out.keeps hk6, ?_⟩
      unfold BeginTo
      rw [HCh.out]
      dsimp only
      rw [HFV.out, HWV.out, HTV.out, if_pos HT.out]
      exact ⟨rfl, _, HR6.out.keeps hk6⟩
    · have hdt : decide ((1 : Int) ≤ (fv : Int) ∧ (fv : Int) ≤ 255 ∧ 1 ≤ (wv : Int) ∧ (wv : Int) ≤ 256) = false := by rw [decide_eq_false_iff_not]; omega
      rewrite [hdt] at htd
      unfold titleV at htd
      have HTD := Lib.hid htd
      have HT := Lib.hid ht
      clear htd ht hdt
      go_wp2_with (go_at_call 63; refine (HTD.out _).mono ?_; rintro r w6 ⟨rfl, hk6⟩)
      go_ret
      refine ⟨HF06.out.keeps hk6, ?_⟩
      unfold BeginTo
      rw [HCh.out]
      dsimp only
      rewrite [HFV.out, HWV.out, if_neg HT.out]
      rfl
end Go.Proofs.YtcefockebphbaaaDoor

namespace Go.Proofs.YtcefockebphbaaaDoor
open Go Go.RowKit Sluice

theorem rdone_any (b p q g B fw size at_ fam wd tag seq recs told rb : Nat) (body left : Value) (sum : BitVec 32) (code : Int) (done : Bool) (w : World) (hR : Blk w rb (rdCells b p q g B fw size at_ fam wd tag seq body recs sum code done left told) 106) :
    Calls Tryd.prog 17 #[.pointer (some ⟨rb, 0, none⟩)] w fun r w' => r = .returned (.bool done) ∧ w = w' := by
  have hc := hR.cell
  unfold rdCells at hc
  go_enter Tryd.func17, Tryd.ntmps17
  go_wp2
  go_ret
  exact ⟨rfl, rfl⟩
theorem rcode_any (b p q g B fw size at_ fam wd tag seq recs told rb : Nat) (body left : Value) (sum : BitVec 32) (code : Int) (done : Bool) (w : World) (hR : Blk w rb (rdCells b p q g B fw size at_ fam wd tag seq body recs sum code done left told) 106) :
    Calls Tryd.prog 22 #[.pointer (some ⟨rb, 0, none⟩)] w fun r w' => r = .returned (.int .i64 code) ∧ w = w' := by
  have hc := hR.cell
  unfold rdCells at hc
  go_enter Tryd.func22, Tryd.ntmps22
  go_wp2
  go_ret
  exact ⟨rfl, rfl⟩

theorem title_fields : (Tryd.prog.fieldsOf 53).toList.map (fun f => (f.name, f.type, f.offset)) = [("Family", 3, 0), ("Width", 3, 1), ("Tag", 22, 2)] := by kernel_rfl
theorem neq_title (a b c a' b' c' : Int) (w : World) : (binOp .neq 53 (.agg #[.int .i64 a, .int .i64 b, .int .u64 c]) (.agg #[.int .i64 a', .int .i64 b', .int .u64 c'])).run Tryd.prog w = .ok (.bool (!(a == a' && b == b' && c == c'))) w := by
  have hi := Tryd.underlying3
  have hu := Tryd.underlying22
  rw [run_neq_struct, run_equalIn_struct w 9999 53 _ _ (by kernel_rfl) (by kernel_rfl)]
  have hf := title_fields
  generalize (Tryd.prog.fieldsOf 53).toList = L at hf
  rcases L with _ | ⟨f1, _ | ⟨f2, _ | ⟨f3, _ | ⟨f4, l⟩⟩⟩⟩
  case nil => simp at hf
  case cons.nil => simp at hf
  case cons.cons.nil => simp at hf
  case cons.cons.cons.cons => simp at hf
  simp only [List.map_cons, List.map_nil, List.cons.injEq, Prod.mk.injEq, and_true] at hf
  obtain ⟨⟨n1, t1, o1⟩, ⟨n2, t2, o2⟩, ⟨n3, t3, o3⟩⟩ := hf
  simp only [Op.eqFields, n1, t1, o1, n2, t2, o2, n3, t3, o3]
  go_simp
  by_cases h1 : a = a' <;> by_cases h2 : b = b' <;> by_cases h3 : c = c' <;> simp [h1, h2, h3]
/-- What an Open comes to. -/
def OpenTo (S : Nat → Prop) (n b p q g B fw tag : Nat) (bs : List UInt8) (w : World) (r : Ending) (w' : World) : Prop :=
  Fr (fun k => ¬ S k ∨ k = g) w w' ∧
    if openR bs B fw tag = true then ∃ rb buf, r = .returned (.tuple #[.pointer (some ⟨rb, 0, none⟩), .int .i64 0]) ∧ w.heap.size ≤ rb ∧
      RdAt w' (fun k => S k ∨ k = rb) n b p q g B fw rb bs 36 3 fw tag 1 (.slice (some ⟨g, 0, none⟩) 12 12) 0 0 0 false (.slice none 0 0) 0 buf
    else ∃ e : Int, r = .returned (.tuple #[.pointer none, .int .i64 e]) ∧ 1 ≤ e ∧ e ≤ 100
theorem open_none {bs : List UInt8} {B wd tag : Nat} (h : chunkR bs B 0 0 0 = none) : openR bs B wd tag = false := by unfold openR; rw [h]
theorem open_some {bs : List UInt8} {B wd tag : Nat} {k : UInt8} {c : Nat} {bd : List UInt8} (h : chunkR bs B 0 0 0 = some (k, c, bd)) : openR bs B wd tag = true ↔ ofLe (bd.take 2) = 3 ∧ ofLe ((bd.drop 2).take 2) = wd ∧ ofLe ((bd.drop 4).take 8) = tag := by
  unfold openR; rw [h]; simp [and_assoc]
attribute [local irreducible] ChunkTo chunkR headGood headR crc regs mayP BeginTo OpenTo openR

set_option maxHeartbeats 16000000 in
set_option maxRecDepth 100000 in
theorem ropen_any (S : Nat → Prop) (n b p q g B fw tag : Nat) (bs buf : List UInt8) (hbl : buf.length = B) (hsl : bs.length ≤ 1099511627776) (f1 : 1 ≤ fw) (f3 : fw ≤ 256) (b1 : 36 ≤ B) (b2 : B ≤ 1048576) (f2 : fw ≤ B) (ht : tag < 18446744073709551616)
    (ss : S 1) (sg : S g) (sp : S p) (sq : S q) (gs : g ≠ 1) (w : World) (hF : FormBoxes w p q) (hS : Steps w) (hD : DiskAt w b n (some bs) S) (hG : Blk w g (bytesA buf) 5) :
    Calls Tryd.prog 19 #[volV b, .string nameF, titleV 3 (fw : Int) (tag : Int), textForm (fw : Int) p q, .slice (some ⟨g, 0, none⟩) B B] w (OpenTo S n b p q g B fw tag bs w) := by
  have hlt := hG.lt
  have hd1 : ¬ ((B : Int) < 36) := by omega
  have hd2 : ¬ ((B : Int) < (fw : Int)) := by omega
  have hd3 : max (36 : Int) (fw : Int) ≤ (B : Int) := by omega
  have HS := Lib.hid hS
  have HF := Lib.hid hF
  have HG := Lib.hid hG
  have HD := Lib.hid hD
  have HBl := Lib.hid hbl
  have HRt := Lib.hid (right_ok (.pointer (some ⟨b, 0, none⟩)) 29 (fw : Int) (tag : Int) (by omega) (by omega) p q)
  unfold titleV textForm volV at *
  clear hS hF hG hD hbl
  go_enter Tryd.func19, Tryd.ntmps19
  go_wp2_with (first
    | ((go_at_call 43); (refine (HRt.out _).mono ?_); (rintro r w3 ⟨rfl, hk3⟩); (have hT3 : Blk w3 w.heap.size #[.int .i64 3, .int .i64 (fw : Int), .int .u64 (tag : Int)] 53 := hk3.blk (Blk.alloc (Blk.new' rfl) _) (fun h => h)); (have hX3 : Blk w3 (w.heap.size + 1) #[.int .i64 (fw : Int), .func (.func 67) #[] #[.pointer (some ⟨p, 0, none⟩)], .func (.func 68) #[] #[.pointer (some ⟨q, 0, none⟩)]] 57 := hk3.blk (Blk.new' (by simp)) (fun h => h)); (have hK3 : Keeps w w3 := Fr.keeps (((Fr.refl _ w).alloc _).alloc _) hk3); (have hct3 := hT3.cell); (have hcx3 := hX3.cell); (have HK3 := Lib.hid hK3); (have HT3 := Lib.hid hT3); (have HX3 := Lib.hid hX3); (clear hk3 hT3 hX3 hK3))
    | fail)
  all_goals (
    have hK4 : Keeps w (w3.alloc (.cells (rdCells b p q g B fw 0 0 0 0 0 0 (.slice none 0 0) 0 0 0 false (.slice none 0 0) 0) 106)) := HK3.out.alloc _
    have hC4 : Blk (w3.alloc (.cells (rdCells b p q g B fw 0 0 0 0 0 0 (.slice none 0 0) 0 0 0 false (.slice none 0 0) 0) 106)) w3.heap.size (rdCells b p q g B fw 0 0 0 0 0 0 (.slice none 0 0) 0 0 0 false (.slice none 0 0) 0) 106 := Blk.new' rfl
    have hT4 := HT3.out.alloc (.cells (rdCells b p q g B fw 0 0 0 0 0 0 (.slice none 0 0) 0 0 0 false (.slice none 0 0) 0) 106)
    have hsz := HK3.out.size
    have hszT := HT3.out.lt
    have hD4 : DiskAt (w3.alloc (.cells (rdCells b p q g B fw 0 0 0 0 0 0 (.slice none 0 0) 0 0 0 false (.slice none 0 0) 0) 106)) b n (some bs) (fun k => S k ∨ k = w3.heap.size ∨ k = w.heap.size) := HD.out.more hK4 (fun k hk => by
      rcases hk with h | h | h
      · exact Or.inl h
      · right; subst h; exact ⟨hsz, by simp⟩
      · right; subst h; exact ⟨Nat.le_refl _, by simp; omega⟩)
    have HK4 := Lib.hid hK4
    have HC4 := Lib.hid hC4
    have HT4 := Lib.hid hT4
    have HD4 := Lib.hid hD4
    clear hK4 hC4 hT4 hD4 hct3 hcx3
    change Calls _ _ _ (w3.alloc (.cells (rdCells b p q g B fw 0 0 0 0 0 0 (.slice none 0 0) 0 0 0 false (.slice none 0 0) 0) 106)) _
    generalize w3.alloc (.cells (rdCells b p q g B fw 0 0 0 0 0 0 (.slice none 0 0) 0 0 0 false (.slice none 0 0) 0) 106) = w4 at *
    generalize hrb : w3.heap.size = rb at *
    have hls := HS.out.1
    have K : RdK (fun k => S k ∨ k = rb ∨ k = w.heap.size) g rb p q B fw := ⟨Or.inl ss, Or.inl sg, Or.inr (Or.inl rfl), Or.inl sp, Or.inl sq, gs, by omega, b1, b2, f1, f2, f3⟩
    refine (rbegin_any (fun k => S k ∨ k = rb ∨ k = w.heap.size) n b p q g B fw rb K bs buf HBl.out hsl w4 HC4.out ⟨HK4.out.blk HF.out.1 (fun h => h), HK4.out.blk HF.out.2 (fun h => h)⟩ (HS.out.kept HK4.out (fun h => h)) HD4.out (HK4.out.blk HG.out (fun h => h))).mono ?_
    rintro r w5 ⟨hF5, hB5⟩
    have hF05 : Fr (fun k => ¬ S k ∨ k = g) w w5 := Fr.trans (Fr.any HK4.out) hF5 (fun i hi h => by
      rcases h with h | h | h
      · exact Or.inl fun hs => h (Or.inl hs)
      · exact Or.inr h
      · omega)
    have hT5 := hF5.blk HT4.out (fun h => by
      rcases h with h | h | h
      · exact h (Or.inr (Or.inr rfl))
      · omega
      · omega)
    have hct5 := hT5.cell
    have HF05 := Lib.hid hF05
    clear hF5 hF05 hT5
    unfold BeginTo at hB5
    cases hch : chunkR bs B 0 0 0 with
    | none =>
      rewrite [hch] at hB5
      obtain ⟨e, rfl, he1, he2⟩ := hB5
      have hb : ((e : Int) != 0) = true := by rw [bne_iff_ne]; omega
      have HO := Lib.hid (open_none (wd := fw) (tag := tag) hch)
      clear hch
      go_wp2_with fail
      go_ret2
      unfold OpenTo
      refine ⟨HF05.out, ?_⟩
      rw [HO.out, if_neg (by simp)]
      exact ⟨e, rfl, he1, he2⟩
    | some x =>
      obtain ⟨kd, cn, bd⟩ := x
      rewrite [hch] at hB5
      dsimp only at hB5
      have hos := open_some (wd := fw) (tag := tag) hch
      generalize ofLe (bd.take 2) = fv at *
      generalize ofLe ((bd.drop 2).take 2) = wv at *
      generalize ofLe ((bd.drop 4).take 8) = tv at *
      have HOS := Lib.hid hos
      clear hos hch
      by_cases ht' : 1 ≤ fv ∧ fv ≤ 255 ∧ 1 ≤ wv ∧ wv ≤ 256
      · rewrite [if_pos ht'] at hB5
        obtain ⟨rfl, buf5, hR5⟩ := hB5
        have hr5 := hR5.cells.cell
        unfold rdCells at hr5
        have HR5 := Lib.hid hR5
        clear hR5
        have hnq := neq_title (fv : Int) (wv : Int) (tv : Int) 3 (fw : Int) (tag : Int)
        have hgd := fun (w : World) (x y : Operand) (xs ys : Array Value) => run_eqGuard_agg (P := Tryd.prog) w .neq 53 x y xs ys (by kernel_rfl)
        by_cases he : fv = 3 ∧ wv = fw ∧ tv = tag
        · obtain ⟨rfl, rfl, rfl⟩ := he
          have hbb : (!(((3 : Nat) : Int) == 3 && (wv : Int) == (wv : Int) && (tv : Int) == (tv : Int))) = false := by simp
          have hnq2 : ∀ w, (binOp .neq 53 (.agg #[.int .i64 ((3 : Nat) : Int), .int .i64 (wv : Int), .int .u64 (tv : Int)]) (.agg #[.int .i64 3, .int .i64 (wv : Int), .int .u64 (tv : Int)])).run Tryd.prog w = .ok (.bool false) w := fun w => by rw [hnq w, hbb]
          clear hnq hbb
          go_wp2_with fail
          go_region
          go_wp2_with fail
          go_ret2
          unfold OpenTo
          refine ⟨HF05.out.drew, ?_⟩
          rw [if_pos (HOS.out.2 (by simp))]
          exact ⟨rb, buf5, rfl, by omega, (HR5.out.keeps (Fr.refl _ _).drew).less (fun k h => h.elim Or.inl (fun e => Or.inr (Or.inl e)))⟩
        · have hbb : (!((fv : Int) == 3 && (wv : Int) == (fw : Int) && (tv : Int) == (tag : Int))) = true := by
            rw [Bool.not_eq_true']
            cases hx : ((fv : Int) == 3 && (wv : Int) == (fw : Int) && (tv : Int) == (tag : Int)) with
            | false => rfl
            | true =>
              exfalso
              simp only [Bool.and_eq_true, beq_iff_eq] at hx
              exact he (by omega)
          have hnq2 : ∀ w, (binOp .neq 53 (.agg #[.int .i64 (fv : Int), .int .i64 (wv : Int), .int .u64 (tv : Int)]) (.agg #[.int .i64 3, .int .i64 (fw : Int), .int .u64 (tag : Int)])).run Tryd.prog w = .ok (.bool true) w := fun w => by rw [hnq w, hbb]
          have HE := Lib.hid he
          clear hnq hbb he
          go_wp2_with fail
          go_region
          go_wp2_with fail
          go_ret2
          unfold OpenTo
          refine ⟨HF05.out.drew, ?_⟩
          rw [if_neg (fun h => HE.out (HOS.out.1 h))]
          exact ⟨64, rfl, by omega, by omega⟩
      · rewrite [if_neg ht'] at hB5
        subst hB5
        have HT' := Lib.hid ht'
        clear ht'
        go_wp2_with fail
        go_ret2
        unfold OpenTo
        refine ⟨HF05.out, ?_⟩
        rw [if_neg (fun h => HT'.out (by have := HOS.out.1 h; omega))]
        exact ⟨64, rfl, by omega, by omega⟩)
end Go.Proofs.YtcefockebphbaaaDoor

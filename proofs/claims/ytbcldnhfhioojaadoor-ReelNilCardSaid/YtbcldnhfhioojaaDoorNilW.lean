/- The walk of ReelNil. -/
import Derived.Test.YtbcldnhfhioojaaDoorB

namespace Go.Proofs.YtbcldnhfhioojaaDoor
open Go Go.RowKit Sluice

def AllTrue (w : World) (r : Ending) (w' : World) : Prop := r = .returned (.bool true) ∧ Keeps w w'

set_option maxHeartbeats 4000000 in
set_option maxRecDepth 100000 in
theorem nil_walk (name : ByteArray) (a b c n : Int) (hn0 : -9223372036854775808 ≤ n) (hn1 : n ≤ 9223372036854775807) (w : World) :
    Calls Tryd.prog 6 #[.string name, titleV a b c, .int .i64 n] w (AllTrue w) := by
  unfold titleV
  go_enter Tryd.func6, Tryd.ntmps6
  go_wp2_with (go_at_call 25; refine (buffer_any n hn0 hn1 _).mono ?_; rintro r w1 ⟨B, rfl, hB, hBw, hk1⟩)
  have hT : Blk w1 w.heap.size #[.int .i64 a, .int .i64 b, .int .u64 c] 53 := hk1.blk (Blk.new' rfl) (fun h => h)
  have hT0 : w1.cell? ⟨w.heap.size, 0, none⟩ = some (.int .i64 a) := hT.cell 0
  have hT1 : w1.cell? ⟨w.heap.size, 1, none⟩ = some (.int .i64 b) := hT.cell 1
  have hT2 : w1.cell? ⟨w.heap.size, 2, none⟩ = some (.int .u64 c) := hT.cell 2
  have hz := hT.lt
  have hW1 : Keeps w w1 := Fr.keeps ((Fr.refl _ _).alloc _) hk1
  clear hB hk1
  go_region_held3 (fun w' => w'.cell? ⟨w.heap.size, 0, none⟩ = some (.int .i64 a) ∧ w'.cell? ⟨w.heap.size, 1, none⟩ = some (.int .i64 b) ∧ w'.cell? ⟨w.heap.size, 2, none⟩ = some (.int .u64 c))
    (first | go_keep | (go_split_ands; (try dsimp only); ((repeat' apply And.intro) <;> (first | (exact (hk3.cell (p := ⟨_, _, none⟩) hz2 (fun h => h)).trans (by assumption)) | (exact (hk2.cell (p := ⟨_, _, none⟩) hz (fun h => h)).trans (by assumption))))))
    (first
      | (go_at_call 21; refine (textForm_any b _).mono ?_; rintro r w2 ⟨p, q, rfl, hF, hp, hq, hk2⟩; have hz2 := Nat.lt_of_lt_of_le hz hk2.size)
      | (go_at_call 26; refine (create_nil name a b c b _ _ _ _).mono ?_; rintro r w3 ⟨rfl, hk3⟩))
  have hT3 : Blk w3 w.heap.size #[.int .i64 a, .int .i64 b, .int .u64 c] 53 := hk3.blk (hk2.blk hT (fun h => h)) (fun h => h)
  have hW3 : Keeps w w3 := Fr.keeps (Fr.keeps hW1.drew hk2) hk3
  clear hT hT0 hT1 hT2 hz hW1 hz2 hF hp hq hk2 hk3
  have hT0 : w3.cell? ⟨w.heap.size, 0, none⟩ = some (.int .i64 a) := hT3.cell 0
  have hT1 : w3.cell? ⟨w.heap.size, 1, none⟩ = some (.int .i64 b) := hT3.cell 1
  have hT2 : w3.cell? ⟨w.heap.size, 2, none⟩ = some (.int .u64 c) := hT3.cell 2
  have hz := hT3.lt
  go_wp2_with fail
  go_region_held3 (fun w' => w'.cell? ⟨w.heap.size, 0, none⟩ = some (.int .i64 a) ∧ w'.cell? ⟨w.heap.size, 1, none⟩ = some (.int .i64 b) ∧ w'.cell? ⟨w.heap.size, 2, none⟩ = some (.int .u64 c))
    (first | go_keep | (go_split_ands; (try dsimp only); ((repeat' apply And.intro) <;> (first | (exact (hk5.cell (p := ⟨_, _, none⟩) hz2 (fun h => h)).trans (by assumption)) | (exact (hk4.cell (p := ⟨_, _, none⟩) hz (fun h => h)).trans (by assumption))))))
    (first
      | (go_at_call 21; refine (textForm_any b _).mono ?_; rintro r w4 ⟨p, q, rfl, hF, hp, hq, hk4⟩; have hz2 := Nat.lt_of_lt_of_le hz hk4.size)
      | (go_at_call 20; refine (open_nil name a b c b _ _ _ _).mono ?_; rintro r w5 ⟨rfl, hk5⟩))
  have hW : Keeps w w5 := Fr.keeps (Fr.keeps hW3.drew hk4) hk5
  clear hT3 hT0 hT1 hT2 hz hW3 hz2 hF hp hq hk4 hk5
  go_wp2_with (first
    | (go_at_call 27; refine (scan_nil _ _ _).mono ?_; unfold titleV; rintro r w' ⟨rfl, hk⟩; replace hW := hW.keeps hk; clear hk)
    | (go_at_call 28; refine (publish_nil _ _ _ _ _).mono ?_; rintro r w' ⟨rfl, hk⟩; replace hW := Fr.keeps (hW.alloc _) hk; have hU := hk.blk (Blk.new _ _ _) (fun h => h); clear hk)
    | (go_at_call 29; refine (fetch_nil _ _ _).mono ?_; rintro r w' ⟨rfl, hk⟩; replace hW := hW.keeps hk; replace hU := hk.blk hU (fun h => h); have hU0 := hU.cell 0; have hU1 := hU.cell 1; have hU2 := hU.cell 2; clear hk hU; simp at hU0 hU1 hU2)
    | (go_at_call 9; refine (num_any _ (by omega) (by omega) _).mono ?_; rintro r w' ⟨rfl, rfl⟩)
    | (go_at_call 30; refine (rnext_nil _).mono ?_; rintro r w' ⟨rfl, hk⟩; replace hW := hW.keeps hk; clear hk)
    | (go_at_call 18; refine (rdone_nil _).mono ?_; rintro r w' ⟨rfl, rfl⟩)
    | (go_at_call 31; refine (rcount_nil _).mono ?_; rintro r w' ⟨rfl, rfl⟩)
    | (go_at_call 32; refine (rsum_nil _).mono ?_; rintro r w' ⟨rfl, rfl⟩)
    | (go_at_call 23; refine (rcode_nil _).mono ?_; rintro r w' ⟨rfl, rfl⟩)
    | (go_at_call 33; refine (wcount_nil _).mono ?_; rintro r w' ⟨rfl, rfl⟩)
    | (go_at_call 34; refine (wsum_nil _).mono ?_; rintro r w' ⟨rfl, rfl⟩)
    | (go_at_call 35; refine (wcode_nil _).mono ?_; rintro r w' ⟨rfl, rfl⟩)
    | (go_at_call 36; refine (wput_nil _ _).mono ?_; rintro r w' ⟨rfl, rfl⟩)
    | (go_at_call 37; refine (wflush_nil _).mono ?_; rintro r w' ⟨rfl, rfl⟩)
    | (go_at_call 38; refine (wclose_nil _).mono ?_; rintro r w' ⟨rfl, rfl⟩)
    | (go_at_call 8; refine (new_any _ (by omega) (by omega) _).mono ?_; rintro r w' ⟨d, m1, m2, rfl, hD, hm1, hm2, hd0, hd1, hd2, hd3, hd4, hd5, hk⟩; replace hW := Fr.keeps (hW.alloc _) hk; clear hm1 hm2 hd0 hd1 hd2 hd3 hd4 hd5 hk)
    | (go_at_call 39; refine (formOf_nil _ _).mono ?_; rintro r w' ⟨rfl, hk⟩; replace hW := hW.keeps hk; replace hD := hk.blk hD (fun h => h); clear hk)
    | (go_at_call 25; refine (buffer_any 100 (by omega) (by omega) _).mono ?_; rintro r w' ⟨B2, rfl, hB2, hB3, hk⟩; replace hW := hW.keeps hk; replace hD := hk.blk hD (fun h => h); clear hk hB2 hB3)
    | (go_at_call 26; refine (create_bad _ _ _ 1 3 0 3 _ _).mono ?_; rintro r w' ⟨rfl, hk⟩; replace hW := hW.keeps hk; replace hD := hk.blk hD (fun h => h); clear hk)
    | (go_at_call 20; refine (open_bad _ _ _ 1 3 0 3 _ _).mono ?_; rintro r w' ⟨rfl, hk⟩; replace hW := hW.keeps hk; replace hD := hk.blk hD (fun h => h); clear hk)
    | (go_at_call 40; refine (ops_any _ _ _ _ _ _ _ hD).mono ?_; rintro r w' ⟨rfl, rfl⟩))
  go_ret
  exact ⟨rfl, hW⟩
end Go.Proofs.YtbcldnhfhioojaaDoor

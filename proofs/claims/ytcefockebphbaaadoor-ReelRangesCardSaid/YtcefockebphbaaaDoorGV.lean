/- Heads of chunks, read. -/
import Derived.Test.YtcefockebphbaaaDoorGF
import Derived.Lib.BufferWrite
import Derived.Lib.SliceRun
import Derived.Laws.IdiomStrings
set_option linter.unusedVariables false
set_option linter.unusedSimpArgs false
set_option linter.unnecessarySimpa false
namespace Go.Proofs.YtcefockebphbaaaDoor
open Go Go.RowKit Sluice

theorem set5_blk {w : World} {g b : Nat} {cs : Array Value} {t : TypeId} (h : Blk w g cs t) (hn : g ≠ b) {v0 v1 v2 v3 v4 : Value} : Blk (((((w.setCell ⟨b, 0, none⟩ v0).setCell ⟨b, 1, none⟩ v1).setCell ⟨b, 2, none⟩ v2).setCell ⟨b, 3, none⟩ v3).setCell ⟨b, 4, none⟩ v4) g cs t :=
  (Fr.setEq (Fr.setEq (Fr.setEq (Fr.setEq (Fr.setEq (Fr.refl (· = b) w) _) _) _) _) _).blk h hn

theorem set5_self {w : World} {b : Nat} {t : TypeId} {u0 u1 u2 u3 u4 v0 v1 v2 v3 v4 : Value} (h : Blk w b #[u0, u1, u2, u3, u4] t) : Blk (((((w.setCell ⟨b, 0, none⟩ v0).setCell ⟨b, 1, none⟩ v1).setCell ⟨b, 2, none⟩ v2).setCell ⟨b, 3, none⟩ v3).setCell ⟨b, 4, none⟩ v4) b #[v0, v1, v2, v3, v4] t :=
  ((((h.set 0 v0).set 1 v1).set 2 v2).set 3 v3).set 4 v4
theorem set5_keeps {w w4 : World} {b : Nat} (h : Keeps w w4) (hb : w.heap.size ≤ b) {v0 v1 v2 v3 v4 : Value} : Keeps w (((((w4.setCell ⟨b, 0, none⟩ v0).setCell ⟨b, 1, none⟩ v1).setCell ⟨b, 2, none⟩ v2).setCell ⟨b, 3, none⟩ v3).setCell ⟨b, 4, none⟩ v4) := by
  have hs : ∀ o, (⟨b, o, none⟩ : Addr).block < w.heap.size → (fun _ => False) (⟨b, o, none⟩ : Addr).block := fun o (h : b < _) => by exact absurd h (by omega)
  exact ((((h.setCell (hs _) _).setCell (hs _) _).setCell (hs _) _).setCell (hs _) _).setCell (hs _) _
theorem wrap_le4 (l : List UInt8) (h : l.length ≤ 4) : IntKind.u32.wrap ((ofLe l : Nat) : Int) = ((ofLe l : Nat) : Int) := by
  have h1 := ofLe_lt l
  have h2 : 256 ^ l.length ≤ 256 ^ 4 := Nat.pow_le_pow_right (by omega) h
  rw [IntKind.wrap_u32]
  omega
theorem beq_mod (a b : Nat) (h : a < 4294967296) : ((a : Int) % 4294967296 == (b : Int)) = decide (a = b) := by
  rw [Bool.eq_iff_iff, beq_iff_eq, decide_eq_true_eq]
  omega
theorem beq_wrap (a b : Nat) (h : a < 4294967296) : (IntKind.u32.wrap (a : Int) == (b : Int)) = decide (a = b) := by
  rw [IntKind.wrap_u32]
  exact beq_mod a b h
theorem crc_bytes2 {bs : List UInt8} {o n : Nat} (h : ((bs.drop o).take n).length = n) : ((bytesA bs).toList.drop o).take ((bs.drop o).take n).length = ((bs.drop o).take n).map bv := by
  have h1 : (bytesA bs).toList = bs.map bv := by simp [bytesA]
  rw [h1, ← List.map_drop, ← List.map_take, h]
set_option maxHeartbeats 4000000 in
set_option maxRecDepth 100000 in
theorem headOf_good (g off cap : Nat) (hcap : 24 ≤ cap) (hcn : cap ≤ 1099511627776) (bs : List UInt8) (t : TypeId) (hfit : off + 24 ≤ bs.length) (w : World) (hS : Steps w) (hg : Blk w g (bytesA bs) t)
    (k : UInt8) (h0 : bs.getD off 0 = 82) (h1 : bs.getD (off + 1) 0 = 76) (h2 : bs.getD (off + 2) 0 = k) (h3 : bs.getD (off + 3) 0 = 1) :
    Calls Tryd.prog 76 #[.slice (some ⟨g, off, none⟩) 24 cap] w fun q w' => q = .returned (.tuple #[.agg #[.int .u8 (k.toNat : Int), .int .u32 ((ofLe ((bs.drop (off + 4)).take 4) : Nat) : Int), .int .u32 ((ofLe ((bs.drop (off + 8)).take 4) : Nat) : Int), .int .u32 ((ofLe ((bs.drop (off + 12)).take 4) : Nat) : Int), .int .u32 ((ofLe ((bs.drop (off + 16)).take 4) : Nat) : Int)], .bool (decide (ofLe ((bs.drop (off + 20)).take 4) = (crc ((bs.drop off).take 20)).toNat))]) ∧ Keeps w w' := by
  have hlt := hg.lt
  have hc0 := bytes_cell hg off (by omega)
  have hc1 := bytes_cell hg (off + 1) (by omega)
  have hc2 := bytes_cell hg (off + 2) (by omega)
  have hc3 := bytes_cell hg (off + 3) (by omega)
  rw [h0] at hc0
  rw [h1] at hc1
  rw [h2] at hc2
  rw [h3] at hc3
  have e0 : bv 82 = .int .u8 82 := rfl
  have e1 : bv 76 = .int .u8 76 := rfl
  have e2 : bv k = .int .u8 (k.toNat : Int) := rfl
  have e3 : bv 1 = .int .u8 1 := rfl
  rw [e0] at hc0
  rw [e1] at hc1
  rw [e2] at hc2
  rw [e3] at hc3
  have hcI : (20 : Int) ≤ (cap : Int) := by omega
  have HS := Lib.hid hS
  have h2k := h2
  clear hS h0 h1 h2 h3 e0 e1 e2 e3
  go_enter Tryd.func76, Tryd.ntmps76
  have hl1 : g < w.heap.size + 1 := by omega
  have hl2 : g < w.heap.size + 1 + 1 := by omega
  have hn1 : g ≠ w.heap.size := by omega
  have hn2 : g ≠ w.heap.size + 1 := by omega
  have hrW : ((w.alloc (.cells #[.int .u8 0, .int .u32 0, .int .u32 0, .int .u32 0, .int .u32 0] 134)).alloc (.cells #[.int .i64 4] 3)).drew.cell? ⟨g, off + 2, none⟩ = some (.int .u8 (k.toNat : Int)) := by rw [bytes_cell ((hg.alloc _).alloc _).drew _ (by omega), h2k]; rfl
  go_upto_region 4 with fail
  go_region_held3 (fun w' => w'.cell? ⟨g, off + 2, none⟩ = some (.int .u8 (k.toNat : Int)))
    ((first | with_reducible assumption | with_reducible exact hrW | (rw [bytes_cell (set5_blk hB4 hn1) _ (by omega), h2k]; rfl))) (first
      | ((go_at_call 74); (have := hP3); (refine (rget_lit g off 24 cap 16 4 20 rfl (by omega) (by omega) (by omega) hcap hcn bs t hfit (w.heap.size + 1) _ hB3 hP3).mono ?_); (rintro q w4 ⟨rfl, hF4, hP4⟩); (have hB4 := hF4.blk hB3 (by omega)); (have hH4 : Blk w4 w.heap.size #[.int .u8 0, .int .u32 0, .int .u32 0, .int .u32 0, .int .u32 0] 134 := hF4.blk hH3 (by omega)); (have hr4 : w4.cell? ⟨g, off + 2, none⟩ = some (.int .u8 (k.toNat : Int)) := by rw [bytes_cell hB4 _ (by omega), h2k]; rfl); (have hhc4 := hH4.cell); (have hhf4 := hH4.free))
      | ((go_at_call 74); (have := hP2); (refine (rget_lit g off 24 cap 12 4 16 rfl (by omega) (by omega) (by omega) hcap hcn bs t hfit (w.heap.size + 1) _ hB2 hP2).mono ?_); (rintro q w3 ⟨rfl, hF3, hP3⟩); (have hB3 := hF3.blk hB2 (by omega)); (have hH3 : Blk w3 w.heap.size #[.int .u8 0, .int .u32 0, .int .u32 0, .int .u32 0, .int .u32 0] 134 := hF3.blk hH2 (by omega)); (have hr3 : w3.cell? ⟨g, off + 2, none⟩ = some (.int .u8 (k.toNat : Int)) := by rw [bytes_cell hB3 _ (by omega), h2k]; rfl); (have hhc3 := hH3.cell); (have hhf3 := hH3.free))
      | ((go_at_call 74); (have := hP1); (refine (rget_lit g off 24 cap 8 4 12 rfl (by omega) (by omega) (by omega) hcap hcn bs t hfit (w.heap.size + 1) _ hB1 hP1).mono ?_); (rintro q w2 ⟨rfl, hF2, hP2⟩); (have hB2 := hF2.blk hB1 (by omega)); (have hH2 : Blk w2 w.heap.size #[.int .u8 0, .int .u32 0, .int .u32 0, .int .u32 0, .int .u32 0] 134 := hF2.blk hH1 (by omega)); (have hr2 : w2.cell? ⟨g, off + 2, none⟩ = some (.int .u8 (k.toNat : Int)) := by rw [bytes_cell hB2 _ (by omega), h2k]; rfl); (have hhc2 := hH2.cell); (have hhf2 := hH2.free))
      | ((go_at_call 74); (refine (rget_lit g off 24 cap 4 4 8 rfl (by omega) (by omega) (by omega) hcap hcn bs t hfit (w.heap.size + 1) _ (((hg.alloc _).alloc _).drew) (Blk.drew (Blk.new' (by simp)))).mono ?_); (rintro q w1 ⟨rfl, hF1, hP1⟩); (have hB1 := hF1.blk (((hg.alloc _).alloc _).drew) (by omega)); (have hH1 : Blk w1 w.heap.size #[.int .u8 0, .int .u32 0, .int .u32 0, .int .u32 0, .int .u32 0] 134 := hF1.blk (Blk.drew (Blk.alloc (Blk.new' rfl) _)) (by omega)); (have hr1 : w1.cell? ⟨g, off + 2, none⟩ = some (.int .u8 (k.toNat : Int)) := by rw [bytes_cell hB1 _ (by omega), h2k]; rfl); (have hhc1 := hH1.cell); (have hhf1 := hH1.free))
    )
  have hq1 : IntKind.u32.wrap ((ofLe ((bs.drop (off + 4)).take 4) : Nat) : Int) = ((ofLe ((bs.drop (off + 4)).take 4) : Nat) : Int) := wrap_le4 _ (by simp; omega)
  have hq2 : IntKind.u32.wrap ((ofLe ((bs.drop (off + 8)).take 4) : Nat) : Int) = ((ofLe ((bs.drop (off + 8)).take 4) : Nat) : Int) := wrap_le4 _ (by simp; omega)
  have hq3 : IntKind.u32.wrap ((ofLe ((bs.drop (off + 12)).take 4) : Nat) : Int) = ((ofLe ((bs.drop (off + 12)).take 4) : Nat) : Int) := wrap_le4 _ (by simp; omega)
  have hq4 : IntKind.u32.wrap ((ofLe ((bs.drop (off + 16)).take 4) : Nat) : Int) = ((ofLe ((bs.drop (off + 16)).take 4) : Nat) : Int) := wrap_le4 _ (by simp; omega)
  rw [hq1, hq2, hq3, hq4]
  have hP5 := set5_blk (v0 := .int .u8 (k.toNat : Int)) (v1 := .int .u32 ((ofLe ((bs.drop (off + 4)).take 4) : Nat) : Int)) (v2 := .int .u32 ((ofLe ((bs.drop (off + 8)).take 4) : Nat) : Int)) (v3 := .int .u32 ((ofLe ((bs.drop (off + 12)).take 4) : Nat) : Int)) (v4 := .int .u32 ((ofLe ((bs.drop (off + 16)).take 4) : Nat) : Int)) hP4 (show w.heap.size + 1 ≠ w.heap.size by omega)
  have hB5 := set5_blk (v0 := .int .u8 (k.toNat : Int)) (v1 := .int .u32 ((ofLe ((bs.drop (off + 4)).take 4) : Nat) : Int)) (v2 := .int .u32 ((ofLe ((bs.drop (off + 8)).take 4) : Nat) : Int)) (v3 := .int .u32 ((ofLe ((bs.drop (off + 12)).take 4) : Nat) : Int)) (v4 := .int .u32 ((ofLe ((bs.drop (off + 16)).take 4) : Nat) : Int)) hB4 hn1
  have hK1 : Keeps w w1 := Fr.trans ((((Fr.refl _ w).alloc _).alloc _).drew) hF1 (fun i hi e => absurd hi (by omega))
  have hK4 : Keeps w w4 := Fr.trans (Fr.trans (Fr.trans hK1 hF2 (fun i hi e => absurd hi (by omega))) hF3 (fun i hi e => absurd hi (by omega))) hF4 (fun i hi e => absurd hi (by omega))
  have hK5 := set5_keeps (b := w.heap.size) (v0 := .int .u8 (k.toNat : Int)) (v1 := .int .u32 ((ofLe ((bs.drop (off + 4)).take 4) : Nat) : Int)) (v2 := .int .u32 ((ofLe ((bs.drop (off + 8)).take 4) : Nat) : Int)) (v3 := .int .u32 ((ofLe ((bs.drop (off + 12)).take 4) : Nat) : Int)) (v4 := .int .u32 ((ofLe ((bs.drop (off + 16)).take 4) : Nat) : Int)) hK4 (Nat.le_refl _)
  have hH5 := set5_self (v0 := .int .u8 (k.toNat : Int)) (v1 := .int .u32 ((ofLe ((bs.drop (off + 4)).take 4) : Nat) : Int)) (v2 := .int .u32 ((ofLe ((bs.drop (off + 8)).take 4) : Nat) : Int)) (v3 := .int .u32 ((ofLe ((bs.drop (off + 12)).take 4) : Nat) : Int)) (v4 := .int .u32 ((ofLe ((bs.drop (off + 16)).take 4) : Nat) : Int)) hH4
  generalize (((((w4.setCell ⟨w.heap.size, 0, none⟩ (.int .u8 (k.toNat : Int))).setCell ⟨w.heap.size, 1, none⟩ (.int .u32 ((ofLe ((bs.drop (off + 4)).take 4) : Nat) : Int))).setCell ⟨w.heap.size, 2, none⟩ (.int .u32 ((ofLe ((bs.drop (off + 8)).take 4) : Nat) : Int))).setCell ⟨w.heap.size, 3, none⟩ (.int .u32 ((ofLe ((bs.drop (off + 12)).take 4) : Nat) : Int))).setCell ⟨w.heap.size, 4, none⟩ (.int .u32 ((ofLe ((bs.drop (off + 16)).take 4) : Nat) : Int))) = w5 at *
  have hc5 := hH5.cell
  have hs5 := hK5.size
  clear hq1 hq2 hq3 hq4 hhc1 hhc2 hhc3 hhc4 hhf1 hhf2 hhf3 hhf4 hF1 hF2 hF3 hF4 hB1 hB2 hB3 hB4 hH1 hH2 hH3 hH4 hP1 hP2 hP3 hP4 hr1 hr2 hr3 hr4 hK1 hK4
  have hP5l := hP5.lt
  have hne9 : w.heap.size ≠ w.heap.size + 1 := by omega
  have hS5 : Steps w5 := HS.out.kept hK5 (fun h => h)
  have hSg := HS.out.1
  go_wp2_with fail
  go_region_held3 (fun w' => ∀ i, w'.cell? ⟨w.heap.size, i, none⟩ = (#[.int .u8 (k.toNat : Int), .int .u32 ((ofLe ((bs.drop (off + 4)).take 4) : Nat) : Int), .int .u32 ((ofLe ((bs.drop (off + 8)).take 4) : Nat) : Int), .int .u32 ((ofLe ((bs.drop (off + 12)).take 4) : Nat) : Int), .int .u32 ((ofLe ((bs.drop (off + 16)).take 4) : Nat) : Int)] : Array Value)[i]?)
    (((try dsimp only); first | with_reducible exact fun i => Blk.cell hH7 i | with_reducible exact fun i => Blk.cell hH6 i | with_reducible exact fun i => Blk.cell (Blk.alloc hH6 _) i | with_reducible exact fun i => Blk.cell (Blk.drew hH5) i | with_reducible exact fun i => Blk.cell (Blk.drew (Blk.alloc hH5 _)) i | with_reducible exact fun i => Blk.cell (set5_self hH7) i | fail))
    (first
      | ((go_at_call 74); (refine (rget_lit g off 24 cap 20 4 24 rfl (by omega) (by omega) (by omega) hcap hcn bs t hfit (w.heap.size + 1) _ ?_ ?_).mono ?_); (· (first | with_reducible exact hB5.drew | with_reducible exact (hB5.alloc _).drew | fail)); (· (first | with_reducible exact hP5.drew | with_reducible exact (hP5.alloc _).drew | fail)); (rintro q w6 ⟨rfl, hF6, hP6⟩); (have hB6 : Blk w6 g (bytesA bs) t := by first | with_reducible exact hF6.blk hB5.drew hn2 | with_reducible exact hF6.blk (hB5.alloc _).drew hn2 | fail); (have hH6 := (show Blk w6 w.heap.size _ _ by first | with_reducible exact hF6.blk hH5.drew hne9 | with_reducible exact hF6.blk (hH5.alloc _).drew hne9 | fail)); (have hK6 : Keeps w w6 := by first | exact Fr.trans hK5.drew hF6 (fun i hi e => absurd hi (by omega)) | exact Fr.trans ((hK5.alloc _).drew) hF6 (fun i hi e => absurd hi (by omega)) | fail))
      | ((go_at_call 69); (have hS6 : Steps w6 := HS.out.kept hK6 (fun h => h)); (have hl20 : ((bs.drop off).take 20).length = 20 := by simp; omega); (refine (crc_any g off cap ((bs.drop off).take 20) _ t (crc_bytes2 hl20) (by omega) _ _ ?_ ?_ ?_).mono ?_); (· (first | exact hS6 | exact Steps.alloc hS6 _)); (· (first | exact hB6 | exact hB6.alloc _)); (· (rw [hl20]; first | exact Blk.new' rfl | exact hF6.blk (Blk.new' (by simp)) (by intro e; have e2 : w5.heap.size = w.heap.size + 1 := e; omega) | fail)); (rintro q w7 ⟨rfl, hk7⟩); (have hH7 := (show Blk w7 w.heap.size _ _ by first | exact hk7.blk hH6 (fun h => h) | exact hk7.blk (hH6.alloc _) (fun h => h))); (have hhc7 := hH7.cell); (have hhf7 := hH7.free); (have hK7 : Keeps w w7 := by first | exact Fr.keeps hK6 hk7 | exact Fr.keeps (hK6.alloc _) hk7)))
  all_goals go_wp2
  all_goals (
    have hb20 : ofLe ((bs.drop (off + 20)).take 4) < 4294967296 := by
      have h1 := ofLe_lt ((bs.drop (off + 20)).take 4)
      have h2 : 256 ^ ((bs.drop (off + 20)).take 4).length ≤ 256 ^ 4 := Nat.pow_le_pow_right (by omega) (by simp; omega)
      omega
    have hH8 := set5_self (v0 := .int .u8 (k.toNat : Int)) (v1 := .int .u32 ((ofLe ((bs.drop (off + 4)).take 4) : Nat) : Int)) (v2 := .int .u32 ((ofLe ((bs.drop (off + 8)).take 4) : Nat) : Int)) (v3 := .int .u32 ((ofLe ((bs.drop (off + 12)).take 4) : Nat) : Int)) (v4 := .int .u32 ((ofLe ((bs.drop (off + 16)).take 4) : Nat) : Int)) hH7
    have hc8 := hH8.cell
    refine bodyPost_ret (v := .tuple #[.agg #[.int .u8 (k.toNat : Int), .int .u32 ((ofLe ((bs.drop (off + 4)).take 4) : Nat) : Int), .int .u32 ((ofLe ((bs.drop (off + 8)).take 4) : Nat) : Int), .int .u32 ((ofLe ((bs.drop (off + 12)).take 4) : Nat) : Int), .int .u32 ((ofLe ((bs.drop (off + 16)).take 4) : Nat) : Int)], .bool (decide (ofLe ((bs.drop (off + 20)).take 4) = (crc ((bs.drop off).take 20)).toNat))]) ?_ rfl ⟨rfl, ?_⟩
    · simp [results, Tryd.results76, hc8, go_sem]
      first | exact beq_mod _ _ hb20 | exact beq_wrap _ _ hb20
    · exact set5_keeps hK7 (Nat.le_refl _))
end Go.Proofs.YtcefockebphbaaaDoor

namespace Go.Proofs.YtcefockebphbaaaDoor
open Go Go.RowKit Sluice

set_option maxHeartbeats 4000000 in
set_option maxRecDepth 100000 in
theorem titleBytes_any (wd tag : Nat) (hw : wd ≤ 256) (ht : tag < 18446744073709551616) (g off cap : Nat) (hcap : 12 ≤ cap) (hcn : cap ≤ 1099511627776) (bs : List UInt8) (t : TypeId) (hfit : off + 12 ≤ bs.length) (w : World) (hg : Blk w g (bytesA bs) t) :
    Calls Tryd.prog 50 #[.slice (some ⟨g, off, none⟩) 12 cap, titleV 3 (wd : Int) (tag : Int)] w fun q w' => q = .returned (.tuple #[]) ∧ Fr (· = g) w w' ∧ Blk w' g (bytesA (splB bs off (titleB wd tag))) t := by
  have hlt := hg.lt
  have hq3 : w.heap.size + 1 ≠ g := by omega
  have hq4 : w.heap.size ≠ g := by omega
  have hq5 : g < w.heap.size + 1 := by omega
  have e1 : IntKind.u64.wrap (wd : Int) = (wd : Int) := IntWalk.u64_in _ (by omega)
  have hB0 : splB bs off [] = bs := by simp [splB]
  have HB0 := Lib.hid hB0
  clear hB0
  unfold titleV
  go_enter Tryd.func50, Tryd.ntmps50
  go_wp2_with (first
    | ((go_at_call 54); (have hBn := hB2); (refine (rput_acc g off 12 cap 4 8 tag (le 2 3 ++ le 2 wd) (by simp [le_length]) (by omega) (by omega) (by omega) hcap hcn (by simpa using ht) bs t hfit (w.heap.size + 1) hq3 _ hB2 hP2).mono ?_); (rintro q w3 ⟨rfl, hF3, hB3, hP3⟩); (clear hBn))
    | ((go_at_call 54); (have hBn := hB1); (refine (rput_acc g off 12 cap 2 2 wd (le 2 3) (by simp [le_length]) (by omega) (by omega) (by omega) hcap hcn (by simp; omega) bs t hfit (w.heap.size + 1) hq3 _ hB1 hP1).mono ?_); (rintro q w2 ⟨rfl, hF2, hB2, hP0⟩); (have hP2 : Blk w2 (w.heap.size + 1) #[.int .i64 ((4 : Nat) : Int)] 3 := hP0); (have hT2 := hF2.blk hT1 (by omega)); (have hc2 := hT2.cell); (clear hP0 hBn))
    | ((go_at_call 54); (refine (rput_acc g off 12 cap 0 2 3 [] rfl (by omega) (by omega) (by omega) hcap hcn (by decide) bs t hfit (w.heap.size + 1) hq3 _ (by rw [HB0.out]; exact (hg.alloc _).alloc _) (Blk.new' (by simp))).mono ?_); (rintro q w1 ⟨rfl, hF1, hB1, hP0⟩); (have hP1 : Blk w1 (w.heap.size + 1) #[.int .i64 ((2 : Nat) : Int)] 3 := hP0); (have hT1 : Blk w1 w.heap.size #[.int .i64 3, .int .i64 (wd : Int), .int .u64 (tag : Int)] 53 := hF1.blk (Blk.alloc (Blk.new' rfl) _) (by omega)); (have hc1 := hT1.cell); (clear hP0)))
  go_returns
  refine ⟨rfl, ?_, hB3⟩
  have hT1 : Fr (· = g) w w1 := Fr.trans (((Fr.refl _ w).alloc _).alloc _) hF1 (fun i hi e => e.elim id (fun e => absurd hi (by omega)))
  exact Fr.trans (Fr.trans hT1 hF2 (fun i hi e => e.elim id (fun e => absurd hi (by omega)))) hF3 (fun i hi e => e.elim id (fun e => absurd hi (by omega)))
end Go.Proofs.YtcefockebphbaaaDoor

namespace Go.Proofs.YtcefockebphbaaaDoor
open Go Go.RowKit Sluice

theorem set3_self {w : World} {b : Nat} {t : TypeId} {u0 u1 u2 v0 v1 v2 : Value} (h : Blk w b #[u0, u1, u2] t) : Blk (((w.setCell ⟨b, 0, none⟩ v0).setCell ⟨b, 1, none⟩ v1).setCell ⟨b, 2, none⟩ v2) b #[v0, v1, v2] t :=
  ((h.set 0 v0).set 1 v1).set 2 v2
theorem set3_keeps {w w4 : World} {b : Nat} (h : Keeps w w4) (hb : w.heap.size ≤ b) {v0 v1 v2 : Value} : Keeps w (((w4.setCell ⟨b, 0, none⟩ v0).setCell ⟨b, 1, none⟩ v1).setCell ⟨b, 2, none⟩ v2) := by
  have hs : ∀ o, (⟨b, o, none⟩ : Addr).block < w.heap.size → (fun _ => False) (⟨b, o, none⟩ : Addr).block := fun o (h : b < _) => by exact absurd h (by omega)
  exact ((h.setCell (hs _) _).setCell (hs _) _).setCell (hs _) _
theorem wrap_le2 (l : List UInt8) (h : l.length ≤ 2) : IntKind.i64.wrap ((ofLe l : Nat) : Int) = ((ofLe l : Nat) : Int) := by
  have h1 := ofLe_lt l
  have h2 : 256 ^ l.length ≤ 256 ^ 2 := Nat.pow_le_pow_right (by omega) h
  exact IntWalk.i64_in _ (by omega)

set_option maxHeartbeats 4000000 in
set_option maxRecDepth 100000 in
theorem titleOf_any (g off cap : Nat) (hcap : 12 ≤ cap) (hcn : cap ≤ 1099511627776) (bs : List UInt8) (t : TypeId) (hfit : off + 12 ≤ bs.length) (w : World) (hg : Blk w g (bytesA bs) t) :
    Calls Tryd.prog 65 #[.slice (some ⟨g, off, none⟩) 12 cap] w fun q w' => q = .returned (titleV ((ofLe ((bs.drop off).take 2) : Nat) : Int) ((ofLe ((bs.drop (off + 2)).take 2) : Nat) : Int) ((ofLe ((bs.drop (off + 4)).take 8) : Nat) : Int)) ∧ Keeps w w' := by
  have hlt := hg.lt
  have hn1 : g ≠ w.heap.size := by omega
  have hn2 : g ≠ w.heap.size + 1 := by omega
  have hq1 := wrap_le2 ((bs.drop off).take 2) (by simp; omega)
  have hq2 := wrap_le2 ((bs.drop (off + 2)).take 2) (by simp; omega)
  have e0 : off + 0 = off := rfl
  go_enter Tryd.func65, Tryd.ntmps65
  go_wp2_with (first
    | ((go_at_call 74); (have hBn := hB2); (refine (rget_lit g off 12 cap 4 8 12 rfl (by omega) (by omega) (by omega) hcap hcn bs t hfit (w.heap.size + 1) _ hB2 hP2).mono ?_); (rintro q w3 ⟨rfl, hF3, hP3⟩); (have hT3 := hF3.blk hT2 (by omega)); (have hc3 := hT3.cell); (have hf3 := hT3.free); (clear hBn))
    | ((go_at_call 74); (have hBn := hB1); (refine (rget_lit g off 12 cap 2 2 4 rfl (by omega) (by omega) (by omega) hcap hcn bs t hfit (w.heap.size + 1) _ hB1 hP1).mono ?_); (rintro q w2 ⟨rfl, hF2, hP2⟩); (have hB2 := hF2.blk hB1 (by omega)); (have hT2 := hF2.blk hT1 (by omega)); (clear hBn))
    | ((go_at_call 74); (refine (rget_lit g off 12 cap 0 2 2 rfl (by omega) (by omega) (by omega) hcap hcn bs t hfit (w.heap.size + 1) _ ((hg.alloc _).alloc _) (Blk.new' (by simp))).mono ?_); (rintro q w1 ⟨rfl, hF1, hP1⟩); (have hB1 := hF1.blk ((hg.alloc _).alloc _) (by omega)); (have hT1 : Blk w1 w.heap.size #[.int .i64 0, .int .i64 0, .int .u64 0] 53 := hF1.blk (Blk.alloc (Blk.new' rfl) _) (by omega))))
  have hT4 := set3_self (v0 := .int .i64 ((ofLe ((bs.drop off).take 2) : Nat) : Int)) (v1 := .int .i64 ((ofLe ((bs.drop (off + 2)).take 2) : Nat) : Int)) (v2 := .int .u64 ((ofLe ((bs.drop (off + 4)).take 8) : Nat) : Int)) hT3
  have hc4 := hT4.cell
  have hK1 : Keeps w w1 := Fr.trans (((Fr.refl _ w).alloc _).alloc _) hF1 (fun i hi e => absurd hi (by omega))
  have hK3 : Keeps w w3 := Fr.trans (Fr.trans hK1 hF2 (fun i hi e => absurd hi (by omega))) hF3 (fun i hi e => absurd hi (by omega))
  refine bodyPost_ret (v := titleV ((ofLe ((bs.drop off).take 2) : Nat) : Int) ((ofLe ((bs.drop (off + 2)).take 2) : Nat) : Int) ((ofLe ((bs.drop (off + 4)).take 8) : Nat) : Int)) ?_ rfl ⟨rfl, ?_⟩
  · simp [results, Tryd.results65, hc4, go_sem, titleV]
  · exact set3_keeps hK3 (Nat.le_refl _)

/-- A text in so many bytes. -/
def recB (wd : Nat) (s : ByteArray) : List UInt8 := (s.data.toList ++ List.replicate wd 0).take wd
theorem str_len (s : ByteArray) : s.data.toList.length = s.size := Array.length_toList
theorem recB_length (wd : Nat) (s : ByteArray) : (recB wd s).length = wd := by
  unfold recB
  rw [List.length_take, List.length_append, List.length_replicate]; omega
theorem recB_long {wd : Nat} {s : ByteArray} (h : wd ≤ s.size) : recB wd s = s.data.toList.take wd := by
  unfold recB
  rw [List.take_append_of_le_length (by rw [str_len]; exact h)]
theorem recB_short {wd : Nat} {s : ByteArray} (h : s.size ≤ wd) : recB wd s = s.data.toList ++ List.replicate (wd - s.size) 0 := by
  unfold recB
  have hl := str_len s
  rw [List.take_append, List.take_of_length_le (by omega), hl, List.take_replicate]
  congr 2
  omega
/-- copy of a string that is longer than where it goes. -/
theorem run_copy_long {P : Program} (w : World) (dT sT ty elem : TypeId) (g o dLen dCap : Nat) (s : ByteArray) (bs : List UInt8) (t : TypeId)
    (hu : P.underlying dT = some (.slice elem)) (hs : (P.info? elem).map (·.size) = some 1) (hg : Blk w g (bytesA bs) t) (hle : dLen ≤ s.size) (hfit : o + dLen ≤ bs.length) :
    ∃ w', (Builtin.copy_ #[dT, sT] ty #[.slice (some ⟨g, o, none⟩) dLen dCap, .string s]).run P w = .ok (goInt dLen) w' ∧ Blk w' g (bytesA (splB bs o (s.data.toList.take dLen))) t ∧ Fr (· = g) w w' := by
  have hl := str_len s
  have hlt : (s.data.toList.take dLen).length = dLen := by rw [List.length_take]; omega
  have hlen : (Lib.byteCells (s.data.toList.take dLen)).length = dLen := by rw [Lib.byteCells_length, hlt]
  have hst := run_storeCells_at P g o t (Lib.byteCells (s.data.toList.take dLen)) 0 (bytesA bs) w hg (by rw [hlen, bytesA_size]; simpa using hfit) (Lib.byteCells_one _)
  have hmin : Nat.min s.size dLen = dLen := Nat.min_eq_right hle
  have htk : List.take dLen (List.map (fun b : UInt8 => Value.int IntKind.u8 (b.toNat : Int)) s.data.toList) = Lib.byteCells (s.data.toList.take dLen) := by
    rw [← List.map_take]; rfl
  rw [hlen] at hst
  simp only [Nat.add_zero] at hst
  have hcs : (((bytesA bs).toList.take o ++ Lib.byteCells (s.data.toList.take dLen) ++ (bytesA bs).toList.drop (o + dLen)).toArray) = bytesA (splB bs o (s.data.toList.take dLen)) := by
    have := spl_bytes bs o (s.data.toList.take dLen)
    unfold spl at this
    rw [List.length_map, hlt] at this
    exact this
  rw [hcs] at hst
  refine ⟨_, ?_, setRow_heap w g (bytesA bs) _ t _ hg, ⟨rfl, rfl, rfl, by simp, fun k _ hk => setRow_other w g k _ hk⟩⟩
  cases hq : P.info? elem with
  | none => simp [hq] at hs
  | some i =>
    simp [Builtin.copy_, run_underlying hu, Builtin.lenOf, Builtin.firstCells, sizeOf, typeInfo, hq, hmin]
    rw [htk, hst]
    simp [Result.andThen]
/-- copy of a string that fits. -/
theorem run_copy_fits {P : Program} (w : World) (dT sT ty elem : TypeId) (g o dLen dCap : Nat) (s : ByteArray) (bs : List UInt8) (t : TypeId)
    (hu : P.underlying dT = some (.slice elem)) (hs : (P.info? elem).map (·.size) = some 1) (hg : Blk w g (bytesA bs) t) (hle : s.size ≤ dLen) (hfit : o + s.size ≤ bs.length) :
    ∃ w', (Builtin.copy_ #[dT, sT] ty #[.slice (some ⟨g, o, none⟩) dLen dCap, .string s]).run P w = .ok (goInt s.size) w' ∧ Blk w' g (bytesA (splB bs o s.data.toList)) t ∧ Fr (· = g) w w' := by
  have hr := Lib.run_copy_row_string (P := P) w dT sT ty elem g o dLen dCap s (bytesA bs) t hu hs hg hle (by rw [bytesA_size]; exact hfit)
  have hcs : (((bytesA bs).toList.take o ++ Lib.byteCells s.data.toList ++ (bytesA bs).toList.drop (o + s.size)).toArray) = bytesA (splB bs o s.data.toList) := by
    have := spl_bytes bs o s.data.toList
    unfold spl at this
    rw [List.length_map, str_len] at this
    exact this
  rw [hcs] at hr
  exact ⟨_, hr, setRow_heap w g (bytesA bs) _ t _ hg, ⟨rfl, rfl, rfl, by simp, fun k _ hk => setRow_other w g k _ hk⟩⟩
/-- clear of a row of bytes. -/
theorem run_clear_bytes {P : Program} (w : World) (t e ty : TypeId) (g o n c : Nat) (bs : List UInt8) (et : TypeId) (ht : P.underlying t = some (.slice e)) (hv : ∀ w, (zeroValue e).run P w = .ok (.int .u8 0) w) (hg : Blk w g (bytesA bs) et) (hfit : o + n ≤ bs.length) :
    ∃ w', (Builtin.clear_ #[t] ty #[.slice (some ⟨g, o, none⟩) n c]).run P w = .ok (.tuple #[]) w' ∧ Blk w' g (bytesA (splB bs o (List.replicate n 0))) et ∧ Fr (· = g) w w' := by
  by_cases hn : n = 0
  · subst hn
    refine ⟨w, by simp [Builtin.clear_, run_underlying ht], ?_, Fr.refl _ _⟩
    have : splB bs o (List.replicate 0 0) = bs := by simp [splB]
    rw [this]; exact hg
  · have hst := run_storeCells_at P g o et ((List.replicate n (0 : UInt8)).map bv) 0 (bytesA bs) w hg (by rw [bytesA_size, List.length_map, List.length_replicate]; omega) (by intro v hv'; obtain ⟨c, -, rfl⟩ := List.mem_map.1 hv'; rfl)
    simp only [Nat.add_zero] at hst
    have hcs := spl_bytes bs o (List.replicate n 0)
    unfold spl at hcs
    rw [hcs] at hst
    have hzc : (Builtin.zeroCells (Value.cells (.int .u8 0)) n).toList = (List.replicate n (0 : UInt8)).map bv := by
      have h1 : Value.cells (.int .u8 0) = #[.int .u8 0] := rfl
      rw [h1]
      simp [Builtin.zeroCells]
      apply List.ext_getElem
      · simp
      · intro i h1 h2
        simp [Nat.mod_one, bv]
    refine ⟨_, ?_, setRow_heap w g (bytesA bs) _ et _ hg, ⟨rfl, rfl, rfl, by simp, fun k _ hk => setRow_other w g k _ hk⟩⟩
    obtain ⟨m, rfl⟩ : ∃ m, n = m + 1 := ⟨n - 1, by omega⟩
    have hrep : List.replicate (m + 1) (bv 0) = List.map bv (List.replicate (m + 1) 0) := by simp
    simp [Builtin.clear_, run_underlying ht, hv, hzc]
    rw [hrep, hst]
    rfl
theorem run_clear_none {P : Program} (w : World) (t e ty : TypeId) (a : Option Addr) (c : Nat) (ht : P.underlying t = some (.slice e)) : (Builtin.clear_ #[t] ty #[.slice a 0 c]).run P w = .ok (.tuple #[]) w := by
  cases a <;> simp [Builtin.clear_, run_underlying ht]

theorem zero_u8 (w : World) : (zeroValue 5).run Tryd.prog w = .ok (.int .u8 0) w := by kernel_rfl
set_option maxHeartbeats 4000000 in
set_option maxRecDepth 100000 in
theorem text_any (g off wd : Nat) (hwd : wd ≤ 1099511627776) (s : ByteArray) (hs : s.size ≤ maxLen) (bs : List UInt8) (t : TypeId) (hfit : off + wd ≤ bs.length) (w : World) (hg : Blk w g (bytesA bs) t) :
    Calls Tryd.prog 46 #[.slice (some ⟨g, off, none⟩) wd wd, .string s] w fun q w' => q = .returned (.tuple #[]) ∧ Fr (· = g) w w' ∧ Blk w' g (bytesA (splB bs off (recB wd s))) t := by
  have hi : (Tryd.prog.info? 5).map (·.size) = some 1 := by kernel_rfl
  unfold maxLen at hs
  by_cases hle : wd ≤ s.size
  · obtain ⟨w1, hrun, hB1, hF1⟩ := run_copy_long (P := Tryd.prog) w 111 9 3 5 g off wd wd s bs t Tryd.underlying111 hi hg hle hfit
    rw [← recB_long hle] at hB1
    have hrun2 := run_clear_none (P := Tryd.prog) w1 111 5 0 (some ⟨g, off, none⟩) 0 Tryd.underlying111
    have h0 : (0 : Int) ≤ (wd : Int) := by omega
    have HB := Lib.hid hB1
    have HF := Lib.hid hF1
    clear hB1 hF1 hg hi
    go_enter Tryd.func46, Tryd.ntmps46
    go_wp2
    go_returns
    exact ⟨rfl, HF.out, HB.out⟩
  · obtain ⟨w1, hrun, hB1, hF1⟩ := run_copy_fits (P := Tryd.prog) w 111 9 3 5 g off wd wd s bs t Tryd.underlying111 hi hg (by omega) (by omega)
    obtain ⟨w2, hrun2, hB2, hF2⟩ := run_clear_bytes (P := Tryd.prog) w1 111 5 0 g (off + s.size) (wd - s.size) (wd - s.size) _ t Tryd.underlying111 zero_u8 hB1 (by rw [splB_length (by rw [str_len]; omega)]; omega)
    have e1 := splB_splB bs off s.data.toList (List.replicate (wd - s.size) 0) (by rw [str_len, List.length_replicate]; omega)
    rw [str_len, ← recB_short (by omega)] at e1
    rw [e1] at hB2
    have h0 : (0 : Int) ≤ (s.size : Int) := by omega
    have h1 : (s.size : Int) ≤ (wd : Int) := by omega
    have h2 : s.size ≤ wd := by omega
    have h3 : ¬ wd = s.size := by omega
    have HB := Lib.hid hB2
    have HF := Lib.hid (hF1.then hF2)
    clear hB1 hF1 hg hi hB2 hF2 e1
    go_enter Tryd.func46, Tryd.ntmps46
    go_wp2
    go_returns
    exact ⟨rfl, HF.out, HB.out⟩

/-- The string of bytes. -/
def strB (l : List UInt8) : ByteArray := ⟨l.toArray⟩
set_option maxHeartbeats 4000000 in
set_option maxRecDepth 100000 in
theorem textBack_any (g off n cap : Nat) (bs : List UInt8) (t : TypeId) (hfit : off + n ≤ bs.length) (w : World) (hg : Blk w g (bytesA bs) t) :
    Calls Tryd.prog 47 #[.slice (some ⟨g, off, none⟩) n cap] w fun q w' => q = .returned (.string (strB ((bs.drop off).take n))) ∧ w = w' := by
  have hrun : (convert 111 9 (.slice (some ⟨g, off, none⟩) n cap)).run Tryd.prog w = .ok (.string (strB ((bs.drop off).take n))) w := by
    have hll : ((bs.drop off).take n).length = n := by rw [List.length_take, List.length_drop]; omega
    have := run_convert_bytes_back (P := Tryd.prog) w 111 9 5 ⟨g, off, none⟩ cap ((bs.drop off).take n) Tryd.underlying111 Tryd.underlying5 Tryd.underlying9 (by
      intro j hj
      have hadd : (⟨g, off, none⟩ : Addr).add j = ⟨g, off + j, none⟩ := by unfold Addr.add; split <;> simp_all
      rw [hadd, bytes_cell hg _ (by omega)]
      simp only [bv, List.getElem_take, List.getElem_drop]
      congr 3
      rw [List.getD_eq_getElem?_getD, List.getElem?_eq_getElem (by omega)]; rfl)
    rw [hll] at this
    exact this
  go_enter Tryd.func47, Tryd.ntmps47
  go_wp2
  go_ret
  exact ⟨rfl, rfl⟩

set_option maxRecDepth 100000 in
theorem form1_any (g off wd : Nat) (hwd : wd ≤ 1099511627776) (s : ByteArray) (hs : s.size ≤ maxLen) (bs : List UInt8) (t : TypeId) (hfit : off + wd ≤ bs.length) (p : Nat) (w : World) (hp : Blk w p #[.func (.func 46) #[] #[]] 109) (hg : Blk w g (bytesA bs) t) :
    Calls Tryd.prog 67 #[.slice (some ⟨g, off, none⟩) wd wd, .string s, .pointer (some ⟨p, 0, none⟩)] w fun q w' => q = .returned (.tuple #[]) ∧ Fr (· = g) w w' ∧ Blk w' g (bytesA (splB bs off (recB wd s))) t := by
  have hc := hp.cell 0
  go_enter Tryd.func67, Tryd.ntmps67
  go_wp2_with (go_at_call 46; refine (text_any g off wd hwd s hs bs t hfit _ hg).mono ?_; rintro q w1 ⟨rfl, hF, hB⟩)
  go_returns
  exact ⟨rfl, hF, hB⟩
set_option maxRecDepth 100000 in
theorem form2_any (g off n cap : Nat) (bs : List UInt8) (t : TypeId) (hfit : off + n ≤ bs.length) (p : Nat) (w : World) (hp : Blk w p #[.func (.func 47) #[] #[]] 112) (hg : Blk w g (bytesA bs) t) :
    Calls Tryd.prog 68 #[.slice (some ⟨g, off, none⟩) n cap, .pointer (some ⟨p, 0, none⟩)] w fun q w' => q = .returned (.string (strB ((bs.drop off).take n))) ∧ w = w' := by
  have hc := hp.cell 0
  go_enter Tryd.func68, Tryd.ntmps68
  go_wp2_with (go_at_call 47; refine (textBack_any g off n cap bs t hfit _ hg).mono ?_; rintro q w1 ⟨rfl, rfl⟩)
  go_ret
  exact ⟨rfl, rfl⟩
set_option maxHeartbeats 4000000 in
set_option maxRecDepth 100000 in
theorem right_ok (x : Value) (vt : TypeId) (wd tag : Int) (h1 : 1 ≤ wd) (h2 : wd ≤ 256) (p q : Nat) (w : World) :
    Calls Tryd.prog 43 #[.iface vt x, titleV 3 wd tag, textForm wd p q] w fun r w' => r = .returned (.int .i64 0) ∧ Keeps w w' := by
  have ht := titled_any 3 wd tag
  have hr := right_textForm wd p q
  have hd1 : decide (1 ≤ wd ∧ wd ≤ 256) = true := by simp; omega
  have hd2 : decide ((1 : Int) ≤ 3 ∧ (3 : Int) ≤ 255 ∧ 1 ≤ wd ∧ wd ≤ 256) = true := by simp; omega
  rw [hd1] at hr
  rw [hd2] at ht
  have HT := Lib.hid ht
  have HR := Lib.hid hr
  clear ht hr hd1 hd2
  unfold titleV textForm at *
  go_enter Tryd.func43, Tryd.ntmps43
  go_wp2_with (first
    | (go_at_call 63; refine (HT.out _).mono ?_; rintro q w2 ⟨rfl, hk2⟩; have hT2 := (hk2.blk hT1 (fun h => h)).cell; have hF2 := (hk2.blk hF1 (fun h => h)).cell)
    | (go_at_call 62; refine (HR.out _).mono ?_; rintro q w1 ⟨rfl, hk1⟩; have hT1 : Blk w1 w.heap.size #[.int .i64 3, .int .i64 wd, .int .u64 tag] 53 := hk1.blk (Blk.alloc (Blk.new' rfl) _) (fun h => h); have hF1 : Blk w1 (w.heap.size + 1) _ 57 := hk1.blk (Blk.new' (by simp)) (fun h => h); have hT1c := hT1.cell; have hF1c := hF1.cell))
  go_ret
  exact ⟨rfl, Fr.keeps (Fr.keeps (((Fr.refl _ w).alloc _).alloc _) hk1) hk2⟩
end Go.Proofs.YtcefockebphbaaaDoor

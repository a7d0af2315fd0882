/- The walk of SieveNil, whole. -/
import Derived.Test.YtcefockebphbaaaGreatDoorSNilW
import Derived.Test.YtcefockebphbaaaGreatDoorRI
import Derived.Deep.DeepCutAuto
set_option linter.unusedVariables false
set_option linter.unusedSimpArgs false
set_option linter.unnecessarySimpa false
namespace Go.Proofs.YtcefockebphbaaaGreatDoor
open Go Go.RowKit Sluice

theorem info_edge : (Tryz.prog.info? 90).map (fun i => (i.zero, i.size, i.bytes)) = some (some (.agg #[.int .u32 0, .int .u32 0, .int .u32 0]), 3, 12) := by kernel_rfl
theorem make_edges (n : Nat) (hn : n ≤ 1000000) (w : World) : (Instr.makeSlice 50 (.int .i64 (n : Int)) (.int .i64 (n : Int))).run Tryz.prog w = .ok (.slice (some ⟨w.heap.size, 0, none⟩) n n) (w.alloc (.cells (made (.agg #[.int .u32 0, .int .u32 0, .int .u32 0]) (n * 3)) 90)) :=
  run_make_any w _ _ _ _ _ Tryz.underlying50 info_edge .i64 .i64 n (by omega) (by omega)
theorem make_bytes (n : Nat) (hn : n ≤ 1000000) (w : World) : (Instr.makeSlice 51 (.int .i64 (n : Int)) (.int .i64 (n : Int))).run Tryz.prog w = .ok (.slice (some ⟨w.heap.size, 0, none⟩) n n) (w.alloc (.cells (made (.int .u8 0) (n * 1)) 5)) :=
  run_make_any w _ _ _ _ _ Tryz.underlying51 info_u8 .i64 .i64 n (by omega) (by omega)
def AllTrue (w : World) (r : Ending) (w' : World) : Prop := r = .returned (.bool true) ∧ Keeps w w'

/-- What is known behind an Ingest of nothing: where the haul lies. -/
def HaulAt (w : World) (h e : Value) (wr : World) : Prop := ∃ b, h = .pointer (some ⟨b, 0, none⟩) ∧ e = .int .i64 1 ∧ Blk wr b #[.int .i64 0, .slice none 0 0, .slice none 0 0, .slice none 0 0, .slice none 0 0, .int .u32 0] 43 ∧ w.heap.size ≤ b ∧ Keeps w wr

/-- What the operations of the region are known by. -/
def FHaul (name : ByteArray) (back : Bool) (w0 : World) (i : Nat) (x : Nat → Value) (w : World) : Prop :=
  match i with
  | 0 => x 0 = .string name
  | 1 => x 1 = .agg #[.int .u32 5, .int .u32 2, .int .u32 2, .int .u32 1]
  | 2 => x 2 = .bool back
  | 7 => x 7 = .tuple #[haulZ, .int .i64 1]
  | 8 => x 8 = .tuple #[haulZ, .int .i64 1]
  | 9 => x 9 = haulZ
  | 10 => x 10 = .int .i64 1
  | 11 => ∃ b cs, x 11 = .pointer (some ⟨b, 0, none⟩) ∧ Blk w b cs 43 ∧ cs.size = 6 ∧ w0.heap.size ≤ b
  | 12 => ∃ b, x 11 = .pointer (some ⟨b, 0, none⟩) ∧ Blk w b #[.int .i64 0, .slice none 0 0, .slice none 0 0, .slice none 0 0, .slice none 0 0, .int .u32 0] 43
  | 13 => x 13 = .int .i64 1
  | _ => True
def RHaul (w0 : World) (i : Nat) (x : Nat → Value) (w w' : World) : Prop :=
  if i = 12 then ∃ b, x 11 = .pointer (some ⟨b, 0, none⟩) ∧ Fr (· = b) w w' ∧ Blk w' b #[.int .i64 0, .slice none 0 0, .slice none 0 0, .slice none 0 0, .slice none 0 0, .int .u32 0] 43
  else Keeps w w'
theorem FHaul.loc {name : ByteArray} {back : Bool} {w0 w : World} : ∀ {j : Nat} {x y : Nat → Value}, (∀ k, k = j → x k = y k) → (j = 12 → x 11 = y 11) → FHaul name back w0 j x w → FHaul name back w0 j y w
  | 0, x, y, h, _, hF => (h 0 rfl).symm.trans hF
  | 1, x, y, h, _, hF => (h 1 rfl).symm.trans hF
  | 2, x, y, h, _, hF => (h 2 rfl).symm.trans hF
  | 7, x, y, h, _, hF => (h 7 rfl).symm.trans hF
  | 8, x, y, h, _, hF => (h 8 rfl).symm.trans hF
  | 9, x, y, h, _, hF => (h 9 rfl).symm.trans hF
  | 10, x, y, h, _, hF => (h 10 rfl).symm.trans hF
  | 11, x, y, h, _, hF => by
    obtain ⟨b, cs, h1, h2⟩ := hF
    exact ⟨b, cs, (h 11 rfl).symm.trans h1, h2⟩
  | 12, x, y, _, h, hF => by
    obtain ⟨b, h1, h2⟩ := hF
    exact ⟨b, (h rfl).symm.trans h1, h2⟩
  | 13, x, y, h, _, hF => (h 13 rfl).symm.trans hF
  | 3, _, _, _, _, _ => trivial
  | 4, _, _, _, _, _ => trivial
  | 5, _, _, _, _, _ => trivial
  | 6, _, _, _, _, _ => trivial
  | _ + 14, _, _, _, _, _ => trivial
theorem FHaul.keeps {name : ByteArray} {back : Bool} {w0 w w' : World} (hk : Keeps w w') : ∀ {j : Nat} {x : Nat → Value}, FHaul name back w0 j x w → FHaul name back w0 j x w'
  | 0, x, hF => hF
  | 1, x, hF => hF
  | 2, x, hF => hF
  | 7, x, hF => hF
  | 8, x, hF => hF
  | 9, x, hF => hF
  | 10, x, hF => hF
  | 11, x, hF => by
    obtain ⟨b, cs, h1, h2, h3⟩ := hF
    exact ⟨b, cs, h1, hk.blk h2 (fun h => h), h3⟩
  | 12, x, hF => by
    obtain ⟨b, h1, h2⟩ := hF
    exact ⟨b, h1, hk.blk h2 (fun h => h)⟩
  | 13, x, hF => hF
  | 3, _, _ => trivial
  | 4, _, _ => trivial
  | 5, _, _ => trivial
  | 6, _, _ => trivial
  | _ + 14, _, _ => trivial
theorem FHaul.stored {name : ByteArray} {back : Bool} {w0 w w' : World} {b : Nat} {x : Nat → Value} (e : x 11 = .pointer (some ⟨b, 0, none⟩)) (hb : Blk w' b #[.int .i64 0, .slice none 0 0, .slice none 0 0, .slice none 0 0, .slice none 0 0, .int .u32 0] 43) :
    ∀ {j : Nat}, j ≠ 12 → FHaul name back w0 j x w → FHaul name back w0 j x w'
  | 0, _, hF => hF
  | 1, _, hF => hF
  | 2, _, hF => hF
  | 7, _, hF => hF
  | 8, _, hF => hF
  | 9, _, hF => hF
  | 10, _, hF => hF
  | 11, _, hF => by
    obtain ⟨b', cs, h1, h2, h3, h4⟩ := hF
    rw [e] at h1
    cases h1
    exact ⟨b, _, e, hb, rfl, h4⟩
  | 12, h, _ => absurd rfl h
  | 13, _, hF => hF
  | 3, _, _ => trivial
  | 4, _, _ => trivial
  | 5, _, _ => trivial
  | 6, _, _ => trivial
  | _ + 14, _, _ => trivial
theorem RHaul.keeps {w0 w w' : World} {i : Nat} {x : Nat → Value} (h : i ≠ 12) (hk : Keeps w w') : RHaul w0 i x w w' := by
  unfold RHaul; rw [if_neg h]; exact hk
/-- What the operations of the region are known by. -/
def GHaul (d : Nat) (name : ByteArray) (back : Bool) (w0 : World) (i : Nat) (x : Nat → Value) (w : World) : Prop :=
  match i with
  | 0 => x 0 = .pointer (some ⟨d, 0, none⟩)
  | 1 => x 1 = .iface 38 (.pointer (some ⟨d, 0, none⟩))
  | 2 => x 2 = .string name
  | 3 => x 3 = .agg #[.int .u32 5, .int .u32 2, .int .u32 2, .int .u32 1]
  | 4 => x 4 = .bool back
  | 8 => x 8 = .tuple #[haulZ, .int .i64 1]
  | 9 => x 9 = .tuple #[haulZ, .int .i64 1]
  | 10 => x 10 = haulZ
  | 11 => x 11 = .int .i64 1
  | 12 => ∃ b cs, x 12 = .pointer (some ⟨b, 0, none⟩) ∧ Blk w b cs 43 ∧ cs.size = 6 ∧ w0.heap.size ≤ b
  | 13 => ∃ b, x 12 = .pointer (some ⟨b, 0, none⟩) ∧ Blk w b #[.int .i64 0, .slice none 0 0, .slice none 0 0, .slice none 0 0, .slice none 0 0, .int .u32 0] 43
  | 14 => x 14 = .int .i64 1
  | _ => True
def RHaul2 (w0 : World) (i : Nat) (x : Nat → Value) (w w' : World) : Prop :=
  if i = 13 then ∃ b, x 12 = .pointer (some ⟨b, 0, none⟩) ∧ Fr (· = b) w w' ∧ Blk w' b #[.int .i64 0, .slice none 0 0, .slice none 0 0, .slice none 0 0, .slice none 0 0, .int .u32 0] 43
  else Keeps w w'
theorem GHaul.loc {d : Nat} {name : ByteArray} {back : Bool} {w0 w : World} : ∀ {j : Nat} {x y : Nat → Value}, (∀ k, k = j → x k = y k) → (j = 13 → x 12 = y 12) → GHaul d name back w0 j x w → GHaul d name back w0 j y w
  | 0, x, y, h, _, hF => (h 0 rfl).symm.trans hF
  | 1, x, y, h, _, hF => (h 1 rfl).symm.trans hF
  | 2, x, y, h, _, hF => (h 2 rfl).symm.trans hF
  | 3, x, y, h, _, hF => (h 3 rfl).symm.trans hF
  | 4, x, y, h, _, hF => (h 4 rfl).symm.trans hF
  | 8, x, y, h, _, hF => (h 8 rfl).symm.trans hF
  | 9, x, y, h, _, hF => (h 9 rfl).symm.trans hF
  | 10, x, y, h, _, hF => (h 10 rfl).symm.trans hF
  | 11, x, y, h, _, hF => (h 11 rfl).symm.trans hF
  | 12, x, y, h, _, hF => by
    obtain ⟨b, cs, h1, h2⟩ := hF
    exact ⟨b, cs, (h 12 rfl).symm.trans h1, h2⟩
  | 13, x, y, _, h, hF => by
    obtain ⟨b, h1, h2⟩ := hF
    exact ⟨b, (h rfl).symm.trans h1, h2⟩
  | 14, x, y, h, _, hF => (h 14 rfl).symm.trans hF
  | 5, _, _, _, _, _ => trivial
  | 6, _, _, _, _, _ => trivial
  | 7, _, _, _, _, _ => trivial
  | _ + 15, _, _, _, _, _ => trivial
theorem GHaul.keeps {d : Nat} {name : ByteArray} {back : Bool} {w0 w w' : World} (hk : Keeps w w') : ∀ {j : Nat} {x : Nat → Value}, GHaul d name back w0 j x w → GHaul d name back w0 j x w'
  | 0, x, hF => hF
  | 1, x, hF => hF
  | 2, x, hF => hF
  | 3, x, hF => hF
  | 4, x, hF => hF
  | 8, x, hF => hF
  | 9, x, hF => hF
  | 10, x, hF => hF
  | 11, x, hF => hF
  | 12, x, hF => by
    obtain ⟨b, cs, h1, h2, h3⟩ := hF
    exact ⟨b, cs, h1, hk.blk h2 (fun h => h), h3⟩
  | 13, x, hF => by
    obtain ⟨b, h1, h2⟩ := hF
    exact ⟨b, h1, hk.blk h2 (fun h => h)⟩
  | 14, x, hF => hF
  | 5, _, _ => trivial
  | 6, _, _ => trivial
  | 7, _, _ => trivial
  | _ + 15, _, _ => trivial
theorem GHaul.stored {d : Nat} {name : ByteArray} {back : Bool} {w0 w w' : World} {b : Nat} {x : Nat → Value} (e : x 12 = .pointer (some ⟨b, 0, none⟩)) (hb : Blk w' b #[.int .i64 0, .slice none 0 0, .slice none 0 0, .slice none 0 0, .slice none 0 0, .int .u32 0] 43) :
    ∀ {j : Nat}, j ≠ 13 → GHaul d name back w0 j x w → GHaul d name back w0 j x w'
  | 0, _, hF => hF
  | 1, _, hF => hF
  | 2, _, hF => hF
  | 3, _, hF => hF
  | 4, _, hF => hF
  | 8, _, hF => hF
  | 9, _, hF => hF
  | 10, _, hF => hF
  | 11, _, hF => hF
  | 12, _, hF => by
    obtain ⟨b', cs, h1, h2, h3, h4⟩ := hF
    rw [e] at h1
    cases h1
    exact ⟨b, _, e, hb, rfl, h4⟩
  | 13, h, _ => absurd rfl h
  | 14, _, hF => hF
  | 5, _, _ => trivial
  | 6, _, _ => trivial
  | 7, _, _ => trivial
  | _ + 15, _, _ => trivial
theorem RHaul2.keeps {w0 w w' : World} {i : Nat} {x : Nat → Value} (h : i ≠ 13) (hk : Keeps w w') : RHaul2 w0 i x w w' := by
  unfold RHaul2; rw [if_neg h]; exact hk
theorem haul_set {w : World} {b : Nat} {t : TypeId} (h : Blk w b #[.int .i64 0, .slice none 0 0, .slice none 0 0, .slice none 0 0, .slice none 0 0, .int .u32 0] t) :
    Blk ((((((w.setCell ⟨b, 0, none⟩ (.int .i64 0)).setCell ⟨b, 1, none⟩ (.slice none 0 0)).setCell ⟨b, 2, none⟩ (.slice none 0 0)).setCell ⟨b, 3, none⟩ (.slice none 0 0)).setCell ⟨b, 4, none⟩ (.slice none 0 0)).setCell ⟨b, 5, none⟩ (.int .u32 0)) b #[.int .i64 0, .slice none 0 0, .slice none 0 0, .slice none 0 0, .slice none 0 0, .int .u32 0] t :=
  (((((h.set 0 _).set 1 _).set 2 _).set 3 _).set 4 _).set 5 _
theorem haul_over {w : World} {b : Nat} {t : TypeId} {cs : Array Value} (hs : cs.size = 6) (h : Blk w b cs t) :
    Blk ((((((w.setCell ⟨b, 0, none⟩ (.int .i64 0)).setCell ⟨b, 1, none⟩ (.slice none 0 0)).setCell ⟨b, 2, none⟩ (.slice none 0 0)).setCell ⟨b, 3, none⟩ (.slice none 0 0)).setCell ⟨b, 4, none⟩ (.slice none 0 0)).setCell ⟨b, 5, none⟩ (.int .u32 0)) b #[.int .i64 0, .slice none 0 0, .slice none 0 0, .slice none 0 0, .slice none 0 0, .int .u32 0] t := by
  obtain ⟨l⟩ := cs
  match l, hs with
  | [c0, c1, c2, c3, c4, c5], _ => exact (((((h.set 0 _).set 1 _).set 2 _).set 3 _).set 4 _).set 5 _
theorem Fr.setIn6 {w : World} (b : Nat) {v0 v1 v2 v3 v4 v5 : Value} :
    Fr (· = b) w ((((((w.setCell ⟨b, 0, none⟩ v0).setCell ⟨b, 1, none⟩ v1).setCell ⟨b, 2, none⟩ v2).setCell ⟨b, 3, none⟩ v3).setCell ⟨b, 4, none⟩ v4).setCell ⟨b, 5, none⟩ v5) :=
  ((((((Fr.refl (· = b) w).setCell (p := ⟨b, 0, none⟩) (fun _ => rfl) _).setCell (p := ⟨b, 1, none⟩) (fun _ => rfl) _).setCell (p := ⟨b, 2, none⟩) (fun _ => rfl) _).setCell (p := ⟨b, 3, none⟩) (fun _ => rfl) _).setCell (p := ⟨b, 4, none⟩) (fun _ => rfl) _).setCell (p := ⟨b, 5, none⟩) (fun _ => rfl) _
theorem keep6 {w w4 : World} {b : Nat} (h : Keeps w w4) (hb : w.heap.size ≤ b) {v0 v1 v2 v3 v4 v5 : Value} :
    Keeps w ((((((w4.setCell ⟨b, 0, none⟩ v0).setCell ⟨b, 1, none⟩ v1).setCell ⟨b, 2, none⟩ v2).setCell ⟨b, 3, none⟩ v3).setCell ⟨b, 4, none⟩ v4).setCell ⟨b, 5, none⟩ v5) := by
  have hs : ∀ o, (⟨b, o, none⟩ : Addr).block < w.heap.size → (fun _ => False) (⟨b, o, none⟩ : Addr).block := fun o (h : b < _) => by exact absurd h (by omega)
  exact (((((h.setCell (hs _) _).setCell (hs _) _).setCell (hs _) _).setCell (hs _) _).setCell (hs _) _).setCell (hs _) _

set_option maxHeartbeats 1000000 in
set_option maxRecDepth 100000 in
theorem snil_walk (part : Int) (hp0 : -9223372036854775808 ≤ part) (hp1 : part ≤ 9223372036854775807) (name : ByteArray) (hs : name.size ≤ 140737488351232) (back : Bool) (w : World) (ht : Tab10 w) (htk : ∀ w', Keeps w w' → Tab10 w') :
    Calls Tryz.prog 3 #[.int .i64 part, .string name, .bool back] w (AllTrue w) := by
  have hme := fun w => make_edges 4 (by omega) w
  have hmb := fun w => make_bytes 100 (by omega) w
  simp only [Int.cast_ofNat_Int] at hme hmb
  have HT := Lib.hid htk
  clear htk ht
  go_enter Tryz.func3, Tryz.ntmps3
  go_wp2_with (first
    | (go_at_call 4; refine (split_ok 5 2 (by omega) (by omega) (by omega) (by omega) (by omega) _).mono ?_; unfold rangesV; rintro r w1 ⟨rfl, hW⟩)
    | (go_at_call 5; refine (num9_any _ (by omega) (by omega) _).mono ?_; rintro r w' ⟨rfl, rfl⟩)
    | (go_at_call 6; refine (sclose_nil _).mono ?_; rintro r w' ⟨rfl, rfl⟩)
    | (go_at_call 7; refine (sput_nil _ _).mono ?_; rintro r w' ⟨rfl, rfl⟩)
    | (go_at_call 8; refine (sflush_nil _).mono ?_; rintro r w' ⟨rfl, rfl⟩)
    | (go_at_call 9; refine (sdrop_nil _).mono ?_; rintro r w' ⟨rfl, rfl⟩)
    | (go_at_call 10; refine (new_any _ (by omega) (by omega) _).mono ?_; rintro r w2 ⟨d, m1, m2, rfl, hD, hm1, hm2, hd0, hd1, hd2, hd3, hd4, hd5, hk⟩))
  have hC : Blk w2 w1.heap.size #[.int .u32 5, .int .u32 2, .int .u32 2, .int .u32 1] 24 := hk.blk (Blk.new' rfl) (fun h => h)
  have hW2 : Keeps w w2 := Fr.keeps (hW.alloc _) hk
  have hlt : w1.heap.size < w2.heap.size := hC.lt
  have hlt0 : w.heap.size ≤ w2.heap.size := hW2.size
  generalize w1.heap.size = cb at hC hlt
  clear hm1 hm2 hd1 hd2 hd3 hd4 hd5 hk hW
  have HW2 := Lib.hid hW2
  have HC := Lib.hid hC
  have HD := Lib.hid hD
  clear hW2 hD
  have hc0 := hC.cell 0
  have hc1 := hC.cell 1
  have hc2 := hC.cell 2
  have hc3 := hC.cell 3
  clear hC
  simp at hc0 hc1 hc2 hc3
  have hl1 : cb < w2.heap.size + 1 := by omega
  have hl2 : cb < w2.heap.size + 1 + 1 := by omega
  have hl3 : cb < w2.heap.size + 1 + 1 + 1 := by omega
  have hl4 : cb < w2.heap.size + 1 + 1 + 1 + 1 := by omega
  go_upto_region 11 with fail
  go_cut [15, 16] (fun h e wr => HaulAt w2 h e wr)
  case first =>
    refine wp_region_gen (G := fun _ w' => Keeps w2 w') (R := RHaul w2) (F := FHaul name back w2) (fr := ?fr) ?hfr (by kernel_rfl) (by kernel_rfl) (by kernel_rfl) ?h0 ?hloc ?hstab ?hstep ?hend
    case hfr =>
      intro x
      simp only [List.toList_toArray, putsFrom, Nat.reduceAdd, Act.put, List.setIfInBounds_toArray, List.set_cons_succ, List.set_cons_zero]
      rfl
    case h0 => exact (Fr.refl _ _).drew
    case hloc =>
      intro j x y w' h hF
      exact FHaul.loc (fun k hk => h k 0 (Or.inl hk)) (fun e => by subst e; exact h 11 1 (Or.inr (by kernel_rfl))) hF
    case hstab =>
      intro i j x w3 w4 hne _ hF hR
      unfold RHaul at hR
      by_cases e : i = 12
      · rw [if_pos e] at hR
        obtain ⟨b, h1, h2, h3⟩ := hR
        exact FHaul.stored h1 h3 (fun e2 => hne (e2.trans e.symm)) hF
      · rw [if_neg e] at hR
        exact FHaul.keeps hR hF
    case hstep =>
      refine ⟨?_, ?_, ?_, ?_, ?_, ?_, ?_, ?_, ?_, ?_, ?_, ?_, ?_, ?_, trivial⟩
      · intro did x w' hi hG hx0 K hK
        have hx := Lib.hid hx0
        clear hx0
        go_simp
        exact hK (.string name) _ _ (by kernel_rfl) (RHaul.keeps (by decide) (Fr.refl _ _)) hG rfl
      · intro did x w' hi hG hx0 K hK
        have hx := Lib.hid hx0
        clear hx0
        have k0 := cell_of_keeps hG hc0
        have k1 := cell_of_keeps hG hc1
        have k2 := cell_of_keeps hG hc2
        have k3 := cell_of_keeps hG hc3
        go_simp
        exact hK (.agg #[.int .u32 5, .int .u32 2, .int .u32 2, .int .u32 1]) _ _ (by kernel_rfl) (RHaul.keeps (by decide) (Fr.refl _ _)) hG rfl
      · intro did x w' hi hG hx0 K hK
        have hx := Lib.hid hx0
        clear hx0
        go_simp
        exact hK (.bool back) _ _ (by kernel_rfl) (RHaul.keeps (by decide) (Fr.refl _ _)) hG rfl
      · intro did x w' hi hG hx0 K hK
        have hx := Lib.hid hx0
        clear hx0
        go_simp
        refine (feed_nil _).mono ?_
        rintro r w3 ⟨f, fa, fc, rfl, hk3⟩
        exact hK (.func f fa fc) _ _ (by kernel_rfl) (RHaul.keeps (by decide) hk3) (hG.keeps hk3) trivial
      · intro did x w' hi hG hx0 K hK
        have hx := Lib.hid hx0
        clear hx0
        go_simp
        exact hK (.slice (some ⟨w'.heap.size, 0, none⟩) 4 4) _ _ (by kernel_rfl) (RHaul.keeps (by decide) ((Fr.refl _ _).alloc _)) (hG.alloc _) trivial
      · intro did x w' hi hG hx0 K hK
        have hx := Lib.hid hx0
        clear hx0
        go_simp
        exact hK (.slice (some ⟨w'.heap.size, 0, none⟩) 4 4) _ _ (by kernel_rfl) (RHaul.keeps (by decide) ((Fr.refl _ _).alloc _)) (hG.alloc _) trivial
      · intro did x w' hi hG hx0 K hK
        have hx := Lib.hid hx0
        clear hx0
        go_simp
        exact hK (.slice (some ⟨w'.heap.size, 0, none⟩) 100 100) _ _ (by kernel_rfl) (RHaul.keeps (by decide) ((Fr.refl _ _).alloc _)) (hG.alloc _) trivial
      · intro did x w' hi hG hx0 K hK
        have hx := Lib.hid hx0
        clear hx0
        have e0 : x 0 = .string name := hx.out 1 0 (by kernel_rfl)
        have e1 : x 1 = rangesV 5 2 2 1 := hx.out 1 1 (by kernel_rfl)
        have e2 : x 2 = .bool back := hx.out 1 2 (by kernel_rfl)
        have hC := ingest_nilv name 5 2 2 1 1 back (x 3) 2 (x 4) (x 5) (x 6) w'
        rw [← e0, ← e1, ← e2] at hC
        have HC := Lib.hid hC
        clear e0 e1 e2 hC
        go_simp
        refine HC.out.mono ?_
        rintro r w4 ⟨rfl, hk4⟩
        exact hK (.tuple #[haulZ, .int .i64 1]) _ _ (by kernel_rfl) (RHaul.keeps (by decide) hk4) (hG.keeps hk4) rfl
      · intro did x w' hi hG hx0 K hK
        have hx := Lib.hid hx0
        clear hx0
        have H7 := Lib.hid (hx.out 1 7 (by kernel_rfl))
        go_simp
        exact hK (x 7) _ _ (by kernel_rfl) (RHaul.keeps (by decide) (Fr.refl _ _)) hG H7.out
      · intro did x w' hi hG hx0 K hK
        have hx := Lib.hid hx0
        clear hx0
        have e8 : x 8 = .tuple #[haulZ, .int .i64 1] := hx.out 1 8 (by kernel_rfl)
        go_simp
        exact hK haulZ _ _ (by rw [← e8]; kernel_rfl) (RHaul.keeps (by decide) (Fr.refl _ _)) hG rfl
      · intro did x w' hi hG hx0 K hK
        have hx := Lib.hid hx0
        clear hx0
        have e8 : x 8 = .tuple #[haulZ, .int .i64 1] := hx.out 1 8 (by kernel_rfl)
        go_simp
        exact hK (.int .i64 1) _ _ (by rw [← e8]; kernel_rfl) (RHaul.keeps (by decide) (Fr.refl _ _)) hG rfl
      · intro did x w' hi hG hx0 K hK
        have hx := Lib.hid hx0
        clear hx0
        go_simp
        refine hK (.pointer (some ⟨w'.heap.size, 0, none⟩)) _ _ (by kernel_rfl) (RHaul.keeps (by decide) ((Fr.refl _ _).alloc _)) (hG.alloc _) ?_
        exact ⟨w'.heap.size, _, rfl, Blk.new' rfl, rfl, hG.size⟩
      · intro did x w' hi hG hx0 K hK
        have hx := Lib.hid hx0
        clear hx0
        obtain ⟨b, cs, e11, hb, hcs, hbs⟩ := hx.out 1 11 (by kernel_rfl)
        have e9 : x 9 = haulZ := hx.out 1 9 (by kernel_rfl)
        rw [haulZ] at e9
        have hbc := hb.cell
        have hbf := hb.free
        have E11 := Lib.hid e11
        have E9 := Lib.hid e9
        have HB := Lib.hid hb
        clear hb
        go_simp
        refine hK undef _ _ (by rw [← E11.out, ← E9.out]; kernel_rfl) ?_ ?_ ?_
        · unfold RHaul
          rw [if_pos rfl]
          exact ⟨b, E11.out, Fr.setIn6 b, haul_over hcs HB.out⟩
        · exact keep6 hG hbs
        · exact ⟨b, E11.out, haul_over hcs HB.out⟩
      · intro did x w' hi hG hx0 K hK
        have hx := Lib.hid hx0
        clear hx0
        have H10 := Lib.hid (hx.out 1 10 (by kernel_rfl))
        go_simp
        exact hK (x 10) _ _ (by kernel_rfl) (RHaul.keeps (by decide) (Fr.refl _ _)) hG H10.out
    case hend =>
      intro did x w' hG hall hF
      have e13 : x 13 = .int .i64 1 := hF 13 (by decide)
      obtain ⟨b, cs, e11, -, -, hbs⟩ := hF 11 (by decide)
      obtain ⟨b', e11', hb⟩ := hF 12 (by decide)
      rw [e11] at e11'
      cases e11'
      go_wp2_with fail
      go_meet
      exact ⟨b, e11, e13, hb, hbs, hG⟩
  case rest =>
    obtain ⟨hb, rfl, rfl, hhb, hhs, hkr⟩ := hcut
    have hr0 := cell_of_keeps hkr hc0
    have hr1 := cell_of_keeps hkr hc1
    have hr2 := cell_of_keeps hkr hc2
    have hr3 := cell_of_keeps hkr hc3
    have HKR := Lib.hid hkr
    have HHB := Lib.hid hhb
    have HKW := Lib.hid (HW2.out.keeps hkr)
    have HDW := Lib.hid (hkr.blk HD.out (fun h => h))
    clear hkr hhb
    go_upto_region 12 with fail
    go_cut [17, 18] (fun h e wr => HaulAt wc h e wr)
    case first =>
      refine wp_region_gen (G := fun _ w' => Keeps wc w') (R := RHaul2 wc) (F := GHaul d name back wc) (fr := ?fr2) ?hfr2 (by kernel_rfl) (by kernel_rfl) (by kernel_rfl) ?h02 ?hloc2 ?hstab2 ?hstep2 ?hend2
      case hfr2 =>
        intro x
        simp only [List.toList_toArray, putsFrom, Nat.reduceAdd, Act.put, List.setIfInBounds_toArray, List.set_cons_succ, List.set_cons_zero]
        rfl
      case h02 => exact (Fr.refl _ _).drew
      case hloc2 =>
        intro j x y w' h hF
        exact GHaul.loc (fun k hk => h k 0 (Or.inl hk)) (fun e => by subst e; exact h 12 1 (Or.inr (by kernel_rfl))) hF
      case hstab2 =>
        intro i j x w3 w4 hne _ hF hR
        unfold RHaul2 at hR
        by_cases e : i = 13
        · rw [if_pos e] at hR
          obtain ⟨b, h1, h2, h3⟩ := hR
          exact GHaul.stored h1 h3 (fun e2 => hne (e2.trans e.symm)) hF
        · rw [if_neg e] at hR
          exact GHaul.keeps hR hF
      case hstep2 =>
        refine ⟨?_, ?_, ?_, ?_, ?_, ?_, ?_, ?_, ?_, ?_, ?_, ?_, ?_, ?_, ?_, trivial⟩
        · intro did x w' hi hG hx0 K hK
          have hx := Lib.hid hx0
          clear hx0
          go_simp
          exact hK (.pointer (some ⟨d, 0, none⟩)) _ _ (by kernel_rfl) (RHaul2.keeps (by decide) (Fr.refl _ _)) hG rfl
        · intro did x w' hi hG hx0 K hK
          have hx := Lib.hid hx0
          clear hx0
          have e0 : x 0 = .pointer (some ⟨d, 0, none⟩) := hx.out 1 0 (by kernel_rfl)
          go_simp
          exact hK (.iface 38 (.pointer (some ⟨d, 0, none⟩))) _ _ (by rw [← e0]; kernel_rfl) (RHaul2.keeps (by decide) (Fr.refl _ _)) hG rfl
        · intro did x w' hi hG hx0 K hK
          have hx := Lib.hid hx0
          clear hx0
          go_simp
          exact hK (.string name) _ _ (by kernel_rfl) (RHaul2.keeps (by decide) (Fr.refl _ _)) hG rfl
        · intro did x w' hi hG hx0 K hK
          have hx := Lib.hid hx0
          clear hx0
          have k0 := cell_of_keeps hG hr0
          have k1 := cell_of_keeps hG hr1
          have k2 := cell_of_keeps hG hr2
          have k3 := cell_of_keeps hG hr3
          go_simp
          exact hK (.agg #[.int .u32 5, .int .u32 2, .int .u32 2, .int .u32 1]) _ _ (by kernel_rfl) (RHaul2.keeps (by decide) (Fr.refl _ _)) hG rfl
        · intro did x w' hi hG hx0 K hK
          have hx := Lib.hid hx0
          clear hx0
          go_simp
          exact hK (.bool back) _ _ (by kernel_rfl) (RHaul2.keeps (by decide) (Fr.refl _ _)) hG rfl
        · intro did x w' hi hG hx0 K hK
          have hx := Lib.hid hx0
          clear hx0
          go_simp
          exact hK (.slice (some ⟨w'.heap.size, 0, none⟩) 4 4) _ _ (by kernel_rfl) (RHaul2.keeps (by decide) ((Fr.refl _ _).alloc _)) (hG.alloc _) trivial
        · intro did x w' hi hG hx0 K hK
          have hx := Lib.hid hx0
          clear hx0
          go_simp
          exact hK (.slice (some ⟨w'.heap.size, 0, none⟩) 4 4) _ _ (by kernel_rfl) (RHaul2.keeps (by decide) ((Fr.refl _ _).alloc _)) (hG.alloc _) trivial
        · intro did x w' hi hG hx0 K hK
          have hx := Lib.hid hx0
          clear hx0
          go_simp
          exact hK (.slice (some ⟨w'.heap.size, 0, none⟩) 100 100) _ _ (by kernel_rfl) (RHaul2.keeps (by decide) ((Fr.refl _ _).alloc _)) (hG.alloc _) trivial
        · intro did x w' hi hG hx0 K hK
          have hx := Lib.hid hx0
          clear hx0
          have e0 : x 2 = .string name := hx.out 1 2 (by kernel_rfl)
          have e1 : x 3 = rangesV 5 2 2 1 := hx.out 1 3 (by kernel_rfl)
          have e2 : x 4 = .bool back := hx.out 1 4 (by kernel_rfl)
          have e9 : x 1 = .iface 38 (.pointer (some ⟨d, 0, none⟩)) := hx.out 1 1 (by kernel_rfl)
          have hC := ingest_nile (.pointer (some ⟨d, 0, none⟩)) 38 name 5 2 2 1 1 back 2 (x 5) (x 6) (x 7) w'
          rw [← e9, ← e0, ← e1, ← e2] at hC
          have HC := Lib.hid hC
          clear e9 e0 e1 e2 hC
          go_simp
          refine HC.out.mono ?_
          rintro r w4 ⟨rfl, hk4⟩
          exact hK (.tuple #[haulZ, .int .i64 1]) _ _ (by kernel_rfl) (RHaul2.keeps (by decide) hk4) (hG.keeps hk4) rfl
        · intro did x w' hi hG hx0 K hK
          have hx := Lib.hid hx0
          clear hx0
          have H7 := Lib.hid (hx.out 1 8 (by kernel_rfl))
          go_simp
          exact hK (x 8) _ _ (by kernel_rfl) (RHaul2.keeps (by decide) (Fr.refl _ _)) hG H7.out
        · intro did x w' hi hG hx0 K hK
          have hx := Lib.hid hx0
          clear hx0
          have e8 : x 9 = .tuple #[haulZ, .int .i64 1] := hx.out 1 9 (by kernel_rfl)
          go_simp
          exact hK haulZ _ _ (by rw [← e8]; kernel_rfl) (RHaul2.keeps (by decide) (Fr.refl _ _)) hG rfl
        · intro did x w' hi hG hx0 K hK
          have hx := Lib.hid hx0
          clear hx0
          have e8 : x 9 = .tuple #[haulZ, .int .i64 1] := hx.out 1 9 (by kernel_rfl)
          go_simp
          exact hK (.int .i64 1) _ _ (by rw [← e8]; kernel_rfl) (RHaul2.keeps (by decide) (Fr.refl _ _)) hG rfl
        · intro did x w' hi hG hx0 K hK
          have hx := Lib.hid hx0
          clear hx0
          go_simp
          refine hK (.pointer (some ⟨w'.heap.size, 0, none⟩)) _ _ (by kernel_rfl) (RHaul2.keeps (by decide) ((Fr.refl _ _).alloc _)) (hG.alloc _) ?_
          exact ⟨w'.heap.size, _, rfl, Blk.new' rfl, rfl, hG.size⟩
        · intro did x w' hi hG hx0 K hK
          have hx := Lib.hid hx0
          clear hx0
          obtain ⟨b, cs, e11, hb, hcs, hbs⟩ := hx.out 1 12 (by kernel_rfl)
          have e9 : x 10 = haulZ := hx.out 1 10 (by kernel_rfl)
          rw [haulZ] at e9
          have hbc := hb.cell
          have hbf := hb.free
          have E11 := Lib.hid e11
          have E9 := Lib.hid e9
          have HB := Lib.hid hb
          clear hb
          go_simp
          refine hK undef _ _ (by rw [← E11.out, ← E9.out]; kernel_rfl) ?_ ?_ ?_
          · unfold RHaul2
            rw [if_pos rfl]
            exact ⟨b, E11.out, Fr.setIn6 b, haul_over hcs HB.out⟩
          · exact keep6 hG hbs
          · exact ⟨b, E11.out, haul_over hcs HB.out⟩
        · intro did x w' hi hG hx0 K hK
          have hx := Lib.hid hx0
          clear hx0
          have H10 := Lib.hid (hx.out 1 11 (by kernel_rfl))
          go_simp
          exact hK (x 11) _ _ (by kernel_rfl) (RHaul2.keeps (by decide) (Fr.refl _ _)) hG H10.out
      case hend2 =>
        intro did x w' hG hall hF
        have e13 : x 14 = .int .i64 1 := hF 14 (by decide)
        obtain ⟨b, cs, e11, -, -, hbs⟩ := hF 12 (by decide)
        obtain ⟨b', e11', hb⟩ := hF 13 (by decide)
        rw [e11] at e11'
        cases e11'
        go_wp2_with fail
        go_meet
        exact ⟨b, e11, e13, hb, hbs, hG⟩
    case rest =>
      obtain ⟨gb, rfl, rfl, hgb, hgs, hkg⟩ := hcut
      have hb0 := (hkg.blk HHB.out (fun h => h)).cell 0
      have hg0 := hgb.cell 0
      simp at hb0 hg0
      have HKG := Lib.hid (HKW.out.keeps hkg)
      have HDG := Lib.hid (hkg.blk HDW.out (fun h => h))
      clear hkg hgb hr0 hr1 hr2 hr3 hc0 hc1 hc2 hc3 hl1 hl2 hl3 hl4 hme hmb
      have HEd := Lib.hid (fun n w h0 h1 ht => edgeFile_any name hs n h0 h1 back w ht)
      have HRe := Lib.hid (fun n w h0 h1 ht => refEdgeFile_any name hs n h0 h1 back w ht)
      by_cases hneg : part < 0
      · go_wp2_with (first
          | ((go_at_call 5); (refine (num9_any _ (by omega) (by omega) _).mono ?_); (rintro r w' ⟨rfl, rfl⟩))
          | ((go_at_call 13); (refine (sops_any _ _ _ _ _ _ _ HDG.out).mono ?_); (rintro r w' ⟨rfl, rfl⟩))
          | ((go_at_call 14); (refine (HEd.out 0 _ (by omega) (by omega) (HT.out _ HKG.out)).mono ?_); (rintro r w7 ⟨rfl, hk7⟩))
          | ((go_at_call 15); (refine (HRe.out 0 _ (by omega) (by omega) (HT.out _ (HKG.out.keeps hk7))).mono ?_); (rintro r w8 ⟨rfl, hk8⟩))
          | fail)
        all_goals go_ret
        all_goals exact ⟨rfl, (HKG.out.keeps hk7).keeps hk8⟩
      · go_wp2_with (first
          | ((go_at_call 5); (refine (num9_any _ (by omega) (by omega) _).mono ?_); (rintro r w' ⟨rfl, rfl⟩))
          | ((go_at_call 13); (refine (sops_any _ _ _ _ _ _ _ HDG.out).mono ?_); (rintro r w' ⟨rfl, rfl⟩))
          | ((go_at_call 14); (refine (HEd.out part _ (by omega) (by omega) (HT.out _ HKG.out)).mono ?_); (rintro r w7 ⟨rfl, hk7⟩))
          | ((go_at_call 15); (refine (HRe.out part _ (by omega) (by omega) (HT.out _ (HKG.out.keeps hk7))).mono ?_); (rintro r w8 ⟨rfl, hk8⟩))
          | fail)
        all_goals go_ret
        all_goals exact ⟨rfl, (HKG.out.keeps hk7).keeps hk8⟩
end Go.Proofs.YtcefockebphbaaaGreatDoor

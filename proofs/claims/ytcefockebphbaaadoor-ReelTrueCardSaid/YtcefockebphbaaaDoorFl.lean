/- The disk: a bit of a file turned by hand. -/
import Derived.Test.YtcefockebphbaaaDoorGE
import Derived.IntWalk
set_option linter.unusedVariables false
set_option linter.unusedSimpArgs false
set_option linter.unnecessarySimpa false
namespace Go.Proofs.YtcefockebphbaaaDoor
open Go Go.RowKit Sluice

theorem flip_bit {bit : Int} {n k : Nat} (h1 : 1 ≤ n) (hn : n ≤ 1099511627776) (hk : bit % ((8 * n : Nat) : Int) = k) : (wrap64 (bit.tmod (8 * (n : Int)) + 8 * (n : Int))).tmod (8 * (n : Int)) = (k : Int) := by
  have e : ((8 * n : Nat) : Int) = 8 * (n : Int) := by omega
  rw [e] at hk
  generalize hm : 8 * (n : Int) = m at *
  have h2 := Int.tmod_eq_emod (a := bit) (b := m)
  have h3 := Int.emod_nonneg bit (show m ≠ 0 by omega)
  have h4 := Int.emod_lt_of_pos bit (show 0 < m by omega)
  have h5 : (m.natAbs : Int) = m := by omega
  have h6 : -m < bit.tmod m ∧ bit.tmod m < m ∧ (bit.tmod m = bit % m ∨ bit.tmod m = bit % m - m) := by
    rw [h2]
    split <;> omega
  have hw : wrap64 (bit.tmod m + m) = bit.tmod m + m := IntWalk.wrap64_in _ (by omega)
  rw [hw, Int.tmod_eq_emod_of_nonneg (by omega), ← hk]
  rcases h6.2.2 with e | e
  · rw [e, Int.add_emod_right, Int.emod_emod]
  · rw [e, show bit % m - m + m = bit % m from by omega, Int.emod_emod]

/-- A byte with a bit turned; a row of bytes with a bit turned. -/
def flipB (c : UInt8) (r : Nat) : UInt8 := c ^^^ UInt8.ofNat (2 ^ r)
def flipAt (l : List UInt8) (k : Nat) : List UInt8 := l.set (k / 8) (flipB (l.getD (k / 8) 0) (k % 8))
theorem flipAt_length (l : List UInt8) (k : Nat) : (flipAt l k).length = l.length := by simp [flipAt]
theorem bits_xor8 (a b : UInt8) : bits BinOp.xor IntKind.u8 (a.toNat : Int) (b.toNat : Int) = ((a ^^^ b).toNat : Int) := by
  show IntKind.u8.wrap ((BitVec.ofInt 8 (a.toNat : Int) ^^^ BitVec.ofInt 8 (b.toNat : Int)).toNat : Int) = _
  rw [BitVec.ofInt_natCast, BitVec.ofInt_natCast, IntKind.wrap_u8, UInt8.toNat_xor]
  have ha := a.toNat_lt
  have hb := b.toNat_lt
  have h : (BitVec.ofNat 8 a.toNat ^^^ BitVec.ofNat 8 b.toNat).toNat = a.toNat ^^^ b.toNat := by
    rw [BitVec.toNat_xor, BitVec.toNat_ofNat, BitVec.toNat_ofNat, Nat.mod_eq_of_lt ha, Nat.mod_eq_of_lt hb]
  have h2 : a.toNat ^^^ b.toNat < 2 ^ 8 := Nat.xor_lt_two_pow ha hb
  rw [h, Int.emod_eq_of_lt (by omega) (by omega)]
theorem bits_flip (c : UInt8) {r : Nat} (hr : r < 8) : bits BinOp.xor IntKind.u8 (c.toNat : Int) (2 ^ r % 256) = ((flipB c r).toNat : Int) := by
  unfold flipB
  rw [← bits_xor8]
  congr 1

set_option maxHeartbeats 2000000 in
theorem flip_any (g off n cap : Nat) (bit : Int) (hb0 : -9223372036854775808 ≤ bit) (hb1 : bit ≤ 9223372036854775807) (h1 : 1 ≤ n) (hn : n ≤ 1099511627776) (w : World) (k : Nat) (hk : bit % ((8 * n : Nat) : Int) = k)
  (c : UInt8) (cs : Array Value) (t : TypeId) (hg : Blk w g cs t) (hc : cs[off + k / 8]? = some (bv c)) :
    Calls Tryd.prog 36 #[.slice (some ⟨g, off, none⟩) n cap, .int .i64 bit] w fun r w' => r = .returned (.tuple #[]) ∧ w' = (w.setCell ⟨g, off + k / 8, none⟩ (bv (flipB c (k % 8)))).drew := by
  have hkn : k < 8 * n := by
    have := Int.emod_lt_of_pos bit (show (0 : Int) < ((8 * n : Nat) : Int) by omega)
    omega
  have hq := flip_bit h1 hn hk
  have hcc := hg.cell (off + k / 8)
  rw [hc] at hcc
  have hcf := hg.free (off + k / 8)
  have hlt := hg.lt
  have hbf := bits_flip c (show k % 8 < 8 by omega)
  unfold bv at hcc ⊢
  rw [← hbf]
  obtain ⟨j, hj⟩ : ∃ j, j = k / 8 := ⟨_, rfl⟩
  obtain ⟨r, hr⟩ : ∃ r, r = k % 8 := ⟨_, rfl⟩
  rw [← hj] at hcc hcf ⊢
  rw [← hr]
  have e1 : (k : Int) / 8 = (j : Int) := by omega
  have e2 : (k : Int) % 8 = (r : Int) := by omega
  have hr8 : r < 8 := by omega
  have hjn : j < n := by omega
  have hjn2 : (j : Int) < (n : Int) := by omega
  have HQ := Lib.hid hq
  clear hg hc hj hr hq hk hbf
  go_enter Tryd.func36, Tryd.ntmps36
  go_upto_region 3 with fail
  rewrite [HQ.out]
  go_region
  all_goals (go_end0; exact ⟨rfl, rfl⟩)

theorem missing_is (b : Nat) (w : World) (hc : w.cell? ⟨b, 0, none⟩ = some (.bool true)) : Calls Tryd.prog 49 #[.pointer (some ⟨b, 0, none⟩)] w fun r w' => r = .returned (.bool false) ∧ w = w' := missing_no b w hc

theorem flipAt_cells {cur : Array Value} {l : List UInt8} {k : Nat} (hk : k / 8 < l.length) (h : cur.toList.take l.length = l.map bv) :
    cur[k / 8]? = some (bv (l.getD (k / 8) 0)) ∧ (cur.setIfInBounds (k / 8) (bv (flipB (l.getD (k / 8) 0) (k % 8)))).toList.take (flipAt l k).length = (flipAt l k).map bv := by
  constructor
  · have h1 : (l.map bv)[k / 8]? = some (bv (l.getD (k / 8) 0)) := by
      rw [List.getElem?_map, List.getElem?_eq_getElem hk, List.getD_eq_getElem?_getD, List.getElem?_eq_getElem hk]; rfl
    rw [← h, List.getElem?_take_of_lt hk] at h1
    simpa using h1
  · rw [flipAt_length, Array.toList_setIfInBounds, List.take_set, h]
    unfold flipAt
    rw [List.map_set]

theorem row_block {w : World} {e : TypeId} {base : Option Addr} {n cap : Nat} {xs : List Value} (h : Row w e 1 (.slice base n cap) n xs) (h1 : 1 ≤ n) :
    ∃ gb cur, base = some ⟨gb, 0, none⟩ ∧ Blk w gb cur e ∧ cap ≤ cur.size ∧ cur.toList.take n = xs := by
  obtain ⟨-, (⟨h8, h9⟩ | ⟨g9, c9, cur, h8, h9, -, -, h10, h11⟩)⟩ := h
  · omega
  · cases h8
    exact ⟨g9, cur, rfl, h9, by omega, by simpa using h11⟩

set_option maxHeartbeats 4000000 in
set_option maxRecDepth 100000 in
theorem flip_file (L : Lay) (own : Nat → Tag) (D : PDisk) (name : ByteArray) (hs : name.size ≤ maxLen) (hn : namedB name = true) (i : Nat) (f : PFile) (hl : D.now.look name = some i) (hi : D.files[i]? = some f) (hfl : f.bytes.length ≤ 1099511627776)
    (k : Nat) (hk : k < 8 * f.bytes.length) (w : World) (hD : IsDisk w own L D) :
    Calls Tryd.prog 23 #[.pointer (some ⟨L.b, 0, none⟩), .string name, .int .i64 k] w (Does own L (D.filed i { f with bytes := flipAt f.bytes k }) (.int .i64 0) w) := by
  obtain ⟨ch, pl, hb, -⟩ := hD.head
  have hb0 := hb.cell 0
  have HD := Lib.hid hD
  clear hD
  have hd1 : decide ((k : Int) < 0) = false := by simp
  have hd2 : decide (8 * (f.bytes.length : Int) ≤ (k : Int)) = false := by simp; omega
  go_enter Tryd.func23, Tryd.ntmps23
  go_wp2_with (first
    | ((go_at_call 49); (refine (missing_no _ _ hb0).mono ?_); (rintro r w1 ⟨rfl, rfl⟩))
    | ((go_at_call 34); (refine (find_look L own D name hs hn _ HD.out).mono ?_); (rw [hl]); (rintro r w1 ⟨rfl, hK⟩); (obtain ⟨base, cap, hD1, hfb, hrow, hmk, hcap, hcap2, how⟩ := found HD.out hK hi); (have hfc := hfb.cell); (unfold PFile.cells at hfc))
    | ((go_at_call 36); (obtain ⟨gb, cur, rfl, hgb, hcur, hcs2⟩ := row_block hrow (by omega)); (have hfa := flipAt_cells (k := k) (by omega) hcs2); (refine (flip_any gb 0 f.bytes.length cap k (by omega) (by omega) (by omega) hfl w1 k (by rw [Int.emod_eq_of_lt (by omega) (by omega)]) _ cur _ hgb (by rw [Nat.zero_add]; exact hfa.1)).mono ?_); (rintro r w2 ⟨rfl, rfl⟩))
    | fail)
  all_goals go_ret
  refine ⟨rfl, To.keeps hK (IsDisk.fileSet hD1 hi hfb hmk (f' := { f with bytes := flipAt f.bytes k }) ?_ ?_ ?_ (fun k h => Or.inl h))⟩
  · exact Fr.drew (Fr.setIn (S := fun n => n = L.fb i ∨ Value.ownBlock (.slice (some ⟨gb, 0, none⟩) f.bytes.length cap) = some n) (Fr.refl _ w1) (Or.inr rfl) _)
  · have hne : L.fb i ≠ gb := fun e => by have h1 := hmk gb rfl; rw [← e, how] at h1; cases h1
    exact Blk.drew (hfb.other hne _)
  · rw [flipAt_length]
    refine ⟨by simp [flipAt_length], Or.inr ⟨gb, cap, _, rfl, Blk.drew (hgb.set _ _), hcap, hcap2, ?_, ?_⟩⟩
    · simpa using hcur
    · have h2 := hfa.2
      rw [flipAt_length] at h2
      simpa using h2
end Go.Proofs.YtcefockebphbaaaDoor

/- The sums: steps8, More, CRC. -/
import Derived.Test.YtcefockebphbaaaDoorMem
import Derived.Test.YtcefockebphbaaaDoorChecked
import Derived.Test.YtcefockebphbaaaDoorMem
import Derived.BigQuiet
import Derived.Deep.QuietTactic
import Derived.Deep.RegionHeld3
import Derived.Handy
import Derived.WalkLawsBesides
import Derived.WalkSpells
import Derived.Laws.EntriesVeiled
import Derived.Lib.Hide
import Derived.LoopTactic
import Derived.Test.YtcefockebphbaaaDoorGE
import Derived.Lib.EndianBits
set_option linter.unusedVariables false
set_option linter.unusedSimpArgs false
set_option linter.unnecessarySimpa false
namespace Go.Proofs.YtcefockebphbaaaDoor
open Go Go.RowKit Sluice

def stepsTab : List Nat := [0x00000000, 0x1db71064, 0x3b6e20c8, 0x26d930ac, 0x76dc4190, 0x6b6b51f4, 0x4db26158, 0x5005713c,
  0xedb88320, 0xf00f9344, 0xd6d6a3e8, 0xcb61b38c, 0x9b64c2b0, 0x86d3d2d4, 0xa00ae278, 0xbdbdf21c]
/-- The table lies where it was laid. -/
def Steps (w : World) : Prop := 1 < w.heap.size ∧ ∀ i, i < 16 → w.cell? ⟨1, i, none⟩ = some (.int .u32 (stepsTab.getD i 0 : Nat))
theorem Steps.kept {w w' : World} (h : Steps w) {S : Nat → Prop} (hf : Fr S w w') (hn : ¬ S 1) : Steps w' :=
  ⟨Nat.lt_of_lt_of_le h.1 hf.size, fun i hi => (hf.cell h.1 hn).trans (h.2 i hi)⟩

/-- The operations, behind names (so that 'simp' leaves them). -/
def xorB (a b : BitVec 32) : BitVec 32 := a ^^^ b
def notB (a : BitVec 32) : BitVec 32 := ~~~ a
def shrB (a : BitVec 32) : BitVec 32 := a >>> 4
def byteB (c : UInt8) : BitVec 32 := BitVec.ofNat 32 c.toNat
theorem bits_xor32 (a b : BitVec 32) : bits BinOp.xor IntKind.u32 (a.toNat : Int) (b.toNat : Int) = ((xorB a b).toNat : Int) := by
  unfold xorB
  show IntKind.u32.wrap ((BitVec.ofInt 32 (a.toNat : Int) ^^^ BitVec.ofInt 32 (b.toNat : Int)).toNat : Int) = _
  rw [BitVec.ofInt_natCast, BitVec.ofInt_natCast, BitVec.ofNat_toNat, BitVec.ofNat_toNat, BitVec.setWidth_eq, BitVec.setWidth_eq, IntKind.wrap_u32]
  have := (a ^^^ b).isLt
  omega
theorem bits_and15 (a : BitVec 32) : bits BinOp.and IntKind.u32 (a.toNat : Int) 15 = ((a.toNat % 16 : Nat) : Int) := by
  show IntKind.u32.wrap ((BitVec.ofInt 32 (a.toNat : Int) &&& BitVec.ofInt 32 15).toNat : Int) = _
  rw [BitVec.ofInt_natCast, BitVec.ofNat_toNat, BitVec.setWidth_eq, IntKind.wrap_u32, BitVec.toNat_and]
  have h : (BitVec.ofInt 32 15).toNat = 2 ^ 4 - 1 := by decide
  rw [h, Nat.and_two_pow_sub_one_eq_mod]
  have := a.isLt
  omega
theorem shr4 (a : BitVec 32) : (a.toNat : Int) / 16 = ((shrB a).toNat : Int) := by
  unfold shrB
  rw [BitVec.toNat_ushiftRight, Nat.shiftRight_eq_div_pow]
  omega
def tabB (i : Nat) : BitVec 32 := BitVec.ofNat 32 (stepsTab.getD i 0)
theorem tabB_nat : ∀ i, i < 16 → (tabB i).toNat = stepsTab.getD i 0 := by decide
/-- Four steps, eight steps of the register. -/
def half (r : BitVec 32) : BitVec 32 := xorB (tabB (r.toNat % 16)) (shrB r)
def eight (r : BitVec 32) : BitVec 32 := half (half r)

set_option maxHeartbeats 1000000 in
set_option maxRecDepth 100000 in
theorem steps8_any (r : BitVec 32) (w : World) (hS : Steps w) : Calls Tryd.prog 71 #[.int .u32 (r.toNat : Int)] w fun q w' => q = .returned (.int .u32 ((eight r).toNat : Int)) ∧ w = w' := by
  have hcell : ∀ i, i < 16 → w.cell? ⟨1, i, none⟩ = some (.int .u32 ((tabB i).toNat : Int)) := fun i hi => by rw [tabB_nat i hi]; exact hS.2 i hi
  have hand := bits_and15
  have hxor := bits_xor32
  have hshr := shr4
  have h1 : r.toNat % 16 < 16 := by omega
  have h2 : (half r).toNat % 16 < 16 := by omega
  have hh : ∀ a : BitVec 32, xorB (tabB (a.toNat % 16)) (shrB a) = half a := fun a => rfl
  clear hS
  go_enter Tryd.func71, Tryd.ntmps71
  go_wp2
  refine wp_loop_rounds 3 ?_
  rw [rounds_succ]
  go_wp2
  rw [rounds_succ]
  go_wp2
  rw [rounds_succ]
  go_wp2
  go_ret
  exact ⟨rfl, rfl⟩

/-- The register behind bytes. -/
def regs (r : BitVec 32) (l : List UInt8) : BitVec 32 := l.foldl (fun r c => eight (xorB r (byteB c))) r
/-- The sum. -/
def more (s : BitVec 32) (l : List UInt8) : BitVec 32 := notB (regs (notB s) l)
def crc (l : List UInt8) : BitVec 32 := more 0 l

theorem bits_not32 (a : BitVec 32) : bits BinOp.xor IntKind.u32 IntKind.u32.max (a.toNat : Int) = ((notB a).toNat : Int) := by
  unfold notB
  have h : IntKind.u32.max = ((BitVec.allOnes 32).toNat : Int) := by decide
  rw [h, bits_xor32, xorB, BitVec.allOnes_xor]
theorem bits_xorc (a : BitVec 32) (c : UInt8) : bits BinOp.xor IntKind.u32 (a.toNat : Int) (c.toNat : Int) = ((xorB a (byteB c)).toNat : Int) := by
  rw [← bits_xor32, byteB, BitVec.toNat_ofNat, Nat.mod_eq_of_lt (by have := c.toNat_lt; omega)]
theorem regs_snoc (r : BitVec 32) (l : List UInt8) (c : UInt8) : regs r (l ++ [c]) = eight (xorB (regs r l) (byteB c)) := by simp [regs]

end Go.Proofs.YtcefockebphbaaaDoor

namespace Go.Proofs.YtcefockebphbaaaDoor
open Go Go.RowKit Sluice

set_option maxHeartbeats 2000000 in
set_option maxRecDepth 100000 in
theorem more_same (s : BitVec 32) (g off cap : Nat) (l : List UInt8) (cs : Array Value) (t : TypeId) (hc : (cs.toList.drop off).take l.length = l.map bv) (hl : l.length ≤ 1099511627776) (w : World) (hS : Steps w) (hg : Blk w g cs t) :
    Calls Tryd.prog 53 #[.int .u32 (s.toNat : Int), .slice (some ⟨g, off, none⟩) l.length cap] w fun q w' => q = .returned (.int .u32 ((more s l).toNat : Int)) ∧ w = w' := by
  go_enter Tryd.func53, Tryd.ntmps53
  go_wp2
  rw [bits_not32 s]
  go_loopw [5, 12] (fun r i wr => ∃ k : Nat, k ≤ l.length ∧ i = .int .i64 k ∧ r = .int .u32 ((regs (notB s) (l.take k)).toNat : Int) ∧ w = wr) (fun _ i _ => l.length - (intOf i).toNat)
  case atStart => exact ⟨0, by omega, rfl, rfl, rfl⟩
  case round =>
    obtain ⟨k, hk, rfl, rfl, rfl⟩ := hrel
    by_cases hlt : k < l.length
    · have hck : w.cell? ⟨g, off + k, none⟩ = some (bv (l[k])) := by
        rw [hg.cell]
        have h1 : (l.map bv)[k]? = some (bv l[k]) := by simp [hlt]
        rw [← hc, List.getElem?_take_of_lt hlt, List.getElem?_drop] at h1
        simpa using h1
      have HS := Lib.hid hS
      have htk : l.take (k + 1) = l.take k ++ [l[k]] := List.take_succ_eq_append_getElem hlt
      have HT := Lib.hid htk
      generalize l[k] = c at hck HT htk
      generalize hreg : regs (notB s) (l.take k) = r at *
      have HR := Lib.hid hreg
      clear htk hreg
      unfold bv at hck
      have hxc := bits_xorc r c
      have hb : (c.toNat : Int) ≤ 255 := by have := c.toNat_lt; omega
      have hb0 : (0 : Int) ≤ (c.toNat : Int) := by omega
      have hb1 : IntKind.u32.wrap (c.toNat : Int) = (c.toNat : Int) := by rw [IntKind.wrap_u32]; omega
      go_wp2_with (go_at_call 71; refine (steps8_any (xorB r (byteB c)) _ HS.out).mono ?_; rintro q w9 ⟨rfl, rfl⟩)
      go_roundw
      case rel => exact ⟨k + 1, by omega, by push_cast; rfl, by rw [HT.out, regs_snoc, HR.out], trivial⟩
      case measure => simp [intOf]; omega
    · have hkl : k = l.length := by omega
      subst hkl
      rw [List.take_length]
      go_wp2
      rw [bits_not32]
      go_ret
      exact ⟨rfl, rfl⟩

set_option maxHeartbeats 2000000 in
set_option maxRecDepth 100000 in
theorem crc_same (g off cap : Nat) (l : List UInt8) (cs : Array Value) (t : TypeId) (hc : (cs.toList.drop off).take l.length = l.map bv) (hl : l.length ≤ 1099511627776) (p : Nat) (w : World) (hS : Steps w) (hg : Blk w g cs t) (hp : Blk w p #[.slice (some ⟨g, off, none⟩) l.length cap] 27) :
    Calls Tryd.prog 69 #[.slice (some ⟨p, 0, none⟩) 1 1] w fun q w' => q = .returned (.int .u32 ((crc l).toNat : Int)) ∧ w = w' := by
  have hpc := hp.cell 0
  have hzero : more 0 l = crc l := rfl
  go_enter Tryd.func69, Tryd.ntmps69
  have HM := Lib.hid (more_same 0 g off cap l cs t hc hl w hS hg)
  go_wp2
  refine wp_loop_rounds 2 ?_
  rw [rounds_succ]
  go_wp2_with ((go_at_call 53); (refine HM.out.mono ?_); (rintro q w1 ⟨rfl, rfl⟩); (rw [hzero]))
  rw [rounds_succ]
  go_wp2
  go_ret
  exact ⟨rfl, rfl⟩

theorem more_any (s : BitVec 32) (g off cap : Nat) (l : List UInt8) (cs : Array Value) (t : TypeId) (hc : (cs.toList.drop off).take l.length = l.map bv) (hl : l.length ≤ 1099511627776) (w : World) (hS : Steps w) (hg : Blk w g cs t) :
    Calls Tryd.prog 53 #[.int .u32 (s.toNat : Int), .slice (some ⟨g, off, none⟩) l.length cap] w fun q w' => q = .returned (.int .u32 ((more s l).toNat : Int)) ∧ Keeps w w' :=
  (more_same s g off cap l cs t hc hl w hS hg).mono fun q w' h => ⟨h.1, h.2 ▸ Fr.refl _ _⟩
theorem crc_any (g off cap : Nat) (l : List UInt8) (cs : Array Value) (t : TypeId) (hc : (cs.toList.drop off).take l.length = l.map bv) (hl : l.length ≤ 1099511627776) (p : Nat) (w : World) (hS : Steps w) (hg : Blk w g cs t) (hp : Blk w p #[.slice (some ⟨g, off, none⟩) l.length cap] 27) :
    Calls Tryd.prog 69 #[.slice (some ⟨p, 0, none⟩) 1 1] w fun q w' => q = .returned (.int .u32 ((crc l).toNat : Int)) ∧ Keeps w w' :=
  (crc_same g off cap l cs t hc hl p w hS hg hp).mono fun q w' h => ⟨h.1, h.2 ▸ Fr.refl _ _⟩
end Go.Proofs.YtcefockebphbaaaDoor

namespace Go.Proofs.YtcefockebphbaaaDoor
open Go Go.RowKit Sluice

/-- Bytes with others laid into them. -/
def splB (bs : List UInt8) (o : Nat) (l : List UInt8) : List UInt8 := bs.take o ++ l ++ bs.drop (o + l.length)
theorem splB_length {bs : List UInt8} {o : Nat} {l : List UInt8} (h : o + l.length ≤ bs.length) : (splB bs o l).length = bs.length := by simp [splB]; omega
/-- The lowest n bytes of a number, the lowest first. -/
def le : Nat → Nat → List UInt8
  | 0, _ => []
  | n + 1, v => UInt8.ofNat (v % 256) :: le n (v / 256)
theorem le_length : ∀ n v, (le n v).length = n
  | 0, _ => rfl
  | n + 1, v => by simp [le, le_length n]
theorem le_snoc : ∀ n v, le (n + 1) v = le n v ++ [UInt8.ofNat (v / 256 ^ n % 256)]
  | 0, v => by simp [le]
  | n + 1, v => by
    rw [le, le_snoc n (v / 256), le]
    simp only [List.cons_append]
    rw [Nat.div_div_eq_div_mul, Nat.pow_succ, Nat.mul_comm 256]
theorem splB_set (bs : List UInt8) (o : Nat) (l : List UInt8) (c : UInt8) (h : o + l.length < bs.length) : (splB bs o l).set (o + l.length) c = splB bs o (l ++ [c]) := by
  unfold splB
  have h1 : (bs.take o ++ l).length = o + l.length := by simp; omega
  rw [List.set_append_right _ _ (by omega), h1, Nat.sub_self]
  have h2 : bs.drop (o + l.length) = bs[o + l.length] :: bs.drop (o + l.length + 1) := by rw [List.drop_eq_getElem_cons h]
  rw [h2]
  simp [Nat.add_assoc]

set_option maxHeartbeats 2000000 in
set_option maxRecDepth 100000 in
theorem lay_any (g off n cap : Nat) (v : Nat) (hv : v < 18446744073709551616) (bs : List UInt8) (t : TypeId) (hfit : off + n ≤ bs.length) (hn : n ≤ 1099511627776) (w : World) (hg : Blk w g (bytesA bs) t) :
    Calls Tryd.prog 80 #[.slice (some ⟨g, off, none⟩) n cap, .int .u64 (v : Int)] w fun q w' => q = .returned (.tuple #[]) ∧ Fr (· = g) w w' ∧ Blk w' g (bytesA (splB bs off (le n v))) t := by
  go_enter Tryd.func80, Tryd.ntmps80
  go_wp2
  go_loopw [1, 7] (fun a i wr => ∃ k : Nat, k ≤ n ∧ i = .int .i64 k ∧ a = .int .u64 ((v / 256 ^ k : Nat) : Int) ∧ Fr (· = g) w wr ∧ Blk wr g (bytesA (splB bs off (le k v))) t) (fun _ i _ => n - (intOf i).toNat)
  case atStart => exact ⟨0, by omega, rfl, by simp, Fr.refl _ _, by simpa [le, splB] using hg⟩
  case round =>
    obtain ⟨k, hk, rfl, rfl, hf, hb⟩ := hrel
    have HF := Lib.hid hf
    have HB := Lib.hid hb
    by_cases hlt : k < n
    · have hcell : wr.cell? ⟨g, off + k, none⟩ = some (bv ((splB bs off (le k v)).getD (off + k) 0)) := by
        rw [hb.cell, bytesA_get]
        have : off + k < (splB bs off (le k v)).length := by rw [splB_length (by rw [le_length]; omega)]; omega
        simp [List.getD, this]
      have hfree := hb.free (off + k)
      have hstep : v / 256 ^ (k + 1) = v / 256 ^ k / 256 := by rw [Nat.pow_succ, Nat.div_div_eq_div_mul]
      have hsnoc := le_snoc k v
      have hu : v / 256 ^ k < 18446744073709551616 := Nat.lt_of_le_of_lt (Nat.div_le_self _ _) hv
      generalize v / 256 ^ k = u at *
      have HS := Lib.hid hstep
      have HN := Lib.hid hsnoc
      unfold bv at hcell
      clear hstep hsnoc hf hb
      go_wp2
      go_roundw
      case rel =>
        have hb8 : (.int .u8 ((u : Int) % 256) : Value) = bv (UInt8.ofNat (u % 256)) := by simp [bv]
        refine ⟨k + 1, by omega, by push_cast; rfl, by rw [HS.out]; push_cast; rfl, Fr.setIn HF.out rfl _, ?_⟩
        rw [HN.out, ← splB_set _ _ _ _ (by rw [le_length]; omega), le_length, ← bytesA_set, ← hb8]
        exact HB.out.set _ _
      case measure => simp [intOf]; omega
    · have hkn : k = n := by omega
      subst hkn
      go_wp2
      go_returns
      exact ⟨rfl, HF.out, HB.out⟩

end Go.Proofs.YtcefockebphbaaaDoor

namespace Go.Proofs.YtcefockebphbaaaDoor
open Go Go.RowKit Sluice

def Len64Is (v : Nat) (r : Ending) : Prop := ∃ n0 t : Nat, r = .returned (.int .i64 ((n0 + t : Nat) : Int)) ∧ t ≤ 8 ∧ (n0 = 0 ∨ 2 ^ n0 ≤ v) ∧ n0 % 8 = 0 ∧ n0 ≤ 56
def tab8 : ByteArray := ⟨#[0, 1, 2, 2, 3, 3, 3, 3, 4, 4, 4, 4, 4, 4, 4, 4, 5, 5, 5, 5, 5, 5, 5, 5, 5, 5, 5, 5, 5, 5, 5, 5, 6, 6, 6, 6, 6, 6, 6, 6, 6, 6, 6, 6, 6, 6, 6, 6, 6, 6, 6, 6, 6, 6, 6, 6, 6, 6, 6, 6, 6, 6, 6, 6, 7, 7, 7, 7, 7, 7, 7, 7, 7, 7, 7, 7, 7, 7, 7, 7, 7, 7, 7, 7, 7, 7, 7, 7, 7, 7, 7, 7, 7, 7, 7, 7, 7, 7, 7, 7, 7, 7, 7, 7, 7, 7, 7, 7, 7, 7, 7, 7, 7, 7, 7, 7, 7, 7, 7, 7, 7, 7, 7, 7, 7, 7, 7, 7, 8, 8, 8, 8, 8, 8, 8, 8, 8, 8, 8, 8, 8, 8, 8, 8, 8, 8, 8, 8, 8, 8, 8, 8, 8, 8, 8, 8, 8, 8, 8, 8, 8, 8, 8, 8, 8, 8, 8, 8, 8, 8, 8, 8, 8, 8, 8, 8, 8, 8, 8, 8, 8, 8, 8, 8, 8, 8, 8, 8, 8, 8, 8, 8, 8, 8, 8, 8, 8, 8, 8, 8, 8, 8, 8, 8, 8, 8, 8, 8, 8, 8, 8, 8, 8, 8, 8, 8, 8, 8, 8, 8, 8, 8, 8, 8, 8, 8, 8, 8, 8, 8, 8, 8, 8, 8, 8, 8, 8, 8, 8, 8, 8, 8, 8, 8, 8, 8, 8, 8, 8, 8, 8, 8, 8, 8, 8, 8]⟩
theorem tab8_le (i : Nat) (h : i < tab8.size) : (tab8[i]'h).toNat ≤ 8 := by
  have h1 : ∀ b ∈ tab8.data.toList, b.toNat ≤ 8 := by decide +kernel
  exact h1 _ (by simp [ByteArray.getElem_eq_getElem_data])
theorem len_end (n0 c : Nat) (hc : c ≤ 8) (h : n0 ≤ 56) : wrap64 ((n0 : Int) + wrap64 (c : Int)) = ((n0 + c : Nat) : Int) := by
  unfold wrap64; omega
theorem len_end0 (c : Nat) (hc : c ≤ 8) : wrap64 (wrap64 (c : Int)) = ((0 + c : Nat) : Int) := by
  unfold wrap64; omega
theorem len_end1 (c : Nat) (hc : c ≤ 8) : wrap64 (c : Int) = ((0 + c : Nat) : Int) := by
  unfold wrap64; omega

set_option maxHeartbeats 8000000 in
set_option maxRecDepth 100000 in
theorem len64_any (v : Nat) (hv : v < 18446744073709551616) (w : World) : Calls Tryd.prog 79 #[.int .u64 (v : Int)] w fun q w' => Len64Is v q ∧ w = w' := by
  by_cases h3 : 4294967296 ≤ v
  · have e3 : decide ((4294967296 : Int) ≤ (v : Int)) = true := by simp; omega
    by_cases h2 : 65536 ≤ v / 4294967296
    · have e2 : decide ((65536 : Int) ≤ (v : Int) / 4294967296) = true := by simp; omega
      by_cases h1 : 256 ≤ v / 4294967296 / 65536
      · have e1 : decide ((256 : Int) ≤ (v : Int) / 4294967296 / 65536) = true := by simp; omega
        have hx : v / 4294967296 / 65536 / 256 < tab8.size := by show _ < 256; omega
        have hle := tab8_le _ hx
        go_enter Tryd.func79, Tryd.ntmps79
        go_wp2
        go_ret
        refine ⟨⟨56, (tab8[v / 4294967296 / 65536 / 256]'hx).toNat, ?_, hle, Or.inr (by omega), by decide, by decide⟩, rfl⟩
        first | exact congrArg (fun z => Ending.returned (Value.int .i64 z)) (len_end 56 _ hle (by omega)) | exact congrArg (fun z => Ending.returned (Value.int .i64 z)) (len_end0 _ hle) | exact congrArg (fun z => Ending.returned (Value.int .i64 z)) (len_end1 _ hle)
      · have e1 : decide ((256 : Int) ≤ (v : Int) / 4294967296 / 65536) = false := by simp; omega
        have hx : v / 4294967296 / 65536 < tab8.size := by show _ < 256; omega
        have hle := tab8_le _ hx
        go_enter Tryd.func79, Tryd.ntmps79
        go_wp2
        go_ret
        refine ⟨⟨48, (tab8[v / 4294967296 / 65536]'hx).toNat, ?_, hle, Or.inr (by omega), by decide, by decide⟩, rfl⟩
        first | exact congrArg (fun z => Ending.returned (Value.int .i64 z)) (len_end 48 _ hle (by omega)) | exact congrArg (fun z => Ending.returned (Value.int .i64 z)) (len_end0 _ hle) | exact congrArg (fun z => Ending.returned (Value.int .i64 z)) (len_end1 _ hle)
    · have e2 : decide ((65536 : Int) ≤ (v : Int) / 4294967296) = false := by simp; omega
      by_cases h1 : 256 ≤ v / 4294967296
      · have e1 : decide ((256 : Int) ≤ (v : Int) / 4294967296) = true := by simp; omega
        have hx : v / 4294967296 / 256 < tab8.size := by show _ < 256; omega
        have hle := tab8_le _ hx
        go_enter Tryd.func79, Tryd.ntmps79
        go_wp2
        go_ret
        refine ⟨⟨40, (tab8[v / 4294967296 / 256]'hx).toNat, ?_, hle, Or.inr (by omega), by decide, by decide⟩, rfl⟩
        first | exact congrArg (fun z => Ending.returned (Value.int .i64 z)) (len_end 40 _ hle (by omega)) | exact congrArg (fun z => Ending.returned (Value.int .i64 z)) (len_end0 _ hle) | exact congrArg (fun z => Ending.returned (Value.int .i64 z)) (len_end1 _ hle)
      · have e1 : decide ((256 : Int) ≤ (v : Int) / 4294967296) = false := by simp; omega
        have hx : v / 4294967296 < tab8.size := by show _ < 256; omega
        have hle := tab8_le _ hx
        go_enter Tryd.func79, Tryd.ntmps79
        go_wp2
        go_ret
        refine ⟨⟨32, (tab8[v / 4294967296]'hx).toNat, ?_, hle, Or.inr (by omega), by decide, by decide⟩, rfl⟩
        first | exact congrArg (fun z => Ending.returned (Value.int .i64 z)) (len_end 32 _ hle (by omega)) | exact congrArg (fun z => Ending.returned (Value.int .i64 z)) (len_end0 _ hle) | exact congrArg (fun z => Ending.returned (Value.int .i64 z)) (len_end1 _ hle)
  · have e3 : decide ((4294967296 : Int) ≤ (v : Int)) = false := by simp; omega
    by_cases h2 : 65536 ≤ v
    · have e2 : decide ((65536 : Int) ≤ (v : Int)) = true := by simp; omega
      by_cases h1 : 256 ≤ v / 65536
      · have e1 : decide ((256 : Int) ≤ (v : Int) / 65536) = true := by simp; omega
        have hx : v / 65536 / 256 < tab8.size := by show _ < 256; omega
        have hle := tab8_le _ hx
        go_enter Tryd.func79, Tryd.ntmps79
        go_wp2
        go_ret
        refine ⟨⟨24, (tab8[v / 65536 / 256]'hx).toNat, ?_, hle, Or.inr (by omega), by decide, by decide⟩, rfl⟩
        first | exact congrArg (fun z => Ending.returned (Value.int .i64 z)) (len_end 24 _ hle (by omega)) | exact congrArg (fun z => Ending.returned (Value.int .i64 z)) (len_end0 _ hle) | exact congrArg (fun z => Ending.returned (Value.int .i64 z)) (len_end1 _ hle)
      · have e1 : decide ((256 : Int) ≤ (v : Int) / 65536) = false := by simp; omega
        have hx : v / 65536 < tab8.size := by show _ < 256; omega
        have hle := tab8_le _ hx
        go_enter Tryd.func79, Tryd.ntmps79
        go_wp2
        go_ret
        refine ⟨⟨16, (tab8[v / 65536]'hx).toNat, ?_, hle, Or.inr (by omega), by decide, by decide⟩, rfl⟩
        first | exact congrArg (fun z => Ending.returned (Value.int .i64 z)) (len_end 16 _ hle (by omega)) | exact congrArg (fun z => Ending.returned (Value.int .i64 z)) (len_end0 _ hle) | exact congrArg (fun z => Ending.returned (Value.int .i64 z)) (len_end1 _ hle)
    · have e2 : decide ((65536 : Int) ≤ (v : Int)) = false := by simp; omega
      by_cases h1 : 256 ≤ v
      · have e1 : decide ((256 : Int) ≤ (v : Int)) = true := by simp; omega
        have hx : v / 256 < tab8.size := by show _ < 256; omega
        have hle := tab8_le _ hx
        go_enter Tryd.func79, Tryd.ntmps79
        go_wp2
        go_ret
        refine ⟨⟨8, (tab8[v / 256]'hx).toNat, ?_, hle, Or.inr (by omega), by decide, by decide⟩, rfl⟩
        first | exact congrArg (fun z => Ending.returned (Value.int .i64 z)) (len_end 8 _ hle (by omega)) | exact congrArg (fun z => Ending.returned (Value.int .i64 z)) (len_end0 _ hle) | exact congrArg (fun z => Ending.returned (Value.int .i64 z)) (len_end1 _ hle)
      · have e1 : decide ((256 : Int) ≤ (v : Int)) = false := by simp; omega
        have hx : v < tab8.size := by show _ < 256; omega
        have hle := tab8_le _ hx
        go_enter Tryd.func79, Tryd.ntmps79
        go_wp2
        go_ret
        refine ⟨⟨0, (tab8[v]'hx).toNat, ?_, hle, Or.inl rfl, by decide, by decide⟩, rfl⟩
        first | exact congrArg (fun z => Ending.returned (Value.int .i64 z)) (len_end 0 _ hle (by omega)) | exact congrArg (fun z => Ending.returned (Value.int .i64 z)) (len_end0 _ hle) | exact congrArg (fun z => Ending.returned (Value.int .i64 z)) (len_end1 _ hle)
end Go.Proofs.YtcefockebphbaaaDoor

namespace Go.Proofs.YtcefockebphbaaaDoor
open Go Go.RowKit Sluice

set_option maxHeartbeats 2000000 in
set_option maxRecDepth 100000 in
theorem span_any (g off len cap : Nat) (at_ width : Nat) (hw1 : 1 ≤ width) (hw8 : width ≤ 8) (hat : at_ + width ≤ len) (hlc : len ≤ cap) (hn : cap ≤ 1099511627776) (w : World) :
    Calls Tryd.prog 78 #[.slice (some ⟨g, off, none⟩) len cap, .int .i64 (at_ : Int), .int .i64 (width : Int)] w fun q w' => q = .returned (.tuple #[.slice (some ⟨g, off + at_, none⟩) width (cap - at_), .int .i64 0]) ∧ w = w' := by
  have d1 : decide ((width : Int) < 1) = false := by simp; omega
  have d2 : decide ((8 : Int) < (width : Int)) = false := by simp; omega
  have d3 : decide ((at_ : Int) < 0) = false := by simp
  have d4 : decide ((len : Int) < (at_ : Int)) = false := by simp; omega
  have d5 : decide ((len : Int) - (at_ : Int) < (width : Int)) = false := by simp; omega
  have h1 : at_ + width ≤ cap := by omega
  have h2 : at_ ≤ at_ + width := by omega
  have h3 : ¬ cap = at_ := by omega
  have h4 : at_ + width - at_ = width := by omega
  go_enter Tryd.func78, Tryd.ntmps78
  go_wp2
  go_ret2
  rw [h4]
  exact ⟨rfl, rfl⟩
theorem len_le {width v n0 t : Nat} (hw1 : 1 ≤ width) (hw8 : width ≤ 8) (hv : v < 256 ^ width) (ht : t ≤ 8) (hn : n0 = 0 ∨ 2 ^ n0 ≤ v) (hm : n0 % 8 = 0) : n0 + t ≤ 8 * width := by
  rcases hn with rfl | hn
  · omega
  · have h1 : (256 : Nat) ^ width = 2 ^ (8 * width) := by rw [show (256 : Nat) = 2 ^ 8 from rfl, ← Nat.pow_mul]
    have h2 : n0 < 8 * width := by
      rcases Nat.lt_or_ge n0 (8 * width) with h | h
      · exact h
      · have := Nat.pow_le_pow_right (show 0 < 2 by omega) h
        omega
    omega

set_option maxHeartbeats 2000000 in
set_option maxRecDepth 100000 in
theorem put_any (g off len cap : Nat) (at_ width v : Nat) (hw1 : 1 ≤ width) (hw8 : width ≤ 8) (hat : at_ + width ≤ len) (hlc : len ≤ cap) (hcn : cap ≤ 1099511627776) (hv : v < 256 ^ width) (bs : List UInt8) (t : TypeId) (hfit : off + len ≤ bs.length) (w : World) (hg : Blk w g (bytesA bs) t) :
    Calls Tryd.prog 72 #[.slice (some ⟨g, off, none⟩) len cap, .int .i64 (at_ : Int), .int .i64 (width : Int), .int .u64 (v : Int)] w fun q w' => q = .returned (.int .i64 0) ∧ Fr (· = g) w w' ∧ Blk w' g (bytesA (splB bs (off + at_) (le width v))) t := by
  have hv64 : v < 18446744073709551616 := Nat.lt_of_lt_of_le hv (Nat.le_trans (Nat.pow_le_pow_right (by omega) hw8) (by decide))
  go_enter Tryd.func72, Tryd.ntmps72
  go_wp2_with (first
    | (go_at_call 78; refine (span_any g off len cap at_ width hw1 hw8 hat hlc hcn _).mono ?_; rintro q w1 ⟨rfl, rfl⟩)
    | (go_at_call 80; refine (lay_any g (off + at_) width (cap - at_) v hv64 bs t (by omega) (by omega) _ hg).mono ?_; rintro q w1 ⟨rfl, hF, hB⟩)
    | ((go_at_call 79); (refine (len64_any v hv64 _).mono ?_); (rintro q w1 ⟨⟨n0, t8, rfl, ht8, hn0, hm0, hn56⟩, rfl⟩); (have hle := len_le hw1 hw8 hv ht8 hn0 hm0); (have hd : decide ((8 : Int) * (width : Int) < ((n0 + t8 : Nat) : Int)) = false := by simp; omega); (have hd2 : decide ((8 : Int) * (width : Int) < (n0 : Int) + (t8 : Int)) = false := by simp; omega)))
  go_ret
  exact ⟨rfl, hF, hB⟩
end Go.Proofs.YtcefockebphbaaaDoor

namespace Go.Proofs.YtcefockebphbaaaDoor
open Go Go.RowKit Sluice

/-- The number in bytes, the lowest first. -/
def ofLe : List UInt8 → Nat
  | [] => 0
  | c :: l => c.toNat + 256 * ofLe l
theorem ofLe_snoc : ∀ (l : List UInt8) (c : UInt8), ofLe (l ++ [c]) = ofLe l + c.toNat * 256 ^ l.length
  | [], c => by simp [ofLe]
  | d :: l, c => by
    simp only [List.cons_append, ofLe, ofLe_snoc l c, List.length_cons, Nat.pow_succ, Nat.mul_add]
    rw [Nat.add_assoc, Nat.mul_comm (256 ^ l.length) 256, Nat.mul_left_comm]
theorem ofLe_lt : ∀ l : List UInt8, ofLe l < 256 ^ l.length
  | [] => by simp [ofLe]
  | c :: l => by
    have := ofLe_lt l
    have := c.toNat_lt
    simp only [ofLe, List.length_cons, Nat.pow_succ]
    omega
theorem ofLe_le : ∀ n v, v < 256 ^ n → ofLe (le n v) = v
  | 0, v, h => by simp at h; simp [le, ofLe, h]
  | n + 1, v, h => by
    have := ofLe_le n (v / 256) (by rw [Nat.pow_succ] at h; omega)
    simp [le, ofLe, this]
    omega

set_option maxHeartbeats 2000000 in
set_option maxRecDepth 100000 in
theorem get_any (g off len cap : Nat) (at_ width : Nat) (hw1 : 1 ≤ width) (hw8 : width ≤ 8) (hat : at_ + width ≤ len) (hlc : len ≤ cap) (hcn : cap ≤ 1099511627776) (bs : List UInt8) (t : TypeId) (hfit : off + len ≤ bs.length) (w : World) (hg : Blk w g (bytesA bs) t) :
    Calls Tryd.prog 81 #[.slice (some ⟨g, off, none⟩) len cap, .int .i64 (at_ : Int), .int .i64 (width : Int)] w fun q w' => q = .returned (.tuple #[.int .u64 (ofLe ((bs.drop (off + at_)).take width) : Nat), .int .i64 0]) ∧ w = w' := by
  generalize hl : (bs.drop (off + at_)).take width = l
  have hll : l.length = width := by rw [← hl]; simp; omega
  have hcell : ∀ k, (h : k < width) → w.cell? ⟨g, off + at_ + k, none⟩ = some (bv (l[k]'(by omega))) := by
    intro k h
    subst hl
    rw [hg.cell, bytesA_get]
    rw [List.getElem?_eq_getElem (by omega), Option.map_some]
    congr 2
    simp [Nat.add_assoc]
  go_enter Tryd.func81, Tryd.ntmps81
  go_wp2_with (go_at_call 78; refine (span_any g off len cap at_ width hw1 hw8 hat hlc hcn _).mono ?_; rintro q w1 ⟨rfl, rfl⟩)
  go_loopw [10, 24] (fun a i wr => ∃ k : Nat, k ≤ width ∧ i = .int .i64 k ∧ a = .int .u64 ((ofLe (l.take k) : Nat) : Int) ∧ w = wr) (fun _ i _ => width - (intOf i).toNat)
  case atStart => exact ⟨0, by omega, rfl, rfl, rfl⟩
  case round =>
    obtain ⟨k, hk, rfl, rfl, rfl⟩ := hrel
    by_cases hlt : k < width
    · have hc := hcell k hlt
      have htk : l.take (k + 1) = l.take k ++ [l[k]] := List.take_succ_eq_append_getElem (by omega)
      have hlk : (l.take k).length = k := by simp; omega
      have hof := ofLe_lt (l.take k)
      rw [hlk] at hof
      have hsn := ofLe_snoc (l.take k) l[k]
      rw [← htk, hlk] at hsn
      generalize hu' : ofLe (l.take (k + 1)) = u' at *
      have HU' := Lib.hid hu'
      clear hu'
      generalize ofLe (l.take k) = u at *
      generalize l[k] = c at *
      unfold bv at hc
      have HSN := Lib.hid hsn
      have HOF := Lib.hid hof
      clear hcell htk hlk hsn hof
      go_wp2
      go_roundw
      case rel =>
        have hcl := c.toNat_lt
        have h1 : IntKind.u64.wrap (c.toNat : Int) = (c.toNat : Int) := by rw [Go.wraps_u64 _ (by omega) (by omega)]
        have hp : (256 : Nat) ^ k = 2 ^ (8 * k) := by rw [show (256 : Nat) = 2 ^ 8 from rfl, ← Nat.pow_mul]
        have hp64 : 2 ^ (8 * k) * 256 ≤ 2 ^ 64 := by rw [show (256 : Nat) = 2 ^ 8 from rfl, ← Nat.pow_add]; exact Nat.pow_le_pow_right (by omega) (by omega)
        have hb : c.toNat * 2 ^ (8 * k) < 2 ^ 64 := by
          refine Nat.lt_of_lt_of_le (Nat.mul_lt_mul_of_pos_right hcl (Nat.two_pow_pos _)) ?_
          rw [Nat.mul_comm]; exact hp64
        have hu := HOF.out
        rw [hp] at hu
        have hu64 : u < 2 ^ 64 := by omega
        have hcast : ((c.toNat : Int) * 2 ^ (8 * k)) = ((c.toNat * 2 ^ (8 * k) : Nat) : Int) := by push_cast; rfl
        refine ⟨k + 1, by omega, by push_cast; rfl, ?_, trivial⟩
        have hsum := HSN.out
        rw [h1, hcast, Go.wraps_u64 _ (by omega) (by exact_mod_cast hb), Go.bits_join_low .u64 64 (by decide) Go.wraps_u64 (8 * k) _ _ (by omega) (by exact_mod_cast hu) (by exact_mod_cast hu64) (by omega) (by exact_mod_cast (Nat.mul_mod_left _ _)) (by exact_mod_cast hb)]
        congr 1
        rw [hp] at hsum
        have : l.take (k + 1) = l.take (k + 1) := rfl
        rw [HU'.out, hsum]
        push_cast
        rfl
      case measure => simp [intOf]; omega
    · have hkw : k = width := by omega
      subst hkw
      rw [show l.take k = l from List.take_of_length_le (by omega)]
      go_wp2
      go_ret2
      exact ⟨rfl, rfl⟩
end Go.Proofs.YtcefockebphbaaaDoor

namespace Go.Proofs.YtcefockebphbaaaDoor
open Go Go.RowKit Sluice

theorem _root_.Sluice.Fr.setEq {n : Nat} {a b : World} (h : Fr (· = n) a b) {o : Nat} (u : Value) : Fr (· = n) a (b.setCell ⟨n, o, none⟩ u) := h.setCell (fun _ => rfl) u
theorem _root_.Sluice.Fr.setOr {m n : Nat} {a b : World} (h : Fr (fun k => k = m ∨ k = n) a b) {o : Nat} (u : Value) : Fr (fun k => k = m ∨ k = n) a (b.setCell ⟨n, o, none⟩ u) := h.setCell (fun _ => Or.inr rfl) u
set_option maxHeartbeats 2000000 in
set_option maxRecDepth 100000 in
theorem rput_any (g off len cap : Nat) (at_ width v : Nat) (hw1 : 1 ≤ width) (hw8 : width ≤ 8) (hat : at_ + width ≤ len) (hlc : len ≤ cap) (hcn : cap ≤ 1099511627776) (hv : v < 256 ^ width) (bs : List UInt8) (t : TypeId) (hfit : off + len ≤ bs.length)
    (pa : Nat) (hpg : pa ≠ g) (w : World) (hg : Blk w g (bytesA bs) t) (hp : Blk w pa #[.int .i64 (at_ : Int)] 3) :
    Calls Tryd.prog 54 #[.slice (some ⟨g, off, none⟩) len cap, .pointer (some ⟨pa, 0, none⟩), .int .i64 (width : Int), .int .u64 (v : Int)] w fun q w' => q = .returned (.tuple #[]) ∧ Fr (fun n => n = g ∨ n = pa) w w' ∧ Blk w' g (bytesA (splB bs (off + at_) (le width v))) t ∧ Blk w' pa #[.int .i64 ((at_ + width : Nat) : Int)] 3 := by
  have hp0 := hp.cell 0
  have hp1 := hp.free 0
  go_enter Tryd.func54, Tryd.ntmps54
  go_wp2_with ((go_at_call 72); (refine (put_any g off len cap at_ width v hw1 hw8 hat hlc hcn hv bs t hfit _ hg).mono ?_); (rintro q w1 ⟨rfl, hF, hB⟩); (have hp2 := hF.blk hp hpg); (have hp3 := hp2.cell 0); (have hp4 := hp2.free 0))
  go_returns
  refine ⟨rfl, Fr.setOr (hF.mono fun n _ h => Or.inl h) _, (Fr.setEq (Fr.refl (· = pa) w1) _).blk hB hpg.symm, ?_⟩
  have := hp2.set 0 (.int .i64 ((at_ : Int) + (width : Int)))
  exact this

set_option maxHeartbeats 2000000 in
set_option maxRecDepth 100000 in
theorem rget_any (g off len cap : Nat) (at_ width : Nat) (hw1 : 1 ≤ width) (hw8 : width ≤ 8) (hat : at_ + width ≤ len) (hlc : len ≤ cap) (hcn : cap ≤ 1099511627776) (bs : List UInt8) (t : TypeId) (hfit : off + len ≤ bs.length)
    (pa : Nat) (w : World) (hg : Blk w g (bytesA bs) t) (hp : Blk w pa #[.int .i64 (at_ : Int)] 3) :
    Calls Tryd.prog 74 #[.slice (some ⟨g, off, none⟩) len cap, .pointer (some ⟨pa, 0, none⟩), .int .i64 (width : Int)] w fun q w' => q = .returned (.int .u64 (ofLe ((bs.drop (off + at_)).take width) : Nat)) ∧ Fr (· = pa) w w' ∧ Blk w' pa #[.int .i64 ((at_ + width : Nat) : Int)] 3 := by
  have hp0 := hp.cell 0
  have hp1 := hp.free 0
  go_enter Tryd.func74, Tryd.ntmps74
  go_wp2_with ((go_at_call 81); (refine (get_any g off len cap at_ width hw1 hw8 hat hlc hcn bs t hfit _ hg).mono ?_); (rintro q w1 ⟨rfl, rfl⟩))
  go_ret
  refine ⟨rfl, Fr.setEq (Fr.refl _ _) _, hp.set 0 (.int .i64 ((at_ : Int) + (width : Int)))⟩

theorem rget_lit (g off len cap : Nat) (at_ width at2 : Nat) (ha : at2 = at_ + width) (hw1 : 1 ≤ width) (hw8 : width ≤ 8) (hat : at_ + width ≤ len) (hlc : len ≤ cap) (hcn : cap ≤ 1099511627776) (bs : List UInt8) (t : TypeId) (hfit : off + len ≤ bs.length)
    (pa : Nat) (w : World) (hg : Blk w g (bytesA bs) t) (hp : Blk w pa #[.int .i64 (at_ : Int)] 3) :
    Calls Tryd.prog 74 #[.slice (some ⟨g, off, none⟩) len cap, .pointer (some ⟨pa, 0, none⟩), .int .i64 (width : Int)] w fun q w' => q = .returned (.int .u64 (ofLe ((bs.drop (off + at_)).take width) : Nat)) ∧ Fr (· = pa) w w' ∧ Blk w' pa #[.int .i64 (at2 : Int)] 3 := by
  subst ha
  exact rget_any g off len cap at_ width hw1 hw8 hat hlc hcn bs t hfit pa w hg hp
end Go.Proofs.YtcefockebphbaaaDoor

namespace Go.Proofs.YtcefockebphbaaaDoor
open Go Go.RowKit Sluice

theorem splB_splB (bs : List UInt8) (o : Nat) (a b : List UInt8) (h : o + a.length + b.length ≤ bs.length) : splB (splB bs o a) (o + a.length) b = splB bs o (a ++ b) := by
  unfold splB
  have h1 : (bs.take o).length = o := by simp; omega
  have h2 : (bs.take o ++ a).length = o + a.length := by simp; omega
  have e1 : List.take (o + a.length) (bs.take o ++ a ++ bs.drop (o + a.length)) = bs.take o ++ a := by rw [← h2]; exact List.take_left
  have e2 : List.drop (o + a.length + b.length) (bs.take o ++ a ++ bs.drop (o + a.length)) = bs.drop (o + a.length + b.length) := by
    rw [List.drop_append, h2, List.drop_of_length_le (by omega), List.nil_append, List.drop_drop]
    congr 1
    omega
  rw [e1, e2]
  simp [Nat.add_assoc]
theorem splB_take {bs : List UInt8} {o : Nat} {a : List UInt8} (h : o + a.length ≤ bs.length) : ((splB bs o a).drop o).take a.length = a := by
  unfold splB
  have h1 : (bs.take o).length = o := by simp; omega
  have e1 : List.drop o (bs.take o ++ (a ++ bs.drop (o + a.length))) = a ++ bs.drop (o + a.length) := by
    rw [List.drop_append, h1, List.drop_of_length_le (by omega), List.nil_append, Nat.sub_self, List.drop_zero]
  rw [List.append_assoc, e1]
  exact List.take_left
theorem bytes_cell {w : World} {g : Nat} {bs : List UInt8} {t : TypeId} (hg : Blk w g (bytesA bs) t) (i : Nat) (h : i < bs.length) : w.cell? ⟨g, i, none⟩ = some (bv (bs.getD i 0)) := by
  rw [hg.cell, bytesA_get, List.getElem?_eq_getElem h, Option.map_some, List.getD_eq_getElem?_getD, List.getElem?_eq_getElem h]
  rfl
theorem rput_acc (g off len cap : Nat) (at_ width v : Nat) (acc : List UInt8) (ha : acc.length = at_) (hw1 : 1 ≤ width) (hw8 : width ≤ 8) (hat : at_ + width ≤ len) (hlc : len ≤ cap) (hcn : cap ≤ 1099511627776) (hv : v < 256 ^ width) (bs : List UInt8) (t : TypeId) (hfit : off + len ≤ bs.length)
    (pa : Nat) (hpg : pa ≠ g) (w : World) (hg : Blk w g (bytesA (splB bs off acc)) t) (hp : Blk w pa #[.int .i64 (at_ : Int)] 3) :
    Calls Tryd.prog 54 #[.slice (some ⟨g, off, none⟩) len cap, .pointer (some ⟨pa, 0, none⟩), .int .i64 (width : Int), .int .u64 (v : Int)] w fun q w' => q = .returned (.tuple #[]) ∧ Fr (fun n => n = g ∨ n = pa) w w' ∧ Blk w' g (bytesA (splB bs off (acc ++ le width v))) t ∧ Blk w' pa #[.int .i64 ((at_ + width : Nat) : Int)] 3 := by
  subst ha
  refine (rput_any g off len cap acc.length width v hw1 hw8 hat hlc hcn hv _ t (by rw [splB_length (by omega)]; exact hfit) pa hpg w hg hp).mono ?_
  rintro q w' ⟨rfl, h1, h2, h3⟩
  rw [splB_splB _ _ _ _ (by rw [le_length]; omega)] at h2
  exact ⟨rfl, h1, h2, h3⟩

theorem spl_bytes (bs : List UInt8) (o : Nat) (l : List UInt8) : spl (bytesA bs) o (l.map bv) = bytesA (splB bs o l) := by simp [spl, splB, bytesA, List.map_take, List.map_drop]
/-- A head's first 20 bytes; a head. -/
def head20 (kind : UInt8) (seq count length body : Nat) : List UInt8 := [82, 76, kind, 1] ++ le 4 seq ++ le 4 count ++ le 4 length ++ le 4 body
def headB (kind : UInt8) (seq count length body : Nat) : List UInt8 := head20 kind seq count length body ++ le 4 (crc (head20 kind seq count length body)).toNat
theorem head20_length (kind : UInt8) (seq count length body : Nat) : (head20 kind seq count length body).length = 20 := by simp [head20, le_length]

theorem crc_bytes {bs : List UInt8} {o : Nat} {l : List UInt8} (h : o + l.length ≤ bs.length) : ((bytesA (splB bs o l)).toList.drop o).take l.length = l.map bv := by
  have h1 : (bytesA (splB bs o l)).toList = (splB bs o l).map bv := by simp [bytesA]
  rw [h1, ← List.map_drop, ← List.map_take, splB_take h]
theorem Steps.alloc {w : World} (h : Steps w) (o : Obj) : Steps (w.alloc o) := h.kept ((Fr.refl (fun _ => False) w).alloc o) (fun h => h)
set_option maxHeartbeats 4000000 in
set_option maxRecDepth 100000 in
theorem hbytes_any (kind : UInt8) (seq count length body : Nat) (h1 : seq < 4294967296) (h2 : count < 4294967296) (h3 : length < 4294967296) (h4 : body < 4294967296) (g off cap : Nat) (hcap : 24 ≤ cap) (hcn : cap ≤ 1099511627776) (bs : List UInt8) (t : TypeId) (hfit : off + 24 ≤ bs.length) (w : World) (hS : Steps w) (hgn : g ≠ 1) (hg : Blk w g (bytesA bs) t) :
    Calls Tryd.prog 70 #[.agg #[.int .u8 (kind.toNat : Int), .int .u32 (seq : Int), .int .u32 (count : Int), .int .u32 (length : Int), .int .u32 (body : Int)], .slice (some ⟨g, off, none⟩) 24 cap] w fun q w' => q = .returned (.tuple #[]) ∧ Fr (· = g) w w' ∧ Blk w' g (bytesA (splB bs off (headB kind seq count length body))) t := by
  have hlt := hg.lt
  obtain ⟨wb, hwb⟩ : ∃ wb : World, wb = (w.alloc (.cells #[.int .u8 (kind.toNat : Int), .int .u32 (seq : Int), .int .u32 (count : Int), .int .u32 (length : Int), .int .u32 (body : Int)] 134)).alloc (.cells #[.int .u8 82, .int .u8 76, .int .u8 (kind.toNat : Int), .int .u8 1] 5) := ⟨_, rfl⟩
  have hgb : Blk wb g (bytesA bs) t := by rw [hwb]; exact (hg.alloc _).alloc _
  have hsb : Blk wb (w.heap.size + 1) #[.int .u8 82, .int .u8 76, .int .u8 (kind.toNat : Int), .int .u8 1] 5 := by rw [hwb]; exact Blk.new' (by simp)
  have hhb : Blk wb w.heap.size #[.int .u8 (kind.toNat : Int), .int .u32 (seq : Int), .int .u32 (count : Int), .int .u32 (length : Int), .int .u32 (body : Int)] 134 := by rw [hwb]; exact Blk.alloc (Blk.new' rfl) _
  have hwsz : wb.heap.size = w.heap.size + 1 + 1 := by rw [hwb]; simp
  have hKb : Keeps w wb := by rw [hwb]; exact ((Fr.refl _ w).alloc _).alloc _
  obtain ⟨wc, hrun, hgc, hFc⟩ := run_copy_blk (P := Tryd.prog) wb 111 27 3 5 g off 24 cap ⟨w.heap.size + 1, 0, none⟩ 4 4 (bytesA bs) t (([82, 76, kind, 1] : List UInt8).map bv) Tryd.underlying111 (by kernel_rfl) hgb rfl
    (blk_row (n := 4) hsb rfl rfl) (by rw [bytesA_size]; simp; omega) (by intro u hu; obtain ⟨c, -, rfl⟩ := List.mem_map.1 hu; rfl)
  rw [spl_bytes] at hgc
  rw [hwb] at hrun
  have hH := hFc.blk hhb (by omega)
  have hhc := hH.cell
  have hKc : Fr (· = g) w wc := (Fr.any hKb).then hFc
  have HK := Lib.hid hKc
  have HW := Lib.hid hwb
  have hsc := hFc.size
  have hB := hgc
  have hq1 : w.heap.size ≠ wc.heap.size := by omega
  have hq2 : w.heap.size < wc.heap.size := by omega
  have hq3 : wc.heap.size ≠ g := by omega
  have hq4 : g < wc.heap.size := by omega
  clear hgb hsb hhb hKb hFc hKc hgc hwb
  have hne1 : g ≠ w.heap.size := by omega
  have hne2 : g ≠ w.heap.size + 1 := by omega
  have hne3 : g ≠ w.heap.size + 1 + 1 := by omega
  have hl1 : g < w.heap.size + 1 := by omega
  have hl2 : g < w.heap.size + 1 + 1 := by omega
  have HS := Lib.hid hS
  clear hS
  go_enter Tryd.func70, Tryd.ntmps70
  go_wp2_with (first
    | ((go_at_call 54); (have hBn := hBC); (refine (rput_acc g off 24 cap 20 4 (crc (head20 kind seq count length body)).toNat ([82, 76, kind, 1] ++ le 4 seq ++ le 4 count ++ le 4 length ++ le 4 body) (by simp [le_length]) (by omega) (by omega) (by omega) hcap hcn (by have := (crc (head20 kind seq count length body)).isLt; simpa using this) bs t hfit wc.heap.size hq3 _ hBC hPC).mono ?_); (rintro q w5 ⟨rfl, hF5, hB5, hP0⟩); (have hP5 : Blk w5 wc.heap.size #[.int .i64 ((24 : Nat) : Int)] 3 := hP0); (have hH5 := hF5.blk hHC (by omega)); (have hhc5 := hH5.cell); (have hsw5 := hF5.size); (clear hP0 hBn))
    | ((go_at_call 54); (have hBn := hB3); (refine (rput_acc g off 24 cap 16 4 body ([82, 76, kind, 1] ++ le 4 seq ++ le 4 count ++ le 4 length) (by simp [le_length]) (by omega) (by omega) (by omega) hcap hcn (by simpa using h4) bs t hfit wc.heap.size hq3 _ hB3 hP3).mono ?_); (rintro q w4 ⟨rfl, hF4, hB4, hP0⟩); (have hP4 : Blk w4 wc.heap.size #[.int .i64 ((20 : Nat) : Int)] 3 := hP0); (have hH4 := hF4.blk hH3 (by omega)); (have hhc4 := hH4.cell); (have hsw4 := hF4.size); (clear hP0 hBn))
    | ((go_at_call 54); (have hBn := hB2); (refine (rput_acc g off 24 cap 12 4 length ([82, 76, kind, 1] ++ le 4 seq ++ le 4 count) (by simp [le_length]) (by omega) (by omega) (by omega) hcap hcn (by simpa using h3) bs t hfit wc.heap.size hq3 _ hB2 hP2).mono ?_); (rintro q w3 ⟨rfl, hF3, hB3, hP0⟩); (have hP3 : Blk w3 wc.heap.size #[.int .i64 ((16 : Nat) : Int)] 3 := hP0); (have hH3 := hF3.blk hH2 (by omega)); (have hhc3 := hH3.cell); (have hsw3 := hF3.size); (clear hP0 hBn))
    | ((go_at_call 54); (have hBn := hB1); (refine (rput_acc g off 24 cap 8 4 count ([82, 76, kind, 1] ++ le 4 seq) (by simp [le_length]) (by omega) (by omega) (by omega) hcap hcn (by simpa using h2) bs t hfit wc.heap.size hq3 _ hB1 hP1).mono ?_); (rintro q w2 ⟨rfl, hF2, hB2, hP0⟩); (have hP2 : Blk w2 wc.heap.size #[.int .i64 ((12 : Nat) : Int)] 3 := hP0); (have hH2 := hF2.blk hH1 (by omega)); (have hhc2 := hH2.cell); (have hsw2 := hF2.size); (clear hP0 hBn))
    | ((go_at_call 54); (have hBn := hB); (refine (rput_acc g off 24 cap 4 4 seq ([82, 76, kind, 1]) rfl (by omega) (by omega) (by omega) hcap hcn (by simpa using h1) bs t hfit wc.heap.size hq3 _ (hB.alloc _) (Blk.new' rfl)).mono ?_); (rintro q w1 ⟨rfl, hF1, hB1, hP0⟩); (have hP1 : Blk w1 wc.heap.size #[.int .i64 ((8 : Nat) : Int)] 3 := hP0); (have hH1 := hF1.blk (hH.alloc _) (by omega)); (have hhc1 := hH1.cell); (have hsw1 := hF1.size); (clear hP0 hBn))
    | ((go_at_call 69); (have hlen := head20_length kind seq count length body); (have hT1 : Fr (· = g) w w1 := Fr.trans ((HK.out).alloc _) hF1 (fun i hi e => e.elim id (fun e => absurd hi (by omega)))); (have hT4 : Fr (· = g) w w4 := Fr.trans (Fr.trans (Fr.trans hT1 hF2 (fun i hi e => e.elim id (fun e => absurd hi (by omega)))) hF3 (fun i hi e => e.elim id (fun e => absurd hi (by omega)))) hF4 (fun i hi e => e.elim id (fun e => absurd hi (by omega)))); (refine (crc_any g off cap (head20 kind seq count length body) _ t (crc_bytes (show off + (head20 kind seq count length body).length ≤ bs.length by omega)) (by omega) w4.heap.size _ ((HS.out.kept hT4 (fun e => hgn e.symm)).alloc _) (hB4.alloc _) (by rw [hlen]; exact Blk.new' rfl)).mono ?_); (rintro q w5 ⟨rfl, hk⟩); (have hBC := hk.blk (hB4.alloc _) (fun h => h)); (have hPC := hk.blk (hP4.alloc _) (fun h => h)); (have hHC := hk.blk (hH4.alloc _) (fun h => h)); (have hTC : Fr (· = g) w w5 := (hT4.alloc _).keeps hk); (have hswC := hk.size); ((try simp only [World.size_alloc] at hswC))))
  go_returns
  refine ⟨rfl, Fr.trans hTC hF5 (fun i hi e => e.elim id (fun e => absurd hi (by omega))), hB5⟩
end Go.Proofs.YtcefockebphbaaaDoor

/- Names of edge files, ranges, calls on no spill. -/
import Derived.Test.YtcefockebphbaaaGreatDoorItoa
import Derived.Lib.ItoaLen
import Derived.Test.YtcefockebphbaaaGreatDoorG0
set_option linter.unusedVariables false
set_option linter.unusedSimpArgs false
set_option linter.unnecessarySimpa false
namespace Go.Proofs.YtcefockebphbaaaGreatDoor
open Go Go.RowKit Sluice

theorem ops_any (b : Nat) (q : Int) (m1 m2 : Nat) (ch : Value) (ops : Int) (w : World) (hb : Blk w b (diskA q m1 m2 ch ops) 75) :
    Calls Tryz.prog 13 #[.pointer (some ⟨b, 0, none⟩)] w fun r w' => r = .returned (.int .i64 ops) ∧ w = w' := by
  have hc := hb.cell
  unfold diskA at hc
  go_enter Tryz.func13, Tryz.ntmps13
  go_wp2
  go_ret
  exact ⟨rfl, rfl⟩

theorem num9_any (e : Int) (h0 : -9223372036854775808 ≤ e) (h1 : e ≤ 9223372036854775807) (w : World) :
    Calls Tryz.prog 5 #[.int .i64 e] w fun r w' => r = .returned (.int .i64 e) ∧ w = w' := by
  go_enter Tryz.func5, Tryz.ntmps5
  go_wp2
  go_ret
  exact ⟨rfl, rfl⟩

/-- So many zeros ahead of a text. -/
def pz : Nat → ByteArray → ByteArray
  | 0, t => t
  | k + 1, t => (⟨#[48]⟩ : ByteArray) ++ pz k t
theorem pz_size (t : ByteArray) : ∀ k, (pz k t).size = k + t.size
  | 0 => by simp [pz]
  | k + 1 => by
    have h : ((⟨#[48]⟩ : ByteArray)).size = 1 := rfl
    simp only [pz, ByteArray.size_append, h, pz_size t k]; omega
/-- A part's number, in four digits at least. -/
def part4 (n : Int) : ByteArray := pz (4 - (Lib.itoa n).length) ⟨(Lib.itoa n).toArray⟩
def edgeName (name : ByteArray) (n : Int) (back : Bool) : ByteArray := name ++ (if back then ⟨#[45, 114, 45]⟩ else ⟨#[45, 101, 45]⟩) ++ part4 n
def Tab10 (w : World) : Prop := Lib.TabIs Tryz.prog w "internal/strconv.uint64pow10" .u64 Lib.pow10Tab

theorem itoa_any (n : Int) (h0 : -9223372036854775808 ≤ n) (h1 : n ≤ 9223372036854775807) (w : World) (ht : Tab10 w) :
    Calls Tryz.prog 35 #[.int .i64 n] w fun r w' => r = .returned (.string ⟨(Lib.itoa n).toArray⟩) ∧ Keeps w w' := by
  refine (Tryz.strconv_Itoa n h0 h1 w ht).mono ?_
  rintro e w' ⟨rfl, k, os, rfl⟩
  refine ⟨rfl, rfl, rfl, rfl, ?_, ?_⟩
  · simp [Go.Sort.grow, World.drewN]
  · intro i hi _
    simp only [Go.Sort.grow, World.drewN]
    rw [Array.getElem?_append_left (by simpa using hi)]
set_option maxHeartbeats 1000000 in
theorem edgeFile_any (name : ByteArray) (hs : name.size ≤ 140737488351232) (n : Int) (h0 : -9223372036854775808 ≤ n) (h1 : n ≤ 9223372036854775807) (back : Bool) (w : World) (ht : Tab10 w) :
    Calls Tryz.prog 14 #[.string name, .int .i64 n, .bool back] w fun r w' => r = .returned (.string (edgeName name n back)) ∧ Keeps w w' := by
  have HE : Hid (edgeName name n back = name ++ (if back then ⟨#[45, 114, 45]⟩ else ⟨#[45, 101, 45]⟩) ++ part4 n) := rfl
  have HP : Hid (part4 n = pz (4 - (Lib.itoa n).length) ⟨(Lib.itoa n).toArray⟩) := rfl
  have HI := Lib.hid (itoa_any n h0 h1)
  have hlen : ((⟨(Lib.itoa n).toArray⟩ : ByteArray)).size = (Lib.itoa n).length := by simp [ByteArray.size]
  have hle : (Lib.itoa n).length ≤ 30 := Nat.le_trans (Lib.itoa_length_le n h0 h1) (by omega)
  generalize Lib.itoa n = T at HP HI hlen hle
  generalize (⟨T.toArray⟩ : ByteArray) = t at HP HI hlen
  cases back
  all_goals
    go_enter Tryz.func14, Tryz.ntmps14
    go_wp2_with (go_at_call 35; refine (HI.out _ ht).mono ?_; rintro r w1 ⟨rfl, hk⟩)
    go_loop [8] (fun d => ∃ k : Nat, k ≤ 4 - T.length ∧ d = .string (pz k t)) (fun d => match d with | .string s => 4 - s.size | _ => 0)
    case atStart => exact ⟨0, by omega, rfl⟩
    case round =>
      obtain ⟨k, hk1, rfl⟩ := hrel
      have hz := pz_size t k
      have hz0 : (pz k t).size ≤ 100 := by omega
      have HE2 := HE.out
      rw [HP.out] at HE2
      simp only [if_true, Bool.false_eq_true, if_false] at HE2
      have HF := Lib.hid HE2
      clear HE2
      by_cases hlt : (pz k t).size < 4
      · go_wp2
        exact ⟨⟨k + 1, by omega, rfl⟩, by show 4 - (pz (k + 1) t).size < 4 - (pz k t).size; rw [pz_size, pz_size]; omega⟩
      · go_wp2
        go_ret
        obtain rfl : k = 4 - T.length := by omega
        exact ⟨by rw [HF.out]; rfl, hk⟩
set_option maxHeartbeats 1000000 in
theorem refEdgeFile_any (name : ByteArray) (hs : name.size ≤ 140737488351232) (n : Int) (h0 : -9223372036854775808 ≤ n) (h1 : n ≤ 9223372036854775807) (back : Bool) (w : World) (ht : Tab10 w) :
    Calls Tryz.prog 15 #[.string name, .int .i64 n, .bool back] w fun r w' => r = .returned (.string (edgeName name n back)) ∧ Keeps w w' := by
  have HE : Hid (edgeName name n back = name ++ (if back then ⟨#[45, 114, 45]⟩ else ⟨#[45, 101, 45]⟩) ++ part4 n) := rfl
  have HP : Hid (part4 n = pz (4 - (Lib.itoa n).length) ⟨(Lib.itoa n).toArray⟩) := rfl
  have HI := Lib.hid (itoa_any n h0 h1)
  have hlen : ((⟨(Lib.itoa n).toArray⟩ : ByteArray)).size = (Lib.itoa n).length := by simp [ByteArray.size]
  have hle : (Lib.itoa n).length ≤ 30 := Nat.le_trans (Lib.itoa_length_le n h0 h1) (by omega)
  generalize Lib.itoa n = T at HP HI hlen hle
  generalize (⟨T.toArray⟩ : ByteArray) = t at HP HI hlen
  cases back
  all_goals
    go_enter Tryz.func15, Tryz.ntmps15
    go_wp2_with (go_at_call 35; refine (HI.out _ ht).mono ?_; rintro r w1 ⟨rfl, hk⟩)
    go_loop [7] (fun d => ∃ k : Nat, k ≤ 4 - T.length ∧ d = .string (pz k t)) (fun d => match d with | .string s => 4 - s.size | _ => 0)
    case atStart => exact ⟨0, by omega, rfl⟩
    case round =>
      obtain ⟨k, hk1, rfl⟩ := hrel
      have hz := pz_size t k
      have hz0 : (pz k t).size ≤ 100 := by omega
      have HE2 := HE.out
      rw [HP.out] at HE2
      simp only [if_true, Bool.false_eq_true, if_false] at HE2
      have HF := Lib.hid HE2
      clear HE2
      by_cases hlt : (pz k t).size < 4
      · go_wp2
        exact ⟨⟨k + 1, by omega, rfl⟩, by show 4 - (pz (k + 1) t).size < 4 - (pz k t).size; rw [pz_size, pz_size]; omega⟩
      · go_wp2
        go_ret
        obtain rfl : k = 4 - T.length := by omega
        exact ⟨by rw [HF.out]; rfl, hk⟩
end Go.Proofs.YtcefockebphbaaaGreatDoor

/- The document's: the character that begins at a byte. -/
import Derived.Test.YtjoklcjpihadiaaGreatDoorRoA
set_option linter.unusedVariables false
set_option linter.unusedSimpArgs false
set_option linter.unnecessarySimpa false
namespace Go.Proofs.YtjoklcjpihadiaaGreatDoor
open Go Go.RowKit Sluice Go.Proofs.Ro Go.Lib

/-- What wide answers: the width and the number; -1: none. -/
def wideV (d : Nat × Nat) : Int := if d.1 = 65533 ∧ d.2 = 1 then -1 else (d.1 : Int)
theorem get_at (s : ByteArray) (k : Nat) (h : k < s.size) : (s[k]'h).toNat = (s.get! k).toNat := by
  rw [← get_bl s k h]
  rw [show (bl s).getD k 0 = s.get! k from Lib.getD_get!' s k]

/-- A lead byte's class: how many bytes, the second one's bounds, what it gives. -/
def Lead (n0 sz lo hi v0 : Nat) : Prop :=
  (194 ≤ n0 ∧ n0 < 224 ∧ sz = 2 ∧ lo = 128 ∧ hi = 191 ∧ v0 = n0 - 192) ∨ (n0 = 224 ∧ sz = 3 ∧ lo = 160 ∧ hi = 191 ∧ v0 = 0) ∨
  (((225 ≤ n0 ∧ n0 < 237) ∨ (238 ≤ n0 ∧ n0 < 240)) ∧ sz = 3 ∧ lo = 128 ∧ hi = 191 ∧ v0 = n0 - 224) ∨ (n0 = 237 ∧ sz = 3 ∧ lo = 128 ∧ hi = 159 ∧ v0 = 13) ∨
  (n0 = 240 ∧ sz = 4 ∧ lo = 144 ∧ hi = 191 ∧ v0 = 0) ∨ (241 ≤ n0 ∧ n0 < 244 ∧ sz = 4 ∧ lo = 128 ∧ hi = 191 ∧ v0 = n0 - 240) ∨ (n0 = 244 ∧ sz = 4 ∧ lo = 128 ∧ hi = 143 ∧ v0 = 4)
theorem lead_slow {n0 sz lo hi v0 : Nat} (h : Lead n0 sz lo hi v0) (n b1 b2 b3 : Nat) (hn : 1 ≤ n) (h1 : b1 < 256) (h2 : b2 < 256) (h3 : b3 < 256) : decodeN n n0 b1 b2 b3 = slowN n n0 b1 b2 b3 sz lo hi := by
  rcases h with ⟨a, b, rfl, rfl, rfl, -⟩ | ⟨a, rfl, rfl, rfl, -⟩ | ⟨a, rfl, rfl, rfl, -⟩ | ⟨a, rfl, rfl, rfl, -⟩ | ⟨a, rfl, rfl, rfl, -⟩ | ⟨a, b, rfl, rfl, rfl, -⟩ | ⟨a, rfl, rfl, rfl, -⟩
  · exact (slow_C2 n n0 b1 b2 b3 hn h1 h2 h3 ⟨a, b⟩).symm
  · exact (slow_E0 n n0 b1 b2 b3 hn h1 h2 h3 a).symm
  · exact (slow_E1 n n0 b1 b2 b3 hn h1 h2 h3 a).symm
  · exact (slow_ED n n0 b1 b2 b3 hn h1 h2 h3 a).symm
  · exact (slow_F0 n n0 b1 b2 b3 hn h1 h2 h3 a).symm
  · exact (slow_F1 n n0 b1 b2 b3 hn h1 h2 h3 ⟨a, b⟩).symm
  · exact (slow_F4 n n0 b1 b2 b3 hn h1 h2 h3 a).symm

/-- The number when i bytes are taken. -/
def vAt (v0 b1 b2 b3 : Nat) : Nat → Int
  | 0 => v0
  | 1 => v0
  | 2 => 64 * (v0 : Int) + b1 - 128
  | 3 => 64 * (64 * (v0 : Int) + b1 - 128) + b2 - 128
  | _ => 64 * (64 * (64 * (v0 : Int) + b1 - 128) + b2 - 128) + b3 - 128

set_option maxRecDepth 100000 in
/-- What the bytes come to. -/
theorem slow_out {n0 sz lo hi v0 : Nat} (h : Lead n0 sz lo hi v0) (n b1 b2 b3 : Nat) (hn : sz ≤ n) (h1 : lo ≤ b1 ∧ b1 ≤ hi) (h2 : 3 ≤ sz → 128 ≤ b2 ∧ b2 ≤ 191) (h3 : 4 ≤ sz → 128 ≤ b3 ∧ b3 ≤ 191) :
    (slowN n n0 b1 b2 b3 sz lo hi).2 = sz ∧ wideV (slowN n n0 b1 b2 b3 sz lo hi) = vAt v0 b1 b2 b3 sz := by
  rcases h with ⟨a, b, rfl, rfl, rfl, rfl⟩ | ⟨a, rfl, rfl, rfl, rfl⟩ | ⟨a, rfl, rfl, rfl, rfl⟩ | ⟨a, rfl, rfl, rfl, rfl⟩ | ⟨a, rfl, rfl, rfl, rfl⟩ | ⟨a, b, rfl, rfl, rfl, rfl⟩ | ⟨a, rfl, rfl, rfl, rfl⟩
  all_goals
    unfold slowN
    rw [if_neg (by omega), if_neg (by omega)]
    first
      | (rw [if_pos (by omega)]
         refine ⟨rfl, ?_⟩
         unfold wideV
         rw [if_neg (by simp)]
         show _ = 64 * _ + _ - _
         omega)
      | (have e2 := h2 (by omega)
         rw [if_neg (by omega), if_neg (by omega)]
         first
           | (rw [if_pos (by omega)]
              refine ⟨rfl, ?_⟩
              unfold wideV
              rw [if_neg (by simp)]
              show _ = 64 * (64 * _ + _ - _) + _ - _
              omega)
           | (have e3 := h3 (by omega)
              rw [if_neg (by omega), if_neg (by omega)]
              refine ⟨rfl, ?_⟩
              unfold wideV
              rw [if_neg (by simp)]
              show _ = 64 * (64 * (64 * _ + _ - _) + _ - _) + _ - _
              omega))
set_option maxRecDepth 100000 in
theorem slow_bad1 (n n0 b1 b2 b3 sz lo hi : Nat) (h : n < sz ∨ b1 < lo ∨ hi < b1) : slowN n n0 b1 b2 b3 sz lo hi = (65533, 1) := by
  unfold slowN
  split
  · rfl
  · rw [if_pos (by omega)]
set_option maxRecDepth 100000 in
theorem slow_bad2 (n n0 b1 b2 b3 sz lo hi : Nat) (hz : 3 ≤ sz) (h : b2 < 128 ∨ 191 < b2) : slowN n n0 b1 b2 b3 sz lo hi = (65533, 1) := by
  unfold slowN
  split
  · rfl
  · split
    · rfl
    · rw [if_neg (by omega)]
set_option maxRecDepth 100000 in
theorem slow_bad3 (n n0 b1 b2 b3 sz lo hi : Nat) (hz : 4 ≤ sz) (h : b3 < 128 ∨ 191 < b3) : slowN n n0 b1 b2 b3 sz lo hi = (65533, 1) := by
  unfold slowN
  split
  · rfl
  · split
    · rfl
    · rw [if_neg (by omega)]
      split
      · rfl
      · rw [if_neg (by omega)]
end Go.Proofs.YtjoklcjpihadiaaGreatDoor

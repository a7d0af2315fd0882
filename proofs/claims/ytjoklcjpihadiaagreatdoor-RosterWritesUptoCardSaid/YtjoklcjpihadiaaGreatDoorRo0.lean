/- What a roster's text is, plainly: names, values, how a value is written; sections and entries. -/
import Derived.Lib.ValidLaws
import Derived.Lib.TrimUEq
import Derived.Lib.TrimByte
import Derived.Lib.DecodeNEq
set_option linter.unusedVariables false
set_option linter.unusedSimpArgs false
set_option linter.unnecessarySimpa false
set_option linter.unusedVariables false
set_option linter.unusedSimpArgs false
namespace Go.Proofs.Ro
open Go.Lib

def letterN (n : Nat) : Bool := (decide (97 ≤ n) && decide (n ≤ 122)) || (decide (65 ≤ n) && decide (n ≤ 90))
def beginsN (n : Nat) : Bool := letterN n || decide (n = 95)
def digitN (n : Nat) : Bool := decide (48 ≤ n) && decide (n ≤ 57)
def goesN (n : Nat) : Bool := beginsN n || digitN n || decide (n = 46) || decide (n = 45)
/-- a byte that may stand in a name at place i -/
def nameB (i : Nat) (n : Nat) : Bool := goesN n && !(decide (65 ≤ n) && decide (n ≤ 90)) && (decide (i ≠ 0) || beginsN n)
def nameUpto (l : List UInt8) (k : Nat) : Bool := (List.range k).all fun i => nameB i (l.getD i 0).toNat
def isNameL (l : List UInt8) : Bool := decide (1 ≤ l.length) && decide (l.length ≤ 32) && nameUpto l l.length

theorem nameUpto_zero (l : List UInt8) : nameUpto l 0 = true := rfl
theorem nameUpto_succ (l : List UInt8) (k : Nat) : nameUpto l (k + 1) = (nameUpto l k && nameB k (l.getD k 0).toNat) := by
  simp [nameUpto, List.range_succ]
theorem nameUpto_false (l : List UInt8) (k : Nat) (hk : k < l.length) (h : nameB k (l.getD k 0).toNat = false) : nameUpto l l.length = false := by
  rw [Bool.eq_false_iff]
  intro ht
  rw [nameUpto, List.all_eq_true] at ht
  rw [ht k (List.mem_range.2 hk)] at h
  cases h
theorem goesN_big {n : Nat} (h : 128 ≤ n) : goesN n = false := by
  simp only [goesN, beginsN, letterN, digitN, Bool.or_eq_false_iff, Bool.and_eq_false_iff, decide_eq_false_iff_not]
  omega
theorem nameB_big {i n : Nat} (h : 128 ≤ n) : nameB i n = false := by simp [nameB, goesN_big h]

/-- a character that may not stand in a text -/
def oddR (n : Nat) : Bool := decide (n < 32) && decide (n ≠ 9) && decide (n ≠ 10) && decide (n ≠ 13)
/-- a value's characters, from a place on: each is one, and may stand in a text -/
def okFrom (s : ByteArray) : Nat → Nat → Bool
  | 0, _ => true
  | f + 1, pos => if pos < s.size then (if (Utf8.decode s pos).1 = 65533 ∧ (Utf8.decode s pos).2 = 1 then false else if oddR (Utf8.decode s pos).1 = true then false else okFrom s f (pos + (Utf8.decode s pos).2)) else true
def okV (s : ByteArray) : Bool := okFrom s s.size 0

theorem okFrom_end (s : ByteArray) (f pos : Nat) (h : ¬ pos < s.size) : okFrom s f pos = true := by cases f <;> simp [okFrom, h]
/-- how a byte stands in a quoted value -/
def escB (c : UInt8) : List UInt8 := if c = 92 then [92, 92] else if c = 34 then [92, 34] else if c = 10 then [92, 110] else if c = 9 then [92, 116] else if c = 13 then [92, 114] else [c]
def quoteL (l : List UInt8) : List UInt8 := 34 :: (l.flatMap escB ++ [34])
def ctl (c : UInt8) : Bool := c == 9 || c == 10 || c == 13
def plainL (l : List UInt8) : Bool := !l.isEmpty && !l.any ctl && decide (l.head? ≠ some 32) && decide (l.getLast? ≠ some 32) && decide (l.head? ≠ some 34)
def writtenL (l : List UInt8) : List UInt8 := if plainL l then l else quoteL l

theorem trimB_same (l : List UInt8) : (trimB l 32 = l) ↔ (l = [] ∨ (l.head? ≠ some 32 ∧ l.getLast? ≠ some 32)) := by
  constructor
  · intro h
    rcases List.eq_nil_or_concat l with hn | ⟨i, x, hx⟩
    · exact .inl hn
    · right
      have hlen : (trimB l 32).length = l.length := by rw [h]
      have hle : ∀ (m : List UInt8), (m.dropWhile (· == 32)).length ≤ m.length := fun m => (List.dropWhile_suffix _).length_le
      have h1 : (trimRightB l 32).length = l.length := by
        have a := hle (trimRightB l 32)
        have b : (trimRightB l 32).length ≤ l.length := by unfold trimRightB; rw [List.length_reverse]; have := hle l.reverse; rw [List.length_reverse] at this; exact this
        have c : (trimB l 32).length ≤ (trimRightB l 32).length := a
        omega
      constructor
      · intro hh
        cases l with
        | nil => simp at hh
        | cons y t =>
          simp at hh; subst hh
          have : trimRightB (32 :: t) 32 = 32 :: t := by
            unfold trimRightB at h1 ⊢
            have hs : ((32 :: t).reverse.dropWhile (· == 32)) <:+ (32 :: t).reverse := List.dropWhile_suffix _
            have := hs.eq_of_length (by rw [List.length_reverse] at h1; rw [h1, List.length_reverse])
            rw [this, List.reverse_reverse]
          have h2 : trimB (32 :: t) 32 = t.dropWhile (· == 32) := by
            unfold trimB; rw [this]; unfold trimLeftB; simp
          have := hle t
          rw [h2] at hlen; simp at hlen; omega
      · intro hh
        have hx' : l = i ++ [x] := by simpa using hx
        rw [hx'] at hh
        simp at hh; subst hh
        have h3 : (trimRightB l 32).length ≤ i.length := by
          unfold trimRightB; rw [hx', List.length_reverse, List.reverse_append]; simp
          have := hle i.reverse; rw [List.length_reverse] at this; exact this
        rw [hx'] at h1 h3; simp at h1 h3; omega
  · rintro (h | ⟨h1, h2⟩)
    · subst h; rfl
    · have e1 : trimRightB l 32 = l := by
        rcases List.eq_nil_or_concat l with hn | ⟨i, x, hx⟩
        · subst hn; rfl
        · have hx' : l = i ++ [x] := by simpa using hx
          rw [hx'] at h2 ⊢
          have : x ≠ 32 := by intro e; subst e; simp at h2
          unfold trimRightB; rw [List.reverse_append]; simp [this]
      unfold trimB; rw [e1]
      cases l with
      | nil => rfl
      | cons y t =>
        have : y ≠ 32 := by intro e; subst e; simp at h1
        unfold trimLeftB; simp [this]

/-! ### sections and entries -/
abbrev Ent := ByteArray × ByteArray
abbrev Sec := ByteArray × List Ent
def bl (s : ByteArray) : List UInt8 := s.data.toList

/-- what is wrong with a name behind some others: 0, nothing -/
def wrongN (seen : List ByteArray) (s : ByteArray) : Nat := if isNameL (bl s) = false then 72 else if seen.any (fun y => bl y == bl s) = true then 75 else if 64 ≤ seen.length then 77 else 0
def entN (seen : List ByteArray) (x : Ent) : Nat := if wrongN seen x.1 ≠ 0 then wrongN seen x.1 else if 1024 < x.2.size then 77 else if okV x.2 = false then 70 else 0
def entText (x : Ent) : List UInt8 := bl x.1 ++ [32, 61, 32] ++ writtenL (bl x.2) ++ [10]
/-- entries, one by one: the error, or the text so far with theirs -/
def entsGo : List ByteArray → List UInt8 → List Ent → Nat × List UInt8
  | _, out, [] => (0, out)
  | seen, out, x :: r => if entN seen x ≠ 0 then (entN seen x, []) else entsGo (seen ++ [x.1]) (out ++ entText x) r
def secHead (first : Bool) (s : ByteArray) : List UInt8 := (if first then [] else [10]) ++ [91] ++ bl s ++ [93, 10]
def secsGo : List ByteArray → List UInt8 → List Sec → Nat × List UInt8
  | _, out, [] => (0, out)
  | seen, out, x :: r =>
    if wrongN seen x.1 ≠ 0 then (wrongN seen x.1, [])
    else match entsGo [] (out ++ secHead seen.isEmpty x.1) x.2 with
      | (0, o) => secsGo (seen ++ [x.1]) o r
      | (e, _) => (e, [])
/-- Print: the error's number and the text. -/
def printL (ss : List Sec) : Nat × List UInt8 :=
  match secsGo [] [] ss with
  | (0, o) => if 131072 < o.length then (77, []) else (0, o)
  | (e, _) => (e, [])
end Go.Proofs.Ro

/- Files of chunks as plain lists: how they lie, what is read of them. -/
import Derived.Test.YtcefockebphbaaaDoorGN
set_option linter.unusedVariables false
set_option linter.unusedSimpArgs false
set_option linter.unnecessarySimpa false
namespace Go.Proofs.YtcefockebphbaaaDoor
open Go Go.RowKit Sluice

/-- A chunk; a title's body; the data chunks of groups of records, from a number on; the end's body; a file. -/
def chunkB (kind : UInt8) (seq count : Nat) (body : List UInt8) : List UInt8 := headB kind seq count body.length (crc body).toNat ++ body
def titleB (w tag : Nat) : List UInt8 := le 2 3 ++ le 2 w ++ le 8 tag
def dataB : Nat → List (List (List UInt8)) → List UInt8
  | _, [] => []
  | n, g :: gs => chunkB 2 n g.length g.flatten ++ dataB (n + 1) gs
def endB (rs : List (List UInt8)) : List UInt8 := le 8 rs.length ++ le 4 (crc rs.flatten).toNat
def startB (w tag : Nat) (gs : List (List (List UInt8))) : List UInt8 := chunkB 1 0 0 (titleB w tag) ++ dataB 1 gs
def fileB (w tag : Nat) (gs : List (List (List UInt8))) : List UInt8 := startB w tag gs ++ chunkB 3 (gs.length + 1) 0 (endB gs.flatten)

theorem headB_length (kind : UInt8) (seq count length body : Nat) : (headB kind seq count length body).length = 24 := by simp [headB, head20_length, le_length]
theorem chunkB_length (kind : UInt8) (seq count : Nat) (body : List UInt8) : (chunkB kind seq count body).length = 24 + body.length := by simp [chunkB, headB_length]
theorem titleB_length (w tag : Nat) : (titleB w tag).length = 12 := by simp [titleB, le_length]
theorem endB_length (rs : List (List UInt8)) : (endB rs).length = 12 := by simp [endB, le_length]

/-- What a head's bytes say. -/
structure Head where
  kind : UInt8
  seq : Nat
  count : Nat
  length : Nat
  body : Nat
def headGood (b : List UInt8) : Bool := b.getD 0 0 == 82 && b.getD 1 0 == 76 && b.getD 3 0 == 1 && decide (ofLe ((b.drop 20).take 4) = (crc (b.take 20)).toNat)
def headR (b : List UInt8) : Head := ⟨b.getD 2 0, ofLe ((b.drop 4).take 4), ofLe ((b.drop 8).take 4), ofLe ((b.drop 12).take 4), ofLe ((b.drop 16).take 4)⟩
/-- May a chunk with this head stand here? -/
def mayP (wd seq : Nat) (h : Head) : Bool :=
  h.seq == seq && (if seq = 0 then h.kind == 1 && h.count == 0 && h.length == 12 else if h.kind = 3 then h.count == 0 && h.length == 12 else if h.kind = 2 then decide (1 ≤ h.count) && h.length == h.count * wd && decide (h.length ≤ 1048576) else false)
/-- The chunk that stands at a place, if it is right. -/
def chunkR (bs : List UInt8) (B wd at_ seq : Nat) : Option (UInt8 × Nat × List UInt8) :=
  if bs.length < at_ + 24 then none else
    if headGood ((bs.drop at_).take 24) = false then none else
      let h := headR ((bs.drop at_).take 24)
      if mayP wd seq h = false then none else
        if B < h.length then none else
          if bs.length < at_ + 24 + h.length then none else
            if (crc ((bs.drop (at_ + 24)).take h.length)).toNat ≠ h.body then none else
              some (h.kind, h.count, (bs.drop (at_ + 24)).take h.length)
/-- Records of one width, one behind the other. -/
def split (wd : Nat) : Nat → List UInt8 → List (List UInt8)
  | 0, _ => []
  | n + 1, b => b.take wd :: split wd n (b.drop wd)
/-- What is told from a place on, and whether the end is right (k: a bound on the chunks). -/
def tellsK (bs : List UInt8) (B wd : Nat) : Nat → Nat → Nat → Nat → BitVec 32 → List (List UInt8) × Bool
  | 0, _, _, _, _ => ([], false)
  | k + 1, at_, seq, recs, sum =>
    match chunkR bs B wd at_ seq with
    | none => ([], false)
    | some (kind, count, body) =>
      if kind = 3 then ([], decide (ofLe (body.take 8) = recs ∧ ofLe ((body.drop 8).take 4) = sum.toNat ∧ bs.length ≤ at_ + 24 + body.length))
      else (split wd count body ++ (tellsK bs B wd k (at_ + 24 + body.length) (seq + 1) (recs + count) (more sum body)).1,
        (tellsK bs B wd k (at_ + 24 + body.length) (seq + 1) (recs + count) (more sum body)).2)
def tells (bs : List UInt8) (B wd at_ seq recs : Nat) (sum : BitVec 32) : List (List UInt8) × Bool := tellsK bs B wd (bs.length + 1) at_ seq recs sum

theorem chunkR_some {bs : List UInt8} {B wd at_ seq : Nat} {kind : UInt8} {count : Nat} {body : List UInt8} (h : chunkR bs B wd at_ seq = some (kind, count, body)) :
    headGood ((bs.drop at_).take 24) = true ∧ mayP wd seq (headR ((bs.drop at_).take 24)) = true ∧ (headR ((bs.drop at_).take 24)).length ≤ B ∧ at_ + 24 + (headR ((bs.drop at_).take 24)).length ≤ bs.length ∧
      (crc body).toNat = (headR ((bs.drop at_).take 24)).body ∧ kind = (headR ((bs.drop at_).take 24)).kind ∧ count = (headR ((bs.drop at_).take 24)).count ∧ body = (bs.drop (at_ + 24)).take (headR ((bs.drop at_).take 24)).length ∧ body.length = (headR ((bs.drop at_).take 24)).length := by
  unfold chunkR at h
  split at h
  · cases h
  split at h
  · cases h
  dsimp only at h
  split at h
  · cases h
  split at h
  · cases h
  split at h
  · cases h
  split at h
  · cases h
  · rename_i h1 h2 h3 h4 h5 h6
    simp only [Option.some.injEq, Prod.mk.injEq] at h
    obtain ⟨rfl, rfl, rfl⟩ := h
    have hle : (headR ((bs.drop at_).take 24)).length ≤ (bs.drop (at_ + 24)).length := by rw [List.length_drop]; omega
    exact ⟨by simpa using h2, by simpa using h3, by omega, by omega, by simpa using h6, rfl, rfl, rfl, by rw [List.length_take]; omega⟩

theorem tellsK_fuel (bs : List UInt8) (B wd : Nat) : ∀ (k k' at_ seq recs : Nat) (sum : BitVec 32), bs.length < at_ + k → bs.length < at_ + k' → tellsK bs B wd k at_ seq recs sum = tellsK bs B wd k' at_ seq recs sum
  | 0, 0, _, _, _, _, _, _ => rfl
  | 0, k' + 1, at_, seq, recs, sum, h, h' => by
    have e : chunkR bs B wd at_ seq = none := by unfold chunkR; rw [if_pos (by omega)]
    simp only [tellsK, e]
  | k + 1, 0, at_, seq, recs, sum, h, h' => by
    have e : chunkR bs B wd at_ seq = none := by unfold chunkR; rw [if_pos (by omega)]
    simp only [tellsK, e]
  | k + 1, k' + 1, at_, seq, recs, sum, h, h' => by
    simp only [tellsK]
    cases e : chunkR bs B wd at_ seq with
    | none => rfl
    | some x =>
      obtain ⟨kind, count, body⟩ := x
      dsimp only
      rw [tellsK_fuel bs B wd k k' (at_ + 24 + body.length) (seq + 1) (recs + count) (more sum body) (by omega) (by omega)]
theorem tells_eq (bs : List UInt8) (B wd at_ seq recs : Nat) (sum : BitVec 32) : tells bs B wd at_ seq recs sum =
    match chunkR bs B wd at_ seq with
    | none => ([], false)
    | some (kind, count, body) =>
      if kind = 3 then ([], decide (ofLe (body.take 8) = recs ∧ ofLe ((body.drop 8).take 4) = sum.toNat ∧ bs.length ≤ at_ + 24 + body.length))
      else (split wd count body ++ (tells bs B wd (at_ + 24 + body.length) (seq + 1) (recs + count) (more sum body)).1, (tells bs B wd (at_ + 24 + body.length) (seq + 1) (recs + count) (more sum body)).2) := by
  unfold tells
  rw [tellsK]
  cases e : chunkR bs B wd at_ seq with
  | none => rfl
  | some x =>
    obtain ⟨kind, count, body⟩ := x
    dsimp only
    rw [tellsK_fuel bs B wd bs.length (bs.length + 1) (at_ + 24 + body.length) (seq + 1) (recs + count) (more sum body) (by omega) (by omega)]

/-! ### Reading what was laid -/
theorem notB_notB (a : BitVec 32) : notB (notB a) = a := by unfold notB; exact BitVec.not_not
theorem more_more (s : BitVec 32) (a b : List UInt8) : more (more s a) b = more s (a ++ b) := by
  unfold more regs
  rw [notB_notB, List.foldl_append]
theorem crc_lt (l : List UInt8) : (crc l).toNat < 4294967296 := by have := (crc l).isLt; simpa using this
theorem ofLe_le4 {v : Nat} (h : v < 4294967296) : ofLe (le 4 v) = v := ofLe_le 4 v (by simpa using h)

theorem take_drop_mid {α : Type} (a b c : List α) {n m : Nat} (hn : a.length = n) (hm : b.length = m) : ((a ++ b ++ c).drop n).take m = b := by
  subst hn hm
  rw [List.append_assoc, List.drop_left, List.take_left]
theorem headR_laid (kind : UInt8) {seq count length body : Nat} (h1 : seq < 4294967296) (h2 : count < 4294967296) (h3 : length < 4294967296) (h4 : body < 4294967296) :
    headR (headB kind seq count length body) = ⟨kind, seq, count, length, body⟩ ∧ headGood (headB kind seq count length body) = true := by
  have hl := @le_length 4
  have hs : headB kind seq count length body = [82, 76, kind, 1] ++ le 4 seq ++ le 4 count ++ le 4 length ++ le 4 body ++ le 4 (crc (head20 kind seq count length body)).toNat := rfl
  have e1 : ((headB kind seq count length body).drop 4).take 4 = le 4 seq := by
    rw [hs]
    have := take_drop_mid [82, 76, kind, 1] (le 4 seq) (le 4 count ++ le 4 length ++ le 4 body ++ le 4 (crc (head20 kind seq count length body)).toNat) (n := 4) (m := 4) rfl (hl _)
    simpa [List.append_assoc] using this
  have e2 : ((headB kind seq count length body).drop 8).take 4 = le 4 count := by
    rw [hs]
    have := take_drop_mid ([82, 76, kind, 1] ++ le 4 seq) (le 4 count) (le 4 length ++ le 4 body ++ le 4 (crc (head20 kind seq count length body)).toNat) (n := 8) (m := 4) (by simp [hl]) (hl _)
    simpa [List.append_assoc] using this
  have e3 : ((headB kind seq count length body).drop 12).take 4 = le 4 length := by
    rw [hs]
    have := take_drop_mid ([82, 76, kind, 1] ++ le 4 seq ++ le 4 count) (le 4 length) (le 4 body ++ le 4 (crc (head20 kind seq count length body)).toNat) (n := 12) (m := 4) (by simp [hl]) (hl _)
    simpa [List.append_assoc] using this
  have e4 : ((headB kind seq count length body).drop 16).take 4 = le 4 body := by
    rw [hs]
    have := take_drop_mid ([82, 76, kind, 1] ++ le 4 seq ++ le 4 count ++ le 4 length) (le 4 body) (le 4 (crc (head20 kind seq count length body)).toNat) (n := 16) (m := 4) (by simp [hl]) (hl _)
    simpa [List.append_assoc] using this
  have e5 : ((headB kind seq count length body).drop 20).take 4 = le 4 (crc (head20 kind seq count length body)).toNat := by
    unfold headB
    have := take_drop_mid (head20 kind seq count length body) (le 4 (crc (head20 kind seq count length body)).toNat) [] (n := 20) (m := 4) (head20_length _ _ _ _ _) (hl _)
    simpa using this
  have e6 : (headB kind seq count length body).take 20 = head20 kind seq count length body := by
    unfold headB
    rw [← head20_length kind seq count length body]
    exact List.take_left
  refine ⟨?_, ?_⟩
  · unfold headR
    rw [e1, e2, e3, e4, ofLe_le4 h1, ofLe_le4 h2, ofLe_le4 h3, ofLe_le4 h4]
    rfl
  · unfold headGood
    rw [e5, e6, ofLe_le4 (crc_lt _)]
    simp [headB, head20]

theorem chunk_laid {pre post : List UInt8} {kind : UInt8} {seq count : Nat} {body : List UInt8} {B wd : Nat} (h1 : seq < 4294967296) (h2 : count < 4294967296) (h3 : body.length < 4294967296)
    (hm : mayP wd seq ⟨kind, seq, count, body.length, (crc body).toNat⟩ = true) (hB : body.length ≤ B) :
    chunkR (pre ++ chunkB kind seq count body ++ post) B wd pre.length seq = some (kind, count, body) := by
  have hh := headR_laid kind (seq := seq) (count := count) (length := body.length) (body := (crc body).toNat) h1 h2 h3 (crc_lt _)
  have e1 : ((pre ++ chunkB kind seq count body ++ post).drop pre.length).take 24 = headB kind seq count body.length (crc body).toNat := by
    have := take_drop_mid pre (headB kind seq count body.length (crc body).toNat) (body ++ post) rfl (headB_length _ _ _ _ _)
    simpa [chunkB, List.append_assoc] using this
  have e2 : ((pre ++ chunkB kind seq count body ++ post).drop (pre.length + 24)).take body.length = body := by
    have := take_drop_mid (pre ++ headB kind seq count body.length (crc body).toNat) body post (n := pre.length + 24) (by simp [headB_length]) rfl
    simpa [chunkB, List.append_assoc] using this
  have hlen : (pre ++ chunkB kind seq count body ++ post).length = pre.length + (24 + body.length) + post.length := by simp only [List.length_append, chunkB_length]
  unfold chunkR
  rw [if_neg (by omega)]
  rw [e1, hh.1, hh.2]
  dsimp only
  rw [hm, e2]
  rw [if_neg (by simp), if_neg (by simp), if_neg (by omega), if_neg (by omega), if_neg (by simp)]

theorem split_flatten {wd : Nat} : ∀ {g : List (List UInt8)}, (∀ r ∈ g, r.length = wd) → split wd g.length g.flatten = g
  | [], _ => rfl
  | r :: g, h => by
    have hr : r.length = wd := h r (List.mem_cons_self ..)
    have ih := split_flatten (g := g) fun x hx => h x (List.mem_cons_of_mem _ hx)
    simp only [List.length_cons, List.flatten_cons, split]
    rw [← hr, List.take_left, List.drop_left, hr, ih]
theorem flatten_length {wd : Nat} : ∀ {g : List (List UInt8)}, (∀ r ∈ g, r.length = wd) → g.flatten.length = g.length * wd
  | [], _ => by simp
  | r :: g, h => by
    have hr : r.length = wd := h r (List.mem_cons_self ..)
    have ih := flatten_length (g := g) fun x hx => h x (List.mem_cons_of_mem _ hx)
    simp only [List.flatten_cons, List.length_append, List.length_cons, ih, hr, Nat.add_mul]
    omega

/-- Groups that a Writer lays: none is empty, each fits a chunk. -/
def GoodGroups (wd M : Nat) (gs : List (List (List UInt8))) : Prop := ∀ g ∈ gs, 1 ≤ g.length ∧ g.length ≤ M ∧ ∀ r ∈ g, r.length = wd

theorem chunk_data {pre post : List UInt8} {n : Nat} {g : List (List UInt8)} {B wd M : Nat} (hn0 : n ≠ 0) (hn : n < 4294967296) (h1 : 1 ≤ g.length) (h2 : g.length ≤ M) (h3 : ∀ r ∈ g, r.length = wd) (hMB : M * wd ≤ B) (hM2 : M * wd ≤ 1048576) (hM : M ≤ 1048576) :
    chunkR (pre ++ chunkB 2 n g.length g.flatten ++ post) B wd pre.length n = some (2, g.length, g.flatten) := by
  have hfl := flatten_length h3
  have hle : g.length * wd ≤ M * wd := Nat.mul_le_mul_right _ h2
  refine chunk_laid hn (by omega) (by omega) ?_ (by omega)
  simp only [mayP, hn0, if_false, hfl]
  simp [h1]
  omega
theorem tells_end {bs : List UInt8} {B wd at_ n recs : Nat} {sum : BitVec 32} {tot : List (List UInt8)} (hc : chunkR bs B wd at_ n = some (3, 0, endB tot)) (hr : tot.length = recs) (ht : tot.length < 256 ^ 8) (hs : crc tot.flatten = sum) :
    tells bs B wd at_ n recs sum = ([], decide (bs.length ≤ at_ + 36)) := by
  have e1 : (endB tot).take 8 = le 8 tot.length := by unfold endB; exact List.take_left' (le_length _ _)
  have e2 : ((endB tot).drop 8).take 4 = le 4 (crc tot.flatten).toNat := by
    unfold endB; rw [List.drop_left' (le_length _ _)]; exact List.take_of_length_le (by rw [le_length]; omega)
  have e4 : ofLe (le 8 tot.length) = recs := by rw [ofLe_le 8 _ ht, hr]
  have e5 : ofLe (le 4 (crc tot.flatten).toNat) = sum.toNat := by rw [ofLe_le4 (crc_lt _), hs]
  have e6 : (endB tot).length = 12 := endB_length tot
  have e7 : at_ + 24 + 12 = at_ + 36 := by omega
  rw [tells_eq, hc]
  simp only [if_true]
  rw [e1, e2, e4, e5, e6, e7]
  simp only [true_and]
theorem tells_step {bs : List UInt8} {B wd at_ n recs : Nat} {sum : BitVec 32} {g : List (List UInt8)} (hc : chunkR bs B wd at_ n = some (2, g.length, g.flatten)) (h3 : ∀ r ∈ g, r.length = wd) :
    tells bs B wd at_ n recs sum = (g ++ (tells bs B wd (at_ + 24 + g.flatten.length) (n + 1) (recs + g.length) (more sum g.flatten)).1, (tells bs B wd (at_ + 24 + g.flatten.length) (n + 1) (recs + g.length) (more sum g.flatten)).2) := by
  have h23 : ¬ ((2 : UInt8) = 3) := by decide
  rw [tells_eq, hc]
  dsimp only
  rw [if_neg h23, split_flatten h3]
theorem more_nil (s : BitVec 32) : more s [] = s := by unfold more regs; exact notB_notB _
theorem tells_laid {wd M B : Nat} (hMB : M * wd ≤ B) (hB : 12 ≤ B) (hM2 : M * wd ≤ 1048576) (hM : M ≤ 1048576) (gs : List (List (List UInt8))) : ∀ (pre post : List UInt8) (n recs : Nat) (sum : BitVec 32) (tot : List (List UInt8)), n ≠ 0 → n + gs.length < 4294967296 → GoodGroups wd M gs →
    tot.length = recs + gs.flatten.length → tot.length < 256 ^ 8 → crc tot.flatten = more sum gs.flatten.flatten →
    tells (pre ++ dataB n gs ++ chunkB 3 (n + gs.length) 0 (endB tot) ++ post) B wd pre.length n recs sum = (gs.flatten, decide (post = [])) := by
  induction gs with
  | nil =>
    intro pre post n recs sum tot hn0 hn hg hr ht hs
    have e0 : pre ++ dataB n [] ++ chunkB 3 (n + ([] : List (List (List UInt8))).length) 0 (endB tot) ++ post = pre ++ chunkB 3 n 0 (endB tot) ++ post := by simp [dataB]
    have hc : chunkR (pre ++ chunkB 3 n 0 (endB tot) ++ post) B wd pre.length n = some (3, 0, endB tot) := by
      refine chunk_laid (by simpa using hn) (by omega) (by rw [endB_length]; omega) ?_ (by rw [endB_length]; exact hB)
      simp [mayP, hn0, endB_length]
    simp only [List.flatten_nil, List.length_nil, Nat.add_zero] at hr hs
    rw [more_nil] at hs
    rw [e0, tells_end hc hr ht hs, List.flatten_nil]
    have hl : (pre ++ chunkB 3 n 0 (endB tot) ++ post).length = pre.length + 36 + post.length := by
      rw [List.length_append, List.length_append, chunkB_length, endB_length]
    have hd : decide ((pre ++ chunkB 3 n 0 (endB tot) ++ post).length ≤ pre.length + 36) = decide (post = []) := by
      rw [hl]
      cases post with
      | nil => simp
      | cons x l => simp
    rw [hd]
  | cons g gs ih =>
    intro pre post n recs sum tot hn0 hn hg hr ht hs
    obtain ⟨h1, h2, h3⟩ := hg g (List.mem_cons_self ..)
    have hn' : n + 1 + gs.length < 4294967296 := by rw [List.length_cons] at hn; omega
    have e0 : pre ++ dataB n (g :: gs) ++ chunkB 3 (n + (g :: gs).length) 0 (endB tot) ++ post = pre ++ chunkB 2 n g.length g.flatten ++ (dataB (n + 1) gs ++ chunkB 3 (n + 1 + gs.length) 0 (endB tot) ++ post) := by
      have : n + (gs.length + 1) = n + 1 + gs.length := by omega
      simp only [dataB, List.append_assoc, List.length_cons, this]
    have e4 : pre ++ dataB n (g :: gs) ++ chunkB 3 (n + (g :: gs).length) 0 (endB tot) ++ post = (pre ++ chunkB 2 n g.length g.flatten) ++ dataB (n + 1) gs ++ chunkB 3 (n + 1 + gs.length) 0 (endB tot) ++ post := by
      rw [e0]; simp only [List.append_assoc]
    have hc := chunk_data (pre := pre) (post := dataB (n + 1) gs ++ chunkB 3 (n + 1 + gs.length) 0 (endB tot) ++ post) (B := B) hn0 (by omega) h1 h2 h3 hMB hM2 hM
    have hr' : tot.length = recs + g.length + gs.flatten.length := by rw [hr, List.flatten_cons, List.length_append]; omega
    have hs' : crc tot.flatten = more (more sum g.flatten) gs.flatten.flatten := by rw [hs, more_more, List.flatten_cons, List.flatten_append]
    have hg' : GoodGroups wd M gs := fun x hx => hg x (List.mem_cons_of_mem _ hx)
    have ih' := ih (pre ++ chunkB 2 n g.length g.flatten) post (n + 1) (recs + g.length) (more sum g.flatten) tot (by omega) hn' hg' hr' ht hs'
    rw [← e0] at hc
    rw [tells_step hc h3, e4]
    have hl : (pre ++ chunkB 2 n g.length g.flatten).length = pre.length + 24 + g.flatten.length := by rw [List.length_append, chunkB_length]; omega
    rw [hl] at ih'
    rw [ih', List.flatten_cons]
end Go.Proofs.YtcefockebphbaaaDoor

namespace Go.Proofs.YtcefockebphbaaaDoor
open Go Go.RowKit Sluice

/-- One step of the register. -/
def poly : BitVec 32 := 0xedb88320#32
def stepB (r : BitVec 32) : BitVec 32 := (r >>> 1) ^^^ (if r.getLsbD 0 then poly else 0#32)
def Lin (f : BitVec 32 → BitVec 32) : Prop := ∀ a b, f (a ^^^ b) = f a ^^^ f b
theorem Lin.zero {f : BitVec 32 → BitVec 32} (h : Lin f) : f 0#32 = 0#32 := by
  have := h 0#32 0#32
  rw [BitVec.xor_self] at this
  rw [BitVec.xor_self] at this
  exact this
theorem Lin.comp {f g : BitVec 32 → BitVec 32} (hf : Lin f) (hg : Lin g) : Lin (fun x => f (g x)) := fun a b => by
  show f (g (a ^^^ b)) = _
  rw [hg, hf]
theorem Lin.ext {f g : BitVec 32 → BitVec 32} (hf : Lin f) (hg : Lin g) (h : ∀ i, i < 32 → f (BitVec.twoPow 32 i) = g (BitVec.twoPow 32 i)) (r : BitVec 32) : f r = g r := by
  have key : ∀ k, k ≤ 32 → ∀ r : BitVec 32, (∀ i, k ≤ i → r.getLsbD i = false) → f r = g r := by
    intro k
    induction k with
    | zero =>
      intro _ r hr
      have : r = 0#32 := by
        apply BitVec.eq_of_getLsbD_eq
        intro i hi
        rw [hr i (by omega)]; simp
      rw [this, hf.zero, hg.zero]
    | succ k ih =>
      intro hk r hr
      by_cases hb : r.getLsbD k = true
      · have e : r = (r ^^^ BitVec.twoPow 32 k) ^^^ BitVec.twoPow 32 k := by
          rw [BitVec.xor_assoc, BitVec.xor_self, BitVec.xor_zero]
        rw [e, hf, hg, h k (by omega), ih (by omega) (r ^^^ BitVec.twoPow 32 k)]
        intro i hi
        rw [BitVec.getLsbD_xor, BitVec.getLsbD_twoPow]
        by_cases hik : k = i
        · subst hik; simp [hb]; omega
        · rw [hr i (by omega)]; simp [hik]
      · refine ih (by omega) r fun i hi => ?_
        by_cases hik : i = k
        · subst hik; simpa using hb
        · exact hr i (by omega)
  exact key 32 (Nat.le_refl _) r fun i hi => BitVec.getLsbD_of_ge _ _ hi
theorem stepB_lin : Lin stepB := by
  intro a b
  unfold stepB
  rw [BitVec.ushiftRight_xor_distrib, BitVec.getLsbD_xor]
  cases a.getLsbD 0 <;> cases b.getLsbD 0 <;> simp
  · rw [BitVec.xor_assoc]
  · rw [BitVec.xor_assoc, BitVec.xor_assoc]; congr 1; exact BitVec.xor_comm _ _
  · have : poly ^^^ (b >>> 1 ^^^ poly) = b >>> 1 := by rw [BitVec.xor_comm (b >>> 1), ← BitVec.xor_assoc, BitVec.xor_self, BitVec.zero_xor]
    rw [BitVec.xor_assoc, this]
theorem tabB_lin : ∀ i, i < 16 → ∀ j, j < 16 → tabB (i ^^^ j) = tabB i ^^^ tabB j := by decide +kernel
theorem half_lin : Lin half := by
  intro a b
  unfold half xorB shrB
  have h : (a ^^^ b).toNat % 16 = (a.toNat % 16) ^^^ (b.toNat % 16) := by
    rw [BitVec.toNat_xor]
    exact Nat.xor_mod_two_pow (n := 4)
  rw [h, tabB_lin _ (by omega) _ (by omega), BitVec.ushiftRight_xor_distrib]
  rw [BitVec.xor_assoc, BitVec.xor_assoc]
  congr 1
  rw [← BitVec.xor_assoc, ← BitVec.xor_assoc, BitVec.xor_comm (tabB (b.toNat % 16))]
theorem half_step (r : BitVec 32) : half r = stepB (stepB (stepB (stepB r))) := by
  refine half_lin.ext (g := fun r => stepB (stepB (stepB (stepB r)))) ?_ ?_ r
  · exact stepB_lin.comp (stepB_lin.comp (stepB_lin.comp stepB_lin))
  · decide +kernel

/-- So many steps. -/
def steps : Nat → BitVec 32 → BitVec 32
  | 0, r => r
  | n + 1, r => steps n (stepB r)
theorem eight_steps (r : BitVec 32) : eight r = steps 8 r := by unfold eight; rw [half_step, half_step]; rfl
theorem stepB_zero {x : BitVec 32} (h : stepB x = 0#32) : x = 0#32 := by
  have hb : ∀ i, (stepB x).getLsbD i = (x.getLsbD (i + 1) ^^ (x.getLsbD 0 && poly.getLsbD i)) := by
    intro i
    unfold stepB
    rw [BitVec.getLsbD_xor, BitVec.getLsbD_ushiftRight, Nat.add_comm 1]
    cases x.getLsbD 0 <;> simp
  have h0 : x.getLsbD 0 = false := by
    have := hb 31
    rw [h, BitVec.getLsbD_of_ge x 32 (by omega)] at this
    have hp : poly.getLsbD 31 = true := by decide
    rw [hp] at this
    simpa using this.symm
  apply BitVec.eq_of_getLsbD_eq
  intro i hi
  rw [BitVec.getLsbD_zero]
  cases i with
  | zero => exact h0
  | succ i =>
    have := hb i
    rw [h, h0] at this
    simpa using this.symm
theorem steps_zero : ∀ (n : Nat) {x : BitVec 32}, steps n x = 0#32 → x = 0#32
  | 0, _, h => h
  | n + 1, _, h => stepB_zero (steps_zero n h)
theorem steps_of_zero : ∀ n, steps n 0#32 = 0#32
  | 0 => rfl
  | n + 1 => by rw [steps, stepB_lin.zero]; exact steps_of_zero n

def bitB (b : Bool) : BitVec 32 := if b then 1#32 else 0#32
/-- Bits fed into the register, one behind the other. -/
def feed : BitVec 32 → List Bool → BitVec 32
  | r, [] => r
  | r, b :: bs => feed (stepB (r ^^^ bitB b)) bs
theorem feed_append : ∀ (xs ys : List Bool) (r : BitVec 32), feed r (xs ++ ys) = feed (feed r xs) ys
  | [], _, _ => rfl
  | x :: xs, ys, r => by simp only [List.cons_append, feed]; exact feed_append xs ys _
theorem bitB_xor (a b : Bool) : bitB (a ^^ b) = bitB a ^^^ bitB b := by cases a <;> cases b <;> decide
theorem feed_xor : ∀ (xs ys : List Bool) (a b : BitVec 32), xs.length = ys.length → feed a xs ^^^ feed b ys = feed (a ^^^ b) (List.zipWith (· ^^ ·) xs ys)
  | [], [], _, _, _ => rfl
  | x :: xs, y :: ys, a, b, h => by
    simp only [List.zipWith_cons_cons, feed]
    rw [feed_xor xs ys _ _ (by simpa using h)]
    congr 1
    rw [← stepB_lin, bitB_xor]
    congr 1
    rw [BitVec.xor_assoc, BitVec.xor_assoc]
    congr 1
    rw [← BitVec.xor_assoc, ← BitVec.xor_assoc, BitVec.xor_comm (bitB x)]
theorem feed_zeros : ∀ (n : Nat) (r : BitVec 32), feed r (List.replicate n false) = steps n r
  | 0, _ => rfl
  | n + 1, r => by
    simp only [List.replicate_succ, feed, steps]
    rw [feed_zeros n]
    congr 1
    simp [bitB]
/-- Up to 32 bits as a word. -/
def wordOf : List Bool → BitVec 32
  | [] => 0#32
  | b :: bs => bitB b ^^^ (wordOf bs <<< 1)
theorem bitB_get (b : Bool) (i : Nat) : (bitB b).getLsbD i = (b && decide (i = 0)) := by
  cases b
  · simp [bitB]
  · unfold bitB
    rw [if_pos rfl]
    have : (1#32) = BitVec.twoPow 32 0 := by decide
    rw [this, BitVec.getLsbD_twoPow]
    simp [eq_comm]
theorem wordOf_get : ∀ (bs : List Bool) (i : Nat), i < 32 → (wordOf bs).getLsbD i = bs.getD i false
  | [], i, _ => by simp [wordOf]
  | b :: bs, i, hi => by
    rw [wordOf, BitVec.getLsbD_xor, bitB_get, BitVec.getLsbD_shiftLeft]
    cases i with
    | zero => simp
    | succ i =>
      have := wordOf_get bs i (by omega)
      simp [hi, this]
theorem stepB_shl {x : BitVec 32} (h : x.getLsbD 31 = false) : stepB (x <<< 1) = x := by
  unfold stepB
  have h0 : (x <<< 1).getLsbD 0 = false := by simp
  rw [h0]
  simp only [Bool.false_eq_true, if_false, BitVec.xor_zero]
  apply BitVec.eq_of_getLsbD_eq
  intro i hi
  rw [BitVec.getLsbD_ushiftRight, BitVec.getLsbD_shiftLeft]
  by_cases h31 : i = 31
  · subst h31; rw [h]; simp
  · have h1 : 1 + i < 32 := by omega
    have h2 : ¬ (1 + i < 1) := by omega
    simp [h1]
theorem feed_word : ∀ (bs : List Bool) (r : BitVec 32), bs.length ≤ 32 → feed r bs = steps bs.length (r ^^^ wordOf bs)
  | [], r, _ => by simp [feed, steps, wordOf]
  | b :: bs, r, h => by
    simp only [List.length_cons] at h
    have hw : (wordOf bs).getLsbD 31 = false := by
      rw [wordOf_get bs 31 (by omega), List.getD_eq_getElem?_getD, List.getElem?_eq_none (by omega)]; rfl
    simp only [feed, steps, List.length_cons, wordOf]
    rw [feed_word bs _ (by omega), ← BitVec.xor_assoc, stepB_lin (r ^^^ bitB b), stepB_shl hw]
theorem wordOf_zero {bs : List Bool} (hl : bs.length ≤ 32) (h : wordOf bs = 0#32) : ∀ b ∈ bs, b = false := by
  intro b hb
  obtain ⟨i, hi, rfl⟩ := List.mem_iff_getElem.1 hb
  have := wordOf_get bs i (by omega)
  rw [h] at this
  simp [List.getD_eq_getElem?_getD, List.getElem?_eq_getElem hi] at this
  exact this
/-- Turned bits that stand within 32 are felt. -/
theorem feed_burst (p : Nat) (ws : List Bool) (q : Nat) (hw : ws.length ≤ 32) (h : feed 0#32 (List.replicate p false ++ ws ++ List.replicate q false) = 0#32) : ∀ b ∈ ws, b = false := by
  rw [feed_append, feed_append, feed_zeros, feed_zeros, steps_of_zero] at h
  have h1 := steps_zero q h
  rw [feed_word ws _ hw] at h1
  have h2 := steps_zero _ h1
  rw [BitVec.zero_xor] at h2
  exact wordOf_zero hw h2

def byteBits (c : UInt8) : List Bool := [c.toNat.testBit 0, c.toNat.testBit 1, c.toNat.testBit 2, c.toNat.testBit 3, c.toNat.testBit 4, c.toNat.testBit 5, c.toNat.testBit 6, c.toNat.testBit 7]
theorem byteB_word (c : UInt8) : byteB c = wordOf (byteBits c) := by
  have key : ∀ n, n < 256 → BitVec.ofNat 32 n = wordOf [n.testBit 0, n.testBit 1, n.testBit 2, n.testBit 3, n.testBit 4, n.testBit 5, n.testBit 6, n.testBit 7] := by decide +kernel
  exact key c.toNat c.toNat_lt
def allBits : List UInt8 → List Bool
  | [] => []
  | c :: l => byteBits c ++ allBits l
theorem byteBits_length (c : UInt8) : (byteBits c).length = 8 := rfl
theorem allBits_length : ∀ l, (allBits l).length = 8 * l.length
  | [] => rfl
  | c :: l => by simp only [allBits, List.length_append, byteBits_length, allBits_length l, List.length_cons]; omega
theorem regs_feed : ∀ (l : List UInt8) (r : BitVec 32), regs r l = feed r (allBits l)
  | [], _ => rfl
  | c :: l, r => by
    have h : regs r (c :: l) = regs (eight (xorB r (byteB c))) l := rfl
    rw [h, regs_feed l, allBits, feed_append, feed_word (byteBits c) _ (by rw [byteBits_length]; omega), eight_steps, byteB_word]
    rfl

/-- A bit of bytes. -/
def bitAt (l : List UInt8) (i : Nat) : Bool := (l.getD (i / 8) 0).toNat.testBit (i % 8)
theorem byteBits_get (c : UInt8) : ∀ i, i < 8 → (byteBits c)[i]? = some (c.toNat.testBit i)
  | 0, _ => rfl | 1, _ => rfl | 2, _ => rfl | 3, _ => rfl | 4, _ => rfl | 5, _ => rfl | 6, _ => rfl | 7, _ => rfl
  | n + 8, h => by omega
theorem allBits_get : ∀ (l : List UInt8) (i : Nat), i < 8 * l.length → (allBits l)[i]? = some (bitAt l i)
  | [], i, h => by simp at h
  | c :: l, i, h => by
    simp only [List.length_cons] at h
    rw [allBits]
    by_cases hi : i < 8
    · rw [List.getElem?_append_left (by rw [byteBits_length]; exact hi), byteBits_get c i hi]
      unfold bitAt
      rw [Nat.div_eq_of_lt hi, Nat.mod_eq_of_lt hi]; rfl
    · rw [List.getElem?_append_right (by rw [byteBits_length]; omega), byteBits_length, allBits_get l (i - 8) (by omega)]
      unfold bitAt
      have e1 : i / 8 = (i - 8) / 8 + 1 := by omega
      have e2 : i % 8 = (i - 8) % 8 := by omega
      rw [e1, e2]; rfl
theorem byteBits_inj {c d : UInt8} (h : ∀ i, i < 8 → c.toNat.testBit i = d.toNat.testBit i) : c = d := by
  apply UInt8.toNat_inj.1
  apply Nat.eq_of_testBit_eq
  intro i
  by_cases hi : i < 8
  · exact h i hi
  · have hc : c.toNat < 2 ^ i := Nat.lt_of_lt_of_le c.toNat_lt (Nat.pow_le_pow_right (by omega) (show 8 ≤ i by omega))
    have hd : d.toNat < 2 ^ i := Nat.lt_of_lt_of_le d.toNat_lt (Nat.pow_le_pow_right (by omega) (show 8 ≤ i by omega))
    rw [Nat.testBit_lt_two_pow hc, Nat.testBit_lt_two_pow hd]
theorem bytes_of_bits {l l' : List UInt8} (hl : l.length = l'.length) (h : ∀ i, i < 8 * l.length → bitAt l i = bitAt l' i) : l = l' := by
  apply List.ext_getElem hl
  intro j h1 h2
  apply byteBits_inj
  intro i hi
  have := h (8 * j + i) (by omega)
  unfold bitAt at this
  have e1 : (8 * j + i) / 8 = j := by omega
  have e2 : (8 * j + i) % 8 = i := by omega
  rw [e1, e2, List.getD_eq_getElem?_getD, List.getD_eq_getElem?_getD, List.getElem?_eq_getElem h1, List.getElem?_eq_getElem h2] at this
  exact this
/-- Two texts of one length that part at bits from p to p + 31 alone. -/
def Near (p : Nat) (l l' : List UInt8) : Prop := l.length = l'.length ∧ ∀ i, bitAt l i ≠ bitAt l' i → p ≤ i ∧ i < p + 32
theorem regs_burst {p : Nat} {l l' : List UInt8} (hn : Near p l l') (r : BitVec 32) (h : regs r l = regs r l') : l = l' := by
  obtain ⟨hl, hd⟩ := hn
  rw [regs_feed, regs_feed] at h
  have hlen : (allBits l).length = (allBits l').length := by rw [allBits_length, allBits_length, hl]
  have hx := feed_xor (allBits l) (allBits l') r r hlen
  rw [h, BitVec.xor_self, BitVec.xor_self] at hx
  generalize hz : List.zipWith (· ^^ ·) (allBits l) (allBits l') = z at hx
  have hzl : z.length = 8 * l.length := by rw [← hz, List.length_zipWith, hlen, Nat.min_self, ← hlen, allBits_length]
  have hzg : ∀ i (hi : i < z.length), z[i] = (bitAt l i ^^ bitAt l' i) := by
    intro i hi
    subst hz
    have g1 := allBits_get l i (by omega)
    have g2 := allBits_get l' i (by omega)
    rw [List.getElem_zipWith]
    have h1 : i < (allBits l).length := by rw [allBits_length]; omega
    have h2 : i < (allBits l').length := by rw [allBits_length]; omega
    rw [List.getElem?_eq_getElem h1] at g1
    rw [List.getElem?_eq_getElem h2] at g2
    rw [Option.some.inj g1, Option.some.inj g2]
  have hfar : ∀ i (hi : i < z.length), ¬ (p ≤ i ∧ i < p + 32) → z[i] = false := by
    intro i hi hw
    rw [hzg i hi]
    have : bitAt l i = bitAt l' i := by
      cases e1 : bitAt l i <;> cases e2 : bitAt l' i <;> first | rfl | exact absurd (hd i (by rw [e1, e2]; simp)) hw
    rw [this]; simp
  have hsplit : z = List.replicate (z.take p).length false ++ (z.drop p).take 32 ++ List.replicate (z.drop (p + 32)).length false := by
    have e1 : z.take p = List.replicate (z.take p).length false := by
      refine List.eq_replicate_iff.2 ⟨rfl, fun b hb => ?_⟩
      obtain ⟨i, hi, rfl⟩ := List.mem_iff_getElem.1 hb
      simp only [List.length_take] at hi
      rw [List.getElem_take]
      exact hfar i (by omega) (by omega)
    have e2 : z.drop (p + 32) = List.replicate (z.drop (p + 32)).length false := by
      refine List.eq_replicate_iff.2 ⟨rfl, fun b hb => ?_⟩
      obtain ⟨i, hi, rfl⟩ := List.mem_iff_getElem.1 hb
      simp only [List.length_drop] at hi
      rw [List.getElem_drop]
      exact hfar _ (by omega) (by omega)
    have e0 : z = z.take p ++ (z.drop p).take 32 ++ z.drop (p + 32) := by
      rw [List.append_assoc, ← List.drop_drop, List.take_append_drop, List.take_append_drop]
    rw [← e1, ← e2]
    exact e0
  have hx2 := hx.symm
  rw [hsplit] at hx2
  have hall := feed_burst _ _ _ (by rw [List.length_take]; omega) hx2
  refine bytes_of_bits hl fun i hi => ?_
  have hzi : z[i]'(by omega) = false := by
    by_cases hw : p ≤ i ∧ i < p + 32
    · refine hall _ ?_
      refine List.mem_iff_getElem.2 ⟨i - p, ?_, ?_⟩
      · rw [List.length_take, List.length_drop]; omega
      · rw [List.getElem_take, List.getElem_drop]
        congr 1; omega
    · exact hfar i (by omega) hw
  rw [hzg i (by omega)] at hzi
  have hb : ∀ a b : Bool, (a ^^ b) = false → a = b := by decide
  exact hb _ _ hzi
theorem crc_burst {p : Nat} {l l' : List UInt8} (hn : Near p l l') (h : (crc l).toNat = (crc l').toNat) : l = l' := by
  refine regs_burst hn (notB 0) ?_
  have h1 : crc l = crc l' := BitVec.eq_of_toNat_eq h
  unfold crc more at h1
  have h2 := congrArg notB h1
  rwa [notB_notB, notB_notB] at h2
end Go.Proofs.YtcefockebphbaaaDoor

namespace Go.Proofs.YtcefockebphbaaaDoor
open Go Go.RowKit Sluice

/-- Is a file opened under this title? -/
def openR (bs : List UInt8) (B wd tag : Nat) : Bool :=
  match chunkR bs B 0 0 0 with
  | none => false
  | some (_, _, body) => decide (ofLe (body.take 2) = 3) && decide (ofLe ((body.drop 2).take 2) = wd) && decide (ofLe ((body.drop 4).take 8) = tag)
/-- The records that a Reader tells of a file, and whether it is done (none: it is not opened). -/
def readR (bs : List UInt8) (B wd tag : Nat) : List (List UInt8) × Bool := if openR bs B wd tag then tells bs B wd 36 1 0 0 else ([], false)

theorem start_length (w tag : Nat) : (chunkB 1 0 0 (titleB w tag)).length = 36 := by rw [chunkB_length, titleB_length]
theorem title_chunk {w tag B : Nat} (hB : 12 ≤ B) (post : List UInt8) : chunkR (chunkB 1 0 0 (titleB w tag) ++ post) B 0 0 0 = some (1, 0, titleB w tag) := by
  have := chunk_laid (pre := []) (post := post) (kind := 1) (seq := 0) (count := 0) (body := titleB w tag) (B := B) (wd := 0) (by omega) (by omega) (by rw [titleB_length]; omega) (by simp [mayP, titleB_length]) (by rw [titleB_length]; exact hB)
  simpa using this
theorem title_opens {w tag B : Nat} (hB : 12 ≤ B) (hw : w < 65536) (ht : tag < 256 ^ 8) (post : List UInt8) : openR (chunkB 1 0 0 (titleB w tag) ++ post) B w tag = true := by
  unfold openR
  rw [title_chunk hB]
  have e1 : (titleB w tag).take 2 = le 2 3 := by unfold titleB; rw [List.append_assoc]; exact List.take_left' (le_length _ _)
  have e2 : ((titleB w tag).drop 2).take 2 = le 2 w := take_drop_mid (le 2 3) (le 2 w) (le 8 tag) (le_length _ _) (le_length _ _)
  have e3 : ((titleB w tag).drop 4).take 8 = le 8 tag := by
    unfold titleB
    rw [List.drop_left' (by simp [le_length])]; exact List.take_of_length_le (by rw [le_length]; omega)
  dsimp only
  rw [e1, e2, e3, ofLe_le 2 3 (by decide), ofLe_le 2 w (by simpa using hw), ofLe_le 8 tag ht]
  simp

/-- A chunk that is cut is none. -/
theorem chunk_torn {pre : List UInt8} {kind : UInt8} {seq count : Nat} {body : List UInt8} {B wd k sq : Nat} (h1 : seq < 4294967296) (h2 : count < 4294967296) (h3 : body.length < 4294967296) (hk : k < 24 + body.length) :
    chunkR (pre ++ (chunkB kind seq count body).take k) B wd pre.length sq = none := by
  cases hc : chunkR (pre ++ (chunkB kind seq count body).take k) B wd pre.length sq with
  | none => rfl
  | some x =>
    exfalso
    obtain ⟨a, b, c⟩ := x
    have hs := chunkR_some hc
    have hl : (pre ++ (chunkB kind seq count body).take k).length = pre.length + k := by
      rw [List.length_append, List.length_take, chunkB_length]; omega
    have h24 : 24 ≤ k := by have := hs.2.2.2.1; omega
    have e1 : ((pre ++ (chunkB kind seq count body).take k).drop pre.length).take 24 = headB kind seq count body.length (crc body).toNat := by
      rw [List.drop_left, List.take_take, Nat.min_eq_left h24]
      unfold chunkB
      exact List.take_left' (headB_length _ _ _ _ _)
    rw [e1, (headR_laid kind h1 h2 h3 (crc_lt body)).1, hl] at hs
    have := hs.2.2.2.1
    dsimp only at this
    omega
theorem tells_none {bs : List UInt8} {B wd at_ n recs : Nat} {sum : BitVec 32} (h : chunkR bs B wd at_ n = none) : tells bs B wd at_ n recs sum = ([], false) := by rw [tells_eq, h]

/-- What was laid behind the title. -/
def restB (n : Nat) (gs : List (List (List UInt8))) (tot : List (List UInt8)) : List UInt8 := dataB n gs ++ chunkB 3 (n + gs.length) 0 (endB tot)
theorem restB_cons (n : Nat) (g : List (List UInt8)) (gs : List (List (List UInt8))) (tot : List (List UInt8)) : restB n (g :: gs) tot = chunkB 2 n g.length g.flatten ++ restB (n + 1) gs tot := by
  have : n + (gs.length + 1) = n + 1 + gs.length := by omega
  simp only [restB, dataB, List.append_assoc, List.length_cons, this]
theorem fileB_rest (w tag : Nat) (gs : List (List (List UInt8))) : fileB w tag gs = chunkB 1 0 0 (titleB w tag) ++ restB 1 gs gs.flatten := by
  unfold fileB startB restB
  rw [List.append_assoc, Nat.add_comm 1]

theorem tells_cut {wd M B : Nat} (hMB : M * wd ≤ B) (hM2 : M * wd ≤ 1048576) (hM : M ≤ 1048576) (tot : List (List UInt8)) (gs : List (List (List UInt8))) : ∀ (pre : List UInt8) (n recs k : Nat) (sum : BitVec 32), n ≠ 0 → n + gs.length < 4294967296 → GoodGroups wd M gs →
    k < (restB n gs tot).length → ∃ rs, tells (pre ++ (restB n gs tot).take k) B wd pre.length n recs sum = (rs, false) ∧ rs <+: gs.flatten := by
  induction gs with
  | nil =>
    intro pre n recs k sum hn0 hn hg hk
    refine ⟨[], tells_none ?_, List.prefix_refl _⟩
    have e : restB n [] tot = chunkB 3 n 0 (endB tot) := by simp [restB, dataB]
    rw [e] at hk ⊢
    rw [chunkB_length] at hk
    exact chunk_torn (by simpa using hn) (by omega) (by rw [endB_length]; omega) hk
  | cons g gs ih =>
    intro pre n recs k sum hn0 hn hg hk
    obtain ⟨h1, h2, h3⟩ := hg g (List.mem_cons_self ..)
    have hn' : n + 1 + gs.length < 4294967296 := by rw [List.length_cons] at hn; omega
    have hfl := flatten_length h3
    have hle : g.length * wd ≤ M * wd := Nat.mul_le_mul_right _ h2
    rw [restB_cons] at hk ⊢
    have hcl : (chunkB 2 n g.length g.flatten).length = 24 + g.flatten.length := chunkB_length _ _ _ _
    by_cases hb : k < 24 + g.flatten.length
    · refine ⟨[], tells_none ?_, List.nil_prefix⟩
      rw [List.take_append_of_le_length (by omega)]
      exact chunk_torn (by omega) (by omega) (by omega) hb
    · have e0 : (chunkB 2 n g.length g.flatten ++ restB (n + 1) gs tot).take k = chunkB 2 n g.length g.flatten ++ (restB (n + 1) gs tot).take (k - (24 + g.flatten.length)) := by
        rw [List.take_append, List.take_of_length_le (by omega), hcl]
      rw [e0, ← List.append_assoc]
      have hc := chunk_data (pre := pre) (post := (restB (n + 1) gs tot).take (k - (24 + g.flatten.length))) (B := B) hn0 (by omega) h1 h2 h3 hMB hM2 hM
      rw [List.length_append, hcl] at hk
      obtain ⟨rs, hr, hp⟩ := ih (pre ++ chunkB 2 n g.length g.flatten) (n + 1) (recs + g.length) (k - (24 + g.flatten.length)) (more sum g.flatten) (by omega) hn' (fun x hx => hg x (List.mem_cons_of_mem _ hx)) (by omega)
      have hl : (pre ++ chunkB 2 n g.length g.flatten).length = pre.length + 24 + g.flatten.length := by rw [List.length_append, hcl]; omega
      rw [hl] at hr
      refine ⟨g ++ rs, ?_, ?_⟩
      · rw [tells_step hc h3, hr]
      · rw [List.flatten_cons]; exact (List.prefix_append_right_inj g).2 hp

/-- A file that was cut: a beginning of the records, not done. -/
theorem read_cut {wd M B tag : Nat} (hMB : M * wd ≤ B) (hB : 12 ≤ B) (hM2 : M * wd ≤ 1048576) (hM : M ≤ 1048576) {gs : List (List (List UInt8))} (hn : 1 + gs.length < 4294967296) (hg : GoodGroups wd M gs) {k : Nat} (hk : k < (fileB wd tag gs).length) :
    (readR ((fileB wd tag gs).take k) B wd tag).2 = false ∧ (readR ((fileB wd tag gs).take k) B wd tag).1 <+: gs.flatten := by
  unfold readR
  by_cases ho : openR ((fileB wd tag gs).take k) B wd tag = true
  · rw [if_pos ho]
    have h36 : 36 ≤ k := by
      rcases Nat.lt_or_ge k 36 with h | h
      · exfalso
        rw [fileB_rest, List.take_append_of_le_length (by rw [start_length]; omega)] at ho
        have := chunk_torn (pre := []) (kind := 1) (seq := 0) (count := 0) (body := titleB wd tag) (B := B) (wd := 0) (k := k) (sq := 0) (by omega) (by omega) (by rw [titleB_length]; omega) (by rw [titleB_length]; exact h)
        unfold openR at ho
        rw [List.nil_append, List.length_nil] at this
        rw [this] at ho
        cases ho
      · exact h
    rw [fileB_rest, List.length_append, start_length] at hk
    rw [fileB_rest, List.take_append, List.take_of_length_le (by rw [start_length]; omega), start_length]
    obtain ⟨rs, hr, hp⟩ := tells_cut hMB hM2 hM gs.flatten gs (chunkB 1 0 0 (titleB wd tag)) 1 0 (k - 36) 0 (by omega) hn hg (by omega)
    rw [start_length] at hr
    rw [hr]
    exact ⟨rfl, hp⟩
  · rw [if_neg ho]
    exact ⟨rfl, List.nil_prefix⟩
/-- A file with bytes behind it, or none: all records; done if there are none. -/
theorem read_behind {wd M B tag : Nat} (hMB : M * wd ≤ B) (hB : 12 ≤ B) (hM2 : M * wd ≤ 1048576) (hM : M ≤ 1048576) (hw : wd < 65536) (ht : tag < 256 ^ 8) {gs : List (List (List UInt8))} (hn : 1 + gs.length < 4294967296) (hc : gs.flatten.length < 256 ^ 8) (hg : GoodGroups wd M gs) (post : List UInt8) :
    openR (fileB wd tag gs ++ post) B wd tag = true ∧ tells (fileB wd tag gs ++ post) B wd 36 1 0 0 = (gs.flatten, decide (post = [])) := by
  have e0 : fileB wd tag gs ++ post = chunkB 1 0 0 (titleB wd tag) ++ (restB 1 gs gs.flatten ++ post) := by rw [fileB_rest, List.append_assoc]
  refine ⟨by rw [e0]; exact title_opens hB hw ht _, ?_⟩
  have := tells_laid hMB hB hM2 hM gs (chunkB 1 0 0 (titleB wd tag)) post 1 0 0 gs.flatten (by omega) hn hg (by omega) hc rfl
  rw [start_length] at this
  rw [e0, ← this]
  unfold restB
  simp only [List.append_assoc]

/-! ### Turned bits -/
theorem bitAt_left {a b : List UInt8} {i : Nat} (h : i < 8 * a.length) : bitAt (a ++ b) i = bitAt a i := by
  unfold bitAt
  have : i / 8 < a.length := by omega
  rw [List.getD_eq_getElem?_getD, List.getD_eq_getElem?_getD, List.getElem?_append_left this]
theorem bitAt_right {a b : List UInt8} {i : Nat} (h : 8 * a.length ≤ i) : bitAt (a ++ b) i = bitAt b (i - 8 * a.length) := by
  unfold bitAt
  have : a.length ≤ i / 8 := by omega
  have e1 : (i - 8 * a.length) / 8 = i / 8 - a.length := by omega
  have e2 : (i - 8 * a.length) % 8 = i % 8 := by omega
  rw [List.getD_eq_getElem?_getD, List.getD_eq_getElem?_getD, List.getElem?_append_right this, e1, e2]
theorem bitAt_out {a : List UInt8} {i : Nat} (h : 8 * a.length ≤ i) : bitAt a i = false := by
  unfold bitAt
  rw [List.getD_eq_getElem?_getD, List.getElem?_eq_none (by omega)]
  simp
theorem Near.left {p : Nat} {a a' b b' : List UInt8} (h : Near p (a ++ b) (a' ++ b')) (hl : a.length = a'.length) : Near p a a' := by
  refine ⟨hl, fun i hi => ?_⟩
  rcases Nat.lt_or_ge i (8 * a.length) with h1 | h1
  · exact h.2 i (by rw [bitAt_left h1, bitAt_left (by omega)]; exact hi)
  · rw [bitAt_out h1, bitAt_out (by omega)] at hi; exact absurd rfl hi
theorem Near.right {p : Nat} {a a' b b' : List UInt8} (h : Near p (a ++ b) (a' ++ b')) (hl : a.length = a'.length) : Near (p - 8 * a.length) b b' := by
  have hlen : b.length = b'.length := by have := h.1; simp only [List.length_append] at this; omega
  refine ⟨hlen, fun i hi => ?_⟩
  have := h.2 (i + 8 * a.length) (by
    rw [bitAt_right (by omega), bitAt_right (by omega), ← hl, Nat.add_sub_cancel]; exact hi)
  omega

theorem le_ofLe : ∀ l : List UInt8, le l.length (ofLe l) = l
  | [] => rfl
  | c :: l => by
    have hc := c.toNat_lt
    have e1 : (c.toNat + 256 * ofLe l) % 256 = c.toNat := by omega
    have e2 : (c.toNat + 256 * ofLe l) / 256 = ofLe l := by omega
    simp only [List.length_cons, le, ofLe]
    rw [e1, e2, le_ofLe l]
    simp
theorem ofLe_testBit : ∀ (l : List UInt8) (i : Nat), (ofLe l).testBit i = bitAt l i
  | [], i => by simp [ofLe, bitAt]
  | c :: l, i => by
    have hc := c.toNat_lt
    have e : ofLe (c :: l) = 2 ^ 8 * ofLe l + c.toNat := by simp [ofLe]; omega
    rw [e, Nat.testBit_two_pow_mul_add _ (by simpa using hc)]
    split
    · rename_i h
      have := bitAt_left (a := [c]) (b := l) (i := i) (by simpa using h)
      rw [List.singleton_append] at this
      rw [this]
      unfold bitAt
      rw [Nat.div_eq_of_lt h, Nat.mod_eq_of_lt h]; rfl
    · rename_i h
      have := bitAt_right (a := [c]) (b := l) (i := i) (by simp; omega)
      rw [List.singleton_append] at this
      rw [this, ofLe_testBit l]; simp
theorem word_le (v : BitVec 32) : wordOf (allBits (le 4 v.toNat)) = v := by
  have hlen : (allBits (le 4 v.toNat)).length = 32 := by rw [allBits_length, le_length]
  have hof : ofLe (le 4 v.toNat) = v.toNat := ofLe_le4 (by have := v.isLt; simpa using this)
  apply BitVec.eq_of_getLsbD_eq
  intro i hi
  rw [wordOf_get _ i hi, List.getD_eq_getElem?_getD, allBits_get _ i (by rw [le_length]; omega), ← ofLe_testBit, hof]
  rfl
/-- Whatever a good head says, the register behind it is one and the same. -/
theorem head_residue {h : List UInt8} (hl : h.length = 24) (hg : headGood h = true) : regs (notB 0) h = steps 32 (BitVec.allOnes 32) := by
  unfold headGood at hg
  simp only [Bool.and_eq_true, decide_eq_true_eq] at hg
  have h4 : ((h.drop 20).take 4) = h.drop 20 := List.take_of_length_le (by rw [List.length_drop]; omega)
  have hlast := hg.2
  rw [h4] at hlast
  have e1 : h.drop 20 = le 4 (crc (h.take 20)).toNat := by
    have := le_ofLe (h.drop 20)
    rw [hlast, List.length_drop, hl] at this
    exact this.symm
  have e2 : h = h.take 20 ++ le 4 (crc (h.take 20)).toNat := by rw [← e1, List.take_append_drop]
  rw [e2]
  generalize h.take 20 = a
  have e3 : regs (notB 0) (a ++ le 4 (crc a).toNat) = regs (regs (notB 0) a) (le 4 (crc a).toNat) := by unfold regs; rw [List.foldl_append]
  have e4 : crc a = notB (regs (notB 0) a) := rfl
  rw [e3, e4]
  generalize regs (notB 0) a = r
  rw [regs_feed, feed_word _ _ (by rw [allBits_length, le_length]; omega), word_le, allBits_length, le_length]
  congr 1
  unfold notB
  apply BitVec.eq_of_getLsbD_eq
  intro i hi
  rw [BitVec.getLsbD_xor, BitVec.getLsbD_not, BitVec.getLsbD_allOnes]
  cases r.getLsbD i <;> simp [hi]

theorem chunk_turned {pre seg post : List UInt8} {kind : UInt8} {seq count : Nat} {body : List UInt8} {B wd p sq : Nat} (h1 : seq < 4294967296) (h2 : count < 4294967296) (h3 : body.length < 4294967296)
    (hn : Near p (chunkB kind seq count body) seg) (hne : seg ≠ chunkB kind seq count body) : chunkR (pre ++ seg ++ post) B wd pre.length sq = none := by
  cases hc : chunkR (pre ++ seg ++ post) B wd pre.length sq with
  | none => rfl
  | some x =>
    exfalso
    apply hne
    obtain ⟨a, b, c⟩ := x
    have hs := chunkR_some hc
    have hl : seg.length = 24 + body.length := by rw [← hn.1, chunkB_length]
    have hsplit : seg = seg.take 24 ++ seg.drop 24 := (List.take_append_drop 24 seg).symm
    have e1 : ((pre ++ seg ++ post).drop pre.length).take 24 = seg.take 24 := by
      rw [List.append_assoc, List.drop_left, List.take_append_of_le_length (by omega)]
    rw [e1] at hs
    have hn2 : Near p (headB kind seq count body.length (crc body).toNat ++ body) (seg.take 24 ++ seg.drop 24) := by rw [← hsplit]; exact hn
    have ht24 : (seg.take 24).length = 24 := by rw [List.length_take]; omega
    have hhead : headB kind seq count body.length (crc body).toNat = seg.take 24 := by
      refine regs_burst (hn2.left (by rw [headB_length, ht24])) (notB 0) ?_
      rw [head_residue (headB_length _ _ _ _ _) (headR_laid kind h1 h2 h3 (crc_lt body)).2, head_residue ht24 hs.1]
    rw [← hhead, (headR_laid kind h1 h2 h3 (crc_lt body)).1] at hs
    dsimp only at hs
    have e2 : ((pre ++ seg ++ post).drop (pre.length + 24)).take body.length = seg.drop 24 := by
      have := take_drop_mid (pre ++ seg.take 24) (seg.drop 24) post (n := pre.length + 24) (m := body.length) (by rw [List.length_append, ht24]) (by rw [List.length_drop]; omega)
      have e3 : pre ++ seg ++ post = pre ++ seg.take 24 ++ seg.drop 24 ++ post := by rw [List.append_assoc pre (seg.take 24), List.take_append_drop]
      rw [e3]; exact this
    have hbody : body = seg.drop 24 := by
      refine crc_burst (hn2.right (by rw [headB_length, ht24])) ?_
      rw [← e2, ← hs.2.2.2.2.2.2.2.1]
      exact hs.2.2.2.2.1.symm
    rw [hsplit, ← hhead, ← hbody]
    rfl

theorem tells_turned {wd M B : Nat} (hMB : M * wd ≤ B) (hM2 : M * wd ≤ 1048576) (hM : M ≤ 1048576) (tot : List (List UInt8)) (gs : List (List (List UInt8))) : ∀ (pre T : List UInt8) (n recs p : Nat) (sum : BitVec 32), n ≠ 0 → n + gs.length < 4294967296 → GoodGroups wd M gs →
    Near p (restB n gs tot) T → T ≠ restB n gs tot → ∃ rs, tells (pre ++ T) B wd pre.length n recs sum = (rs, false) ∧ rs <+: gs.flatten := by
  induction gs with
  | nil =>
    intro pre T n recs p sum hn0 hn hg hN hT
    refine ⟨[], tells_none ?_, List.prefix_refl _⟩
    have e : restB n [] tot = chunkB 3 n 0 (endB tot) := by simp [restB, dataB]
    rw [e] at hN hT
    have := chunk_turned (pre := pre) (post := []) (B := B) (wd := wd) (sq := n) (by simpa using hn) (by omega) (by rw [endB_length]; omega) hN hT
    simpa using this
  | cons g gs ih =>
    intro pre T n recs p sum hn0 hn hg hN hT
    obtain ⟨h1, h2, h3⟩ := hg g (List.mem_cons_self ..)
    have hn' : n + 1 + gs.length < 4294967296 := by rw [List.length_cons] at hn; omega
    have hfl := flatten_length h3
    have hle : g.length * wd ≤ M * wd := Nat.mul_le_mul_right _ h2
    rw [restB_cons] at hN hT
    have hcl : (chunkB 2 n g.length g.flatten).length = 24 + g.flatten.length := chunkB_length _ _ _ _
    have hTl : T.length = 24 + g.flatten.length + (restB (n + 1) gs tot).length := by rw [← hN.1, List.length_append, hcl]
    have hsplit : T = T.take (24 + g.flatten.length) ++ T.drop (24 + g.flatten.length) := (List.take_append_drop _ _).symm
    have htl : (T.take (24 + g.flatten.length)).length = 24 + g.flatten.length := by rw [List.length_take]; omega
    generalize T.take (24 + g.flatten.length) = C at hsplit htl
    generalize T.drop (24 + g.flatten.length) = R at hsplit
    subst hsplit
    rw [← List.append_assoc]
    by_cases hC : C = chunkB 2 n g.length g.flatten
    · subst hC
      have hc := chunk_data (pre := pre) (post := R) (B := B) hn0 (by omega) h1 h2 h3 hMB hM2 hM
      obtain ⟨rs, hr, hp⟩ := ih (pre ++ chunkB 2 n g.length g.flatten) R (n + 1) (recs + g.length) _ (more sum g.flatten) (by omega) hn' (fun x hx => hg x (List.mem_cons_of_mem _ hx)) (hN.right rfl) (fun e => hT (by rw [e]))
      have hl : (pre ++ chunkB 2 n g.length g.flatten).length = pre.length + 24 + g.flatten.length := by rw [List.length_append, hcl]; omega
      rw [hl] at hr
      refine ⟨g ++ rs, ?_, ?_⟩
      · rw [tells_step hc h3, hr]
      · rw [List.flatten_cons]; exact (List.prefix_append_right_inj g).2 hp
    · refine ⟨[], tells_none ?_, List.nil_prefix⟩
      exact chunk_turned (by omega) (by omega) (by omega) (hN.left (by rw [hcl, htl])) hC

/-- A file with turned bits: a beginning of the records, not done. -/
theorem read_turned {wd M B tag : Nat} (hMB : M * wd ≤ B) (hM2 : M * wd ≤ 1048576) (hM : M ≤ 1048576) {gs : List (List (List UInt8))} (hn : 1 + gs.length < 4294967296) (hg : GoodGroups wd M gs) {p : Nat} {T : List UInt8} (hN : Near p (fileB wd tag gs) T) (hT : T ≠ fileB wd tag gs) :
    (readR T B wd tag).2 = false ∧ (readR T B wd tag).1 <+: gs.flatten := by
  unfold readR
  by_cases ho : openR T B wd tag = true
  · rw [if_pos ho]
    rw [fileB_rest] at hN hT
    have hTl : T.length = 36 + (restB 1 gs gs.flatten).length := by rw [← hN.1, List.length_append, start_length]
    have hsplit : T = T.take 36 ++ T.drop 36 := (List.take_append_drop _ _).symm
    have htl : (T.take 36).length = 36 := by rw [List.length_take]; omega
    generalize T.take 36 = C at hsplit htl
    generalize T.drop 36 = R at hsplit
    subst hsplit
    by_cases hC : C = chunkB 1 0 0 (titleB wd tag)
    · subst hC
      obtain ⟨rs, hr, hp⟩ := tells_turned hMB hM2 hM gs.flatten gs (chunkB 1 0 0 (titleB wd tag)) R 1 0 _ 0 (by omega) hn hg (hN.right rfl) (fun e => hT (by rw [e]))
      rw [start_length] at hr
      rw [hr]
      exact ⟨rfl, hp⟩
    · exfalso
      have := chunk_turned (pre := []) (post := R) (B := B) (wd := 0) (sq := 0) (by omega) (by omega) (by rw [titleB_length]; omega) (hN.left (by rw [start_length, htl])) hC
      rw [List.nil_append, List.length_nil] at this
      unfold openR at ho
      rw [this] at ho
      cases ho
  · rw [if_neg ho]
    exact ⟨rfl, List.nil_prefix⟩
end Go.Proofs.YtcefockebphbaaaDoor

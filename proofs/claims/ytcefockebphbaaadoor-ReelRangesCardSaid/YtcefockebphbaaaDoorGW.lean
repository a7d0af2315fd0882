/- Writers: a chunk. -/
import Derived.Test.YtcefockebphbaaaDoorGV
import Derived.Test.YtcefockebphbaaaDoorOd
import Derived.Deep.DeepMust
import Derived.StillTailTactics
set_option linter.unusedVariables false
set_option linter.unusedSimpArgs false
set_option linter.unnecessarySimpa false
namespace Go.Proofs.YtcefockebphbaaaDoor
open Go Go.RowKit Sluice

theorem Blk.ne {w : World} {a b : Nat} {cs cs' : Array Value} {t t' : TypeId} (h : Blk w a cs t) (h' : Blk w b cs' t') (ht : t ≠ t') : a ≠ b := fun e => ht (by subst e; exact (h.inj h').2)
/-- A disk as a volume. -/
def volV (b : Nat) : Value := .iface 29 (.pointer (some ⟨b, 0, none⟩))
/-- The cells of a Writer. -/
def wrCells (b p q g a wd most held seq count : Nat) (sum : BitVec 32) (code : Int) : Array Value :=
  #[.iface 29 (.pointer (some ⟨b, 0, none⟩)), .string nameF, .int .i64 (wd : Int), .func (.func 67) #[] #[.pointer (some ⟨p, 0, none⟩)], .func (.func 68) #[] #[.pointer (some ⟨q, 0, none⟩)],
    .slice (some ⟨g, 0, none⟩) a a, .int .i64 (most : Int), .int .i64 (held : Int), .int .u64 (seq : Int), .int .i64 (count : Int), .int .u32 (sum.toNat : Int), .int .i64 code]

set_option maxHeartbeats 4000000 in
set_option maxRecDepth 100000 in
theorem wchunk_any (b n p q g a wd most held seq count wb : Nat) (sum : BitVec 32) (code : Int) (S : Nat → Prop) (file buf body : List UInt8) (kind : UInt8) (k : Int) (hk : k = (kind.toNat : Int)) (cnt : Nat) (hcnt : cnt < 4294967296) (hseq : seq < 4294967295)
    (ha : 24 + body.length ≤ a) (hal : buf.length = a) (ha36 : 36 ≤ a) (ha2 : a ≤ 1048576) (hbody : (buf.drop 24).take body.length = body) (hfile : file.length + 24 + body.length ≤ 1073741824)
    (w : World) (hS : Steps w) (hSs : S 1) (hSg : S g) (hSw : S wb) (hgs : g ≠ 1) (hws : wb ≠ 1)
    (hW : Blk w wb (wrCells b p q g a wd most held seq count sum code) 116) (hg : Blk w g (bytesA buf) 5) (hD : DiskAt w b n (some file) S) :
    Calls Tryd.prog 51 #[.pointer (some ⟨wb, 0, none⟩), .int .u8 k, .int .i64 (cnt : Int), .int .i64 (body.length : Int)] w
      fun r w' => r = .returned (.int .i64 0) ∧ Fr (fun k => ¬ S k ∨ k = g ∨ k = wb) w w' ∧ Blk w' wb (wrCells b p q g a wd most held (seq + 1) count sum code) 116 ∧
        Blk w' g (bytesA (splB buf 0 (headB kind seq cnt body.length (crc body).toNat))) 5 ∧ DiskAt w' b n (some (file ++ chunkB kind seq cnt body)) S := by
  subst hk
  have hne := Blk.ne hW hg (by decide)
  have hc := hW.cell
  have hf := hW.free
  have hlt := hW.lt
  have hltg := hg.lt
  have hz1 : IntKind.u32.wrap (seq : Int) = (seq : Int) := IntWalk.u32_in _ (by omega)
  have hz2 : IntKind.u32.wrap (cnt : Int) = (cnt : Int) := IntWalk.u32_in _ (by omega)
  have hz3 : IntKind.u32.wrap (body.length : Int) = (body.length : Int) := IntWalk.u32_in _ (by omega)
  have hd1 : decide ((4294967294 : Int) < (seq : Int)) = false := by simp; omega
  have hd2 : (24 : Int) + (body.length : Int) ≤ (a : Int) := by omega
  have hd3 : (0 : Int) ≤ (body.length : Int) := by omega
  have hd4 : (24 : Int) ≤ (a : Int) := by omega
  have hd5 : 24 ≤ 24 + body.length := by omega
  have hd6 : ¬ a = 24 := by omega
  have hd7 : 24 ≤ buf.length := by omega
  have hd8 : (0 : Int) ≤ 24 + (body.length : Int) := by omega
  have hcrc : ((bytesA buf).toList.drop 24).take body.length = body.map bv := by
    have h1 : (bytesA buf).toList = buf.map bv := by simp [bytesA]
    rw [h1, ← List.map_drop, ← List.map_take, hbody]
  have HC := Lib.hid hcrc
  have HBd := Lib.hid hbody
  unfold wrCells at hc hW
  have HS := Lib.hid hS
  have HD := Lib.hid hD
  have HW := Lib.hid hW
  have HG := Lib.hid hg
  clear hS hD hal hbody hcrc hW hg
  go_enter Tryd.func51, Tryd.ntmps51
  go_wp2_with fail
  rw [Nat.add_sub_cancel_left]
  go_region_held3 (fun w' => ∀ i, w'.cell? ⟨wb, i, none⟩ = (#[.iface 29 (.pointer (some ⟨b, 0, none⟩)), .string nameF, .int .i64 (wd : Int), .func (.func 67) #[] #[.pointer (some ⟨p, 0, none⟩)], .func (.func 68) #[] #[.pointer (some ⟨q, 0, none⟩)],
    .slice (some ⟨g, 0, none⟩) a a, .int .i64 (most : Int), .int .i64 (held : Int), .int .u64 (seq : Int), .int .i64 (count : Int), .int .u32 (sum.toNat : Int), .int .i64 code] : Array Value)[i]?)
    (((try dsimp only); first | with_reducible exact fun i => Blk.cell hW3 i | with_reducible exact fun i => Blk.cell hW2 i | with_reducible exact fun i => Blk.cell (Blk.drew (Blk.alloc HW.out _)) i | with_reducible exact fun i => Blk.cell (Blk.drew HW.out) i | fail))
    (first
      | ((go_at_call 69); (go_must (refine (crc_any g 24 (a - 24) body (bytesA buf) 5 HC.out (by omega) _ _ ?_ ?_ ?_).mono ?_)); (· go_must (exact HS.out.kept ((Fr.refl (fun _ => False) w).alloc _).drew (fun h => h))); (· go_must (exact (HG.out.alloc _).drew)); (· go_must (exact Blk.drew (Blk.new' rfl))); (rintro q2 w2 ⟨rfl, hk2⟩); (have hW2 := hk2.blk (HW.out.alloc _).drew (fun h => h)); (have hG2 := hk2.blk (HG.out.alloc _).drew (fun h => h)))
      | ((go_at_call 70); (go_must (refine (hbytes_any kind seq cnt body.length (crc body).toNat (by omega) hcnt (by omega) (crc_lt body) g 0 a (by omega) (by omega) buf 5 (by simpa using hd7) _ ?_ hgs hG2).mono ?_)); (· exact HS.out.kept (Fr.keeps ((Fr.refl (fun _ => False) w).alloc _).drew hk2) (fun h => h)); (rintro q3 w3 ⟨rfl, hF3, hB3⟩); (have hW3 := hF3.blk hW2 hne)))
  have hF03 : Fr (· = g) w w3 := Fr.then (((Fr.refl (· = g) w).alloc _).drew) (Fr.then (Fr.any hk2) hF3)
  have hD3 := HD.out.stays hF03 (fun k _ e => by rw [e]; exact hSg)
  have hW3c := hW3.cell
  have hlt3 := hW3.lt
  clear hk2 hF3 hc hf hW2 hG2
  have hl : (headB kind seq cnt body.length (crc body).toNat ++ body).length = 24 + body.length := by rw [List.length_append, headB_length]
  have hcs : ((bytesA (splB buf 0 (headB kind seq cnt body.length (crc body).toNat))).toList.drop 0).take (24 + body.length) = (headB kind seq cnt body.length (crc body).toNat ++ body).map bv := by
    have h1 : (bytesA (splB buf 0 (headB kind seq cnt body.length (crc body).toNat))).toList = (splB buf 0 (headB kind seq cnt body.length (crc body).toNat)).map bv := by simp [bytesA]
    have h2 : splB buf 0 (headB kind seq cnt body.length (crc body).toNat) = headB kind seq cnt body.length (crc body).toNat ++ buf.drop 24 := by unfold splB; rw [headB_length]; simp
    rw [h1, h2, List.drop_zero, ← List.map_take, List.take_append, headB_length, List.take_of_length_le (by rw [headB_length]; omega)]
    rw [show 24 + body.length - 24 = body.length by omega, HBd.out]
  have HCS := Lib.hid hcs
  have HL := Lib.hid hl
  clear hcs hl
  go_wp2_with fail
  have hs1 : IntKind.i64.wrap (24 + (body.length : Int)) = 24 + (body.length : Int) := IntWalk.i64_in _ (by omega)
  have hs2 : (24 + (body.length : Int)).toNat = 24 + body.length := by omega
  go_region_held3 (fun w' => ∀ i, w'.cell? ⟨wb, i, none⟩ = (#[.iface 29 (.pointer (some ⟨b, 0, none⟩)), .string nameF, .int .i64 (wd : Int), .func (.func 67) #[] #[.pointer (some ⟨p, 0, none⟩)], .func (.func 68) #[] #[.pointer (some ⟨q, 0, none⟩)],
    .slice (some ⟨g, 0, none⟩) a a, .int .i64 (most : Int), .int .i64 (held : Int), .int .u64 (seq : Int), .int .i64 (count : Int), .int .u32 (sum.toNat : Int), .int .i64 code] : Array Value)[i]?)
    (((try dsimp only); first | with_reducible exact fun i => Blk.cell hW4 i | with_reducible exact fun i => Blk.cell (Blk.drew hW3) i | fail))
    (((go_at_call 14); (go_must (refine (append_len hD3.drew g 0 (24 + body.length) a (headB kind seq cnt body.length (crc body).toNat ++ body) HL.out (by omega) (bytesA (splB buf 0 (headB kind seq cnt body.length (crc body).toNat))) 5 hSg HCS.out (hB3.drew)).mono ?_)); (rintro q4 w4 ⟨rfl, hD4, hF4⟩); (have hW4 := hF4.blk hW3.drew (fun h => h hSw))))
  have hB4 := hF4.blk hB3.drew (fun h => h hSg)
  have hWc4 := hW4.cell
  have hWf4 := hW4.free
  have hu1 : IntKind.u64.wrap ((seq : Int) + 1) = (seq : Int) + 1 := IntWalk.u64_in _ (by omega)
  have HF4 := Lib.hid hF4
  have HD4 := Lib.hid hD4
  have HW4 := Lib.hid hW4
  have HB4 := Lib.hid hB4
  have HF03 := Lib.hid hF03
  clear hF4 hD4 hW4 hB4 hF03 hB3 hD3 hW3c hW3 hs1 hs2
  go_wp2
  go_ret
  refine ⟨rfl, ?_, ?_, ?_, ?_⟩
  · refine Fr.setIn (Fr.then (S := fun k => ¬ S k ∨ k = g ∨ k = wb) (HF03.out.drew.mono fun k _ e => Or.inr (Or.inl e)) (HF4.out.mono fun k _ e => Or.inl e)) (Or.inr (Or.inr rfl)) _
  · have := HW4.out.set 8 (.int .u64 ((seq : Int) + 1))
    exact this
  · exact (Fr.setEq (Fr.refl (· = wb) _) _).blk HB4.out (fun e => hne e.symm)
  · exact HD4.out.stays (Fr.setEq (Fr.refl (· = wb) _) _) (fun k _ e => by rw [e]; exact hSw)
end Go.Proofs.YtcefockebphbaaaDoor

namespace Go.Proofs.YtcefockebphbaaaDoor
open Go Go.RowKit Sluice

theorem region_tail {P : Program} {id : Nat} {Q : Exit → Act → World → Prop} {a : Act} {w : World} {l : List Oper} (n : Nat) (hm : P.follows .mixedOrders = true) (hB : Region.lexTailB .any l.toArray n = true)
    (h : wpStill P l.toArray w.drew (fun a' => wpList P l.toArray Q (l.drop n) a' w.drew) (l.take n) a) : (Code.region id l.toArray true).wp P Q a w := wp_region_still_tail n hm hB h
theorem wopen_any (b p q g a wd most held seq count wb : Nat) (sum : BitVec 32) (w : World) (hW : Blk w wb (wrCells b p q g a wd most held seq count sum 3) 116) :
    Calls Tryd.prog 52 #[.pointer (some ⟨wb, 0, none⟩)] w fun r w' => r = .returned (.int .i64 0) ∧ w = w' := by
  have hc := hW.cell
  unfold wrCells at hc
  go_enter Tryd.func52, Tryd.ntmps52
  go_wp2
  go_ret
  exact ⟨rfl, rfl⟩

set_option maxHeartbeats 4000000 in
set_option maxRecDepth 100000 in
theorem wflush_full (b n p q g a wd most held seq count wb : Nat) (sum : BitVec 32) (S : Nat → Prop) (file buf body : List UInt8) (hh : 1 ≤ held) (hbl : body.length = held * wd) (hheld : held < 4294967296) (hseq : seq < 4294967295)
    (ha : 24 + body.length ≤ a) (hal : buf.length = a) (ha36 : 36 ≤ a) (ha2 : a ≤ 1048576) (hbody : (buf.drop 24).take body.length = body) (hfile : file.length + 24 + body.length ≤ 1073741824)
    (w : World) (hS : Steps w) (hSs : S 1) (hSg : S g) (hSw : S wb) (hgs : g ≠ 1) (hws : wb ≠ 1)
    (hW : Blk w wb (wrCells b p q g a wd most held seq count sum 3) 116) (hg : Blk w g (bytesA buf) 5) (hD : DiskAt w b n (some file) S) :
    Calls Tryd.prog 28 #[.pointer (some ⟨wb, 0, none⟩)] w
      fun r w' => r = .returned (.int .i64 0) ∧ Fr (fun k => ¬ S k ∨ k = g ∨ k = wb) w w' ∧ Blk w' wb (wrCells b p q g a wd most 0 (seq + 1) count (more sum body) 3) 116 ∧
        Blk w' g (bytesA (splB buf 0 (headB 2 seq held body.length (crc body).toNat))) 5 ∧ DiskAt w' b n (some (file ++ chunkB 2 seq held body)) S := by
  have hne := Blk.ne hW hg (by decide)
  have hc := hW.cell
  have hf := hW.free
  have hb0 : ((held : Int) == 0) = false := by simp; omega
  have hwdl : (held : Int) * (wd : Int) = (body.length : Int) := by rw [hbl]; push_cast; rfl
  have hmul : IntKind.i64.wrap ((held : Int) * (wd : Int)) = (body.length : Int) := by rw [hwdl]; exact IntWalk.i64_in _ (by omega)
  unfold wrCells at hc
  have HW := Lib.hid hW
  have HG := Lib.hid hg
  have HS := Lib.hid hS
  have HD := Lib.hid hD
  have HBo := Lib.hid hbody
  have HAl := Lib.hid hal
  clear hwdl hbl hS hD hg hbody hal
  go_enter Tryd.func28, Tryd.ntmps28
  go_wp2_with (go_at_call 52; refine (wopen_any b p q g a wd most held seq count wb sum _ HW.out).mono ?_; rintro r w1 ⟨rfl, rfl⟩)
  go_region
  go_wp2_with fail
  refine (wchunk_any b n p q g a wd most held seq count wb sum 3 S file buf body 2 2 rfl held hheld hseq ha HAl.out ha36 ha2 HBo.out hfile _ (HS.out.kept (Fr.refl (fun _ => False) w).drew (fun h => h)) hSs hSg hSw hgs hws HW.out.drew HG.out.drew HD.out.drew).mono ?_
  rintro r w1 ⟨rfl, hF1, hW1, hG1, hD1⟩
  have hc1 := hW1.cell
  have hf1 := hW1.free
  unfold wrCells at hc1
  have hS1 := HS.out.kept (Fr.then (S := fun k => ¬ S k ∨ k = g ∨ k = wb) (Fr.refl _ w).drew hF1) (fun h => h.elim (fun h => h hSs) (fun h => h.elim (fun e => hgs e.symm) (fun e => hws e.symm)))
  have hbody1 : ((bytesA (splB buf 0 (headB 2 seq held body.length (crc body).toNat))).toList.drop 24).take body.length = body.map bv := by
    have h1 : (bytesA (splB buf 0 (headB 2 seq held body.length (crc body).toNat))).toList = (splB buf 0 (headB 2 seq held body.length (crc body).toNat)).map bv := by simp [bytesA]
    have h2 : splB buf 0 (headB 2 seq held body.length (crc body).toNat) = headB 2 seq held body.length (crc body).toNat ++ buf.drop 24 := by unfold splB; rw [headB_length]; simp
    rw [h1, h2, ← List.map_drop, ← List.map_take, List.drop_left' (headB_length _ _ _ _ _), HBo.out]
  have HB1 := Lib.hid hbody1
  have HF1 := Lib.hid hF1
  have HW1 := Lib.hid hW1
  have HG1 := Lib.hid hG1
  have HD1 := Lib.hid hD1
  have HS1 := Lib.hid hS1
  have hd2 : (24 : Int) + (body.length : Int) ≤ (a : Int) := by omega
  have hd5 : 24 ≤ 24 + body.length := by omega
  have hd6 : ¬ a = 24 := by omega
  have hs1 : IntKind.i64.wrap (24 + (body.length : Int)) = 24 + (body.length : Int) := IntWalk.i64_in _ (by omega)
  have hs2 : (24 + (body.length : Int)).toNat = 24 + body.length := by omega
  have hs3 : 24 + body.length - 24 = body.length := by omega
  have hd8 : (0 : Int) ≤ 24 + (body.length : Int) := by omega
  have hd9 : (24 : Int) ≤ 24 + (body.length : Int) := by omega
  clear hc hf hF1 hW1 hG1 hD1 hS1 hbody1
  go_wp2_with fail
  refine region_tail 15 (by kernel_rfl) (by kernel_rfl) ?_
  simp only [List.take_succ_cons, List.take_zero, List.drop_succ_cons, List.drop_zero]
  repeat still_step
  still_call ((more_same sum g 24 (a - 24) body (bytesA (splB buf 0 (headB 2 seq held body.length (crc body).toNat))) 5 HB1.out (by omega) _ (HS1.out.kept (Fr.refl (fun _ => False) w1).drew (fun h => h)) HG1.out.drew).mono fun q w' h => ⟨h.1, h.2.symm⟩)
  repeat still_step
  refine wpStill_nil ?_
  go_wp2
  go_ret
  refine ⟨rfl, ?_, ?_, ?_, ?_⟩
  · exact Fr.setIn (Fr.setIn (Fr.drew (Fr.then (S := fun k => ¬ S k ∨ k = g ∨ k = wb) (Fr.refl _ w).drew HF1.out)) (Or.inr (Or.inr rfl)) _) (Or.inr (Or.inr rfl)) _
  · have := (HW1.out.drew.set 10 (.int .u32 ((more sum body).toNat : Int))).set 7 (.int .i64 0)
    exact this
  · exact (Fr.setEq (Fr.setEq (Fr.refl (· = wb) _) _) _).blk HG1.out.drew (fun e => hne e.symm)
  · exact HD1.out.drew.stays (Fr.setEq (Fr.setEq (Fr.refl (· = wb) _) _) _) (fun k _ e => by rw [e]; exact hSw)

theorem wflush_none (b p q g a wd most seq count wb : Nat) (sum : BitVec 32) (w : World) (hW : Blk w wb (wrCells b p q g a wd most 0 seq count sum 3) 116) :
    Calls Tryd.prog 28 #[.pointer (some ⟨wb, 0, none⟩)] w fun r w' => r = .returned (.int .i64 0) ∧ w = w' := by
  have hc := hW.cell
  have HW := Lib.hid hW
  unfold wrCells at hc
  go_enter Tryd.func28, Tryd.ntmps28
  go_wp2_with (go_at_call 52; refine (wopen_any b p q g a wd most 0 seq count wb sum _ HW.out).mono ?_; rintro r w1 ⟨rfl, rfl⟩)
  go_ret
  exact ⟨rfl, rfl⟩
end Go.Proofs.YtcefockebphbaaaDoor

namespace Go.Proofs.YtcefockebphbaaaDoor
open Go Go.RowKit Sluice

/-- What of a Writer stays: its form, its buffer, whose blocks are whose. -/
structure WrK (S : Nat → Prop) (g wb p q a wd most : Nat) : Prop where
  ss : S 1
  sg : S g
  sw : S wb
  sp : S p
  sq : S q
  gs : g ≠ 1
  ws : wb ≠ 1
  w1 : 1 ≤ wd
  w2 : wd ≤ 256
  a1 : 36 ≤ a
  a2 : a ≤ 1048576
  m1 : 1 ≤ most
  m2 : 24 + most * wd ≤ a
/-- A Writer's state: the file so far, the records in its buffer. -/
structure WrAt (w : World) (S : Nat → Prop) (b n p q g a wd most wb : Nat) (file : List UInt8) (hs : List (List UInt8)) (seq count : Nat) (sum : BitVec 32) : Prop where
  cells : Blk w wb (wrCells b p q g a wd most hs.length seq count sum 3) 116
  forms : FormBoxes w p q
  steps : Steps w
  disk : DiskAt w b n (some file) S
  width : ∀ r ∈ hs, r.length = wd
  buf : ∃ buf, Blk w g (bytesA buf) 5 ∧ buf.length = a ∧ (buf.drop 24).take hs.flatten.length = hs.flatten
/-- What an operation of a Writer may change. -/
def WrFr (S : Nat → Prop) (g wb : Nat) : Nat → Prop := fun k => ¬ S k ∨ k = g ∨ k = wb

theorem splB_drop_take {buf : List UInt8} {m : Nat} {x y : List UInt8} (hx : x.length = m) (h : (buf.drop 24).take m = x) (hl : 24 + m + y.length ≤ buf.length) : ((splB buf (24 + m) y).drop 24).take (m + y.length) = x ++ y := by
  have e1 : buf.take (24 + m) = buf.take 24 ++ x := by rw [List.take_add, h]
  have e2 : (buf.take 24).length = 24 := by rw [List.length_take]; omega
  unfold splB
  rw [e1, List.append_assoc, List.append_assoc, List.drop_left' e2, ← List.append_assoc, List.take_left' (by rw [List.length_append, hx])]

/-- What a Put comes to. -/
def PutTo (S : Nat → Prop) (b n p q g a wd most wb : Nat) (file : List UInt8) (hs : List (List UInt8)) (seq count : Nat) (sum : BitVec 32) (w' : World) : Prop :=
  if hs.length = most then WrAt w' S b n p q g a wd most wb (file ++ chunkB 2 seq most hs.flatten) [] (seq + 1) count (more sum hs.flatten)
  else WrAt w' S b n p q g a wd most wb file hs seq count sum

set_option maxHeartbeats 8000000 in
set_option maxRecDepth 100000 in
theorem wput_any (S : Nat → Prop) (b n p q g a wd most wb : Nat) (K : WrK S g wb p q a wd most) (file : List UInt8) (hs : List (List UInt8)) (seq count : Nat) (sum : BitVec 32) (s : ByteArray) (hsz : s.size ≤ maxLen) (sp : Nat) (w : World)
    (hlt : hs.length + 1 ≤ most) (hcnt : count < 1099511627776) (hseq : seq < 4294967295) (hfile : file.length + 24 + most * wd ≤ 1073741824) (hW : WrAt w S b n p q g a wd most wb file hs seq count sum) (hsp : Blk w sp #[.string s] 9) :
    Calls Tryd.prog 26 #[.pointer (some ⟨wb, 0, none⟩), .slice (some ⟨sp, 0, none⟩) 1 1] w
      fun r w' => r = .returned (.int .i64 0) ∧ Fr (WrFr S g wb) w w' ∧ PutTo S b n p q g a wd most wb file (hs ++ [recB wd s]) seq (count + 1) sum w' := by
  obtain ⟨hcells, hforms, hsteps, hdisk, hwidth, buf, hg, hal, hbuf⟩ := hW
  have hfl := flatten_length hwidth
  obtain ⟨m, hm⟩ : ∃ m, m = hs.length * wd := ⟨_, rfl⟩
  have hm2 : m + wd ≤ most * wd := by
    have := Nat.mul_le_mul_right wd hlt
    rw [Nat.add_mul] at this; omega
  have hKm := K.m2
  have hKa := K.a2
  have hKw := K.w1
  have hKw2 := K.w2
  have hmul : IntKind.i64.wrap ((hs.length : Int) * (wd : Int)) = (m : Int) := by
    have : (hs.length : Int) * (wd : Int) = (m : Int) := by rw [hm]; push_cast; rfl
    rw [this]; exact IntWalk.i64_in _ (by omega)
  have hne := Blk.ne hcells hg (by decide)
  have hnp := Blk.ne hforms.1 hg (by decide)
  have hc := hcells.cell
  have hf := hcells.free
  have hsc := hsp.cell 0
  have hlen : hs.length ≤ 1048576 := by
    have : most * 1 ≤ most * wd := Nat.mul_le_mul_left _ hKw
    omega
  have hq1 : IntKind.i64.wrap ((hs.length : Int) + 1) = (hs.length : Int) + 1 := IntWalk.i64_in _ (by omega)
  have hq2 : IntKind.i64.wrap ((count : Int) + 1) = (count : Int) + 1 := IntWalk.i64_in _ (by omega)
  have hd1 : (0 : Int) ≤ 24 + (m : Int) := by omega
  have hd2 : (24 : Int) + (m : Int) + (wd : Int) ≤ (a : Int) := by omega
  have hd3 : (24 : Int) + (m : Int) ≤ 24 + (m : Int) + (wd : Int) := by omega
  have hd4 : (0 : Int) ≤ 24 + (m : Int) + (wd : Int) := by omega
  have hd5 : 24 + m + wd ≤ a := by omega
  have hd6 : 24 + m ≤ 24 + m + wd := by omega
  have hd7 : ¬ 24 + m + wd = 24 + m := by omega
  have hs1 : (24 + (m : Int)).toNat = 24 + m := by omega
  have hs2 : (24 + (m : Int) + (wd : Int)).toNat = 24 + m + wd := by omega
  have hs3 : 24 + m + wd - (24 + m) = wd := by omega
  have hs0 : IntKind.i64.wrap (24 + (m : Int) + (wd : Int)) = 24 + (m : Int) + (wd : Int) := IntWalk.i64_in _ (by omega)
  have hs4 : max (24 + (m : Int) + (wd : Int)) 0 = 24 + (m : Int) + (wd : Int) := by omega
  have hopen := wopen_any b p q g a wd most hs.length seq count wb sum w hcells
  unfold wrCells at hc hcells
  have HO := Lib.hid hopen
  have HC := Lib.hid hcells
  have HG := Lib.hid hg
  have HP := Lib.hid hforms
  have HB := Lib.hid hbuf
  have HM := Lib.hid hm
  have HFl := Lib.hid hfl
  have HAl := Lib.hid hal
  have HW := Lib.hid hwidth
  have HSt := Lib.hid hsteps
  have HD := Lib.hid hdisk
  clear hopen hcells hg hforms hbuf hm hfl hal hwidth hsteps hdisk hsp
  go_enter Tryd.func26, Tryd.ntmps26
  go_wp2_with (go_at_call 52; refine HO.out.mono ?_; rintro r w1 ⟨rfl, rfl⟩)
  refine wp_loop_rounds 2 ?_
  rw [rounds_succ]
  go_wp2_with fail
  go_region
  go_wp2_with fail
  refine region_tail 26 (by kernel_rfl) (by kernel_rfl) ?_
  simp only [List.take_succ_cons, List.take_zero, List.drop_succ_cons, List.drop_zero]
  repeat still_step
  refine wpStill_nil ?_
  have hGd := HG.out.drew.drew
  have hPd := HP.out.1.drew.drew
  have hCd := HC.out.drew.drew
  have hfit : 24 + m + wd ≤ buf.length := by rw [HAl.out]; exact hd5
  go_wp2_with ((go_at_call 67); (refine (form1_any g (24 + m) wd (by omega) s hsz buf _ hfit p _ hPd hGd).mono ?_); (rintro r w1 ⟨rfl, hF1, hB1⟩); (have hC1 := hF1.blk hCd hne); (have hc1 := hC1.cell); (have hf1 := hC1.free); (clear hc hf hsc))
  have hC2 := (hC1.set 7 (.int .i64 ((hs.length : Int) + 1))).set 9 (.int .i64 ((count : Int) + 1))
  have hF2 : Fr (WrFr S g wb) w ((w1.setCell ⟨wb, 7, none⟩ (.int .i64 ((hs.length : Int) + 1))).setCell ⟨wb, 9, none⟩ (.int .i64 ((count : Int) + 1))) :=
    Fr.setIn (Fr.setIn (Fr.then (Fr.refl (WrFr S g wb) w).drew.drew (hF1.mono fun k _ e => Or.inr (Or.inl e))) (Or.inr (Or.inr rfl)) _) (Or.inr (Or.inr rfl)) _
  have hG2 := (Fr.setEq (Fr.setEq (Fr.refl (· = wb) w1) (o := 7) (.int .i64 ((hs.length : Int) + 1))) (o := 9) (.int .i64 ((count : Int) + 1))).blk hB1 (fun e => hne e.symm)
  have hD2 := (HD.out.drew.drew.stays hF1 (fun k _ e => by rw [e]; exact K.sg)).stays (Fr.setEq (Fr.setEq (Fr.refl (· = wb) w1) (o := 7) (.int .i64 ((hs.length : Int) + 1))) (o := 9) (.int .i64 ((count : Int) + 1))) (fun k _ e => by rw [e]; exact K.sw)
  generalize (w1.setCell ⟨wb, 7, none⟩ (.int .i64 ((hs.length : Int) + 1))).setCell ⟨wb, 9, none⟩ (.int .i64 ((count : Int) + 1)) = w2 at *
  have hlb : (splB buf (24 + m) (recB wd s)).length = a := by rw [splB_length (by rw [recB_length]; exact hfit), HAl.out]
  have hfl2 : (hs ++ [recB wd s]).flatten = hs.flatten ++ recB wd s := by simp
  have hll : (hs ++ [recB wd s]).flatten.length = m + wd := by rw [hfl2, List.length_append, recB_length, HFl.out, ← HM.out]
  have htk : ((splB buf (24 + m) (recB wd s)).drop 24).take (m + wd) = (hs ++ [recB wd s]).flatten := by
    have h := HB.out
    rw [HFl.out, ← HM.out] at h
    have := splB_drop_take (buf := buf) (m := m) (x := hs.flatten) (y := recB wd s) (by rw [HFl.out, ← HM.out]) h (by rw [recB_length]; exact hfit)
    rw [recB_length] at this
    rw [this, hfl2]
  have hnst : ¬ WrFr S g wb 1 := fun h => h.elim (fun h => h K.ss) (fun h => h.elim (fun e => K.gs e.symm) (fun e => K.ws e.symm))
  have hnp2 : ¬ WrFr S g wb p := fun h => h.elim (fun h => h K.sp) (fun h => h.elim (fun e => hnp e) (fun e => (Blk.ne HP.out.1 HC.out (by decide)) e))
  have hnq2 : ¬ WrFr S g wb q := fun h => h.elim (fun h => h K.sq) (fun h => h.elim (fun e => (Blk.ne HP.out.2 HG.out (by decide)) e) (fun e => (Blk.ne HP.out.2 HC.out (by decide)) e))
  have hW2 : ∀ r ∈ hs ++ [recB wd s], r.length = wd := fun r hr => by
    rcases List.mem_append.1 hr with h | h
    · exact HW.out r h
    · rw [List.mem_singleton] at h; rw [h]; exact recB_length _ _
  have hc2 := hC2.cell
  have hlen2 : (hs ++ [recB wd s]).length = hs.length + 1 := by simp
  have HF2 := Lib.hid hF2
  have HG2 := Lib.hid hG2
  have HD2 := Lib.hid hD2
  have HC2 := Lib.hid hC2
  have HTk := Lib.hid htk
  have HLb := Lib.hid hlb
  have HLl := Lib.hid hll
  have HW2 := Lib.hid hW2
  have HL2 := Lib.hid hlen2
  have HS2 := Lib.hid (HSt.out.kept hF2 hnst)
  have HP2 := Lib.hid (⟨hF2.blk HP.out.1 hnp2, hF2.blk HP.out.2 hnq2⟩ : FormBoxes w2 p q)
  clear hF2 hG2 hD2 hC2 htk hlb hll hW2 hlen2 hfl2 hnst hnp2 hnq2 hB1 hC1 hF1 hc1 hf1 hGd hPd hCd hfit hs0 hs1 hs2 hs3 hs4 hq1 hq2 hmul hd1 hd2 hd3 hd4 hd5 hd6 hd7
  by_cases hlast : hs.length + 1 = most
  · have hbq : ((hs.length : Int) + 1 == (most : Int)) = true := by rw [beq_iff_eq]; omega
    have HLast := Lib.hid hlast
    clear hlast
    go_region
    go_wp2_with fail
    have hC3 : Blk w2.drew wb (wrCells b p q g a wd most (hs.length + 1) seq (count + 1) sum 3) 116 := HC2.out.drew
    refine (wflush_full b n p q g a wd most (hs.length + 1) seq (count + 1) wb sum S file (splB buf (24 + m) (recB wd s)) (hs ++ [recB wd s]).flatten (by omega) (by rw [HLl.out, HM.out, Nat.add_mul, Nat.one_mul]) (by omega) hseq (by rw [HLl.out]; omega) HLb.out K.a1 K.a2 (by rw [HLl.out]; exact HTk.out) (by rw [HLl.out]; omega) _ (HS2.out.kept (Fr.refl (fun _ => False) _).drew (fun h => h)) K.ss K.sg K.sw K.gs K.ws hC3 HG2.out.drew HD2.out.drew).mono ?_
    rintro r w3 ⟨rfl, hF3, hC3', hG3, hD3⟩
    have HF3 := Lib.hid hF3
    have HC3 := Lib.hid hC3'
    have HG3 := Lib.hid hG3
    have HD3 := Lib.hid hD3
    clear hF3 hC3' hG3 hD3 hC3 hc2
    go_wp2_with fail
    rw [rounds_succ]
    go_wp2
    go_ret
    have hnst : ¬ WrFr S g wb 1 := fun h => h.elim (fun h => h K.ss) (fun h => h.elim (fun e => K.gs e.symm) (fun e => K.ws e.symm))
    have hnp2 : ¬ WrFr S g wb p := fun h => h.elim (fun h => h K.sp) (fun h => h.elim (fun e => hnp e) (fun e => (Blk.ne HP.out.1 HC.out (by decide)) e))
    have hnq2 : ¬ WrFr S g wb q := fun h => h.elim (fun h => h K.sq) (fun h => h.elim (fun e => (Blk.ne HP.out.2 HG.out (by decide)) e) (fun e => (Blk.ne HP.out.2 HC.out (by decide)) e))
    unfold PutTo
    rw [if_pos (by rw [HL2.out]; exact HLast.out)]
    have hF : Fr (WrFr S g wb) w2.drew w3 := HF3.out
    have hfr : Fr (WrFr S g wb) w w3 := HF2.out.drew.then hF
    have hDD := HD3.out
    rw [HLast.out] at hDD
    refine ⟨rfl, hfr, ⟨HC3.out, ⟨hF.blk HP2.out.1.drew hnp2, hF.blk HP2.out.2.drew hnq2⟩, HSt.out.kept hfr hnst, hDD, (fun r hr => absurd hr (by simp)), _, HG3.out, ?_, rfl⟩⟩
    rw [splB_length (by rw [headB_length, HLb.out]; omega), HLb.out]
  · have hbq : ((hs.length : Int) + 1 == (most : Int)) = false := by rw [beq_eq_false_iff_ne]; omega
    have HLast := Lib.hid hlast
    clear hlast
    go_region
    go_wp2
    rw [rounds_succ]
    go_wp2
    go_ret
    unfold PutTo
    rw [if_neg (by rw [HL2.out]; exact HLast.out)]
    refine ⟨rfl, HF2.out.drew, ⟨?_, ⟨HP2.out.1.drew, HP2.out.2.drew⟩, HS2.out.kept (Fr.refl (fun _ => False) _).drew (fun h => h), HD2.out.drew, HW2.out, _, HG2.out.drew, HLb.out, ?_⟩⟩
    · have := HC2.out.drew
      rw [HL2.out]
      exact this
    · rw [HLl.out]; exact HTk.out
end Go.Proofs.YtcefockebphbaaaDoor

namespace Go.Proofs.YtcefockebphbaaaDoor
open Go Go.RowKit Sluice

/-- What a Flush makes of the file, the number of the next chunk and the sum. -/
def flushed (file : List UInt8) (hs : List (List UInt8)) (seq : Nat) (sum : BitVec 32) : List UInt8 × Nat × BitVec 32 :=
  if hs = [] then (file, seq, sum) else (file ++ chunkB 2 seq hs.length hs.flatten, seq + 1, more sum hs.flatten)

theorem WrK.nst {S : Nat → Prop} {g wb p q a wd most : Nat} (K : WrK S g wb p q a wd most) : ¬ WrFr S g wb 1 := fun h => h.elim (fun h => h K.ss) (fun h => h.elim (fun e => K.gs e.symm) (fun e => K.ws e.symm))
theorem WrAt.nforms {w : World} {S : Nat → Prop} {b n p q g a wd most wb : Nat} {file : List UInt8} {hs : List (List UInt8)} {seq count : Nat} {sum : BitVec 32} (K : WrK S g wb p q a wd most) (h : WrAt w S b n p q g a wd most wb file hs seq count sum) : ¬ WrFr S g wb p ∧ ¬ WrFr S g wb q := by
  obtain ⟨buf, hg, -, -⟩ := h.buf
  refine ⟨fun hx => ?_, fun hx => ?_⟩
  · exact hx.elim (fun h => h K.sp) (fun hx => hx.elim (fun e => (Blk.ne h.forms.1 hg (by decide)) e) (fun e => (Blk.ne h.forms.1 h.cells (by decide)) e))
  · exact hx.elim (fun h => h K.sq) (fun hx => hx.elim (fun e => (Blk.ne h.forms.2 hg (by decide)) e) (fun e => (Blk.ne h.forms.2 h.cells (by decide)) e))

theorem wflush_at (S : Nat → Prop) (b n p q g a wd most wb : Nat) (K : WrK S g wb p q a wd most) (file : List UInt8) (hs : List (List UInt8)) (seq count : Nat) (sum : BitVec 32) (w : World) (hlt : hs.length ≤ most) (hseq : seq < 4294967295) (hfile : file.length + 24 + most * wd ≤ 1073741824)
    (hW : WrAt w S b n p q g a wd most wb file hs seq count sum) :
    Calls Tryd.prog 28 #[.pointer (some ⟨wb, 0, none⟩)] w
      fun r w' => r = .returned (.int .i64 0) ∧ Fr (WrFr S g wb) w w' ∧ WrAt w' S b n p q g a wd most wb (flushed file hs seq sum).1 [] (flushed file hs seq sum).2.1 count (flushed file hs seq sum).2.2 := by
  have hnf := hW.nforms K
  by_cases hh : hs = []
  · subst hh
    refine (wflush_none b p q g a wd most seq count wb sum w hW.cells).mono ?_
    rintro r w' ⟨rfl, rfl⟩
    exact ⟨rfl, Fr.refl _ _, hW⟩
  · obtain ⟨hcells, hforms, hsteps, hdisk, hwidth, buf, hg, hal, hbuf⟩ := hW
    have hfl := flatten_length hwidth
    have h1 : 1 ≤ hs.length := by
      rcases Nat.eq_zero_or_pos hs.length with h | h
      · exact absurd (List.eq_nil_of_length_eq_zero h) hh
      · exact h
    have hm2 : hs.length * wd ≤ most * wd := Nat.mul_le_mul_right wd hlt
    have hm3 : most * 1 ≤ most * wd := Nat.mul_le_mul_left _ K.w1
    have := K.m2
    have := K.a2
    refine (wflush_full b n p q g a wd most hs.length seq count wb sum S file buf hs.flatten h1 hfl (by omega) hseq (by omega) hal K.a1 K.a2 hbuf (by omega) w hsteps K.ss K.sg K.sw K.gs K.ws hcells hg hdisk).mono ?_
    rintro r w' ⟨rfl, hF, hC, hG, hD⟩
    unfold flushed
    rw [if_neg hh]
    refine ⟨rfl, hF, hC, ⟨hF.blk hforms.1 hnf.1, hF.blk hforms.2 hnf.2⟩, hsteps.kept hF K.nst, hD, fun r hr => absurd hr (by simp), _, hG, ?_, rfl⟩
    rw [splB_length (by rw [headB_length, hal]; have := K.a1; omega), hal]

theorem wchunk_len (b n p q g a wd most held seq count wb : Nat) (sum : BitVec 32) (code : Int) (S : Nat → Prop) (file buf body : List UInt8) (kind : UInt8) (k c l : Int) (hk : k = (kind.toNat : Int)) (cnt : Nat) (hc : c = (cnt : Int)) (hl : l = (body.length : Int)) (hcnt : cnt < 4294967296) (hseq : seq < 4294967295)
    (ha : 24 + body.length ≤ a) (hal : buf.length = a) (ha36 : 36 ≤ a) (ha2 : a ≤ 1048576) (hbody : (buf.drop 24).take body.length = body) (hfile : file.length + 24 + body.length ≤ 1073741824)
    (w : World) (hS : Steps w) (hSs : S 1) (hSg : S g) (hSw : S wb) (hgs : g ≠ 1) (hws : wb ≠ 1)
    (hW : Blk w wb (wrCells b p q g a wd most held seq count sum code) 116) (hg : Blk w g (bytesA buf) 5) (hD : DiskAt w b n (some file) S) :
    Calls Tryd.prog 51 #[.pointer (some ⟨wb, 0, none⟩), .int .u8 k, .int .i64 c, .int .i64 l] w
      fun r w' => r = .returned (.int .i64 0) ∧ Fr (fun k => ¬ S k ∨ k = g ∨ k = wb) w w' ∧ Blk w' wb (wrCells b p q g a wd most held (seq + 1) count sum code) 116 ∧
        Blk w' g (bytesA (splB buf 0 (headB kind seq cnt body.length (crc body).toNat))) 5 ∧ DiskAt w' b n (some (file ++ chunkB kind seq cnt body)) S := by
  subst hc hl
  exact wchunk_any b n p q g a wd most held seq count wb sum code S file buf body kind k hk cnt hcnt hseq ha hal ha36 ha2 hbody hfile w hS hSs hSg hSw hgs hws hW hg hD
theorem wshut_any (b p q g a wd most held seq count wb : Nat) (sum : BitVec 32) (code e : Int) (w : World) (hW : Blk w wb (wrCells b p q g a wd most held seq count sum code) 116) :
    Calls Tryd.prog 55 #[.pointer (some ⟨wb, 0, none⟩), .int .i64 e] w fun r w' => r = .returned (.int .i64 e) ∧ Fr (· = wb) w w' ∧ Blk w' wb (wrCells b p q g a wd most held seq count sum e) 116 := by
  have hc := hW.cell
  have hf := hW.free
  have HW := Lib.hid hW
  unfold wrCells at hc
  go_enter Tryd.func55, Tryd.ntmps55
  go_wp2
  go_ret
  have := HW.out.set 11 (.int .i64 e)
  exact ⟨rfl, Fr.setEq (Fr.refl (· = wb) _) _, this⟩
def lastB (count : Nat) (sum : BitVec 32) : List UInt8 := le 8 count ++ le 4 sum.toNat
theorem lastB_length (count : Nat) (sum : BitVec 32) : (lastB count sum).length = 12 := by simp [lastB, le_length]

set_option maxHeartbeats 8000000 in
set_option maxRecDepth 100000 in
theorem wclose_any (S : Nat → Prop) (b n p q g a wd most wb : Nat) (K : WrK S g wb p q a wd most) (file : List UInt8) (hs : List (List UInt8)) (seq count : Nat) (sum : BitVec 32) (w : World) (hlt : hs.length ≤ most) (hseq : seq < 4294967294) (hcnt : count < 1099511627776) (hfile : file.length + 60 + most * wd ≤ 1073741824)
    (hW : WrAt w S b n p q g a wd most wb file hs seq count sum) :
    Calls Tryd.prog 29 #[.pointer (some ⟨wb, 0, none⟩)] w
      fun r w' => r = .returned (.int .i64 0) ∧ Fr (WrFr S g wb) w w' ∧
        (∃ x, Blk w' wb (wrCells b p q g a wd most 0 x count (flushed file hs seq sum).2.2 0) 116) ∧ DiskAt w' b n (some ((flushed file hs seq sum).1 ++ chunkB 3 (flushed file hs seq sum).2.1 0 (lastB count (flushed file hs seq sum).2.2))) S := by
  have hfl := flatten_length hW.width
  have hm2 : hs.length * wd ≤ most * wd := Nat.mul_le_mul_right wd hlt
  have hq : (flushed file hs seq sum).1.length ≤ file.length + 24 + most * wd ∧ (flushed file hs seq sum).2.1 ≤ seq + 1 := by
    unfold flushed
    split
    · exact ⟨by show file.length ≤ _; omega, by show seq ≤ seq + 1; omega⟩
    · exact ⟨by show (file ++ _).length ≤ _; rw [List.length_append, chunkB_length]; omega, Nat.le_refl _⟩
  have HFL := Lib.hid (wflush_at S b n p q g a wd most wb K file hs seq count sum w hlt (by omega) (by omega) hW)
  generalize flushed file hs seq sum = fl at *
  obtain ⟨file1, seq1, sum1⟩ := fl
  dsimp only at hq HFL ⊢
  obtain ⟨hq1, hq2⟩ := hq
  have ha1 := K.a1
  have ha2 := K.a2
  clear hW hfl hm2
  go_enter Tryd.func29, Tryd.ntmps29
  go_wp2_with (first
    | ((go_at_call 28); (refine HFL.out.mono ?_); (rintro r w1 ⟨rfl, hF1, hW1⟩); (obtain ⟨buf, hg1, hal1, -⟩ := hW1.buf); (have hcl1 := hW1.cells); (have hlt1 := hcl1.lt); (have hltg := hg1.lt); (have hc1 := hcl1.cell); (have hne1 := Blk.ne hcl1 hg1 (by decide)); (unfold wrCells at hc1 hcl1); (have hd1 : (36 : Int) ≤ (a : Int) := by omega); (have hd2 : 36 ≤ a := ha1); (have hd3 : ¬ a = 24 := by omega); (have hd4 : 24 + 12 ≤ buf.length := by rw [hal1]; exact ha1); (have hB0 : splB buf 24 [] = buf := by simp [splB]); (have hgn : w1.heap.size ≠ g := by omega); (have hwn : w1.heap.size ≠ wb := by omega); (have hu1 : IntKind.u64.wrap (count : Int) = (count : Int) := IntWalk.u64_in _ (by omega)); (have hu2 : IntKind.u64.wrap (sum1.toNat : Int) = (sum1.toNat : Int) := IntWalk.u64_in _ (by have := sum1.isLt; omega)); (have hG0 : Blk (w1.alloc (.cells #[.int .i64 0] 3)) g (bytesA (splB buf 24 [])) 5 := by rw [hB0]; exact hg1.alloc _); (have hC0 := hcl1.alloc (.cells #[.int .i64 0] 3)); (have HF1 := Lib.hid hF1); (have HW1 := Lib.hid hW1); (have HAl := Lib.hid hal1); (clear hF1 hW1 hB0 hal1))
    | ((go_at_call 54); (have hBn := hG2); (refine (rput_acc g 24 12 (a - 24) 8 4 sum1.toNat (le 8 count) (le_length _ _) (by omega) (by omega) (by omega) (by omega) (by omega) (by have := sum1.isLt; simpa using this) buf 5 hd4 w1.heap.size hgn _ hG2 hP2).mono ?_); (rintro r w3 ⟨rfl, hF3, hG3, hP3⟩); (have hC3 := hF3.blk hC2 (by omega)); (have hc3 := hC3.cell); (clear hBn))
    | ((go_at_call 54); (refine (rput_acc g 24 12 (a - 24) 0 8 count [] rfl (by omega) (by omega) (by omega) (by omega) (by omega) (by simp; omega) buf 5 hd4 w1.heap.size hgn _ hG0 (Blk.new' rfl)).mono ?_); (rintro r w2 ⟨rfl, hF2, hG2, hP0⟩); (have hP2 : Blk w2 w1.heap.size #[.int .i64 ((8 : Nat) : Int)] 3 := hP0); (have hC2 := hF2.blk hC0 (by omega)); (have hc2 := hC2.cell); (clear hP0))
    | fail)
  have hF13 : Fr (WrFr S g wb) w1 w3 := Fr.trans (Fr.trans ((Fr.refl (WrFr S g wb) w1).alloc _) hF2 (fun i hi e => e.elim (fun e => Or.inr (Or.inl e)) (fun e => absurd hi (by omega)))) hF3 (fun i hi e => e.elim (fun e => Or.inr (Or.inl e)) (fun e => absurd hi (by omega)))
  have hS3 := HW1.out.steps.kept hF13 K.nst
  have hD3 : DiskAt w3 b n (some file1) S := by
    refine HW1.out.disk.stays (Fr.trans (S := fun k => k = g) (Fr.trans (S := fun k => k = g) ((Fr.refl (fun k => k = g) w1).alloc _) hF2 (fun i hi e => e.elim (fun e => e) (fun e => absurd hi (by omega)))) hF3 (fun i hi e => e.elim (fun e => e) (fun e => absurd hi (by omega)))) (fun k _ e => by rw [e]; exact K.sg)
  have hlb := lastB_length count sum1
  have hG3' : Blk w3 g (bytesA (splB buf 24 (lastB count sum1))) 5 := hG3
  have hC3' : Blk w3 wb (wrCells b p q g a wd most 0 seq1 count sum1 3) 116 := hC3
  refine (wchunk_len b n p q g a wd most 0 seq1 count wb sum1 3 S file1 (splB buf 24 (lastB count sum1)) (lastB count sum1) 3 3 0 12 rfl 0 rfl (by rw [hlb]; rfl) (by omega) (by omega) (by rw [hlb]; omega) (by rw [splB_length (by rw [hlb]; exact hd4), HAl.out]) K.a1 K.a2 (splB_take (by rw [hlb]; exact hd4)) (by rw [hlb]; omega) _ hS3 K.ss K.sg K.sw K.gs K.ws hC3' hG3' hD3).mono ?_
  rintro r w4 ⟨rfl, hF4, hC4, hG4, hD4⟩
  have hc4 := hC4.cell
  unfold wrCells at hc4
  have hF14 : Fr (WrFr S g wb) w1 w4 := hF13.then hF4
  have HC4 := Lib.hid hC4
  have HD4 := Lib.hid hD4
  have HF14 := Lib.hid hF14
  clear hF2 hF3 hF13 hS3 hD3 hG3' hC3' hG3 hC3 hc3 hc2 hc1 hC2 hG2 hG0 hC0 hF4 hC4 hD4 hF14 hG4 hP3 hP2 hcl1 hg1
  go_wp2_with fail
  have hx0 : w4.drew.cell? ⟨wb, 0, none⟩ = some (.iface 29 (.pointer (some ⟨b, 0, none⟩))) := HC4.out.drew.cell 0
  have hx1 : w4.drew.cell? ⟨wb, 1, none⟩ = some (.string nameF) := HC4.out.drew.cell 1
  clear hc4
  go_region_held3 (fun w' => w'.cell? ⟨wb, 0, none⟩ = some (.iface 29 (.pointer (some ⟨b, 0, none⟩))) ∧ w'.cell? ⟨wb, 1, none⟩ = some (.string nameF))
    (((try dsimp only); first | with_reducible exact ⟨hx0, hx1⟩ | exact ⟨hC6.cell 0, hC6.cell 1⟩ | exact ⟨hC5.cell 0, hC5.cell 1⟩ | fail))
    (first
    | ((go_at_call 99); (refine (sync_one HD4.out.drew).mono ?_); (rintro r w5 ⟨rfl, hD5, hF5⟩); (have hC5 := hF5.blk HC4.out.drew (fun h => h K.sw)))
    | ((go_at_call 55); (refine (wshut_any b p q g a wd most 0 (seq1 + 1) count wb sum1 3 0 _ hC5).mono ?_); (rintro r w6 ⟨rfl, hF6, hC6⟩)))
  go_wp2
  go_ret
  refine ⟨rfl, ?_, ⟨_, hC6⟩, hD5.stays hF6 (fun k _ e => by rw [e]; exact K.sw)⟩
  exact ((HF1.out.then HF14.out).drew.then (hF5.mono fun k _ e => Or.inl e)).then (hF6.mono fun k _ e => Or.inr (Or.inr e))
end Go.Proofs.YtcefockebphbaaaDoor

namespace Go.Proofs.YtcefockebphbaaaDoor
open Go Go.RowKit Sluice

theorem wcode_any (b p q g a wd most held seq count wb : Nat) (sum : BitVec 32) (code : Int) (w : World) (hW : Blk w wb (wrCells b p q g a wd most held seq count sum code) 116) :
    Calls Tryd.prog 30 #[.pointer (some ⟨wb, 0, none⟩)] w fun r w' => r = .returned (.int .i64 code) ∧ w = w' := by
  have hc := hW.cell
  unfold wrCells at hc
  go_enter Tryd.func30, Tryd.ntmps30
  go_wp2
  go_ret
  exact ⟨rfl, rfl⟩
theorem wcount_any (b p q g a wd most held seq count wb : Nat) (sum : BitVec 32) (code : Int) (w : World) (hW : Blk w wb (wrCells b p q g a wd most held seq count sum code) 116) :
    Calls Tryd.prog 31 #[.pointer (some ⟨wb, 0, none⟩)] w fun r w' => r = .returned (.int .i64 (count : Int)) ∧ w = w' := by
  have hc := hW.cell
  unfold wrCells at hc
  go_enter Tryd.func31, Tryd.ntmps31
  go_wp2
  go_ret
  exact ⟨rfl, rfl⟩

/-- What a Create comes to. -/
def Created (S : Nat → Prop) (b n p q g a wd tag : Nat) (w : World) (r : Ending) (w' : World) : Prop :=
  ∃ wb, r = .returned (.tuple #[.pointer (some ⟨wb, 0, none⟩), .int .i64 0]) ∧ w.heap.size ≤ wb ∧ Fr (fun k => ¬ S k ∨ k = g) w w' ∧
    WrAt w' (fun k => S k ∨ k = wb) b (n + 1) p q g a wd ((a - 24) / wd) wb (chunkB 1 0 0 (titleB wd tag)) [] 1 0 0

set_option maxHeartbeats 8000000 in
set_option maxRecDepth 100000 in
theorem wcreate_any (S : Nat → Prop) (b n p q g a wd tag : Nat) (buf : List UInt8) (hn : n ≤ 1000) (w1 : 1 ≤ wd) (w2 : wd ≤ 256) (ht : tag < 18446744073709551616) (a1 : 36 ≤ a) (a2 : a ≤ 1048576) (a3 : 24 + wd ≤ a) (hal : buf.length = a)
    (ss : S 1) (sg : S g) (sp : S p) (sq : S q) (gs : g ≠ 1)
    (w : World) (hS : Steps w) (hF : FormBoxes w p q) (hg : Blk w g (bytesA buf) 5) (hD : DiskAt w b n none S) :
    Calls Tryd.prog 25 #[volV b, .string nameF, titleV 3 (wd : Int) (tag : Int), textForm (wd : Int) p q, .slice (some ⟨g, 0, none⟩) a a] w (Created S b n p q g a wd tag w) := by
  have hlt := hg.lt
  have hltb := hD.lt_b
  have hd0 : max (36 : Int) (24 + (wd : Int)) ≤ (a : Int) := by omega
  have hd1 : decide ((a : Int) < max (36 : Int) (24 + (wd : Int))) = false := by simp; omega
  have hd2 : min ((a : Int) - 24) 1048576 = (a : Int) - 24 := by omega
  have hd3 : ((wd : Int) == 0) = false := by simp; omega
  have hd4 : ((a : Int) - 24).tdiv (wd : Int) = (((a - 24) / wd : Nat) : Int) := by
    rw [show ((a : Int) - 24) = ((a - 24 : Nat) : Int) by omega]
    exact Int.ofNat_tdiv _ _
  have hd5 : (a - 24) / wd ≤ 1048576 := Nat.le_trans (Nat.div_le_self _ _) (by omega)
  have hd6 : ¬ a = 24 := by omega
  have hd7 : (36 : Int) ≤ (a : Int) := by omega
  generalize hmo : (a - 24) / wd = most at hd4 hd5
  have hd8 : ¬ wd = 0 := by omega
  have hd9 : IntKind.i64.wrap ((a : Int) - 24) = (a : Int) - 24 := IntWalk.i64_in _ (by omega)
  have hd10 : ¬ ((1048576 : Int) < (a : Int) - 24) := by omega
  have hd11 : IntKind.i64.wrap (most : Int) = (most : Int) := IntWalk.i64_in _ (by omega)
  have HMo := Lib.hid hmo
  clear hmo
  have HS := Lib.hid hS
  have HF := Lib.hid hF
  have HG := Lib.hid hg
  have HD := Lib.hid hD
  have HAl := Lib.hid hal
  have HR := Lib.hid (right_ok (.pointer (some ⟨b, 0, none⟩)) 29 (wd : Int) (tag : Int) (by omega) (by omega) p q)
  unfold titleV textForm volV at *
  clear hS hF hg hD hal
  go_enter Tryd.func25, Tryd.ntmps25
  go_wp2_with (first
    | ((go_at_call 43); (refine (HR.out _).mono ?_); (rintro r w3 ⟨rfl, hk3⟩); (have hT3 : Blk w3 w.heap.size #[.int .i64 3, .int .i64 (wd : Int), .int .u64 (tag : Int)] 53 := hk3.blk (Blk.alloc (Blk.new' rfl) _) (fun h => h)); (have hX3 : Blk w3 (w.heap.size + 1) #[.int .i64 (wd : Int), .func (.func 67) #[] #[.pointer (some ⟨p, 0, none⟩)], .func (.func 68) #[] #[.pointer (some ⟨q, 0, none⟩)]] 57 := hk3.blk (Blk.new' (by simp)) (fun h => h)); (have hK3 : Keeps w w3 := Fr.keeps (((Fr.refl _ w).alloc _).alloc _) hk3); (have hct3 := hT3.cell); (have hcx3 := hX3.cell); (have HK3 := Lib.hid hK3); (have HT3 := Lib.hid hT3); (have HX3 := Lib.hid hX3); (clear hk3 hT3 hX3 hK3))
    | fail)
  all_goals refine region_tail 12 (by kernel_rfl) (by kernel_rfl) ?_
  all_goals simp only [List.take_succ_cons, List.take_zero, List.drop_succ_cons, List.drop_zero]
  all_goals repeat still_step
  all_goals refine wpStill_nil ?_
  all_goals go_wp2_with fail
  all_goals (
    have hK4 : Keeps w (w3.alloc (.cells (wrCells b p q g a wd most 0 0 0 0 3) 116)).drew := (HK3.out.alloc _).drew
    have hC4 : Blk (w3.alloc (.cells (wrCells b p q g a wd most 0 0 0 0 3) 116)).drew w3.heap.size (wrCells b p q g a wd most 0 0 0 0 3) 116 := Blk.drew (Blk.new' rfl)
    have hT4 := (HT3.out.alloc (.cells (wrCells b p q g a wd most 0 0 0 0 3) 116)).drew
    have hsz := HK3.out.size
    have hszT := HT3.out.lt
    have hD4 : DiskAt (w3.alloc (.cells (wrCells b p q g a wd most 0 0 0 0 3) 116)).drew b n none (fun k => S k ∨ k = w3.heap.size ∨ k = w.heap.size) := HD.out.more hK4 (fun k hk => by
      rcases hk with h | h | h
      · exact Or.inl h
      · right; subst h; exact ⟨hsz, by simp⟩
      · right; subst h; exact ⟨Nat.le_refl _, by simp; omega⟩)
    have HK4 := Lib.hid hK4
    have HC4 := Lib.hid hC4
    have HT4 := Lib.hid hT4
    have HD4 := Lib.hid hD4
    clear hK4 hC4 hT4 hD4 hct3 hcx3
    change Calls _ _ _ (w3.alloc (.cells (wrCells b p q g a wd most 0 0 0 0 3) 116)).drew _
    generalize (w3.alloc (.cells (wrCells b p q g a wd most 0 0 0 0 3) 116)).drew = w4 at *
    generalize hwb : w3.heap.size = wb at *
    refine (create_one HD4.out hn).mono ?_
    rintro r w5 ⟨rfl, hD5, hF5⟩
    have hT5 := hF5.blk HT4.out (fun h => h (Or.inr (Or.inr rfl)))
    have hC5 := hF5.blk HC4.out (fun h => h (Or.inr (Or.inl rfl)))
    have hG5 := hF5.blk (HK4.out.blk HG.out (fun h => h)) (fun h => h (Or.inl sg))
    have hct5 := hT5.cell
    have HD5 := Lib.hid hD5
    have HF5 := Lib.hid hF5
    have HC5 := Lib.hid hC5
    have HG5 := Lib.hid hG5
    have HT5 := Lib.hid hT5
    clear hT5 hC5 hG5 hD5 hF5
    go_wp2_with fail)
  all_goals refine region_tail 3 (by kernel_rfl) (by kernel_rfl) ?_
  all_goals simp only [List.take_succ_cons, List.take_zero, List.drop_succ_cons, List.drop_zero]
  all_goals repeat still_step
  all_goals refine wpStill_nil ?_
  all_goals (
    have hfit : 24 + 12 ≤ buf.length := by rw [HAl.out]; exact a1
    go_wp2_with fail)
  all_goals (
    have hwg : wb ≠ g := by omega
    have hws : wb ≠ 1 := fun e => by have := HS.out.1; omega
    refine (titleBytes_any wd tag w2 ht g 24 (a - 24) (by omega) (by omega) buf 5 hfit _ HG5.out.drew).mono ?_
    rintro r w6 ⟨rfl, hF6, hG6⟩
    have hC6 := hF6.blk HC5.out.drew hwg
    have hD6 : DiskAt w6 b (n + 1) (some []) (fun k => S k ∨ k = wb) := (HD5.out.drew.stays hF6 (fun k _ e => by rw [e]; exact Or.inl sg)).less (fun k hk => hk.elim Or.inl (fun e => Or.inr (Or.inl e)))
    have hF46 : Fr (fun k => ¬ S k ∨ k = g) w w6 := Fr.trans (Fr.trans (S := fun k => ¬ S k ∨ k = g) (Fr.any HK4.out) HF5.out (fun i hi hx => Or.inl fun hs => hx (Or.inl hs))).drew hF6 (fun i hi e => Or.inr e)
    have hS6 := HS.out.kept hF46 (fun h => h.elim (fun h => h ss) (fun e => gs e.symm))
    have hnp : ¬ (¬ S p ∨ p = g) := fun h => h.elim (fun h => h sp) (fun e => (Blk.ne HF.out.1 HG.out (by decide)) e)
    have hnq : ¬ (¬ S q ∨ q = g) := fun h => h.elim (fun h => h sq) (fun e => (Blk.ne HF.out.2 HG.out (by decide)) e)
    have hP6 : FormBoxes w6 p q := ⟨hF46.blk HF.out.1 hnp, hF46.blk HF.out.2 hnq⟩
    have HF46 := Lib.hid hF46
    have HP6 := Lib.hid hP6
    have HS6 := Lib.hid hS6
    have HC6 := Lib.hid hC6
    have HD6 := Lib.hid hD6
    have HG6 := Lib.hid hG6
    clear hF46 hP6 hS6 hC6 hD6 hG6 hF6 hct5
    go_wp2_with fail
    have htl := titleB_length wd tag
    refine (wchunk_len b (n + 1) p q g a wd most 0 0 0 wb 0 3 (fun k => S k ∨ k = wb) [] (splB buf 24 (titleB wd tag)) (titleB wd tag) 1 1 0 12 rfl 0 rfl (by rw [htl]; rfl) (by omega) (by omega) (by rw [htl]; omega) (by rw [splB_length (by rw [htl]; exact hfit), HAl.out]) a1 a2 (splB_take (by rw [htl]; exact hfit)) (by rw [htl]; simp) _ HS6.out (Or.inl ss) (Or.inl sg) (Or.inr rfl) gs hws HC6.out HG6.out HD6.out).mono ?_
    rintro r w7 ⟨rfl, hF7, hC7, hG7, hD7⟩
    go_wp2
    go_ret2
    have hF17 : Fr (fun k => ¬ S k ∨ k = g) w w7 := Fr.trans HF46.out hF7 (fun i hi hx => by
      rcases hx with h | h | h
      · exact Or.inl fun hs => h (Or.inl hs)
      · exact Or.inr h
      · omega)
    have hnp7 : ¬ (¬ (S p ∨ p = wb) ∨ p = g ∨ p = wb) := by
      rintro (h | h | h)
      · exact h (Or.inl sp)
      · exact hnp (Or.inr h)
      · exact (Blk.ne HP6.out.1 HC6.out (by decide)) h
    have hnq7 : ¬ (¬ (S q ∨ q = wb) ∨ q = g ∨ q = wb) := by
      rintro (h | h | h)
      · exact h (Or.inl sq)
      · exact hnq (Or.inr h)
      · exact (Blk.ne HP6.out.2 HC6.out (by decide)) h
    refine ⟨wb, rfl, by omega, hF17, ?_⟩
    rw [HMo.out]
    refine ⟨hC7, ⟨hF7.blk HP6.out.1 hnp7, hF7.blk HP6.out.2 hnq7⟩, HS.out.kept hF17 (fun h => h.elim (fun h => h ss) (fun e => gs e.symm)), hD7, fun r hr => absurd hr (by simp), _, hG7, ?_, rfl⟩
    rw [splB_length (by rw [headB_length, splB_length (by rw [htl]; exact hfit), HAl.out]; omega), splB_length (by rw [htl]; exact hfit), HAl.out])
end Go.Proofs.YtcefockebphbaaaDoor

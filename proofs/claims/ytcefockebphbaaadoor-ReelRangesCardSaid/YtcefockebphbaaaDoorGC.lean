/- The walk of ReelCut. -/
import Derived.Test.YtcefockebphbaaaDoorGL
set_option linter.unusedVariables false
set_option linter.unusedSimpArgs false
set_option linter.unnecessarySimpa false
namespace Go.Proofs.YtcefockebphbaaaDoor
open Go Go.RowKit Sluice

theorem DiskAt.grow {w w' : World} {b n : Nat} {c : Option (List UInt8)} {S S' T : Nat → Prop} (h : DiskAt w b n c S) (hf : Fr T w w') (hT : ∀ k, k < w.heap.size → T k → S k)
    (hs' : ∀ k, S' k → S k ∨ (w.heap.size ≤ k ∧ k < w'.heap.size)) : DiskAt w' b n c S' := by
  obtain ⟨own, L, D, d1, d2, d3, d4⟩ := h
  have d2' : IsDisk w' own L D := d2.stays (S := fun k => T k ∧ k < w.heap.size) ⟨hf.os, hf.tape, hf.output, hf.size, fun k hk hn => hf.block k hk (fun ht => hn ⟨ht, hk⟩)⟩ (fun k hk hx => hk (d4 k (hT k hx.2 hx.1)).1)
  refine ⟨own, L, D, d1, d2', d3, fun k hk => ?_⟩
  rcases hs' k hk with h | ⟨h6, h7⟩
  · exact ⟨(d4 k h).1, Nat.lt_of_lt_of_le (d4 k h).2 hf.size⟩
  · exact ⟨d2.out h6, h7⟩
theorem Texts.mono {w w' : World} {S S' : Nat → Prop} {a : Option Addr} {n : Nat} {f : Nat → ByteArray} (h : Texts w S a n f) (hk : Keeps w w') (hs : ∀ k, S k → S' k) : Texts w' S' a n f := by
  intro i hi
  obtain ⟨b, off, h1, h2, h3, h4⟩ := h i hi
  exact ⟨b, off, h1, hs _ h2, (hk.cell (World.block_lt_of_cell? _ _ h3) (fun h => h)).trans h3, h4⟩
theorem Bools.mono {w w' : World} {S S' : Nat → Prop} {a : Option Addr} {n : Nat} {f : Nat → Bool} (h : Bools w S a n f) (hk : Keeps w w') (hs : ∀ k, S k → S' k) : Bools w' S' a n f := by
  intro i hi
  obtain ⟨b, off, h1, h2, h3⟩ := h i hi
  exact ⟨b, off, h1, hs _ h2, (hk.cell (World.block_lt_of_cell? _ _ h3) (fun h => h)).trans h3⟩
theorem fileB_len {wd M tag : Nat} {gs : List (List (List UInt8))} (hg : GoodGroups wd M gs) (hw : wd ≤ 256) (hr : gs.flatten.length ≤ 262144) : 72 ≤ (fileB wd tag gs).length ∧ (fileB wd tag gs).length ≤ 104857600 ∧ gs.length ≤ 262144 := by
  have h1 := dataB_len gs 1 hg
  have h2 := good_few gs hg
  have h3 : gs.flatten.length * wd ≤ gs.flatten.length * 256 := Nat.mul_le_mul_left _ hw
  unfold fileB startB
  simp only [List.length_append, start_length, chunkB_length, endB_length, titleB_length, h1]
  omega
theorem splB_all (file : List UInt8) : splB (List.replicate file.length 0) 0 ((file.drop 0).take file.length) = file := by
  unfold splB
  simp
/-- The disk with the file laid, and what is wanted of it. -/
structure Laid (cells : Array Value) (w0 w : World) (b n wd M tag rn : Nat) (base : Option Addr) (cap : Nat) (gs : List (List (List UInt8))) : Prop where
  bx : Blk w w0.heap.size cells 26
  len : gs.flatten.length = rn
  good : GoodGroups wd M gs
  strs : Strs w (.slice base rn cap) gs.flatten
  own : ∀ x, (Value.slice base rn cap).ownBlock = some x → w0.heap.size < x
  fr : Fr (fun k => ¬ k ≤ w0.heap.size) w0 w
  disk : DiskAt w b n (some (fileB wd tag gs)) (fun x => x ≤ w0.heap.size ∨ (Value.slice base rn cap).ownBlock = some x)

theorem laid_of {cells : Array Value} {w0 w1 w : World} {b n wd M tag rn : Nat} {f : Nat → ByteArray} {v : Value} (hk : Keeps w0 w1) (hs : w0.heap.size < w1.heap.size) (hb : Blk w1 w0.heap.size cells 26) (h : LaidTo w1 (fun k => k ≤ w0.heap.size) b n wd M tag rn f v w) :
    ∃ base cap gs, v = .slice base rn cap ∧ Laid cells w0 w b n wd M tag rn base cap gs := by
  obtain ⟨gs, h1, h2, h3, h4, h5, h6⟩ := h
  have hl : gs.flatten.length = rn := by rw [h1]; simp
  obtain ⟨base, cap, hv, -⟩ := h3.form
  rw [hl] at hv
  subst hv
  refine ⟨base, cap, gs, rfl, h6.blk hb (fun hn => hn (Nat.le_refl _)), hl, h2, h3, fun x hx => by have := h4 x hx; omega, (Fr.any hk).then h6, h5⟩

/-- The file's bytes read into a block; the disk holds c by now. -/
structure Anew (cells : Array Value) (w0 w : World) (b n wd tag rn : Nat) (base : Option Addr) (cap : Nat) (gs : List (List (List UInt8))) (g : Nat) (c : Option (List UInt8)) : Prop where
  bx : Blk w w0.heap.size cells 26
  strs : Strs w (.slice base rn cap) gs.flatten
  fr : Fr (fun k => ¬ k ≤ w0.heap.size) w0 w
  gb : Blk w g (bytesA (fileB wd tag gs)) 5
  g0 : w0.heap.size < g
  own : ∀ x, (Value.slice base rn cap).ownBlock = some x → w0.heap.size < x
  disk : DiskAt w b n c (fun x => (x ≤ w0.heap.size ∨ (Value.slice base rn cap).ownBlock = some x) ∨ x = g)
section
variable {cells : Array Value} {w0 w : World} {b n wd M tag rn cap g : Nat} {base : Option Addr} {gs : List (List (List UInt8))} {c : Option (List UInt8)}
theorem Anew.ne (h : Anew cells w0 w b n wd tag rn base cap gs g c) : ∀ x, (Value.slice base rn cap).ownBlock = some x → x ≠ g := fun x hx => by
  obtain ⟨cs, hb⟩ := h.strs.blk hx
  exact Blk.ne hb h.gb (by decide)
theorem laid_size (h : Laid cells w0 w b n wd M tag rn base cap gs) :
    Calls Tryd.prog 10 #[.pointer (some ⟨b, 0, none⟩), .string nameF] w fun r w' => r = .returned (.tuple #[.int .i64 (fileB wd tag gs).length, .int .i64 0]) ∧ Laid cells w0 w' b n wd M tag rn base cap gs := by
  refine (size_one h.disk).mono ?_
  rintro r w' ⟨rfl, hD, hF⟩
  exact ⟨rfl, hF.blk h.bx (fun hn => hn (Or.inl (Nat.le_refl _))), h.len, h.good, h.strs.keeps hF (fun k hk hn => hn (Or.inr hk)), h.own, h.fr.then (hF.mono fun k _ hn hs => hn (Or.inl hs)), hD⟩
theorem laid_read (h : Laid cells w0 w b n wd M tag rn base cap gs) (hw : wd ≤ 256) (hr : rn ≤ 262144) :
    Calls Tryd.prog 11 #[.pointer (some ⟨b, 0, none⟩), .string nameF, .int .i64 0, .slice (some ⟨w.heap.size, 0, none⟩) (fileB wd tag gs).length (fileB wd tag gs).length] (w.alloc (.cells (bytesA (List.replicate (fileB wd tag gs).length 0)) 5))
      fun r w' => r = .returned (.tuple #[.int .i64 (fileB wd tag gs).length, .int .i64 0]) ∧ Anew cells w0 w' b n wd tag rn base cap gs w.heap.size (some (fileB wd tag gs)) := by
  obtain ⟨hl1, hl2, -⟩ := fileB_len (tag := tag) h.good hw (by rw [h.len]; exact hr)
  have hsz := h.fr.size
  have hlt : w0.heap.size < w.heap.size := by
    have := h.disk.lt (k := w0.heap.size) (Or.inl (Nat.le_refl _))
    exact this
  have hD : DiskAt (w.alloc (.cells (bytesA (List.replicate (fileB wd tag gs).length 0)) 5)) b n (some (fileB wd tag gs)) (fun x => (x ≤ w0.heap.size ∨ (Value.slice base rn cap).ownBlock = some x) ∨ x = w.heap.size) :=
    h.disk.more ((Fr.refl _ w).alloc _) (fun k hk => by
      rcases hk with hk | hk
      · exact Or.inl hk
      · right; subst hk; simp)
  have hS := (h.strs.keeps ((Fr.refl (fun _ => False) w).alloc (.cells (bytesA (List.replicate (fileB wd tag gs).length 0)) 5)) (fun _ _ h => h))
  have hne : ∀ x, (Value.slice base rn cap).ownBlock = some x → x ≠ w.heap.size := fun x hx => by
    obtain ⟨cs, hb⟩ := h.strs.blk hx
    have := hb.lt
    omega
  refine (readat_one hD (by omega) 0 w.heap.size 0 (fileB wd tag gs).length (fileB wd tag gs).length (by omega) (by omega) (List.replicate (fileB wd tag gs).length 0) 5 (Or.inr rfl) (by simp) (Blk.new' rfl)).mono ?_
  rintro r w' ⟨rfl, hD2, hF2, hB2⟩
  rw [splB_all] at hB2
  refine ⟨rfl, hF2.blk (h.bx.alloc _) (fun hn => hn.elim (fun hn => hn (Or.inl (Or.inl (Nat.le_refl _)))) (fun hn => by omega)), hS.keeps hF2 ?_, ?_, hB2, hlt, h.own, hD2⟩
  · rintro k hk (hn | hn)
    · exact hn (Or.inl (Or.inr hk))
    · exact hne k hk hn
  · refine Fr.trans (h.fr.alloc _) hF2 ?_
    rintro k hk (hn | hn) hs
    · exact hn (Or.inl (Or.inl hs))
    · omega
theorem anew_frame (h : Anew cells w0 w b n wd tag rn base cap gs g c) {w' : World} (hF : Fr (fun x => ¬ ((x ≤ w0.heap.size ∨ (Value.slice base rn cap).ownBlock = some x) ∨ x = g)) w w') {n' : Nat} {c' : Option (List UInt8)}
    (hD : DiskAt w' b n' c' (fun x => (x ≤ w0.heap.size ∨ (Value.slice base rn cap).ownBlock = some x) ∨ x = g)) : Anew cells w0 w' b n' wd tag rn base cap gs g c' :=
  ⟨hF.blk h.bx (fun hn => hn (Or.inl (Or.inl (Nat.le_refl _)))), h.strs.keeps hF (fun k hk hn => hn (Or.inl (Or.inr hk))), h.fr.then (hF.mono fun k _ hn hs => hn (Or.inl (Or.inl hs))), hF.blk h.gb (fun hn => hn (Or.inr rfl)), h.g0, h.own, hD⟩
theorem anew_remove {bs : List UInt8} (h : Anew cells w0 w b n wd tag rn base cap gs g (some bs)) (hn : n ≤ 1000) :
    Calls Tryd.prog 12 #[.pointer (some ⟨b, 0, none⟩), .string nameF] w fun r w' => r = .returned (.int .i64 0) ∧ Anew cells w0 w' b (n + 1) wd tag rn base cap gs g none := by
  refine (remove_one h.disk hn).mono ?_
  rintro r w' ⟨rfl, hD, hF⟩
  exact ⟨rfl, anew_frame h hF hD⟩
theorem anew_create (h : Anew cells w0 w b n wd tag rn base cap gs g none) (hn : n ≤ 1000) :
    Calls Tryd.prog 13 #[.pointer (some ⟨b, 0, none⟩), .string nameF] w fun r w' => r = .returned (.int .i64 0) ∧ Anew cells w0 w' b (n + 1) wd tag rn base cap gs g (some []) := by
  refine (create_one h.disk hn).mono ?_
  rintro r w' ⟨rfl, hD, hF⟩
  exact ⟨rfl, anew_frame h hF hD⟩
/-- With the bytes to be laid in a block. -/
structure Ready (cells : Array Value) (w0 w : World) (b n rn : Nat) (base : Option Addr) (cap : Nat) (gs : List (List (List UInt8))) (g : Nat) (l : List UInt8) (c : List UInt8) (S : Nat → Prop) : Prop where
  bx : Blk w w0.heap.size cells 26
  strs : Strs w (.slice base rn cap) gs.flatten
  fr : Fr (fun k => ¬ k ≤ w0.heap.size) w0 w
  data : ∃ cs, Blk w g cs 5 ∧ (cs.toList.drop 0).take l.length = l.map bv
  disk : DiskAt w b n (some c) S
  low : ∀ k, k ≤ w0.heap.size → S k
  own : ∀ x, (Value.slice base rn cap).ownBlock = some x → S x
  sg : S g
theorem ready_of (h : Anew cells w0 w b n wd tag rn base cap gs g (some [])) {m hc : Nat} {l : List UInt8} {a : Option Addr} (hm : m ≤ (fileB wd tag gs).length) (hb : (fileB wd tag gs).length ≤ 1073741824) (hl : l.length ≤ 65536) (hc1 : l.length ≤ hc) (hc0 : a = none → hc = 0) (hn : a = none → l = [])
    (hx : ∀ b, a = some b → ∀ j u, (l.map bv)[j]? = some u → b.block < w0.heap.size ∧ w0.cell? (b.add j) = some u) :
    ∃ g' cap' w' S, (Builtin.append_ #[27, 27] 27 #[.slice (some ⟨g, 0, none⟩) m m, .slice a l.length hc]).run Tryd.prog w = .ok (.slice (some ⟨g', 0, none⟩) (m + l.length) cap') w' ∧
      Ready cells w0 w' b n rn base cap gs g' ((fileB wd tag gs).take m ++ l) [] S := by
  have hcell : ∀ (x : Addr) (j : Nat), (x.add j).block = x.block := fun x j => by unfold Addr.add; split <;> rfl
  obtain ⟨g', cap', cs, w', hrun, hB, hcs, hF, hg'⟩ := add_behind (a := a) (c := hc) h.gb hm hb hl hc1 hc0 (fun x hxa j u hu => by
    obtain ⟨h1, h2⟩ := hx x hxa j u hu
    exact (h.fr.cell (p := x.add j) (by rw [hcell]; exact h1) (by rw [hcell]; omega)).trans h2) hn
  have hlb := hB.lt
  refine ⟨g', cap', w', (fun x => ((x ≤ w0.heap.size ∨ (Value.slice base rn cap).ownBlock = some x) ∨ x = g) ∨ x = g'), hrun, hF.blk h.bx (fun e => by have := h.g0; omega), ?_, ?_, ⟨cs, hB, ?_⟩, ?_, fun k hk => Or.inl (Or.inl (Or.inl hk)), fun x hx => Or.inl (Or.inl (Or.inr hx)), Or.inr rfl⟩
  · exact h.strs.keeps hF (fun k hk => h.ne k hk)
  · refine Fr.trans h.fr hF ?_
    intro k hk e hs
    have := h.g0
    omega
  · rw [List.length_append, List.length_take, Nat.min_eq_left hm]; exact hcs
  · refine h.disk.grow hF (fun k _ e => Or.inr e) ?_
    rintro k (hk | hk)
    · exact Or.inl hk
    · rcases hg' with e | e
      · exact Or.inl (Or.inr (hk.trans e))
      · right; omega
theorem ready_append {l : List UInt8} {S : Nat → Prop} (h : Ready cells w0 w b n rn base cap gs g l [] S) (m : Nat) (hm : l.length = m) (hl : m ≤ 1073741824) (cap' : Nat) :
    Calls Tryd.prog 14 #[.pointer (some ⟨b, 0, none⟩), .string nameF, .slice (some ⟨g, 0, none⟩) m cap'] w fun r w' => r = .returned (.int .i64 0) ∧ Ready cells w0 w' b n rn base cap gs g l l S := by
  obtain ⟨cs, hB, hcs⟩ := h.data
  refine (append_len h.disk g 0 m cap' l hm (by simpa using hl) cs 5 h.sg (by rw [← hm]; exact hcs) hB).mono ?_
  rintro r w' ⟨rfl, hD, hF⟩
  exact ⟨rfl, hF.blk h.bx (fun hn => hn (h.low _ (Nat.le_refl _))), h.strs.keeps hF (fun k hk hn => hn (h.own k hk)), h.fr.then (hF.mono fun k _ hn hs => hn (h.low k hs)), ⟨cs, hF.blk hB (fun hn => hn h.sg), hcs⟩, by simpa using hD, h.low, h.own, h.sg⟩
/-- What a told comes to then. -/
def ToldW (w0 : World) (rn : Nat) (base : Option Addr) (cap : Nat) (gs : List (List (List UInt8))) (rd : List (List UInt8) × Bool) (r : Ending) (w : World) : Prop :=
  ∃ base' gn cap' rp code, r = .returned (.tuple #[.slice base' gn cap', .pointer rp, .int .i64 code]) ∧ rd.1.length = gn ∧ Strs w (.slice base' gn cap') rd.1 ∧ (code = 0 ↔ rd.2 = true) ∧ Fr (fun k => ¬ k ≤ w0.heap.size) w0 w ∧
    Strs w (.slice base rn cap) gs.flatten ∧ ((rp = none ∧ rd.2 = false ∧ rd.1 = []) ∨ ∃ rb, rp = some ⟨rb, 0, none⟩ ∧ RdOver w rb rd.2 code)
theorem ready_told {l l' : List UInt8} {S : Nat → Prop} (h : Ready cells w0 w b n rn base cap gs g l l' S) (W Wr Rd : Int) (cuts recs : Value) (hsl : l'.length ≤ 2147483648) (ht : tag < 18446744073709551616) (hst : 1 < w0.heap.size) (hS : Steps w0) :
    Calls Tryd.prog 15 #[layV W (tag : Int) Wr Rd cuts recs, .pointer (some ⟨b, 0, none⟩)] w (ToldW w0 rn base cap gs (readR l' (bOf W Wr Rd) (wdOf W) tag)) := by
  refine (told_any S b n tag W Wr Rd cuts recs l' hsl ht (h.low _ (by omega)) w (hS.kept h.fr (by omega)) h.disk).mono ?_
  intro r w' hT
  obtain ⟨b1, c1, rp, code, h1, h2, h3, h4, h5⟩ := hT.is
  exact ⟨b1, _, c1, rp, code, h1, rfl, h2, h3, h.fr.then (h4.mono fun k _ hn hs => hn (h.low k hs)), h.strs.keeps h4 (fun k hk hn => hn (h.own k hk)), h5⟩
end
end Go.Proofs.YtcefockebphbaaaDoor

namespace Go.Proofs.YtcefockebphbaaaDoor
open Go Go.RowKit Sluice

/-- What is asked of a Lay's slices. -/
structure LayArgs (w : World) (ra ca : Option Addr) (rn cn : Nat) (f : Nat → ByteArray) (c : Nat → Bool) : Prop where
  recs : Texts w (fun k => k < w.heap.size) ra rn f
  cuts : Bools w (fun k => k < w.heap.size) ca cn c
  cn : cn ≤ maxLen

theorem cut_plain {wd M B tag mm : Nat} {gs : List (List (List UInt8))} {l : List UInt8} (hMB : M * wd ≤ B) (hB : 12 ≤ B) (hM2 : M * wd ≤ 1048576) (hM : M ≤ 1048576) (hw : wd ≤ 256) (ht : tag < 18446744073709551616) (hn : gs.length ≤ 262144) (hf : gs.flatten.length ≤ 262144) (hg : GoodGroups wd M gs) :
    (mm = (fileB wd tag gs).length → l = [] → readR ((fileB wd tag gs).take mm ++ l) B wd tag = (gs.flatten, true)) ∧ (mm = (fileB wd tag gs).length → l ≠ [] → readR ((fileB wd tag gs).take mm ++ l) B wd tag = (gs.flatten, false)) ∧
      (mm < (fileB wd tag gs).length → l = [] → (readR ((fileB wd tag gs).take mm ++ l) B wd tag).2 = false ∧ (readR ((fileB wd tag gs).take mm ++ l) B wd tag).1 <+: gs.flatten) := by
  have hb := fun post => read_behind (tag := tag) hMB hB hM2 hM (by omega) (by omega) (gs := gs) (by omega) (by omega) hg post
  refine ⟨fun h1 h2 => ?_, fun h1 h2 => ?_, fun h1 h2 => ?_⟩
  · obtain ⟨b1, b2⟩ := hb l
    rw [h1, List.take_length]
    unfold readR
    rw [if_pos b1, b2, h2]
    rfl
  · obtain ⟨b1, b2⟩ := hb l
    rw [h1, List.take_length]
    unfold readR
    rw [if_pos b1, b2, decide_eq_false h2]
  · rw [h2, List.append_nil]
    exact read_cut hMB hB hM2 hM (by omega) hg h1

attribute [local irreducible] readR tells openR

set_option maxHeartbeats 8000000 in
set_option maxRecDepth 100000 in
theorem cut_walk (W Wr Rd keep : Int) (tag rn rc cn cc hc : Nat) (ra ca a : Option Addr) (f : Nat → ByteArray) (c : Nat → Bool) (l : List UInt8) (w : World) (ht : tag < 18446744073709551616) (hS : Steps w) (hA : LayArgs w ra ca rn cn f c)
    (hc1 : l.length ≤ hc) (hc0 : a = none → hc = 0) (hx : ∀ b, a = some b → ∀ j u, (l.map bv)[j]? = some u → b.block < w.heap.size ∧ w.cell? (b.add j) = some u) :
    Calls Tryd.prog 3 #[layV W (tag : Int) Wr Rd (.slice ca cn cc) (.slice ra rn rc), .int .i64 keep, .slice a l.length hc] w fun r w' => r = .returned (.bool true) ∧ Keeps w w' := by
  obtain ⟨hw1, hw2⟩ := wdOf_le W
  obtain ⟨ha1, ha3, ha2⟩ := aOf_le W Wr
  obtain ⟨hb1, hb2⟩ := bOf_le W Wr Rd
  have hcn := hA.cn
  have HMu := Lib.hid (much_any W (tag : Int) Wr Rd (.slice ca cn cc) ra rn rc)
  have HA := Lib.hid hA
  have HS := Lib.hid hS
  have HX := Lib.hid hx
  have HC0 := Lib.hid hc0
  have HC1 := Lib.hid hc1
  unfold maxLen at hcn
  clear hA hS hx hc0 hc1
  obtain ⟨ln, hln⟩ : ∃ ln, ln = l.length := ⟨_, rfl⟩
  rw [← hln]
  have HLn := Lib.hid hln
  clear hln
  have HL := Lib.hid (fun b n w S hn hrn ss hS hD hr hc => laylay_any S b n tag rn rc cn cc W Wr Rd ra ca f c hn ht hrn HA.out.cn ss w hS hD hr hc)
  have HT := Lib.hid (fun (cells : Array Value) (w0 w : World) b n base cap gs g (l' : List UInt8) S h hsl hst hS => ready_told (tag := tag) (cells := cells) (w0 := w0) (w := w) (b := b) (n := n) (rn := rn) (base := base) (cap := cap) (gs := gs) (g := g) (l := l') (l' := l') (S := S) h W Wr Rd (.slice ca cn cc) (.slice ra rn rc) hsl ht hst hS)
  unfold layV at *
  by_cases hmuch : 262144 < rn
  · have hmd : decide (262144 < rn) = true := by simp; omega
    rw [hmd] at HMu
    go_enter Tryd.func3, Tryd.ntmps3
    go_wp2_with (first
      | ((go_at_call 6); (refine (HMu.out _).mono ?_); (rintro r w0 ⟨rfl, hk0⟩))
      | fail)
    go_ret
    exact ⟨rfl, Fr.keeps ((Fr.refl _ _).alloc _) hk0⟩
  · have hmd : decide (262144 < rn) = false := by simp; omega
    rw [hmd] at HMu
    by_cases hlong : 65536 < ln
    · have hl1 : ((65536 : Int) < (ln : Int)) := by omega
      go_enter Tryd.func3, Tryd.ntmps3
      go_wp2_with (first
        | ((go_at_call 6); (refine (HMu.out _).mono ?_); (rintro r w0 ⟨rfl, hk0⟩))
        | fail)
      go_ret
      exact ⟨rfl, Fr.keeps ((Fr.refl _ _).alloc _) hk0⟩
    · have hl1 : ¬ ((65536 : Int) < (ln : Int)) := by omega
      go_enter Tryd.func3, Tryd.ntmps3
      go_upto_region 7 with (first
        | ((go_at_call 6); (refine (HMu.out _).mono ?_); (rintro r w0 ⟨rfl, hk0⟩); (have hB0 : Blk w0 w.heap.size #[.int .i64 W, .int .u64 (tag : Int), .int .i64 Wr, .int .i64 Rd, .slice ca cn cc, .slice ra rn rc] 26 := hk0.blk (Blk.new' rfl) (fun h => h)); (have hK0 : Keeps w w0 := Fr.keeps ((Fr.refl _ w).alloc _) hk0); (have hlt0 := hB0.lt); (clear hk0))
        | ((go_at_call 7); (refine (new_disk (fun k => k ≤ w.heap.size) w0 (fun k hk => by omega)).mono ?_); (rintro r w1 ⟨b, rfl, hD1, hk1⟩); (have hB1 := hk1.blk hB0 (fun h => h)); (have hK1 : Keeps w w1 := hK0.keeps hk1); (have hlt1 := hB1.lt); (have hbx1 := hB1.cell))
        | ((go_at_call 8); (refine (num_any 0 (by omega) (by omega) _).mono ?_); (rintro r wn ⟨rfl, rfl⟩))
        | ((go_at_call 9); (refine (HL.out b 0 w1 (fun k => k ≤ w.heap.size) (by omega) (by omega) (Nat.le_of_lt HS.out.1) (HS.out.kept hK1 (fun h => h)) hD1 (HA.out.recs.mono hK1 (fun k hk => Nat.le_of_lt hk)) (HA.out.cuts.mono hK1 (fun k hk => Nat.le_of_lt hk))).mono ?_); (rintro r w2 ⟨v, rfl, hL2⟩); (obtain ⟨base, cap, gs, rfl, hL3⟩ := laid_of hK1 hlt1 hB1 hL2); (clear hL2))
        | fail)
      have hfl := fileB_len (tag := tag) hL3.good hw2 (by rw [hL3.len]; omega)
      have hpl := fun mm => cut_plain (M := (aOf W Wr - 24) / wdOf W) (B := bOf W Wr Rd) (tag := tag) (mm := mm) (l := l) (by have := Nat.div_mul_le_self (aOf W Wr - 24) (wdOf W); omega) (by omega) (by have := Nat.div_mul_le_self (aOf W Wr - 24) (wdOf W); omega) (by have := Nat.div_le_self (aOf W Wr - 24) (wdOf W); omega) hw2 ht hfl.2.2 (by rw [hL3.len]; omega) hL3.good
      have hsize := laid_size hL3
      obtain ⟨n, hn⟩ : ∃ n, (fileB (wdOf W) tag gs).length = n := ⟨_, rfl⟩
      simp only [hn] at hfl hsize hpl
      obtain ⟨mm, hmm⟩ : ∃ mm : Nat, min (max keep 0) (n : Int) = (mm : Int) := ⟨(min (max keep 0) (n : Int)).toNat, by omega⟩
      have hmn : mm ≤ n := by omega
      have hmn2 : (mm : Int) ≤ (n : Int) := by omega
      have hmk := fun w => run_make_one (P := Tryd.prog) w 27 5 (.int .u8 0) 1 Tryd.underlying27 info_u8 rfl .i64 .i64 n (by omega) (by omega)
      have hrw : Array.replicate n (.int .u8 0) = bytesA (List.replicate n 0) := by simp [bytesA_replicate, bv]
      rw [hrw] at hmk
      have HN := Lib.hid hn
      have HSz := Lib.hid hsize
      have HPl := Lib.hid (hpl mm)
      have HLen := Lib.hid hL3.len
      have HL3 := Lib.hid hL3
      clear hn hsize hpl hL3 hrw hbx1 hB1 hB0 hK0 hK1 hk1 hD1
      go_upto_region 15 with (first
        | ((go_at_call 10); (refine HSz.out.mono ?_); (rintro r w3 ⟨rfl, hL4⟩); (have hmk3 := hmk w3); (have hrd := laid_read hL4 hw2 (by omega)); (simp only [HN.out] at hrd); (have HRd := Lib.hid hrd); (clear hrd hL4))
        | ((go_at_call 8); (refine (num_any 0 (by omega) (by omega) _).mono ?_); (rintro r wn ⟨rfl, rfl⟩))
        | ((go_at_call 11); (refine HRd.out.mono ?_); (rintro r w4 ⟨rfl, hA4⟩); (have HA4 := Lib.hid hA4); (clear hA4))
        | ((go_at_call 12); (refine (anew_remove HA4.out (by omega)).mono ?_); (rintro r w5 ⟨rfl, hA5⟩); (have HA5 := Lib.hid hA5); (clear hA5))
        | ((go_at_call 13); (refine (anew_create HA5.out (by omega)).mono ?_); (rintro r w6 ⟨rfl, hA6⟩); (have HA6 := Lib.hid hA6); (clear hA6))
        | fail)
      obtain ⟨g', cap', w7, S, hrun, hR7⟩ := ready_of HA6.out (m := mm) (hc := hc) (l := l) (a := a) (by rw [HN.out]; exact hmn) (by rw [HN.out]; omega) (by rw [← HLn.out]; omega) HC1.out HC0.out (fun e => List.eq_nil_of_length_eq_zero (by have := HC0.out e; have := HC1.out; omega)) HX.out
      rw [← HLn.out] at hrun
      have hbl : ((fileB (wdOf W) tag gs).take mm ++ l).length = mm + ln := by rw [List.length_append, List.length_take, HN.out, HLn.out]; omega
      have HR7 := Lib.hid hR7
      have HRun := Lib.hid hrun
      have HBl := Lib.hid hbl
      clear hrun hR7 hbl
      have hmm2 : (if (n : Int) < (if keep < 0 then 0 else keep) then (n : Int) else if keep < 0 then 0 else keep) = (mm : Int) := by (repeat' split) <;> omega
      rewrite [hmm2]
      go_upto_region 19 with (first
        | ((at_builtin); (refine wpList_append_run rfl _ _ 27 rfl _ _ _ w7 rfl rfl HRun.out ?_))
        | ((go_at_call 14); (refine (ready_append HR7.out (mm + ln) HBl.out (by omega) cap').mono ?_); (rintro r w8 ⟨rfl, hR8⟩); (have hbx8 := hR8.bx.cell); (have HR8 := Lib.hid hR8); (clear hR8))
        | ((go_at_call 8); (refine (num_any 0 (by omega) (by omega) _).mono ?_); (rintro r wn ⟨rfl, rfl⟩))
        | ((go_at_call 15); (refine (HT.out _ w w8 b 3 base cap gs g' _ S HR8.out (by rw [HBl.out]; omega) HS.out.1 HS.out).mono ?_); (rintro r w9 ⟨base', gn, capx, rp, code, rfl, hgn, hst9, hcode, hF9, hW9, hrp⟩); (have HSt9 := Lib.hid hst9); (have HW9 := Lib.hid hW9); (have HF9 := Lib.hid hF9); (have HRp := Lib.hid hrp); (have HCode := Lib.hid hcode); (have HGn := Lib.hid hgn); (clear hst9 hW9 hF9 hrp hcode hgn hbx8))
        | fail)
      have hfin : ∀ w10, Keeps w9 w10 → Keeps w w10 := fun w10 hk => Fr.trans HF9.out hk (fun _ _ h => h.elim) |>.mono (fun k hk hn => hn (Nat.le_of_lt hk))
      have HFin := Lib.hid hfin
      clear hfin
      have hpl := HPl.out
      generalize readR ((fileB (wdOf W) tag gs).take mm ++ l) (bOf W Wr Rd) (wdOf W) tag = rd at hpl HSt9 HCode HRp HGn
      have HBg := Lib.hid (begins_any (.slice base' gn capx) (.slice base rn cap) rd.1 gs.flatten w9 HSt9.out HW9.out)
      by_cases hmn3 : mm = n
      · by_cases hl0 : ln = 0
        · have hle : l = [] := List.eq_nil_of_length_eq_zero (by have := HLn.out; omega)
          have hrd := hpl.1 hmn3 hle
          have hg := HGn.out
          have hpre : rd.1.isPrefixOf gs.flatten = true := by rw [hrd, List.isPrefixOf_iff_prefix]; exact List.prefix_refl _
          rw [hpre] at HBg
          have hgr : gn = rn := by rw [← hg, hrd]; exact HLen.out
          rcases HRp.out with ⟨-, h2, -⟩ | ⟨rb, hrb, hro⟩
          · rw [hrd] at h2; cases h2
          · have hrd2 : rd.2 = true := by rw [hrd]
            rw [hrd2] at hro
            have HRo := Lib.hid hro
            clear hro hpl hg hrd hpre hrd2
            subst hrb
            have hq1 : ((mm : Int) == (n : Int)) = true := by rw [hmn3]; simp
            have hq2 : (mm : Int) = (n : Int) := by omega
            have hq3 : ((ln : Int) == 0) = true := by rw [hl0]; rfl
            subst hgr
            go_wp2_with (first
            | ((go_at_call 16); (refine HBg.out.mono ?_); (rintro r w10 ⟨rfl, hk10⟩))
            | ((go_at_call 17); (refine (done_over (HRo.out.keeps hk10)).mono ?_); (rintro r wn ⟨rfl, rfl⟩))
            | fail)
            all_goals go_ret
            all_goals exact ⟨ret_bool (by simp), HFin.out _ hk10⟩
        · have hle : l ≠ [] := fun e => hl0 (by rw [HLn.out, e]; rfl)
          have hrd := hpl.2.1 hmn3 hle
          have hpre : rd.1.isPrefixOf gs.flatten = true := by rw [hrd, List.isPrefixOf_iff_prefix]; exact List.prefix_refl _
          have hrd2 : rd.2 = false := by rw [hrd]
          rw [hpre] at HBg
          have hcne : ¬ code = 0 := fun e => by have := HCode.out.1 e; rw [hrd2] at this; cases this
          have hcne2 : (code == 0) = false := by simpa using hcne
          have hq1 : ((mm : Int) == (n : Int)) = true := by rw [hmn3]; simp
          have hq2 : (mm : Int) = (n : Int) := by omega
          have hq3 : ((ln : Int) == 0) = false := by simpa using hl0
          have hq4 : ¬ ((mm : Int) < (n : Int)) := by omega
          have hq6 : ¬ (ln : Int) = 0 := by omega
          rcases HRp.out with ⟨hrp, -, -⟩ | ⟨rb, hrb, hro⟩
          · subst hrp
            clear hpl hrd hpre hrd2
            go_wp2_with (first
            | ((go_at_call 16); (refine HBg.out.mono ?_); (rintro r w10 ⟨rfl, hk10⟩))
            | ((go_at_call 17); (refine (done_over (HRo.out.keeps hk10)).mono ?_); (rintro r wn ⟨rfl, rfl⟩))
            | fail)
            all_goals go_ret
            all_goals exact ⟨ret_bool (by simp [hcne]), HFin.out _ hk10⟩
          · rw [hrd2] at hro
            have HRo := Lib.hid hro
            clear hro hpl hrd hpre hrd2
            subst hrb
            go_wp2_with (first
            | ((go_at_call 16); (refine HBg.out.mono ?_); (rintro r w10 ⟨rfl, hk10⟩))
            | ((go_at_call 17); (refine (done_over (HRo.out.keeps hk10)).mono ?_); (rintro r wn ⟨rfl, rfl⟩))
            | fail)
            all_goals go_ret
            all_goals exact ⟨ret_bool (by simp [hcne]), HFin.out _ hk10⟩
      · have hq1 : ((mm : Int) == (n : Int)) = false := by simp; omega
        have hq2 : ¬ (mm : Int) = (n : Int) := by omega
        have hq4 : ((mm : Int) < (n : Int)) := by omega
        by_cases hl0 : ln = 0
        · have hle : l = [] := List.eq_nil_of_length_eq_zero (by have := HLn.out; omega)
          obtain ⟨hrd2, hpr⟩ := hpl.2.2 (by omega) hle
          have hpre : rd.1.isPrefixOf gs.flatten = true := by rw [List.isPrefixOf_iff_prefix]; exact hpr
          rw [hpre] at HBg
          have hcne : ¬ code = 0 := fun e => by have := HCode.out.1 e; rw [hrd2] at this; cases this
          have hcne2 : (code == 0) = false := by simpa using hcne
          have hq6 : ¬ (0 : Int) < (ln : Int) := by omega
          have hq3 : ((ln : Int) == 0) = true := by rw [hl0]; rfl
          rcases HRp.out with ⟨hrp, -, -⟩ | ⟨rb, hrb, hro⟩
          · subst hrp
            clear hpl hpr hpre hrd2
            go_wp2_with (first
            | ((go_at_call 16); (refine HBg.out.mono ?_); (rintro r w10 ⟨rfl, hk10⟩))
            | ((go_at_call 17); (refine (done_over (HRo.out.keeps hk10)).mono ?_); (rintro r wn ⟨rfl, rfl⟩))
            | fail)
            all_goals go_ret
            all_goals exact ⟨ret_bool (by simp [hcne]), HFin.out _ hk10⟩
          · rw [hrd2] at hro
            have HRo := Lib.hid hro
            clear hro hpl hpr hpre hrd2
            subst hrb
            go_wp2_with (first
            | ((go_at_call 16); (refine HBg.out.mono ?_); (rintro r w10 ⟨rfl, hk10⟩))
            | ((go_at_call 17); (refine (done_over (HRo.out.keeps hk10)).mono ?_); (rintro r wn ⟨rfl, rfl⟩))
            | fail)
            all_goals go_ret
            all_goals exact ⟨ret_bool (by simp [hcne]), HFin.out _ hk10⟩
        · have hq6 : (0 : Int) < (ln : Int) := by omega
          have hq3 : ((ln : Int) == 0) = false := by simpa using hl0
          clear hpl
          go_wp2_with (first
            | ((go_at_call 16); (refine HBg.out.mono ?_); (rintro r w10 ⟨rfl, hk10⟩))
            | fail)
          all_goals go_ret
          all_goals exact ⟨rfl, HFin.out _ hk10⟩
end Go.Proofs.YtcefockebphbaaaDoor

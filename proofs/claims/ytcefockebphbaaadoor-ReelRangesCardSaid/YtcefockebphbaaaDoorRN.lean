/- ReelRanges: the Reader opened, between two ranges, and in one. -/
import Derived.Test.YtcefockebphbaaaDoorGC
import Derived.Test.YtcefockebphbaaaDoorRA
set_option linter.unusedVariables false
set_option linter.unusedSimpArgs false
set_option linter.unnecessarySimpa false
namespace Go.Proofs.YtcefockebphbaaaDoor
open Go Go.RowKit Sluice

attribute [local irreducible] openR tells readR

section
variable {w w' : World} {O O' : Nat → Prop} {n b p q g B fw tag rb told : Nat} {bs : List UInt8} {rest : List (List UInt8) × Bool} {over : Bool}
theorem rdSt_turn (h : RdSt w O n b p q g B fw tag rb bs rest told over) {m x : Nat} (hm : rb < m ∧ p < m ∧ q < m ∧ g < m ∧ 1 < m) (hx : m ≤ x) (hO : O x) (hf : Fr (· = x) w w') : RdSt w' O n b p q g B fw tag rb bs rest told over :=
  rdSt_more h hf (fun k _ (e : k = x) => by rw [e]; exact hO) (fun (e : rb = x) => by omega) (fun (e : p = x) => by omega) (fun (e : q = x) => by omega) (fun (e : 1 = x) => by omega) (fun (e : g = x) => by omega) (fun _ h => Or.inl h)
theorem rdSt_keeps (h : RdSt w O n b p q g B fw tag rb bs rest told over) (hk : Keeps w w') (hs : ∀ k, O' k → O k ∨ (w.heap.size ≤ k ∧ k < w'.heap.size)) : RdSt w' O' n b p q g B fw tag rb bs rest told over :=
  rdSt_more h hk (fun _ _ h => h.elim) (fun h => h) (fun h => h) (fun h => h) (fun h => h) (fun h => h) hs
theorem rdSt_told (h : RdSt w O n b p q g B fw tag rb bs rest told over) : w.cell? ⟨rb, 18, none⟩ = some (.int .i64 (told : Int)) ∧ w.frozen? ⟨rb, 18, none⟩ = false ∧ rb < w.heap.size ∧ g < w.heap.size := by
  obtain ⟨at_, seq, body, recs, sum, code, done, left, buf, ls, hA, -⟩ := h
  refine ⟨?_, hA.cells.free 18, hA.cells.lt, hA.mem.lt⟩
  rw [hA.cells.cell]
  rfl
theorem rdSt_forms (h : RdSt w O n b p q g B fw tag rb bs rest told over) : p < w.heap.size ∧ q < w.heap.size ∧ FormBoxes w p q ∧ Steps w := by
  obtain ⟨at_, seq, body, recs, sum, code, done, left, buf, ls, hA, -⟩ := h
  exact ⟨hA.forms.1.lt, hA.forms.2.lt, hA.forms, hA.steps⟩
theorem rdSt_end (h : RdSt w O n b p q g B fw tag rb bs ([], true) told true) : RdOver w rb true 0 := by
  obtain ⟨at_, seq, body, recs, sum, code, done, left, buf, ls, hA, hL, hw, ho⟩ := h
  simp only [if_true] at ho
  obtain ⟨-, h2, h3, -⟩ := ho
  have hd : done = true := ((Prod.mk.injEq _ _ _ _).mp h2).2.symm
  subst hd
  have hc : code = 0 := h3.2 rfl
  subst hc
  exact ⟨_, _, _, _, _, _, _, _, _, _, _, _, _, _, _, _, _, hA.cells⟩
end

/-- What stays while a law ranges: all but the disk, the Reader, its buffer, and what the law itself turns. -/
def Free (O : Nat → Prop) (g rb k14 k16 l : Nat) : Nat → Prop := fun k => (¬ O k ∨ k = g ∨ k = rb) ∨ k = k14 ∨ k = k16 ∨ k = l
structure RanK (O : Nat → Prop) (g rb p q B wd m k14 k16 l : Nat) : Prop where
  k : RdK O g rb p q B wd
  big : rb < m ∧ p < m ∧ q < m ∧ g < m ∧ 1 < m
  o14 : O k14
  o16 : O k16
  ol : O l
  m14 : m ≤ k14
  m16 : m ≤ k16
  ml : m ≤ l
  ne : k14 ≠ k16
structure RanI (wS : World) (O : Nat → Prop) (n b p q g B wd tag rb : Nat) (bs : List UInt8) (want : List (List UInt8)) (k14 k16 l : Nat) (rec : Loop) (t left told : Nat) (over : Bool) (W : World) : Prop where
  fr : Fr (Free O g rb k14 k16 l) wS W
  rd : RdSt W O n b p q g B wd tag rb bs (want.drop told, true) told over
  b14 : Blk W k14 #[.int .i64 (t : Int)] 3
  b16 : Blk W k16 #[.int .i64 (left : Int)] 3
  lp : W.heap[l]? = some (.loop rec)
section
variable {wS W : World} {O : Nat → Prop} {n b p q g B wd tag rb m k14 k16 l t left told : Nat} {bs : List UInt8} {want : List (List UInt8)} {rec : Loop} {over : Bool}
theorem RanI.drew (h : RanI wS O n b p q g B wd tag rb bs want k14 k16 l rec t left told over W) : RanI wS O n b p q g B wd tag rb bs want k14 k16 l rec t left told over W.drew :=
  ⟨h.fr.drew, rdSt_keeps h.rd ((Fr.refl _ W).drew) (fun _ h => Or.inl h), h.b14, h.b16, h.lp⟩
theorem RanI.drewN (h : RanI wS O n b p q g B wd tag rb bs want k14 k16 l rec t left told over W) (k : Nat) : RanI wS O n b p q g B wd tag rb bs want k14 k16 l rec t left told over (W.drewN k) :=
  ⟨h.fr.drewN k, rdSt_keeps h.rd ((Fr.refl _ W).drewN k) (fun _ h => Or.inl h), h.b14, h.b16, h.lp⟩
theorem RanI.neL (h : RanI wS O n b p q g B wd tag rb bs want k14 k16 l rec t left told over W) : k14 ≠ l ∧ k16 ≠ l := by
  have h1 := h.b14
  have h2 := h.b16
  have h3 := h.lp
  unfold Blk at h1 h2
  exact ⟨fun e => (by rw [e, h3] at h1; cases h1), fun e => (by rw [e, h3] at h2; cases h2)⟩
theorem RanI.loop (K : RanK O g rb p q B wd m k14 k16 l) (h : RanI wS O n b p q g B wd tag rb bs want k14 k16 l rec t left told over W) (rec' : Loop) : RanI wS O n b p q g B wd tag rb bs want k14 k16 l rec' t left told over (W.putObj l (.loop rec')) := by
  obtain ⟨n1, n2⟩ := h.neL
  have hF : Fr (· = l) W (W.putObj l (.loop rec')) := fr_putObj (Fr.refl (· = l) W) (fun _ => rfl) _
  exact ⟨h.fr.then (hF.mono fun k _ e => Or.inr (Or.inr (Or.inr e))), rdSt_turn h.rd K.big K.ml K.ol hF, hF.blk h.b14 n1, hF.blk h.b16 n2, World.putObj_heap_same (Array.getElem?_eq_some_iff.1 h.lp).1⟩
theorem RanI.set14 (K : RanK O g rb p q B wd m k14 k16 l) (h : RanI wS O n b p q g B wd tag rb bs want k14 k16 l rec t left told over W) (t' : Nat) : RanI wS O n b p q g B wd tag rb bs want k14 k16 l rec t' left told over (W.setCell ⟨k14, 0, none⟩ (.int .i64 (t' : Int))) := by
  obtain ⟨n1, n2⟩ := h.neL
  have hF : Fr (· = k14) W (W.setCell ⟨k14, 0, none⟩ (.int .i64 (t' : Int))) := Fr.setEq (Fr.refl _ W) _
  exact ⟨h.fr.then (hF.mono fun k _ e => Or.inr (Or.inl e)), rdSt_turn h.rd K.big K.m14 K.o14 hF, h.b14.set 0 _, hF.blk h.b16 (fun e => K.ne e.symm), (hF.block l (Array.getElem?_eq_some_iff.1 h.lp).1 (fun e => n1 e.symm)).trans h.lp⟩
theorem RanI.set16 (K : RanK O g rb p q B wd m k14 k16 l) (h : RanI wS O n b p q g B wd tag rb bs want k14 k16 l rec t left told over W) (t' : Nat) : RanI wS O n b p q g B wd tag rb bs want k14 k16 l rec t t' told over (W.setCell ⟨k16, 0, none⟩ (.int .i64 (t' : Int))) := by
  obtain ⟨n1, n2⟩ := h.neL
  have hF : Fr (· = k16) W (W.setCell ⟨k16, 0, none⟩ (.int .i64 (t' : Int))) := Fr.setEq (Fr.refl _ W) _
  exact ⟨h.fr.then (hF.mono fun k _ e => Or.inr (Or.inr (Or.inl e))), rdSt_turn h.rd K.big K.m16 K.o16 hF, hF.blk h.b14 K.ne, h.b16.set 0 _, (hF.block l (Array.getElem?_eq_some_iff.1 h.lp).1 (fun e => n2 e.symm)).trans h.lp⟩
theorem RanI.after (K : RanK O g rb p q B wd m k14 k16 l) (h : RanI wS O n b p q g B wd tag rb bs want k14 k16 l rec t left told over W) {W' : World} (hF : Fr (RdFr O g rb) W W') {told' : Nat} {over' : Bool} (hR : RdSt W' O n b p q g B wd tag rb bs (want.drop told', true) told' over') :
    RanI wS O n b p q g B wd tag rb bs want k14 k16 l rec t left told' over' W' := by
  have hm := K.big
  have h14 := K.m14
  have h16 := K.m16
  have hl := K.ml
  have no : ∀ k, O k → m ≤ k → ¬ RdFr O g rb k := fun k ho hk hx => hx.elim (fun hx => hx ho) (fun hx => hx.elim (fun e => by omega) (fun e => by omega))
  exact ⟨h.fr.then (hF.mono fun k _ e => Or.inl e), hR, hF.blk h.b14 (no _ K.o14 h14), hF.blk h.b16 (no _ K.o16 h16), (hF.block l (Array.getElem?_eq_some_iff.1 h.lp).1 (no _ K.ol hl)).trans h.lp⟩
theorem RanI.next (K : RanK O g rb p q B wd m k14 k16 l) (hsl : bs.length ≤ 2147483648) (htold : told ≤ 1099511627776) {x : List UInt8} (hx : want[told]? = some x) (h : RanI wS O n b p q g B wd tag rb bs want k14 k16 l rec t left told over W) :
    Calls Tryd.prog 42 #[.pointer (some ⟨rb, 0, none⟩)] W fun r W' => r = .returned (.tuple #[.string (strB x), .bool true]) ∧ RanI wS O n b p q g B wd tag rb bs want k14 k16 l rec t left (told + 1) false W' := by
  refine (next_st O n b p q g B wd tag rb K.k bs hsl _ told htold over W h.rd).mono ?_
  rintro r W' ⟨hF, hN⟩
  obtain ⟨hlt, hx⟩ := List.getElem?_eq_some_iff.1 hx
  unfold NextSt at hN
  rw [List.drop_eq_getElem_cons hlt, hx] at hN
  exact ⟨hN.1, h.after K hF hN.2.2⟩
theorem RanI.stop (K : RanK O g rb p q B wd m k14 k16 l) (hsl : bs.length ≤ 2147483648) (htold : told ≤ 1099511627776) (hx : want[told]? = none) (h : RanI wS O n b p q g B wd tag rb bs want k14 k16 l rec t left told over W) :
    Calls Tryd.prog 42 #[.pointer (some ⟨rb, 0, none⟩)] W fun r W' => r = .returned (.tuple #[.string ⟨#[]⟩, .bool false]) ∧ RanI wS O n b p q g B wd tag rb bs want k14 k16 l rec t left told true W' := by
  refine (next_st O n b p q g B wd tag rb K.k bs hsl _ told htold over W h.rd).mono ?_
  rintro r W' ⟨hF, hN⟩
  have hx := List.getElem?_eq_none_iff.1 hx
  have e : want.drop told = [] := List.drop_eq_nil_of_le hx
  unfold NextSt at hN
  rw [e] at hN
  refine ⟨hN.1, h.after K hF ?_⟩
  rw [e]
  exact hN.2
end

theorem ran_open (S : Nat → Prop) (n b B fw tag p q g : Nat) (bs : List UInt8) (hsl : bs.length ≤ 2147483648) (f1 : 1 ≤ fw) (f3 : fw ≤ 256) (b1 : 36 ≤ B) (b2 : B ≤ 1048576) (f2 : fw ≤ B) (ht : tag < 18446744073709551616)
    (ss : S 1) (w wc : World) (hS : Steps w) (hD : DiskAt w b n (some bs) S) (hkc : Keeps w wc) (hF : FormBoxes wc p q) (hp : w.heap.size ≤ p) (hq : w.heap.size ≤ q) (hg : Blk wc g (bytesA (List.replicate B 0)) 5) (hg0 : w.heap.size ≤ g) (ho : openR bs B fw tag = true) :
    Calls Tryd.prog 19 #[volV b, .string nameF, titleV 3 (fw : Int) (tag : Int), textForm (fw : Int) p q, .slice (some ⟨g, 0, none⟩) B B] wc
      fun r w' => ∃ rb, r = .returned (.tuple #[.pointer (some ⟨rb, 0, none⟩), .int .i64 0]) ∧ Fr (fun k => ¬ S k) w w' ∧ wc.heap.size ≤ rb ∧ RdK (InR S p q g rb nilV) g rb p q B fw ∧ RdSt w' (InR S p q g rb nilV) n b p q g B fw tag rb bs (tells bs B fw 36 1 0 0) 0 false := by
  have hltp := hF.1.lt
  have hltq := hF.2.lt
  have hltg := hg.lt
  have hsc := hkc.size
  have hDc : DiskAt wc b n (some bs) (fun k => S k ∨ k = p ∨ k = q ∨ k = g) := hD.more hkc (fun k hk => by
    rcases hk with h | h | h | h
    · exact Or.inl h
    · right; omega
    · right; omega
    · right; omega)
  have hs0 : ∀ k, S k → k < w.heap.size := fun k hk => hD.lt hk
  have hst2 := hs0 _ ss
  have hgs : g ≠ 1 := by intro e; rw [e] at hg0; omega
  refine (ropen_any (fun k => S k ∨ k = p ∨ k = q ∨ k = g) n b p q g B fw tag bs (List.replicate B 0) (by simp) (by omega) f1 f3 b1 b2 f2 ht (Or.inl ss) (Or.inr (Or.inr (Or.inr rfl))) (Or.inr (Or.inl rfl)) (Or.inr (Or.inr (Or.inl rfl))) hgs wc hF
    (hS.kept hkc (fun h => h)) hDc hg).mono ?_
  intro r w' hO
  unfold OpenTo at hO
  obtain ⟨hFr, hO⟩ := hO
  have hfr : Fr (fun k => ¬ S k) w w' := by
    refine Fr.trans (Fr.any hkc) hFr ?_
    rintro i hi (hx | hx) hs
    · exact hx (Or.inl hs)
    · omega
  rw [if_pos ho] at hO
  obtain ⟨rb, buf, rfl, hrb, hR⟩ := hO
  have h36 : 36 ≤ bs.length := by
    unfold openR at ho
    cases e : chunkR bs B 0 0 0 with
    | none => rw [e] at ho; cases ho
    | some x =>
      obtain ⟨kind, count, body⟩ := x
      obtain ⟨-, h2, -, h4, -, -, -, -, h9⟩ := chunkR_some e
      unfold mayP at h2
      rw [if_pos rfl] at h2
      simp only [Bool.and_eq_true, beq_iff_eq] at h2
      omega
  refine ⟨rb, rfl, hfr, hrb, ⟨Or.inl ss, ?_, ?_, ?_, ?_, hgs, ?_, b1, b2, f1, f2, f3⟩, ?_⟩
  · exact Or.inr (Or.inr (Or.inr (Or.inl rfl)))
  · exact Or.inr (Or.inr (Or.inr (Or.inr (Or.inl rfl))))
  · exact Or.inr (Or.inl rfl)
  · exact Or.inr (Or.inr (Or.inl rfl))
  · intro e; rw [e] at hrb; omega
  · refine ⟨36, 1, _, 0, 0, 0, false, _, buf, [], hR.less ?_, Or.inl ⟨rfl, _, _, rfl⟩, by simp, ?_⟩
    · rintro x (hx | hx | hx | hx | hx | hx)
      · exact Or.inl (Or.inl hx)
      · exact Or.inl (Or.inr (Or.inl hx))
      · exact Or.inl (Or.inr (Or.inr (Or.inl hx)))
      · exact Or.inl (Or.inr (Or.inr (Or.inr hx)))
      · exact Or.inr hx
      · cases hx
    · simp only [Bool.false_eq_true, if_false]
      exact ⟨trivial, trivial, by omega, by omega, h36, by omega, by simp⟩

/-- Between two ranges: i of them are over; t records are told. -/
structure RanO (wc : World) (S0 : Nat → Prop) (n b p q g B wd tag rb : Nat) (bs : List UInt8) (want : List (List UInt8)) (k14 k15 i t : Nat) (over : Bool) (O : Nat → Prop) (ds : List Deferred) (W : World) : Prop where
  fr : Fr (RdFr S0 g rb) wc W
  sub : ∀ k, S0 k → O k
  lt : ∀ k, O k → k < W.heap.size
  rd : RdSt W O n b p q g B wd tag rb bs (want.drop t, true) t over
  b14 : Blk W k14 #[.int .i64 (t : Int)] 3
  o14 : O k14
  m14 : wc.heap.size ≤ k14
  b15 : Blk W k15 #[.int .i64 (i : Int)] 3
  o15 : O k15
  m15 : wc.heap.size ≤ k15
  ne : k14 ≠ k15
  marks : Marks (fun D => O D ∧ wc.heap.size ≤ D) ds W
/-- The blocks of a range's start: the count of this range, the closure's box, the mark's, the loop's. -/
def Four (O : Nat → Prop) (W : World) : Nat → Prop := fun k => O k ∨ (W.heap.size ≤ k ∧ k < W.heap.size + 4)
def fourW (W : World) (rb : Nat) (rec : Loop) : World := (((W.alloc (.cells #[.int .i64 0] 3)).alloc (.cells #[.pointer (some ⟨rb, 0, none⟩)] 42)).alloc (.deferred (some []))).alloc (.loop rec)
theorem fourW_size (W : World) (rb : Nat) (rec : Loop) : (fourW W rb rec).heap.size = W.heap.size + 4 := by unfold fourW; simp
theorem fourW_keeps (W : World) (rb : Nat) (rec : Loop) : Keeps W (fourW W rb rec) := by unfold fourW; exact ((((Fr.refl _ W).alloc _).alloc _).alloc _).alloc _
theorem fourW_16 (W : World) (rb : Nat) (rec : Loop) : Blk (fourW W rb rec) W.heap.size #[.int .i64 0] 3 := by unfold fourW; exact (((Blk.new' rfl).alloc _).alloc _).alloc _
theorem fourW_ab (W : World) (rb : Nat) (rec : Loop) : Blk (fourW W rb rec) (W.heap.size + 1) #[.pointer (some ⟨rb, 0, none⟩)] 42 := by unfold fourW; exact ((Blk.new' (by simp)).alloc _).alloc _
theorem fourW_D (W : World) (rb : Nat) (rec : Loop) : (fourW W rb rec).heap[W.heap.size + 2]? = some (.deferred (some [])) := by
  unfold fourW
  rw [heap_alloc_lt _ _ (by simp)]
  have := heap_alloc_new ((W.alloc (.cells #[.int .i64 0] 3)).alloc (.cells #[.pointer (some ⟨rb, 0, none⟩)] 42)) (.deferred (some []))
  simpa using this
theorem fourW_l (W : World) (rb : Nat) (rec : Loop) : (fourW W rb rec).heap[W.heap.size + 3]? = some (.loop rec) := by
  unfold fourW
  have := heap_alloc_new (((W.alloc (.cells #[.int .i64 0] 3)).alloc (.cells #[.pointer (some ⟨rb, 0, none⟩)] 42)).alloc (.deferred (some []))) (.loop rec)
  simpa using this
section
variable {wc W : World} {S0 O : Nat → Prop} {n b p q g B wd tag rb k14 k15 i t : Nat} {bs : List UInt8} {want : List (List UInt8)} {over : Bool} {ds : List Deferred}
theorem ran_first (hlt : ∀ k, S0 k → k < wc.heap.size) (h : RdSt wc S0 n b p q g B wd tag rb bs (want, true) 0 over) :
    RanO wc S0 n b p q g B wd tag rb bs want wc.heap.size (wc.heap.size + 1) 0 0 over (fun k => S0 k ∨ k = wc.heap.size ∨ k = wc.heap.size + 1) [] ((wc.alloc (.cells #[.int .i64 0] 3)).alloc (.cells #[.int .i64 0] 3)) := by
  refine ⟨((Fr.refl _ wc).alloc _).alloc _, fun k hk => Or.inl hk, ?_, rdSt_keeps h (((Fr.refl _ wc).alloc _).alloc _) ?_, (Blk.new' rfl).alloc _, Or.inr (Or.inl rfl), Nat.le_refl _, Blk.new' (by simp), Or.inr (Or.inr rfl), by omega, by omega, trivial⟩
  · rintro k (hk | hk | hk)
    · have := hlt k hk; simp; omega
    · simp; omega
    · simp; omega
  · rintro k (hk | hk | hk)
    · exact Or.inl hk
    · right; simp; omega
    · right; simp; omega
theorem RanO.kk (K : RdK S0 g rb p q B wd) (hm : rb < wc.heap.size ∧ p < wc.heap.size ∧ q < wc.heap.size ∧ g < wc.heap.size ∧ 1 < wc.heap.size) (h : RanO wc S0 n b p q g B wd tag rb bs want k14 k15 i t over O ds W) :
    RanK (Four O W) g rb p q B wd wc.heap.size k14 W.heap.size (W.heap.size + 3) := by
  have hs := h.fr.size
  have h14 := h.b14.lt
  exact ⟨K.more (fun k hk => Or.inl (h.sub k hk)), hm, Or.inl h.o14, Or.inr ⟨Nat.le_refl _, by omega⟩, Or.inr ⟨by omega, by omega⟩, h.m14, by omega, by omega, by omega⟩
theorem RanO.start (h : RanO wc S0 n b p q g B wd tag rb bs want k14 k15 i t over O ds W) (rec : Loop) :
    RanI (fourW W rb rec) (Four O W) n b p q g B wd tag rb bs want k14 W.heap.size (W.heap.size + 3) rec t 0 t over (fourW W rb rec) := by
  refine ⟨Fr.refl _ _, rdSt_keeps h.rd (fourW_keeps W rb rec) ?_, (fourW_keeps W rb rec).blk h.b14 (fun h => h), fourW_16 W rb rec, fourW_l W rb rec⟩
  rintro k (hk | hk)
  · exact Or.inl hk
  · right; rw [fourW_size]; exact hk
/-- What lay as the range began lies in it. -/
theorem RanO.still (hm : rb < wc.heap.size ∧ p < wc.heap.size ∧ q < wc.heap.size ∧ g < wc.heap.size ∧ 1 < wc.heap.size) (h : RanO wc S0 n b p q g B wd tag rb bs want k14 k15 i t over O ds W) {rec rec' : Loop} {t' left told : Nat} {over' : Bool} {W' : World}
    (hR : RanI (fourW W rb rec) (Four O W) n b p q g B wd tag rb bs want k14 W.heap.size (W.heap.size + 3) rec' t' left told over' W') :
    (∀ k cs t, S0 k → k ≠ g → k ≠ rb → Blk wc k cs t → Blk W' k cs t) ∧ Blk W' k15 #[.int .i64 (i : Int)] 3 ∧ Blk W' (W.heap.size + 1) #[.pointer (some ⟨rb, 0, none⟩)] 42 ∧ W'.heap[W.heap.size + 2]? = some (.deferred (some [])) := by
  have h15 := h.b15.lt
  have h14 := h.b14.lt
  have m15 := h.m15
  have m14 := h.m14
  have hne := h.ne
  refine ⟨fun k cs t hk h1 h2 hb => ?_, ?_, ?_, ?_⟩
  · have hb2 := h.fr.blk hb (fun hx => hx.elim (fun hx => hx hk) (fun hx => hx.elim h1 h2))
    have hlt := hb.lt
    have hlt2 := hb2.lt
    refine hR.fr.blk ((fourW_keeps W rb rec).blk hb2 (fun h => h)) ?_
    rintro ((hx | hx | hx) | hx | hx | hx)
    · exact hx (Or.inl (h.sub k hk))
    · exact h1 hx
    · exact h2 hx
    · omega
    · omega
    · omega
  · refine hR.fr.blk ((fourW_keeps W rb rec).blk h.b15 (fun h => h)) ?_
    rintro ((hx | hx | hx) | hx | hx | hx)
    · exact hx (Or.inl h.o15)
    all_goals omega
  · refine hR.fr.blk (fourW_ab W rb rec) ?_
    rintro ((hx | hx | hx) | hx | hx | hx)
    · exact hx (Or.inr ⟨by omega, by omega⟩)
    all_goals omega
  · refine (hR.fr.block _ (by rw [fourW_size]; omega) ?_).trans (fourW_D W rb rec)
    rintro ((hx | hx | hx) | hx | hx | hx)
    · exact hx (Or.inr ⟨by omega, by omega⟩)
    all_goals omega
theorem RanO.stillB (hm : rb < wc.heap.size ∧ p < wc.heap.size ∧ q < wc.heap.size ∧ g < wc.heap.size ∧ 1 < wc.heap.size) (h : RanO wc S0 n b p q g B wd tag rb bs want k14 k15 i t over O ds W) {rec rec' : Loop} {t' left told : Nat} {over' : Bool} {W' : World}
    (hR : RanI (fourW W rb rec) (Four O W) n b p q g B wd tag rb bs want k14 W.heap.size (W.heap.size + 3) rec' t' left told over' W') (k : Nat) (hk : S0 k) (h1 : k ≠ g) (h2 : k ≠ rb) (hlt : k < wc.heap.size) : W'.heap[k]? = wc.heap[k]? := by
  have h14 := h.b14.lt
  have m14 := h.m14
  have hs := h.fr.size
  have e1 := h.fr.block k hlt (fun hx => hx.elim (fun hx => hx hk) (fun hx => hx.elim h1 h2))
  have e2 := (fourW_keeps W rb rec).block k (by omega) (fun h => h)
  refine (hR.fr.block k (by rw [fourW_size]; omega) ?_).trans (e2.trans e1)
  rintro ((hx | hx | hx) | hx | hx | hx)
  · exact hx (Or.inl (h.sub k hk))
  · exact h1 hx
  · exact h2 hx
  · omega
  · omega
  · omega
theorem RanO.then (K : RdK S0 g rb p q B wd) (hm : rb < wc.heap.size ∧ p < wc.heap.size ∧ q < wc.heap.size ∧ g < wc.heap.size ∧ 1 < wc.heap.size) (h : RanO wc S0 n b p q g B wd tag rb bs want k14 k15 i t over O ds W) {rec rec' : Loop} {t' left : Nat} {over' : Bool} {W' : World}
    (hR : RanI (fourW W rb rec) (Four O W) n b p q g B wd tag rb bs want k14 W.heap.size (W.heap.size + 3) rec' t' left t' over' W') (rec2 : Loop) :
    RanO wc S0 n b p q g B wd tag rb bs want k14 W'.heap.size (i + 1) t' over' (fun k => Four O W k ∨ k = W'.heap.size) ({ target := .collected (W.heap.size + 2), args := #[] } :: ds)
      ((W'.putObj (W.heap.size + 3) (.loop rec2)).alloc (.cells #[.int .i64 ((i : Int) + 1)] 3)) := by
  have hs0 := h.fr.size
  have h14 := h.b14.lt
  have m14 := h.m14
  have hsW := fourW_size W rb rec
  have hs1 := hR.fr.size
  rw [hsW] at hs1
  obtain ⟨-, -, -, hD⟩ := h.still hm hR
  have hF1 : Fr (RdFr S0 g rb) wc W' := by
    refine Fr.trans (h.fr.keeps (fourW_keeps W rb rec)) hR.fr ?_
    rintro k hk ((hx | hx | hx) | hx | hx | hx)
    · exact Or.inl (fun hs => hx (Or.inl (h.sub k hs)))
    · exact Or.inr (Or.inl hx)
    · exact Or.inr (Or.inr hx)
    all_goals omega
  have hmk : Marks (fun D => O D ∧ wc.heap.size ≤ D) ds W' := by
    refine (h.marks.keeps (fourW_keeps W rb rec) (fun _ _ _ _ h => h)).keeps hR.fr ?_
    rintro D hd ⟨h1, h2⟩ h3 ((hx | hx | hx) | hx | hx | hx)
    · exact hx (Or.inl h1)
    · omega
    · omega
    · have hb := (fourW_keeps W rb rec).blk h.b14 (fun h => h)
      unfold Blk at hb
      rw [hx, hb] at h3
      cases h3
    · have := h.lt D h1; omega
    · have := h.lt D h1; omega
  have hR2 := hR.loop (h.kk K hm) rec2
  have hF2 : Fr (· = W.heap.size + 3) W' (W'.putObj (W.heap.size + 3) (.loop rec2)) := fr_putObj (Fr.refl (· = W.heap.size + 3) W') (fun _ => rfl) _
  have hsz2 : (W'.putObj (W.heap.size + 3) (.loop rec2)).heap.size = W'.heap.size := by unfold World.putObj; simp
  generalize hW4 : W'.putObj (W.heap.size + 3) (.loop rec2) = W4 at *
  have hF3 : Fr (fun _ => False) W4 (W4.alloc (.cells #[.int .i64 ((i : Int) + 1)] 3)) := (Fr.refl _ W4).alloc _
  have hS3 : (W4.alloc (.cells #[.int .i64 ((i : Int) + 1)] 3)).heap.size = W'.heap.size + 1 := by simp; omega
  have hB15 : Blk (W4.alloc (.cells #[.int .i64 ((i : Int) + 1)] 3)) W'.heap.size #[.int .i64 ((i : Int) + 1)] 3 := Blk.new' (by omega)
  generalize hW5 : W4.alloc (.cells #[.int .i64 ((i : Int) + 1)] 3) = W5 at *
  refine ⟨?_, fun k hk => Or.inl (Or.inl (h.sub k hk)), ?_, ?_, hF3.blk hR2.b14 (fun h => h), Or.inl (Or.inl h.o14), h.m14, by push_cast; exact hB15, Or.inr rfl, by omega, by omega, ?_⟩
  · refine Fr.keeps (Fr.trans hF1 hF2 ?_) hF3
    intro k hk e
    omega
  · rintro k ((hk | hk) | hk)
    · have := h.lt k hk; omega
    · omega
    · omega
  · refine rdSt_keeps hR2.rd hF3 ?_
    rintro k (hk | hk)
    · exact Or.inl hk
    · right; omega
  · have step : ∀ {ds' : List Deferred}, Marks (fun D => Four O W D ∧ wc.heap.size ≤ D) ds' W' → Marks (fun D => (Four O W D ∨ D = W'.heap.size) ∧ wc.heap.size ≤ D) ds' W5 := by
      intro ds' hm'
      refine Marks.mono (fun k hk => ⟨Or.inl hk.1, hk.2⟩) ((hm'.keeps hF2 ?_).keeps hF3 (fun _ _ _ _ h => h))
      rintro D hd h1 h2 h3
      have h4 := hR.lp
      rw [h3, h4] at h2
      cases h2
    refine step ⟨⟨_, rfl, ⟨Or.inr ⟨by omega, by omega⟩, by omega⟩, hD, ?_⟩, Marks.mono (fun k hk => ⟨Or.inl hk.1, hk.2⟩) hmk⟩
    intro d' hd'
    obtain ⟨D', e1, e2⟩ := h.marks.lt d' hd'
    rw [e1]
    intro e
    injection e with e
    omega
end

/-- The loop's state between two ranges. -/
def RngEx (wc : World) (S0 : Nat → Prop) (n b p q g B wd tag rb : Nat) (bs : List UInt8) (want : List (List UInt8)) (sn k15 : Nat) (ds : List Deferred) (W : World) : Prop :=
  ∃ i t over O, (i ≤ sn + 1 ∧ t ≤ want.length ∧ (i = sn + 1 → t = want.length ∧ over = true)) ∧ RanO wc S0 n b p q g B wd tag rb bs want wc.heap.size k15 i t over O ds W
end Go.Proofs.YtcefockebphbaaaDoor

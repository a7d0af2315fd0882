/- Print: the state between two steps. -/
import Derived.Test.YtjoklcjpihadiaaGreatDoorRoX
import Derived.Test.YtjoklcjpihadiaaGreatDoorRoH
set_option linter.unusedVariables false
set_option linter.unusedSimpArgs false
set_option linter.unnecessarySimpa false
namespace Go.Proofs.YtjoklcjpihadiaaGreatDoor
open Go Go.RowKit Sluice Go.Proofs.Ro Go.Shelf

/-- Entries, sections, as they lie in memory. -/
def EntsAt (w : World) (v : Value) (es : List Ent) : Prop := ∃ base cap, v = .slice base es.length cap ∧ es.length ≤ cap ∧
  ∀ j x, es[j]? = some x → ∃ b o, base = some ⟨b, o, none⟩ ∧ w.cell? ⟨b, o + j * 2, none⟩ = some (.string x.1) ∧ w.cell? ⟨b, o + j * 2 + 1, none⟩ = some (.string x.2)
def SecsAt (w : World) (v : Value) (ss : List Sec) : Prop := ∃ base cap, v = .slice base ss.length cap ∧ ss.length ≤ cap ∧
  ∀ j x, ss[j]? = some x → ∃ b o ev, base = some ⟨b, o, none⟩ ∧ w.cell? ⟨b, o + j * 2, none⟩ = some (.string x.1) ∧ w.cell? ⟨b, o + j * 2 + 1, none⟩ = some ev ∧ EntsAt w ev x.2
theorem EntsAt.keeps {w w' : World} {v : Value} {es : List Ent} (h : EntsAt w v es) (hk : Keeps w w') : EntsAt w' v es := by
  obtain ⟨base, cap, h1, hcap, h2⟩ := h
  refine ⟨base, cap, h1, hcap, fun j x hj => ?_⟩
  obtain ⟨b, o, h3, h4, h5⟩ := h2 j x hj
  exact ⟨b, o, h3, cell_of_keeps hk h4, cell_of_keeps hk h5⟩
theorem SecsAt.keeps {w w' : World} {v : Value} {ss : List Sec} (h : SecsAt w v ss) (hk : Keeps w w') : SecsAt w' v ss := by
  obtain ⟨base, cap, h1, hcap, h2⟩ := h
  refine ⟨base, cap, h1, hcap, fun j x hj => ?_⟩
  obtain ⟨b, o, ev, h3, h4, h5, h6⟩ := h2 j x hj
  exact ⟨b, o, ev, h3, cell_of_keeps hk h4, cell_of_keeps hk h5, h6.keeps hk⟩

theorem bld_fr {T e : TypeId} {B b : Nat} {bs : List Value} {w w' : World} (h : Lib.IsBuilderF T e B b bs w) {S : Nat → Prop} (hf : Fr S w w') (hS : ∀ k, S k → ∀ c t fz, w.heap[k]? ≠ some (.cells c t fz)) : Lib.IsBuilderF T e B b bs w' := by
  have one : ∀ p, Lib.BuilderAtF T e B b p bs w → Lib.BuilderAtF T e B b p bs w' := by
    rintro p ⟨hB, v, hb, hown, hne⟩
    have hkeep : ∀ k c t fz, w.heap[k]? = some (Obj.cells c t fz) → w'.heap[k]? = some (Obj.cells c t fz) := fun k c t fz hk =>
      (hf.block k (Array.getElem?_eq_some_iff.1 hk).1 (fun hs => hS k hs c t fz hk)).trans hk
    refine ⟨hB, v, hkeep _ _ _ _ hb, ⟨hown.1, ?_⟩, hne⟩
    rcases hown.2 with h1 | ⟨g, cap, cur, fz, hv, hbg, hg, rest⟩
    · exact .inl h1
    · exact .inr ⟨g, cap, cur, fz, hv, hbg, hkeep _ _ _ _ hg, rest⟩
  exact h.elim (fun x => .inl (one _ x)) (fun x => .inr (one _ x))
theorem NamesIs.others {w w' : World} {m b : Nat} {l : List ByteArray} (h : NamesIs w m l) (ho : Lib.OthersKept 5 (some b) w w') (hmb : m ≠ b) : NamesIs w' m l := by
  obtain ⟨es, clock, h1, h2⟩ := h
  exact ⟨es, clock, ho m _ h1 (fun e => hmb (Option.some.inj e)) (fun _ _ e => by cases e), h2⟩
theorem NamesIs.lt {w : World} {m : Nat} {l : List ByteArray} (h : NamesIs w m l) : m < w.heap.size := by
  obtain ⟨es, clock, h1, -⟩ := h
  exact (Array.getElem?_eq_some_iff.1 h1).1
theorem NamesIs.noCells {w : World} {m : Nat} {l : List ByteArray} (h : NamesIs w m l) : ∀ k, k = m → ∀ c t fz, w.heap[k]? ≠ some (.cells c t fz) := by
  rintro k rfl c t fz hc
  obtain ⟨es, clock, h1, -⟩ := h
  rw [h1] at hc; cases hc
theorem blk_others {w w' : World} {k b : Nat} {cs : Array Value} {t : TypeId} (h : Blk w k cs t) (ho : Lib.OthersKept 5 (some b) w w') (hkb : k ≠ b) (ht : t ≠ 5) : Blk w' k cs t :=
  ho k _ h (fun e => hkb (Option.some.inj e)) (fun c fz e => by cases e; exact ht rfl)

/-- Between two steps of Print: the text so far, the heads so far. -/
structure PrS (w0 : World) (b mh : Nat) (seen : List ByteArray) (out : List UInt8) (w : World) : Prop where
  k : Keeps w0 w
  bld : Lib.IsBuilderF 41 5 w0.heap.size b (Lib.byteCells out) w
  names : NamesIs w mh seen
  mh0 : w0.heap.size ≤ mh
  b0 : w0.heap.size ≤ b
  ne : mh ≠ b

section
variable {w0 w w' : World} {b mh : Nat} {seen seen' : List ByteArray} {out : List UInt8}
theorem PrS.keeps (h : PrS w0 b mh seen out w) (hk : Keeps w w') : PrS w0 b mh seen out w' :=
  ⟨h.k.keeps hk, bld_fr h.bld hk (fun _ x => x.elim), h.names.kept hk (fun x => x), h.mh0, h.b0, h.ne⟩
theorem PrS.head (h : PrS w0 b mh seen out w) (hf : Fr (· = mh) w w') (hn : NamesIs w' mh seen') : PrS w0 b mh seen' out w' :=
  ⟨Fr.trans h.k hf (fun i hi e => by have := h.mh0; have e : i = mh := e; omega), bld_fr h.bld hf h.names.noCells, hn, h.mh0, h.b0, h.ne⟩
theorem PrS.other (h : PrS w0 b mh seen out w) {m : Nat} {l : List ByteArray} (hf : Fr (· = m) w w') (hm : NamesIs w m l) (h1 : w0.heap.size ≤ m) (h2 : mh ≠ m) : PrS w0 b mh seen out w' :=
  ⟨Fr.trans h.k hf (fun i hi e => by have e : i = m := e; omega), bld_fr h.bld hf hm.noCells, h.names.kept hf h2, h.mh0, h.b0, h.ne⟩
theorem byteCells_append (a c : List UInt8) : Lib.byteCells (a ++ c) = Lib.byteCells a ++ Lib.byteCells c := by simp [Lib.byteCells]
theorem byteCells_length (a : List UInt8) : (Lib.byteCells a).length = a.length := by simp [Lib.byteCells]
theorem PrS.wrote (h : PrS w0 b mh seen out w) {x : List UInt8} (hb : Lib.BuilderAtF 41 5 w0.heap.size b (.pointer (some ⟨b, 0, none⟩)) (Lib.byteCells out ++ Lib.byteCells x) w') (hw : Below w0.heap.size w w') (ho : Lib.OthersKept 5 (some b) w w') :
    PrS w0 b mh seen (out ++ x) w' :=
  ⟨Fr.trans h.k (Fr.ofBelow hw (fun k => w0.heap.size ≤ k) (fun _ _ h => h)) (fun i hi h => by omega), by rw [byteCells_append]; exact .inr hb, h.names.others ho h.ne, h.mh0, h.b0, h.ne⟩
end
theorem strCells_bl (s : ByteArray) : Lib.strCells s = Lib.byteCells (bl s) := by
  unfold Lib.strCells Lib.byteCells bl
  simp
theorem writeByte_any {w0 w : World} {b mh : Nat} {seen : List ByteArray} {out : List UInt8} (h : PrS w0 b mh seen out w) (c : UInt8) (hl : out.length ≤ 100000000) :
    Calls Tryz.prog 12 #[.pointer (some ⟨b, 0, none⟩), .int .u8 (c.toNat : Int)] w fun e w' => e = .returned .nilIface ∧ PrS w0 b mh seen (out ++ [c]) w' ∧ Lib.OthersKept 5 (some b) w w' := by
  refine (writeByte_k w0.heap.size b _ (c.toNat : Int) w h.bld (by rw [byteCells_length]; omega) h.k.size).mono ?_
  rintro e w' ⟨rfl, h1, h2, h3⟩
  exact ⟨rfl, h.wrote (x := [c]) h1 h2 h3, h3⟩
theorem writeString_any {w0 w : World} {b mh : Nat} {seen : List ByteArray} {out : List UInt8} (h : PrS w0 b mh seen out w) (s : ByteArray) (hl : out.length ≤ 100000000) (hs : s.size ≤ 100000000) :
    Calls Tryz.prog 13 #[.pointer (some ⟨b, 0, none⟩), .string s] w fun e w' => e = .returned (.tuple #[.int .i64 s.size, .nilIface]) ∧ PrS w0 b mh seen (out ++ bl s) w' ∧ Lib.OthersKept 5 (some b) w w' := by
  refine (writeString_k w0.heap.size b _ s w h.bld (by rw [byteCells_length]; omega) h.k.size).mono ?_
  rintro e w' ⟨rfl, h1, h2, h3⟩
  rw [strCells_bl] at h1
  exact ⟨rfl, h.wrote (x := bl s) h1 h2 h3, h3⟩
theorem len_any {w0 w : World} {b mh : Nat} {seen : List ByteArray} {out : List UInt8} (h : PrS w0 b mh seen out w) :
    Calls Tryz.prog 16 #[.pointer (some ⟨b, 0, none⟩)] w fun e w' => e = .returned (.int .i64 (out.length : Int)) ∧ w' = w := by
  refine (Tryz.Builder_Len_f w0.heap.size b _ w h.bld).mono ?_
  rintro e w' ⟨rfl, rfl⟩
  rw [byteCells_length]
  exact ⟨rfl, rfl⟩
theorem string_any {w0 w : World} {b mh : Nat} {seen : List ByteArray} {out : List UInt8} (h : PrS w0 b mh seen out w) :
    Calls Tryz.prog 17 #[.pointer (some ⟨b, 0, none⟩)] w fun e w' => e = .returned (.string ⟨out.toArray⟩) ∧ Keeps w0 w' := by
  refine (Tryz.Builder_String_any_k w0.heap.size b out w h.bld h.k.size).mono ?_
  rintro e w' ⟨rfl, -, h2, -⟩
  exact ⟨rfl, Fr.trans h.k (Fr.ofBelow h2 (fun k => w0.heap.size ≤ k) (fun _ _ h => h)) (fun i hi h => by omega)⟩

theorem wrongN_ok {seen : List ByteArray} {s : ByteArray} (h : wrongN seen s = 0) : s.size ≤ 32 ∧ seen.length < 64 := by
  unfold wrongN at h
  split at h
  · cases h
  · rename_i hnm
    rw [Bool.not_eq_false] at hnm
    unfold isNameL at hnm
    rw [Bool.and_eq_true, Bool.and_eq_true] at hnm
    have h32 := of_decide_eq_true hnm.1.2
    have h1 := Lib.size_eq s
    refine ⟨by unfold bl at h32; omega, ?_⟩
    split at h
    · cases h
    · split at h
      · cases h
      · omega
theorem entN_wrong {sn : List ByteArray} {y : Ent} (h : wrongN sn y.1 ≠ 0) : entN sn y = wrongN sn y.1 := by unfold entN; rw [if_pos h]
theorem entN_long {sn : List ByteArray} {y : Ent} (h : wrongN sn y.1 = 0) (h2 : 1024 < y.2.size) : entN sn y = 77 := by unfold entN; rw [if_neg (by simp [h]), if_pos h2]
theorem entN_odd {sn : List ByteArray} {y : Ent} (h : wrongN sn y.1 = 0) (h2 : ¬ 1024 < y.2.size) (h3 : okV y.2 = false) : entN sn y = 70 := by unfold entN; rw [if_neg (by simp [h]), if_neg h2, if_pos h3]
theorem entN_fine {sn : List ByteArray} {y : Ent} (h : wrongN sn y.1 = 0) (h2 : ¬ 1024 < y.2.size) (h3 : okV y.2 = true) : entN sn y = 0 := by unfold entN; rw [if_neg (by simp [h]), if_neg h2, if_neg (by rw [h3]; decide)]
theorem ents_err {sn : List ByteArray} {o : List UInt8} {y : Ent} {r : List Ent} {e : Nat} (h : entN sn y = e) (he : e ≠ 0) : entsGo sn o (y :: r) = (e, []) := by rw [entsGo, h, if_pos he]
theorem ents_ok {sn : List ByteArray} {o : List UInt8} {y : Ent} {r : List Ent} (h : entN sn y = 0) : entsGo sn o (y :: r) = entsGo (sn ++ [y.1]) (o ++ entText y) r := by rw [entsGo, h, if_neg (by decide)]
theorem secs_err {A : Nat × List UInt8} {f : List UInt8 → Nat × List UInt8} {e : Nat} (h : A = (e, [])) (he : e ≠ 0) : (match A with | (0, o) => f o | (e, _) => (e, [])) = (e, ([] : List UInt8)) := by
  subst h
  cases e with
  | zero => exact absurd rfl he
  | succ n => rfl
theorem writtenL_length (l : List UInt8) : (writtenL l).length ≤ 2 * l.length + 2 := by
  unfold writtenL
  split
  · omega
  · have h1 : quoteL l = 34 :: (outL l ++ [34]) := rfl
    have h2 := cnt_le l
    rw [h1, List.length_cons, List.length_append, outL_length]
    simp only [List.length_cons, List.length_nil]
    omega

/-- What Print answers. -/
def Printed (w0 : World) (ss : List Sec) (r : Ending) (w' : World) : Prop := r = .returned (.tuple #[.string ⟨(printL ss).2.toArray⟩, .int .i64 ((printL ss).1 : Int)]) ∧ Keeps w0 w'

theorem print_err {ss : List Sec} {e : Nat} (h : (secsGo [] [] ss).1 = e) (he : e ≠ 0) : printL ss = (e, []) := by
  unfold printL
  rcases hs : secsGo [] [] ss with ⟨c, o⟩
  rw [hs] at h
  dsimp only at h
  subst h
  cases c with
  | zero => exact absurd rfl he
  | succ n => rfl
theorem print_ok {ss : List Sec} {o : List UInt8} (h : secsGo [] [] ss = (0, o)) : printL ss = if 131072 < o.length then (77, []) else (0, o) := by
  unfold printL
  rw [h]
  rfl

set_option maxHeartbeats 8000000 in
set_option maxRecDepth 100000 in
theorem print_any (ss : List Sec) (v : Value) (w0 : World) (hm : SecsAt w0 v ss) (hn : ss.length ≤ 1099511627776) (hT : Tabs w0) (hsz : ∀ x ∈ ss, x.1.size ≤ 1099511627776 ∧ x.2.length ≤ 1099511627776 ∧ ∀ y ∈ x.2, y.1.size ≤ 1099511627776 ∧ y.2.size ≤ 1099511627776) :
    Calls Tryz.prog 6 #[v] w0 (Printed w0 ss) := by
  obtain ⟨base, cap, rfl, hcap, hcell⟩ := hm
  clear hcap
  have HC := Lib.hid hcell
  have HZ := Lib.hid hsz
  have HT := Lib.hid hT
  clear hcell hsz hT
  have hmm := @run_makeMap Tryz.prog
  go_enter Tryz.func6, Tryz.ntmps6
  go_wp2
  have P0 : Hid (PrS w0 w0.heap.size (w0.heap.size + 1) [] [] ((w0.alloc (.cells #[.pointer none, .slice none 0 0] 41)).alloc (.map #[] 0))) := by
    refine ⟨(Fr.alloc (Fr.refl _ w0) _).alloc _, .inl (Lib.BuilderAtF.alloc ⟨Nat.le_refl _, .slice none 0 0, Blk.new _ _ _, World.ownsRowF_nil _ _ _ _, fun h => by cases h⟩ _), ⟨#[], 0, heap_alloc_new' (by simp), rfl⟩, by omega, Nat.le_refl _, by omega⟩
  generalize (w0.alloc (.cells #[.pointer none, .slice none 0 0] 41)).alloc (.map #[] 0) = W0 at P0 ⊢
  generalize w0.heap.size = b at P0 ⊢
  generalize hmh : b + 1 = mh at P0 ⊢
  clear hmh
  go_loopw [16] (fun t16 wr => ∃ k : Nat, k ≤ ss.length ∧ t16 = .int .i64 (k : Int) ∧ ∃ seen out, seen.length = k ∧ out.length ≤ 150000 * k ∧ k ≤ 64 ∧ PrS w0 b mh seen out wr ∧ secsGo seen out (ss.drop k) = secsGo [] [] ss) (fun t16 _ => ss.length - (intOf t16).toNat)
  case atStart => exact ⟨0, by omega, rfl, [], [], rfl, by simp, by omega, P0.out, rfl⟩
  case round =>
    obtain ⟨k, hk, rfl, seen, out, hsk, hol, hk64, hP, hG⟩ := hrel
    by_cases hlt : k < ss.length
    · obtain ⟨x, hx⟩ : ∃ x, ss[k]? = some x := ⟨_, List.getElem?_eq_getElem hlt⟩
      obtain ⟨b0, o, ev, rfl, e0, e1, hE⟩ := HC.out k x hx
      have hkz : (k : Int) < (ss.length : Int) := by omega
      have e0 := cell_of_keeps hP.k e0
      have e1 := cell_of_keeps hP.k e1
      obtain ⟨eb, ec, rfl, -, hE2⟩ := hE
      have HE := Lib.hid hE2
      have HP := Lib.hid hP
      have hmw : mh < wr.heap.size := hP.names.lt
      have hbw : b < wr.heap.size := by have h1 := hP.k.size; have h2 := hP.b0; rcases hP.bld with ⟨_, v, h3, _⟩ | ⟨_, v, h3, _⟩ <;> exact (Array.getElem?_eq_some_iff.1 h3).1
      have hxs := HZ.out x (List.mem_of_getElem? hx)
      obtain ⟨W, hW⟩ : ∃ W, wrongN seen x.1 = W := ⟨_, rfl⟩
      have hdr : ss.drop k = x :: ss.drop (k + 1) := by rw [List.drop_eq_getElem_cons hlt]; congr 1; exact (List.getElem?_eq_some_iff.1 hx).2
      rw [hdr] at hG
      have HG := Lib.hid hG
      have hsz32 : W = 0 → x.1.size ≤ 32 ∧ seen.length < 64 := fun h0 => wrongN_ok (hW.trans h0)
      have H32 := Lib.hid hsz32
      have cW := Lib.hid (wrong_any mh seen x.1 (by omega))
      rw [hW] at cW
      have HW := Lib.hid hW
      clear hP hG hdr hsz32 hE2 hW
      by_cases hW0 : W = 0
      · have hsz := H32.out hW0
        subst hW0
        have hgo : secsGo seen out (x :: ss.drop (k + 1)) = match entsGo [] (out ++ secHead seen.isEmpty x.1) x.2 with
            | (0, o) => secsGo (seen ++ [x.1]) o (ss.drop (k + 1))
            | (e, _) => (e, []) := by
          rw [secsGo, HW.out, if_neg (by decide)]
          rfl
        have HGO := Lib.hid hgo
        obtain ⟨tH, htH⟩ : ∃ t, (⟨#[91]⟩ : ByteArray) ++ x.1 ++ ⟨#[93, 10]⟩ = t := ⟨_, rfl⟩
        have hbl3 : bl tH = [91] ++ bl x.1 ++ [93, 10] := by
          rw [← htH]; unfold bl; simp [ByteArray.data_append]
        have hz3 : tH.size ≤ 100 := by
          have h1 := Lib.size_eq tH
          have h2 : tH.data.toList = [91] ++ bl x.1 ++ [93, 10] := hbl3
          rw [h2] at h1
          simp only [List.length_append, List.length_cons, List.length_nil] at h1
          have h3 : x.1.size = (bl x.1).length := Lib.size_eq x.1
          omega
        have HBL := Lib.hid hbl3
        have hx32 := hsz.1
        clear hgo hbl3
        by_cases hk0 : k = 0
        · have hse : seen = [] := List.length_eq_zero_iff.1 (by omega)
          have hkz0 : ¬ ((0 : Int) < (k : Int)) := by omega
          have HSE := Lib.hid hse
          clear hk0 hse
          go_wp2_with (first
            | ((go_at_call 11); (refine (cW.out _ (HP.out.names.kept (S := fun _ => False) (Fr.alloc (Fr.refl _ wr) _) (fun h => h))).mono ?_); (rintro e w2 ⟨rfl, hF2, hN2⟩); (have hb2 : Blk w2 wr.heap.size _ _ := hF2.blk (Blk.new _ _ _) (by omega)); (have c20 := hb2.cell 0); (have c21 := hb2.cell 1); (have HB2 := Lib.hid hb2); (have hP2 : PrS w0 b mh (seen ++ [x.1]) out w2 := (HP.out.keeps (Fr.alloc (Fr.refl _ wr) _)).head hF2 (hN2 rfl)); (have HP2 := Lib.hid hP2); (clear hb2 hF2 hN2 hP2))
            | ((go_at_call 13); (refine (writeString_any HP2.out tH (by omega) (by omega)).mono ?_); (rintro e w5 ⟨rfl, hP5, ho5⟩); (have hb5 := blk_others HB2.out ho5 (by omega) (by decide)); (have c50 := hb5.cell 0); (have c51 := (Blk.alloc hb5 (.map #[] 0)).cell 1); (have HP5 := Lib.hid hP5); (clear hP5 hb5)))
          have hOH : out ++ bl tH = out ++ secHead seen.isEmpty x.1 := by rw [HBL.out, HSE.out]; rfl
          have hP6 : PrS w0 b mh (seen ++ [x.1]) (out ++ secHead seen.isEmpty x.1) (w5.alloc (.map #[] 0)) := by
            rw [← hOH]; exact HP5.out.keeps (Fr.alloc (Fr.refl _ w5) _)
          have hN6 : NamesIs (w5.alloc (.map #[] 0)) w5.heap.size [] := ⟨#[], 0, heap_alloc_new' rfl, rfl⟩
          have hmn0 : w0.heap.size ≤ w5.heap.size := HP5.out.k.size
          have hmn1 : mh ≠ w5.heap.size := by have := HP5.out.names.lt; omega
          have hmnb : w5.heap.size ≠ b := by
            have : b < w5.heap.size := by rcases HP5.out.bld with ⟨_, v, h3, _⟩ | ⟨_, v, h3, _⟩ <;> exact (Array.getElem?_eq_some_iff.1 h3).1
            omega
          have hHL : (secHead seen.isEmpty x.1).length ≤ 100 := by
            have h3 : x.1.size = (bl x.1).length := Lib.size_eq x.1
            unfold secHead
            simp only [List.length_append, List.length_cons, List.length_nil]
            split <;> (simp; omega)
          have HP6 := Lib.hid hP6
          have HN6 := Lib.hid hN6
          have hohl : (out ++ secHead seen.isEmpty x.1).length ≤ 150000 * k + 100 := by rw [List.length_append]; omega
          clear hOH hP6 hN6 c20 c21 c50 c51 hHL
          generalize hOHv : out ++ secHead seen.isEmpty x.1 = OH at HP6 HGO hohl
          generalize w5.alloc (.map #[] 0) = W6 at HP6 HN6 ⊢
          generalize w5.heap.size = mn at HN6 hmn0 hmn1 hmnb ⊢
          clear hOHv htH
          have hxl := hxs.2.1
          go_loopw [40] (fun t40 wq => ∃ j : Nat, j ≤ x.2.length ∧ t40 = .int .i64 (j : Int) ∧ ∃ sn o, sn.length = j ∧ o.length ≤ OH.length + 2200 * j ∧ j ≤ 64 ∧ PrS w0 b mh (seen ++ [x.1]) o wq ∧ NamesIs wq mn sn ∧ entsGo sn o (x.2.drop j) = entsGo [] OH x.2) (fun t40 _ => x.2.length - (intOf t40).toNat)
          case atStart => exact ⟨0, by omega, rfl, [], OH, rfl, by omega, by omega, HP6.out, HN6.out, rfl⟩
          case round =>
            obtain ⟨j, hj, rfl, sn, oo, hsn, hoo, hj64, hPj, hNj, hEj⟩ := hrel
            by_cases hjl : j < x.2.length
            · obtain ⟨y, hy⟩ : ∃ y, x.2[j]? = some y := ⟨_, List.getElem?_eq_getElem hjl⟩
              obtain ⟨b1, o1, rfl, d0, d1⟩ := HE.out j y hy
              have hjz : (j : Int) < (x.2.length : Int) := by omega
              have d0 := cell_of_keeps hPj.k d0
              have d1 := cell_of_keeps hPj.k d1
              have hys := hxs.2.2 y (List.mem_of_getElem? hy)
              have hdr : x.2.drop j = y :: x.2.drop (j + 1) := by rw [List.drop_eq_getElem_cons hjl]; congr 1; exact (List.getElem?_eq_some_iff.1 hy).2
              rw [hdr] at hEj
              have HEJ := Lib.hid hEj
              have HPj := Lib.hid hPj
              have HNj := Lib.hid hNj
              have cV := Lib.hid (wrong_any mn sn y.1 (by omega))
              have hbq : b < wr.heap.size := by rcases hPj.bld with ⟨_, v, h3, _⟩ | ⟨_, v, h3, _⟩ <;> exact (Array.getElem?_eq_some_iff.1 h3).1
              have hmq : mn < wr.heap.size := hNj.lt
              have hfail : ∀ e, entN sn y = e → e ≠ 0 → printL ss = (e, []) := by
                intro e h1 h2
                refine print_err ?_ h2
                have h3 := HEJ.out.symm.trans (ents_err h1 h2)
                rw [← HG.out, HGO.out, h3]
                obtain ⟨n, rfl⟩ := Nat.exists_eq_succ_of_ne_zero h2
                rfl
              have HFail := Lib.hid hfail
              obtain ⟨V, hV⟩ : ∃ V, wrongN sn y.1 = V := ⟨_, rfl⟩
              rw [hV] at cV
              have HV := Lib.hid hV
              clear hPj hNj hEj hdr hV hfail
              by_cases hV0 : V = 0
              · obtain ⟨hy32, hs64⟩ := wrongN_ok (HV.out.trans hV0)
                subst hV0
                by_cases hlong : 1024 < y.2.size
                · have hlz : (1024 : Int) < (y.2.size : Int) := by omega
                  go_wp2_with (first
                    | ((go_at_call 11); (refine (cV.out _ (HNj.out.kept (S := fun _ => False) (Fr.alloc (Fr.refl _ wr) _) (fun h => h))).mono ?_); (rintro e w2 ⟨rfl, hF2, hN2⟩); (have hb2 : Blk w2 wr.heap.size _ _ := hF2.blk (Blk.new _ _ _) (by omega)); (have c20 := hb2.cell 0); (have c21 := hb2.cell 1); (have hP2 : PrS w0 b mh (seen ++ [x.1]) oo w2 := (HPj.out.keeps (Fr.alloc (Fr.refl _ wr) _)).other hF2 (HNj.out.kept (S := fun _ => False) (Fr.alloc (Fr.refl _ wr) _) (fun h => h)) hmn0 hmn1); (have HP2 := Lib.hid hP2); (have HN2 := Lib.hid (hN2 rfl)); (have HB2 := Lib.hid hb2); (clear hb2 hF2 hN2 hP2))
                    | fail)
                  go_ret2
                  exact ⟨by rw [HFail.out 77 (entN_long HV.out hlong) (by decide)]; rfl, HP2.out.k⟩
                · have hlz : ¬ ((1024 : Int) < (y.2.size : Int)) := by omega
                  cases hO : okV y.2
                  · have cH := Lib.hid (holds_any y.2)
                    rw [hO] at cH
                    have hys2 := hys.2
                    go_wp2_with (first
                      | ((go_at_call 11); (refine (cV.out _ (HNj.out.kept (S := fun _ => False) (Fr.alloc (Fr.refl _ wr) _) (fun h => h))).mono ?_); (rintro e w2 ⟨rfl, hF2, hN2⟩); (have hb2 : Blk w2 wr.heap.size _ _ := hF2.blk (Blk.new _ _ _) (by omega)); (have c20 := hb2.cell 0); (have c21 := hb2.cell 1); (have hP2 : PrS w0 b mh (seen ++ [x.1]) oo w2 := (HPj.out.keeps (Fr.alloc (Fr.refl _ wr) _)).other hF2 (HNj.out.kept (S := fun _ => False) (Fr.alloc (Fr.refl _ wr) _) (fun h => h)) hmn0 hmn1); (have HP2 := Lib.hid hP2); (have HN2 := Lib.hid (hN2 rfl)); (have HB2 := Lib.hid hb2); (clear hb2 hF2 hN2 hP2))
                      | ((go_at_call 14); (refine (cH.out _ hys2 (HT.out.kept HP2.out.k)).mono ?_); (rintro e w3 ⟨rfl, hk3⟩)))
                    go_ret2
                    exact ⟨by rw [HFail.out 70 (entN_odd HV.out hlong hO) (by decide)]; rfl, HP2.out.k.keeps hk3⟩
                  · have cH := Lib.hid (holds_any y.2)
                    rw [hO] at cH
                    have hys2 := hys.2
                    have HO := Lib.hid hO
                    clear hO
                    go_upto_region 23 with (first
                      | ((go_at_call 11); (refine (cV.out _ (HNj.out.kept (S := fun _ => False) (Fr.alloc (Fr.refl _ wr) _) (fun h => h))).mono ?_); (rintro e w2 ⟨rfl, hF2, hN2⟩); (have hb2 : Blk w2 wr.heap.size _ _ := hF2.blk (Blk.new _ _ _) (by omega)); (have c20 := hb2.cell 0); (have c21 := hb2.cell 1); (have hP2 : PrS w0 b mh (seen ++ [x.1]) oo w2 := (HPj.out.keeps (Fr.alloc (Fr.refl _ wr) _)).other hF2 (HNj.out.kept (S := fun _ => False) (Fr.alloc (Fr.refl _ wr) _) (fun h => h)) hmn0 hmn1); (have HP2 := Lib.hid hP2); (have HN2 := Lib.hid (hN2 rfl)); (have HB2 := Lib.hid hb2); (clear hb2 hF2 hN2 hP2))
                      | ((go_at_call 14); (refine (cH.out _ hys2 (HT.out.kept HP2.out.k)).mono ?_); (rintro e w3 ⟨rfl, hk3⟩); (have hb3 := hk3.blk HB2.out (fun h => h)); (have c30 := hb3.cell 0); (have c31 := hb3.cell 1); (have HB3 := Lib.hid hb3); (clear hb3)))
                    obtain ⟨wv, hwv⟩ : ∃ wv : ByteArray, (⟨(writtenL (bl y.2)).toArray⟩ : ByteArray) = wv := ⟨_, rfl⟩
                    have cWr := Lib.hid (written_any y.2 (by omega))
                    rw [hwv] at cWr
                    obtain ⟨tE, htE⟩ : ∃ t, y.1 ++ (⟨#[32, 61, 32]⟩ : ByteArray) ++ wv ++ ⟨#[10]⟩ = t := ⟨_, rfl⟩
                    have hblE : bl tE = entText y := by
                      rw [← htE, ← hwv]; unfold entText bl; simp [ByteArray.data_append]
                    have hzE : tE.size ≤ 2200 := by
                      have h1 := Lib.size_eq tE
                      have h2 : tE.data.toList = entText y := hblE
                      rw [h2] at h1
                      unfold entText at h1
                      simp only [List.length_append, List.length_cons, List.length_nil] at h1
                      have h3 : y.1.size = (bl y.1).length := Lib.size_eq y.1
                      have h4 := writtenL_length (bl y.2)
                      have h5 : y.2.size = (bl y.2).length := Lib.size_eq y.2
                      omega
                    have hoo2 : oo.length ≤ 100000000 := by omega
                    have hwz : wv.size ≤ 2200 := by
                      have h1 := Lib.size_eq wv
                      have h2 : wv.data.toList = writtenL (bl y.2) := by rw [← hwv]
                      rw [h2] at h1
                      have h4 := writtenL_length (bl y.2)
                      have h5 : y.2.size = (bl y.2).length := Lib.size_eq y.2
                      omega
                    have HBE := Lib.hid hblE
                    clear hwv hblE
                    go_region_with (first
                      | ((go_at_call 15); (refine (cWr.out _).mono ?_); (rintro e w4 ⟨rfl, hk4⟩); (have hb4 := hk4.blk (Blk.drew HB3.out) (fun h => h)); (have c40 := hb4.cell 0); (have c41 := hb4.cell 1); (have k34 : Keeps w3 w4 := (Fr.drew (Fr.refl _ w3)).keeps hk4); (have HP4 := Lib.hid ((HP2.out.keeps hk3).keeps k34)); (have HN4 := Lib.hid ((HN2.out.kept hk3 (fun h => h)).kept k34 (fun h => h))); (clear hb4))
                      | ((go_at_call 13); (refine (writeString_any HP4.out tE hoo2 (by omega)).mono ?_); (rintro e w5 ⟨rfl, hP5, ho5⟩)))
                    all_goals
                      go_wp2
                      go_roundw
                      case measure => simp [intOf]; omega
                      case rel =>
                        have hbt : (bl tE).length ≤ 2200 := by rw [show (bl tE).length = tE.size from (Lib.size_eq tE).symm]; exact hzE
                        refine ⟨j + 1, by omega, rfl, sn ++ [y.1], oo ++ bl tE, by rw [List.length_append, hsn]; rfl, by rw [List.length_append]; omega, by omega, hP5, HN4.out.others ho5 hmnb, ?_⟩
                        rw [← HEJ.out, HBE.out]
                        exact (ents_ok (entN_fine HV.out hlong HO.out)).symm
              · have hVz : ¬ ((V : Int) = 0) := by omega
                go_wp2_with ((go_at_call 11); (refine (cV.out _ (HNj.out.kept (S := fun _ => False) (Fr.alloc (Fr.refl _ wr) _) (fun h => h))).mono ?_); (rintro e w2 ⟨rfl, hF2, hN2⟩); (have HF2 := Lib.hid hF2); (clear hF2 hN2))
                go_ret2
                refine ⟨by rw [HFail.out V (by rw [entN_wrong (by rw [HV.out]; exact hV0), HV.out]) hV0]; rfl, ?_⟩
                exact Fr.trans (HPj.out.k.keeps (Fr.alloc (Fr.refl _ wr) _)) HF2.out (fun i hi e => by have e : i = mn := e; omega)
            · have hje : j = x.2.length := by omega
              have hjz : ¬ ((j : Int) < (x.2.length : Int)) := by omega
              have he : entsGo [] OH x.2 = (0, oo) := by rw [← hEj, hje, List.drop_length]; rfl
              have hgo := HGO.out
              rw [he] at hgo
              have HPj := Lib.hid hPj
              have HGG := Lib.hid hgo
              clear hPj hNj hEj he hgo hje
              go_wp2
              go_roundw
              case measure => simp [intOf]; omega
              case rel =>
                exact ⟨k + 1, by omega, rfl, seen ++ [x.1], oo, by rw [List.length_append, hsk]; rfl, by omega, by omega, HPj.out, HGG.out.symm.trans HG.out⟩
        · have hse : seen.isEmpty = false := by cases seen with | nil => exact absurd hsk.symm hk0 | cons _ _ => rfl
          have hkz0 : (0 : Int) < (k : Int) := by omega
          go_wp2_with (first
            | ((go_at_call 11); (refine (cW.out _ (HP.out.names.kept (S := fun _ => False) (Fr.alloc (Fr.refl _ wr) _) (fun h => h))).mono ?_); (rintro e w2 ⟨rfl, hF2, hN2⟩); (have hb2 : Blk w2 wr.heap.size _ _ := hF2.blk (Blk.new _ _ _) (by omega)); (have c20 := hb2.cell 0); (have c21 := hb2.cell 1); (have HB2 := Lib.hid hb2); (have hP2 : PrS w0 b mh (seen ++ [x.1]) out w2 := (HP.out.keeps (Fr.alloc (Fr.refl _ wr) _)).head hF2 (hN2 rfl)); (have HP2 := Lib.hid hP2); (clear hb2 hF2 hN2 hP2))
            | ((go_at_call 12); (refine (writeByte_any HP2.out 10 (by omega)).mono ?_); (rintro e w3 ⟨rfl, hP3, ho3⟩); (have hb3 := blk_others HB2.out ho3 (by omega) (by decide)); (have c30 := hb3.cell 0); (have c31 := hb3.cell 1); (have HB3 := Lib.hid hb3); (have HP3 := Lib.hid hP3); (clear hb3 hP3))
            | ((go_at_call 13); (refine (writeString_any HP3.out tH (by simp; omega) (by omega)).mono ?_); (rintro e w5 ⟨rfl, hP5, ho5⟩); (have hb5 := blk_others HB3.out ho5 (by omega) (by decide)); (have c50 := hb5.cell 0); (have c51 := (Blk.alloc hb5 (.map #[] 0)).cell 1); (have HP5 := Lib.hid hP5); (clear hP5 hb5)))
          have hOH : out ++ [10] ++ bl tH = out ++ secHead seen.isEmpty x.1 := by rw [HBL.out, hse, List.append_assoc]; rfl
          have hP6 : PrS w0 b mh (seen ++ [x.1]) (out ++ secHead seen.isEmpty x.1) (w5.alloc (.map #[] 0)) := by
            rw [← hOH]; exact HP5.out.keeps (Fr.alloc (Fr.refl _ w5) _)
          have hN6 : NamesIs (w5.alloc (.map #[] 0)) w5.heap.size [] := ⟨#[], 0, heap_alloc_new' rfl, rfl⟩
          have hmn0 : w0.heap.size ≤ w5.heap.size := HP5.out.k.size
          have hmn1 : mh ≠ w5.heap.size := by have := HP5.out.names.lt; omega
          have hmnb : w5.heap.size ≠ b := by
            have : b < w5.heap.size := by rcases HP5.out.bld with ⟨_, v, h3, _⟩ | ⟨_, v, h3, _⟩ <;> exact (Array.getElem?_eq_some_iff.1 h3).1
            omega
          have hHL : (secHead seen.isEmpty x.1).length ≤ 100 := by
            have h3 : x.1.size = (bl x.1).length := Lib.size_eq x.1
            unfold secHead
            simp only [List.length_append, List.length_cons, List.length_nil]
            split <;> (simp; omega)
          have HP6 := Lib.hid hP6
          have HN6 := Lib.hid hN6
          have hohl : (out ++ secHead seen.isEmpty x.1).length ≤ 150000 * k + 100 := by rw [List.length_append]; omega
          clear hOH hP6 hN6 c20 c21 c30 c31 c50 c51 hHL
          generalize hOHv : out ++ secHead seen.isEmpty x.1 = OH at HP6 HGO hohl
          generalize w5.alloc (.map #[] 0) = W6 at HP6 HN6 ⊢
          generalize w5.heap.size = mn at HN6 hmn0 hmn1 hmnb ⊢
          clear hOHv htH
          have hxl := hxs.2.1
          go_loopw [40] (fun t40 wq => ∃ j : Nat, j ≤ x.2.length ∧ t40 = .int .i64 (j : Int) ∧ ∃ sn o, sn.length = j ∧ o.length ≤ OH.length + 2200 * j ∧ j ≤ 64 ∧ PrS w0 b mh (seen ++ [x.1]) o wq ∧ NamesIs wq mn sn ∧ entsGo sn o (x.2.drop j) = entsGo [] OH x.2) (fun t40 _ => x.2.length - (intOf t40).toNat)
          case atStart => exact ⟨0, by omega, rfl, [], OH, rfl, by omega, by omega, HP6.out, HN6.out, rfl⟩
          case round =>
            obtain ⟨j, hj, rfl, sn, oo, hsn, hoo, hj64, hPj, hNj, hEj⟩ := hrel
            by_cases hjl : j < x.2.length
            · obtain ⟨y, hy⟩ : ∃ y, x.2[j]? = some y := ⟨_, List.getElem?_eq_getElem hjl⟩
              obtain ⟨b1, o1, rfl, d0, d1⟩ := HE.out j y hy
              have hjz : (j : Int) < (x.2.length : Int) := by omega
              have d0 := cell_of_keeps hPj.k d0
              have d1 := cell_of_keeps hPj.k d1
              have hys := hxs.2.2 y (List.mem_of_getElem? hy)
              have hdr : x.2.drop j = y :: x.2.drop (j + 1) := by rw [List.drop_eq_getElem_cons hjl]; congr 1; exact (List.getElem?_eq_some_iff.1 hy).2
              rw [hdr] at hEj
              have HEJ := Lib.hid hEj
              have HPj := Lib.hid hPj
              have HNj := Lib.hid hNj
              have cV := Lib.hid (wrong_any mn sn y.1 (by omega))
              have hbq : b < wr.heap.size := by rcases hPj.bld with ⟨_, v, h3, _⟩ | ⟨_, v, h3, _⟩ <;> exact (Array.getElem?_eq_some_iff.1 h3).1
              have hmq : mn < wr.heap.size := hNj.lt
              have hfail : ∀ e, entN sn y = e → e ≠ 0 → printL ss = (e, []) := by
                intro e h1 h2
                refine print_err ?_ h2
                have h3 := HEJ.out.symm.trans (ents_err h1 h2)
                rw [← HG.out, HGO.out, h3]
                obtain ⟨n, rfl⟩ := Nat.exists_eq_succ_of_ne_zero h2
                rfl
              have HFail := Lib.hid hfail
              obtain ⟨V, hV⟩ : ∃ V, wrongN sn y.1 = V := ⟨_, rfl⟩
              rw [hV] at cV
              have HV := Lib.hid hV
              clear hPj hNj hEj hdr hV hfail
              by_cases hV0 : V = 0
              · obtain ⟨hy32, hs64⟩ := wrongN_ok (HV.out.trans hV0)
                subst hV0
                by_cases hlong : 1024 < y.2.size
                · have hlz : (1024 : Int) < (y.2.size : Int) := by omega
                  go_wp2_with (first
                    | ((go_at_call 11); (refine (cV.out _ (HNj.out.kept (S := fun _ => False) (Fr.alloc (Fr.refl _ wr) _) (fun h => h))).mono ?_); (rintro e w2 ⟨rfl, hF2, hN2⟩); (have hb2 : Blk w2 wr.heap.size _ _ := hF2.blk (Blk.new _ _ _) (by omega)); (have c20 := hb2.cell 0); (have c21 := hb2.cell 1); (have hP2 : PrS w0 b mh (seen ++ [x.1]) oo w2 := (HPj.out.keeps (Fr.alloc (Fr.refl _ wr) _)).other hF2 (HNj.out.kept (S := fun _ => False) (Fr.alloc (Fr.refl _ wr) _) (fun h => h)) hmn0 hmn1); (have HP2 := Lib.hid hP2); (have HN2 := Lib.hid (hN2 rfl)); (have HB2 := Lib.hid hb2); (clear hb2 hF2 hN2 hP2))
                    | fail)
                  go_ret2
                  exact ⟨by rw [HFail.out 77 (entN_long HV.out hlong) (by decide)]; rfl, HP2.out.k⟩
                · have hlz : ¬ ((1024 : Int) < (y.2.size : Int)) := by omega
                  cases hO : okV y.2
                  · have cH := Lib.hid (holds_any y.2)
                    rw [hO] at cH
                    have hys2 := hys.2
                    go_wp2_with (first
                      | ((go_at_call 11); (refine (cV.out _ (HNj.out.kept (S := fun _ => False) (Fr.alloc (Fr.refl _ wr) _) (fun h => h))).mono ?_); (rintro e w2 ⟨rfl, hF2, hN2⟩); (have hb2 : Blk w2 wr.heap.size _ _ := hF2.blk (Blk.new _ _ _) (by omega)); (have c20 := hb2.cell 0); (have c21 := hb2.cell 1); (have hP2 : PrS w0 b mh (seen ++ [x.1]) oo w2 := (HPj.out.keeps (Fr.alloc (Fr.refl _ wr) _)).other hF2 (HNj.out.kept (S := fun _ => False) (Fr.alloc (Fr.refl _ wr) _) (fun h => h)) hmn0 hmn1); (have HP2 := Lib.hid hP2); (have HN2 := Lib.hid (hN2 rfl)); (have HB2 := Lib.hid hb2); (clear hb2 hF2 hN2 hP2))
                      | ((go_at_call 14); (refine (cH.out _ hys2 (HT.out.kept HP2.out.k)).mono ?_); (rintro e w3 ⟨rfl, hk3⟩)))
                    go_ret2
                    exact ⟨by rw [HFail.out 70 (entN_odd HV.out hlong hO) (by decide)]; rfl, HP2.out.k.keeps hk3⟩
                  · have cH := Lib.hid (holds_any y.2)
                    rw [hO] at cH
                    have hys2 := hys.2
                    have HO := Lib.hid hO
                    clear hO
                    go_upto_region 23 with (first
                      | ((go_at_call 11); (refine (cV.out _ (HNj.out.kept (S := fun _ => False) (Fr.alloc (Fr.refl _ wr) _) (fun h => h))).mono ?_); (rintro e w2 ⟨rfl, hF2, hN2⟩); (have hb2 : Blk w2 wr.heap.size _ _ := hF2.blk (Blk.new _ _ _) (by omega)); (have c20 := hb2.cell 0); (have c21 := hb2.cell 1); (have hP2 : PrS w0 b mh (seen ++ [x.1]) oo w2 := (HPj.out.keeps (Fr.alloc (Fr.refl _ wr) _)).other hF2 (HNj.out.kept (S := fun _ => False) (Fr.alloc (Fr.refl _ wr) _) (fun h => h)) hmn0 hmn1); (have HP2 := Lib.hid hP2); (have HN2 := Lib.hid (hN2 rfl)); (have HB2 := Lib.hid hb2); (clear hb2 hF2 hN2 hP2))
                      | ((go_at_call 14); (refine (cH.out _ hys2 (HT.out.kept HP2.out.k)).mono ?_); (rintro e w3 ⟨rfl, hk3⟩); (have hb3 := hk3.blk HB2.out (fun h => h)); (have c30 := hb3.cell 0); (have c31 := hb3.cell 1); (have HB3 := Lib.hid hb3); (clear hb3)))
                    obtain ⟨wv, hwv⟩ : ∃ wv : ByteArray, (⟨(writtenL (bl y.2)).toArray⟩ : ByteArray) = wv := ⟨_, rfl⟩
                    have cWr := Lib.hid (written_any y.2 (by omega))
                    rw [hwv] at cWr
                    obtain ⟨tE, htE⟩ : ∃ t, y.1 ++ (⟨#[32, 61, 32]⟩ : ByteArray) ++ wv ++ ⟨#[10]⟩ = t := ⟨_, rfl⟩
                    have hblE : bl tE = entText y := by
                      rw [← htE, ← hwv]; unfold entText bl; simp [ByteArray.data_append]
                    have hzE : tE.size ≤ 2200 := by
                      have h1 := Lib.size_eq tE
                      have h2 : tE.data.toList = entText y := hblE
                      rw [h2] at h1
                      unfold entText at h1
                      simp only [List.length_append, List.length_cons, List.length_nil] at h1
                      have h3 : y.1.size = (bl y.1).length := Lib.size_eq y.1
                      have h4 := writtenL_length (bl y.2)
                      have h5 : y.2.size = (bl y.2).length := Lib.size_eq y.2
                      omega
                    have hoo2 : oo.length ≤ 100000000 := by omega
                    have hwz : wv.size ≤ 2200 := by
                      have h1 := Lib.size_eq wv
                      have h2 : wv.data.toList = writtenL (bl y.2) := by rw [← hwv]
                      rw [h2] at h1
                      have h4 := writtenL_length (bl y.2)
                      have h5 : y.2.size = (bl y.2).length := Lib.size_eq y.2
                      omega
                    have HBE := Lib.hid hblE
                    clear hwv hblE
                    go_region_with (first
                      | ((go_at_call 15); (refine (cWr.out _).mono ?_); (rintro e w4 ⟨rfl, hk4⟩); (have hb4 := hk4.blk (Blk.drew HB3.out) (fun h => h)); (have c40 := hb4.cell 0); (have c41 := hb4.cell 1); (have k34 : Keeps w3 w4 := (Fr.drew (Fr.refl _ w3)).keeps hk4); (have HP4 := Lib.hid ((HP2.out.keeps hk3).keeps k34)); (have HN4 := Lib.hid ((HN2.out.kept hk3 (fun h => h)).kept k34 (fun h => h))); (clear hb4))
                      | ((go_at_call 13); (refine (writeString_any HP4.out tE hoo2 (by omega)).mono ?_); (rintro e w5 ⟨rfl, hP5, ho5⟩)))
                    all_goals
                      go_wp2
                      go_roundw
                      case measure => simp [intOf]; omega
                      case rel =>
                        have hbt : (bl tE).length ≤ 2200 := by rw [show (bl tE).length = tE.size from (Lib.size_eq tE).symm]; exact hzE
                        refine ⟨j + 1, by omega, rfl, sn ++ [y.1], oo ++ bl tE, by rw [List.length_append, hsn]; rfl, by rw [List.length_append]; omega, by omega, hP5, HN4.out.others ho5 hmnb, ?_⟩
                        rw [← HEJ.out, HBE.out]
                        exact (ents_ok (entN_fine HV.out hlong HO.out)).symm
              · have hVz : ¬ ((V : Int) = 0) := by omega
                go_wp2_with ((go_at_call 11); (refine (cV.out _ (HNj.out.kept (S := fun _ => False) (Fr.alloc (Fr.refl _ wr) _) (fun h => h))).mono ?_); (rintro e w2 ⟨rfl, hF2, hN2⟩); (have HF2 := Lib.hid hF2); (clear hF2 hN2))
                go_ret2
                refine ⟨by rw [HFail.out V (by rw [entN_wrong (by rw [HV.out]; exact hV0), HV.out]) hV0]; rfl, ?_⟩
                exact Fr.trans (HPj.out.k.keeps (Fr.alloc (Fr.refl _ wr) _)) HF2.out (fun i hi e => by have e : i = mn := e; omega)
            · have hje : j = x.2.length := by omega
              have hjz : ¬ ((j : Int) < (x.2.length : Int)) := by omega
              have he : entsGo [] OH x.2 = (0, oo) := by rw [← hEj, hje, List.drop_length]; rfl
              have hgo := HGO.out
              rw [he] at hgo
              have HPj := Lib.hid hPj
              have HGG := Lib.hid hgo
              clear hPj hNj hEj he hgo hje
              go_wp2
              go_roundw
              case measure => simp [intOf]; omega
              case rel =>
                exact ⟨k + 1, by omega, rfl, seen ++ [x.1], oo, by rw [List.length_append, hsk]; rfl, by omega, by omega, HPj.out, HGG.out.symm.trans HG.out⟩
      · have hWz : ¬ ((W : Int) = 0) := by omega
        go_wp2_with ((go_at_call 11); (refine (cW.out _ (HP.out.names.kept (S := fun _ => False) (Fr.alloc (Fr.refl _ wr) _) (fun h => h))).mono ?_); (rintro e w2 ⟨rfl, hF2, hN2⟩); (have HF2 := Lib.hid hF2); (clear hF2 hN2))
        go_ret2
        have he : printL ss = (W, []) := by
          refine print_err ?_ hW0
          rw [← HG.out, secsGo, HW.out, if_pos hW0]
        refine ⟨by rw [he]; rfl, ?_⟩
        exact Fr.trans (HP.out.k.keeps (Fr.alloc (Fr.refl _ wr) _)) HF2.out (fun i hi e => by have := HP.out.mh0; have e : i = mh := e; omega)
    · have hke : k = ss.length := by omega
      have hkz : ¬ ((k : Int) < (ss.length : Int)) := by omega
      have hg : secsGo [] [] ss = (0, out) := by rw [← hG, hke, List.drop_length]; rfl
      have hpk := print_ok hg
      have HP := Lib.hid hP
      have HK := Lib.hid hpk
      clear hP hG hg hpk hke
      by_cases hbig : 131072 < out.length
      · have hbz : (131072 : Int) < (out.length : Int) := by omega
        go_wp2_with (first
          | (go_at_call 16; refine (len_any HP.out).mono ?_; rintro e w2 ⟨rfl, rfl⟩)
          | fail)
        go_ret2
        exact ⟨by rw [HK.out, if_pos hbig]; rfl, HP.out.k⟩
      · have hbz : ¬ ((131072 : Int) < (out.length : Int)) := by omega
        go_wp2_with (first
          | (go_at_call 16; refine (len_any HP.out).mono ?_; rintro e w2 ⟨rfl, rfl⟩)
          | (go_at_call 17; refine (string_any HP.out).mono ?_; rintro e w3 ⟨rfl, hk3⟩))
        go_ret2
        exact ⟨by rw [HK.out, if_neg hbig]; rfl, hk3⟩
end Go.Proofs.YtjoklcjpihadiaaGreatDoor

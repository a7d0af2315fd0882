/- twin's memory: lists of entries with a mark behind them, each in a block of its own; the list of sections. -/
import Derived.Test.YtjoklcjpihadiaaGreatDoorRoZ2
import Derived.Test.YtjoklcjpihadiaaGreatDoorRoO
import Derived.Deep.Upon
set_option linter.unusedVariables false
set_option linter.unusedSimpArgs false
set_option linter.unnecessarySimpa false
namespace Go.Proofs.YtjoklcjpihadiaaGreatDoor
open Go Go.RowKit Sluice Go.Proofs.Ro Go.Lib

theorem step_append_run7 {P : Program} {ops : Array Oper} {o : Oper} {a : Act} {w : World} {K : Act → World → Prop} {Q : Exit → Act → World → Prop} {E : Prop}
    (hg : o.guard = none) (s x : Operand) (t : TypeId) (hop : o.op = Op.call { callee := Callee.builtin Builtin.append, args := #[s, x], argTypes := #[t, t] })
    (sv xv v : Value) (w' : World) (hs : a.eval s = sv) (hx : a.eval x = xv) (hrun : (Builtin.append_ #[t, t] o.type #[sv, xv]).run P w = .ok v w')
    (hK : K (a.put o.dst v) w') :
    if Region.wanted o (yielded ops a.tmps) = true then Oper.wp P o a w K Q else E := by
  have hw : Region.wanted o (yielded ops a.tmps) = true := by simp [Region.wanted, hg]
  rw [if_pos hw]
  unfold Oper.wp
  simp [execOp, hop, resolve, invoke, builtin, hs, hx, hrun, Result.andThen]
  exact hK

def entCells (es : List Ent) : List Value := es.flatMap fun x => [.string x.1, .string x.2]
theorem entCells_cons (x : Ent) (es : List Ent) : entCells (x :: es) = .string x.1 :: .string x.2 :: entCells es := rfl
theorem entCells_length (es : List Ent) : (entCells es).length = es.length * 2 := by
  induction es with
  | nil => rfl
  | cons x t ih => rw [entCells_cons]; simp only [List.length_cons]; omega
theorem entCells_fst {es : List Ent} : ∀ {j : Nat} {x : Ent}, es[j]? = some x → (entCells es)[j * 2]? = some (.string x.1) ∧ (entCells es)[j * 2 + 1]? = some (.string x.2) := by
  induction es with
  | nil => intro j x h; cases h
  | cons y t ih =>
    intro j x h
    rw [entCells_cons]
    cases j with
    | zero => cases h; exact ⟨rfl, rfl⟩
    | succ j =>
      have h := ih (j := j) (by simpa using h)
      rw [show (j + 1) * 2 = j * 2 + 1 + 1 by omega]
      exact h
theorem entCells_all (es : List Ent) : ∀ u ∈ entCells es, u.oneCell' = true := by
  intro u hu
  unfold entCells at hu
  rw [List.mem_flatMap] at hu
  obtain ⟨x, -, hx⟩ := hu
  simp only [List.mem_cons, List.not_mem_nil, or_false] at hx
  rcases hx with rfl | rfl <;> rfl
theorem entCells_at {es : List Ent} : ∀ {j : Nat} {u : Value}, (entCells es)[j]? = some u → ∃ i x, es[i]? = some x ∧ ((j = i * 2 ∧ u = .string x.1) ∨ (j = i * 2 + 1 ∧ u = .string x.2)) := by
  induction es with
  | nil => intro j u h; cases h
  | cons y t ih =>
    intro j u h
    rw [entCells_cons] at h
    match j, h with
    | 0, h => cases h; exact ⟨0, y, rfl, .inl ⟨rfl, rfl⟩⟩
    | 1, h => cases h; exact ⟨0, y, rfl, .inr ⟨rfl, rfl⟩⟩
    | j + 2, h =>
      obtain ⟨i, x, h1, h2⟩ := ih (j := j) (u := u) (by simpa using h)
      exact ⟨i + 1, x, by simpa using h1, by rcases h2 with ⟨h2, h3⟩ | ⟨h2, h3⟩; exact .inl ⟨by omega, h3⟩; exact .inr ⟨by omega, h3⟩⟩

def markN : ByteArray := ⟨#[109, 97, 114, 107]⟩
def markL : List Value := [.string ⟨#[109, 97, 114, 107]⟩, .string ⟨#[98, 101, 104, 105, 110, 100]⟩]

theorem info_entry : (Tryz.prog.info? 37).map (fun i => (i.zero, i.size, i.bytes)) = some (some (.agg #[.string .empty, .string .empty]), 2, 32) := by kernel_rfl
theorem info_section : (Tryz.prog.info? 35).map (fun i => (i.zero, i.size, i.bytes)) = some (some (.agg #[.string .empty, .slice none 0 0]), 2, 40) := by kernel_rfl

/-- Entries are copied into a list of their own. -/
theorem append_ents {w : World} {ev : Value} {es : List Ent} (h : EntsAt w ev es) (hn : es.length ≤ 1048576) :
    ∃ v' w', (Builtin.append_ #[33, 33] 33 #[.slice none 0 0, ev]).run Tryz.prog w = .ok v' w' ∧ Row w' 37 2 v' es.length (entCells es) ∧ Keeps w w' ∧ ∀ k, v'.ownBlock = some k → w.heap.size ≤ k := by
  obtain ⟨base, cap, rfl, hcap, hc⟩ := h
  cases base with
  | none =>
    have he : es = [] := by
      cases es with
      | nil => rfl
      | cons x t => obtain ⟨b, o, h1, -⟩ := hc 0 x rfl; cases h1
    subst he
    obtain ⟨i, hi, -, -, -⟩ := info_parts info_entry
    refine ⟨.slice none 0 0, w, ?_, ⟨rfl, .inl ⟨rfl, rfl⟩⟩, Fr.refl _ _, fun k hk => by cases hk⟩
    simp [Builtin.append_, run_underlying Tryz.underlying33, Go.sizeOf, typeInfo, hi, Builtin.lenOf, Builtin.firstCells, loadCells, loadCellsFrom]
  | some a =>
    obtain ⟨v', w', hrun, hrow, hgrow, hnew⟩ := run_append_row (P := Tryz.prog) w 33 33 37 (.agg #[.string .empty, .string .empty]) 2 32 Tryz.underlying33 info_entry rfl (by omega)
      (.slice none 0 0) 0 [] ⟨rfl, .inl ⟨rfl, rfl⟩⟩ a es.length cap (entCells es) (entCells_length es)
      (by
        intro j u hj
        obtain ⟨i, x, hx, hu⟩ := entCells_at hj
        obtain ⟨b, o, h1, h2, h3⟩ := hc i x hx
        cases h1
        have hadd : (⟨b, o, none⟩ : Addr).add j = ⟨b, o + j, none⟩ := by unfold Addr.add; split <;> simp_all
        rw [hadd]
        rcases hu with ⟨rfl, rfl⟩ | ⟨rfl, rfl⟩
        · exact h2
        · exact h3)
      (entCells_all es) (by unfold maxLen; omega) (by omega)
    rw [Nat.zero_add, List.nil_append] at hrow
    exact ⟨v', w', hrun, hrow, (Fr.refl _ w).grown hgrow (fun k hk _ => by cases hk), fun k hk => by rcases hnew k hk with h | h; cases h; exact h⟩

/-- A list of entries with a mark behind it, in the block g. -/
def Marked (w : World) (v : Value) (g : Nat) (es : List Ent) : Prop :=
  ∃ cap cur, v = .slice (some ⟨g, 0, none⟩) es.length cap ∧ es.length + 1 ≤ cap ∧ Blk w g cur 37 ∧ cur.toList.take ((es.length + 1) * 2) = entCells es ++ markL
theorem Marked.kept {w w' : World} {v : Value} {g : Nat} {es : List Ent} (h : Marked w v g es) {S : Nat → Prop} (hf : Fr S w w') (hn : ¬ S g) : Marked w' v g es := by
  obtain ⟨cap, cur, h1, h2, h3, h4⟩ := h
  exact ⟨cap, cur, h1, h2, hf.blk h3 hn, h4⟩
theorem Marked.lt {w : World} {v : Value} {g : Nat} {es : List Ent} (h : Marked w v g es) : g < w.heap.size := by
  obtain ⟨cap, cur, h1, h2, h3, h4⟩ := h
  exact h3.lt
theorem take_get {cur : Array Value} {m i : Nat} {l : List Value} {u : Value} (h : cur.toList.take m = l) (hi : l[i]? = some u) : cur[i]? = some u := by
  subst h
  rw [List.getElem?_take] at hi
  split at hi
  · simpa using hi
  · cases hi
theorem Marked.ents {w : World} {v : Value} {g : Nat} {es : List Ent} (h : Marked w v g es) : EntsAt w v es := by
  obtain ⟨cap, cur, h1, h2, h3, h4⟩ := h
  refine ⟨_, cap, h1, by omega, fun j x hj => ⟨g, 0, rfl, ?_⟩⟩
  have he := entCells_fst hj
  have hl := entCells_length es
  have hjl := (List.getElem?_eq_some_iff.1 hj).1
  rw [Nat.zero_add, h3.cell, h3.cell]
  constructor
  · exact take_get h4 (by rw [List.getElem?_append_left (by omega)]; exact he.1)
  · exact take_get h4 (by rw [List.getElem?_append_left (by omega)]; exact he.2)
theorem Marked.mark {w : World} {v : Value} {g : Nat} {es : List Ent} (h : Marked w v g es) : ∃ cap, v = .slice (some ⟨g, 0, none⟩) es.length cap ∧ es.length + 1 ≤ cap ∧ w.cell? ⟨g, es.length * 2, none⟩ = some (.string ⟨#[109, 97, 114, 107]⟩) ∧ w.cell? ⟨g, es.length * 2 + 1, none⟩ = some (.string ⟨#[98, 101, 104, 105, 110, 100]⟩) := by
  obtain ⟨cap, cur, h1, h2, h3, h4⟩ := h
  have hl := entCells_length es
  refine ⟨cap, h1, h2, ?_, ?_⟩
  · rw [h3.cell]
    exact take_get h4 (by rw [List.getElem?_append_right (by omega), hl, Nat.sub_self]; rfl)
  · rw [h3.cell]
    exact take_get h4 (by rw [List.getElem?_append_right (by omega), hl, Nat.add_sub_cancel_left]; rfl)

/-- The mark is put behind a list of entries. -/
theorem append_mark {w1 : World} {v1 : Value} {es : List Ent} (h : Row w1 37 2 v1 es.length (entCells es)) (hn : es.length ≤ 1048576) (b : Nat) (hx : Blk w1 b #[.string ⟨#[109, 97, 114, 107]⟩, .string ⟨#[98, 101, 104, 105, 110, 100]⟩] 37) :
    ∃ g cap w2, (Builtin.append_ #[33, 33] 33 #[v1, .slice (some ⟨b, 0, none⟩) 1 1]).run Tryz.prog w1 = .ok (.slice (some ⟨g, 0, none⟩) (es.length + 1) cap) w2 ∧ es.length + 1 ≤ cap ∧ cap ≤ maxLen ∧
      Marked w2 (.slice (some ⟨g, 0, none⟩) es.length cap) g es ∧ Fr (fun k => v1.ownBlock = some k) w1 w2 ∧ (v1.ownBlock = some g ∨ w1.heap.size ≤ g) := by
  obtain ⟨v', w', hrun, hrow, hgrow, hnew⟩ := run_append_row (P := Tryz.prog) w1 33 33 37 (.agg #[.string .empty, .string .empty]) 2 32 Tryz.underlying33 info_entry rfl (by omega)
    v1 es.length (entCells es) h ⟨b, 0, none⟩ 1 1 markL rfl
    (by intro j u hj
        have hadd : (⟨b, 0, none⟩ : Addr).add j = ⟨b, j, none⟩ := by unfold Addr.add; split <;> simp_all
        rw [hadd, hx.cell]; unfold markL at hj; simpa using hj)
    (by intro u hu; unfold markL at hu; simp only [List.mem_cons, List.not_mem_nil, or_false] at hu; rcases hu with rfl | rfl <;> rfl) (by unfold maxLen; omega) (by omega)
  rcases hrow.2 with ⟨-, h0⟩ | ⟨g, cap, cur, rfl, hb, hc, hcm, hcs, htk⟩
  · omega
  · refine ⟨g, cap, w', hrun, hc, hcm, ⟨cap, cur, rfl, hc, hb, htk⟩, (Fr.refl _ w1).grown hgrow (fun k hk _ => hk), ?_⟩
    exact hnew g rfl

/-- In the midst of twin: these sections are laid. -/
def TwinTo (w0 w : World) (v : Value) (ss : List Sec) : Prop :=
  ∃ xs, Row w 35 2 v ss.length xs ∧ (∀ j x, ss[j]? = some x → ∃ ev g, xs[j * 2]? = some (.string x.1) ∧ xs[j * 2 + 1]? = some ev ∧ Marked w ev g x.2 ∧ w0.heap.size ≤ g ∧ v.ownBlock ≠ some g) ∧
    ∀ k, v.ownBlock = some k → w0.heap.size ≤ k
theorem TwinTo.nil (w0 w : World) : TwinTo w0 w (.slice none 0 0) [] := ⟨[], ⟨rfl, .inl ⟨rfl, rfl⟩⟩, fun j x h => (by cases h), fun k hk => by cases hk⟩
/-- One more section is laid. -/
theorem TwinTo.step {w0 wr w2 wb : World} {v ev : Value} {ss : List Sec} {x : Sec} {g b : Nat} (h : TwinTo w0 wr v ss) (h0 : Keeps w0 wr) (hk : Keeps wr w2) (hm : Marked w2 ev g x.2) (hg : wr.heap.size ≤ g) (hkb : Keeps w2 wb) (hb : Blk wb b #[.string x.1, ev] 35) (hn : ss.length ≤ 1048576) :
    ∃ v3 w3, (Builtin.append_ #[22, 22] 22 #[v, .slice (some ⟨b, 0, none⟩) 1 1]).run Tryz.prog wb = .ok v3 w3 ∧ TwinTo w0 w3 v3 (ss ++ [x]) ∧ Keeps w0 w3 := by
  obtain ⟨xs, hrow, hall, hown⟩ := h
  have hlt := Row.lt hrow
  have hrb : Row wb 35 2 v ss.length xs := row_kept hrow (hk.keeps hkb) (fun _ _ h => h)
  have hm' := hm
  obtain ⟨cap0, cur0, rfl, -, -, -⟩ := hm'
  obtain ⟨v', w', hrun, hrow2, hgrow, hnew⟩ := run_append_row (P := Tryz.prog) wb 22 22 35 (.agg #[.string .empty, .slice none 0 0]) 2 40 Tryz.underlying22 info_section rfl (by omega)
    v ss.length xs hrb ⟨b, 0, none⟩ 1 1 [.string x.1, .slice (some ⟨g, 0, none⟩) x.2.length cap0] rfl
    (by intro j u hj
        have hadd : (⟨b, 0, none⟩ : Addr).add j = ⟨b, j, none⟩ := by unfold Addr.add; split <;> simp_all
        rw [hadd, hb.cell]; simpa using hj)
    (by intro u hu; simp only [List.mem_cons, List.not_mem_nil, or_false] at hu; rcases hu with rfl | rfl <;> rfl) (by unfold maxLen; omega) (by omega)
  have hfr : Fr (fun k => v.ownBlock = some k) wb w' := (Fr.refl _ wb).grown hgrow (fun k hk _ => hk)
  have hxl : xs.length = ss.length * 2 := hrow.1
  have hs1 := hk.size
  have hs2 := hkb.size
  refine ⟨v', w', hrun, ⟨_, by rw [List.length_append]; exact hrow2, ?_, ?_⟩, ?_⟩
  · intro j y hj
    rw [List.getElem?_append] at hj
    split at hj
    · rename_i hjl
      obtain ⟨ev', g', a1, a2, a3, a4, a5⟩ := hall j y hj
      refine ⟨ev', g', by rw [List.getElem?_append_left (by omega)]; exact a1, by rw [List.getElem?_append_left (by omega)]; exact a2, (a3.kept (hk.keeps hkb) (fun h => h)).kept hfr a5, a4, fun he => ?_⟩
      rcases hnew g' he with h | h
      · exact a5 h
      · have := a3.lt; omega
    · rename_i hjl
      have hje : j = ss.length := by
        by_cases hj0 : j - ss.length = 0
        · omega
        · rw [List.getElem?_eq_none (by simp; omega)] at hj; cases hj
      subst hje
      rw [Nat.sub_self] at hj
      cases hj
      have hvg : v.ownBlock ≠ some g := fun he => by have := hlt g he; omega
      refine ⟨_, g, by rw [List.getElem?_append_right (by omega), hxl, Nat.sub_self]; rfl, by rw [List.getElem?_append_right (by omega), hxl, Nat.add_sub_cancel_left]; rfl, (hm.kept hkb (fun h => h)).kept hfr hvg, by have := h0.size; omega, fun he => ?_⟩
      rcases hnew g he with h | h
      · exact hvg h
      · have := hm.lt; omega
  · intro k hk2
    rcases hnew k hk2 with h | h
    · exact hown k h
    · have := h0.size; omega
  · exact Fr.trans ((h0.keeps hk).keeps hkb) hfr (fun i hi he => by have := hown i he; omega)

/-- A twin: its sections, each with a mark behind its entries, and the mark behind them. -/
def Twin (w : World) (v : Value) (ss : List Sec) : Prop :=
  ∃ g cap, v = .slice (some ⟨g, 0, none⟩) ss.length cap ∧ ss.length + 1 ≤ cap ∧
    (∀ j x, ss[j]? = some x → ∃ ev ge, w.cell? ⟨g, 0 + j * 2, none⟩ = some (.string x.1) ∧ w.cell? ⟨g, 0 + j * 2 + 1, none⟩ = some ev ∧ Marked w ev ge x.2) ∧
    w.cell? ⟨g, ss.length * 2, none⟩ = some (.string ⟨#[109, 97, 114, 107]⟩)
theorem Twin.keeps {w w' : World} {v : Value} {ss : List Sec} (h : Twin w v ss) (hk : Keeps w w') : Twin w' v ss := by
  obtain ⟨g, cap, h1, h2, h3, h4⟩ := h
  refine ⟨g, cap, h1, h2, fun j x hj => ?_, cell_of_keeps hk h4⟩
  obtain ⟨ev, ge, a1, a2, a3⟩ := h3 j x hj
  exact ⟨ev, ge, cell_of_keeps hk a1, cell_of_keeps hk a2, a3.kept hk (fun h => h)⟩
theorem Twin.secs {w : World} {v : Value} {ss : List Sec} (h : Twin w v ss) : SecsAt w v ss := by
  obtain ⟨g, cap, h1, h2, h3, h4⟩ := h
  refine ⟨_, cap, h1, by omega, fun j x hj => ?_⟩
  obtain ⟨ev, ge, a1, a2, a3⟩ := h3 j x hj
  exact ⟨g, 0, ev, rfl, a1, a2, a3.ents⟩
/-- The mark is laid behind the sections. -/
theorem TwinTo.last {w0 wr wb : World} {v : Value} {ss : List Sec} {b : Nat} (h : TwinTo w0 wr v ss) (h0 : Keeps w0 wr) (hkb : Keeps wr wb) (hb : Blk wb b #[.string ⟨#[109, 97, 114, 107]⟩, .slice none 0 0] 35) (hn : ss.length ≤ 1048576) :
    ∃ g cap w3, (Builtin.append_ #[22, 22] 22 #[v, .slice (some ⟨b, 0, none⟩) 1 1]).run Tryz.prog wb = .ok (.slice (some ⟨g, 0, none⟩) (ss.length + 1) cap) w3 ∧ ss.length + 1 ≤ cap ∧ cap ≤ maxLen ∧ Twin w3 (.slice (some ⟨g, 0, none⟩) ss.length cap) ss ∧ Keeps w0 w3 := by
  obtain ⟨xs, hrow, hall, hown⟩ := h
  have hrb : Row wb 35 2 v ss.length xs := row_kept hrow hkb (fun _ _ h => h)
  obtain ⟨v', w', hrun, hrow2, hgrow, hnew⟩ := run_append_row (P := Tryz.prog) wb 22 22 35 (.agg #[.string .empty, .slice none 0 0]) 2 40 Tryz.underlying22 info_section rfl (by omega)
    v ss.length xs hrb ⟨b, 0, none⟩ 1 1 [.string ⟨#[109, 97, 114, 107]⟩, .slice none 0 0] rfl
    (by intro j u hj
        have hadd : (⟨b, 0, none⟩ : Addr).add j = ⟨b, j, none⟩ := by unfold Addr.add; split <;> simp_all
        rw [hadd, hb.cell]; simpa using hj)
    (by intro u hu; simp only [List.mem_cons, List.not_mem_nil, or_false] at hu; rcases hu with rfl | rfl <;> rfl) (by unfold maxLen; omega) (by omega)
  have hfr : Fr (fun k => v.ownBlock = some k) wb w' := (Fr.refl _ wb).grown hgrow (fun k hk _ => hk)
  have hxl : xs.length = ss.length * 2 := hrow.1
  rcases hrow2.2 with ⟨-, h0'⟩ | ⟨g, cap, cur, rfl, hbk, hc, hcm, hcs, htk⟩
  · omega
  · refine ⟨g, cap, w', hrun, hc, hcm, ⟨g, cap, rfl, hc, fun j x hj => ?_, ?_⟩, ?_⟩
    · obtain ⟨ev, ge, a1, a2, a3, a4, a5⟩ := hall j x hj
      have hjl := (List.getElem?_eq_some_iff.1 hj).1
      refine ⟨ev, ge, ?_, ?_, (a3.kept hkb (fun h => h)).kept hfr a5⟩
      · rw [Nat.zero_add, hbk.cell]
        exact take_get htk (by rw [List.getElem?_append_left (by omega)]; exact a1)
      · rw [Nat.zero_add, hbk.cell]
        exact take_get htk (by rw [List.getElem?_append_left (by omega)]; exact a2)
    · rw [hbk.cell]
      exact take_get htk (by rw [List.getElem?_append_right (by omega), hxl, Nat.sub_self]; rfl)
    · exact Fr.trans (h0.keeps hkb) hfr (fun i hi he => by have := hown i he; omega)
end Go.Proofs.YtjoklcjpihadiaaGreatDoor

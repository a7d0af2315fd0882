/- From RosterWrites' argument to what the walk asks: sections and entries as they lie; the bound. -/
import Derived.Test.YtjoklcjpihadiaaGreatDoorRows
import Derived.Test.YtjoklcjpihadiaaGreatDoorRoY
import Derived.Lib.LaidTab
import Derived.Lib.LaidU8T
import Derived.Lib.SmallJoins
import Derived.Deep.Strs
import Derived.ChangeSlices
set_option linter.unusedVariables false
set_option linter.unusedSimpArgs false
set_option linter.unnecessarySimpa false
namespace Go.Proofs.YtjoklcjpihadiaaGreatDoor
open Go Go.RowKit Sluice Go.Proofs.Ro Go.WideShapes Go.ChangeShapes Go.Deep Go.Joins

theorem bulk_part {H : Type} {d : DataW H} : ∀ {l : List (DataW H)}, d ∈ l → Rows.uptoBulk d ≤ Rows.uptoBulkAll l := by
  intro l
  induction l with
  | nil => intro h; cases h
  | cons x r ih =>
    intro h
    simp only [Rows.uptoBulkAll]
    rcases List.mem_cons.1 h with e | e
    · subst e; omega
    · have := ih e; omega
theorem bulk_one {H : Type} (d : DataW H) : 1 ≤ Rows.uptoBulk d := by
  cases d with
  | lit l => cases l <;> simp [Rows.uptoBulk]
  | nil => simp [Rows.uptoBulk]
  | ptr d => simp [Rows.uptoBulk]
  | slice elems spare => simp [Rows.uptoBulk]
  | agg parts => simp [Rows.uptoBulk]
  | iface t d => simp [Rows.uptoBulk]
  | map entries => simp [Rows.uptoBulk]
  | held h => simp [Rows.uptoBulk]
theorem bulk_length {H : Type} (l : List (DataW H)) : l.length ≤ Rows.uptoBulkAll l := by
  induction l with
  | nil => simp [Rows.uptoBulkAll]
  | cons x r ih => have := bulk_one x; simp only [Rows.uptoBulkAll, List.length_cons]; omega

section
variable {H : Type} {enc : TypeId × Value → H} {w : World}

theorem plain_at {w : World} {a : Addr} {v : Value} (h : w.cell? a = some v) : ∃ b off, a = ⟨b, off, none⟩ := by
  have hs := World.cell?_spot h
  exact ⟨a.block, a.off, by cases a; simp_all⟩
theorem plain_base {w : World} {a : Addr} {v : Value} (h : w.cell? ((a.add (0 * 2)).add 0) = some v) : ∃ b off, a = ⟨b, off, none⟩ := by
  have e : (a.add (0 * 2)).add 0 = a := by simp [Addr.add]
  rw [e] at h
  exact plain_at h
theorem two_cells {w : World} {a : Addr} {cs : List Value} (h : w.cells? 0 a 2 = some cs) : ∃ c0 c1, cs = [c0, c1] ∧ w.cell? (a.add 0) = some c0 ∧ w.cell? (a.add 1) = some c1 := by
  unfold World.cells? at h
  rw [if_pos (Nat.zero_le _)] at h
  have hl := mapM_some_length h
  have h0 := mapM_some_get h 0 0 (by simp)
  have h1 := mapM_some_get h 1 1 (by simp)
  match cs, hl with
  | [c0, c1], _ => exact ⟨c0, c1, rfl, by simpa using h0, by simpa using h1⟩

set_option maxRecDepth 100000 in
theorem open_entry {fuel : Nat} {cs : List Value} {x : DataW H × List MemPlace} (h : DataW.trod enc Tryz.prog w 0 (fun _ => true) true fuel 37 cs = some x) :
    ∃ p : Ent, cs = [.string p.1, .string p.2] ∧ p.1.size ≤ Rows.uptoBulk x.1 ∧ p.2.size ≤ Rows.uptoBulk x.1 := by
  obtain ⟨y0, y1, n, rfl, hl, h0, h1⟩ := trod_struct2 Tryz.underlying37 h
  have e1 : Tryz.prog.cellsOf 9 = 1 := by kernel_rfl
  have e2 : Tryz.prog.cellsOf 37 = 2 := by kernel_rfl
  rw [e2] at hl
  match cs, hl with
  | [c0, c1], _ =>
    simp [e1] at h0 h1
    obtain ⟨s0, q0, z0, -⟩ := DataW.trod_string Tryz.underlying9 h0
    obtain ⟨s1, q1, z1, -⟩ := DataW.trod_string Tryz.underlying9 h1
    simp at q0 q1
    subst q0 q1 z0 z1
    refine ⟨(s0, s1), rfl, ?_, ?_⟩ <;>
      simp [Rows.uptoBulk, Rows.uptoBulkAll] <;> omega

set_option maxRecDepth 100000 in
theorem open_ents {fuel : Nat} {v : Value} {x : DataW H × List MemPlace} (h : DataW.trod enc Tryz.prog w 0 (fun _ => true) true fuel 33 [v] = some x) :
    ∃ es : List Ent, EntsAt w v es ∧ es.length ≤ Rows.uptoBulk x.1 ∧ ∀ y ∈ es, y.1.size ≤ Rows.uptoBulk x.1 ∧ y.2.size ≤ Rows.uptoBulk x.1 := by
  have e2 : Tryz.prog.cellsOf 37 = 2 := by kernel_rfl
  rcases DataW.trod_slice Tryz.underlying33 h with ⟨h1, rfl⟩ | ⟨a, len, cap, elems, rest, n, rfl, h1, rfl, -, hlc, hcm, hel, hx, -, -⟩
  · obtain rfl : v = .slice none 0 0 := by simpa using h1
    exact ⟨[], ⟨none, 0, rfl, Nat.le_refl _, fun j x h => by cases h⟩, Nat.zero_le _, fun y hy => by cases hy⟩
  · obtain rfl : v = .slice (some a) len cap := by simpa using h1
    rw [e2] at hx
    have each : ∀ i, i < len → ∃ p : Ent, w.cell? ((a.add (i * 2)).add 0) = some (.string p.1) ∧ w.cell? ((a.add (i * 2)).add 1) = some (.string p.2) ∧ p.1.size ≤ Rows.uptoBulkAll (elems.map (·.1)) ∧ p.2.size ≤ Rows.uptoBulkAll (elems.map (·.1)) := by
      intro i hi
      have hy := hx i hi
      rw [List.getElem?_eq_getElem (by omega)] at hy
      obtain ⟨cs, hc, ht⟩ := Option.bind_eq_some_iff.1 hy
      obtain ⟨c0, c1, rfl, k0, k1⟩ := two_cells hc
      obtain ⟨p, hp, s0, s1⟩ := open_entry ht
      simp only [List.cons.injEq, and_true] at hp
      obtain ⟨rfl, rfl⟩ := hp
      have hb := bulk_part (l := elems.map (·.1)) (d := (elems[i]'(by omega)).1) (List.mem_map.2 ⟨_, List.getElem_mem _, rfl⟩)
      exact ⟨p, k0, k1, by omega, by omega⟩
    obtain ⟨F, hF⟩ := choose_lt each
    refine ⟨(List.range len).map F, ⟨some a, cap, by simp, by simpa using hlc, fun j x hj => ?_⟩, ?_, ?_⟩
    · have hjl : j < len := by have := (List.getElem?_eq_some_iff.1 hj).1; simpa using this
      rw [List.getElem?_map, List.getElem?_range hjl] at hj
      simp only [Option.map_some, Option.some.injEq] at hj
      subst hj
      obtain ⟨k0, k1, -, -⟩ := hF j hjl
      obtain ⟨b, o, rfl⟩ := plain_base (hF 0 (by omega)).1
      simp only [WideShapes.add_plain, Nat.add_zero] at k0 k1
      exact ⟨b, o, rfl, k0, k1⟩
    · have := bulk_length (elems.map (·.1))
      simp only [Rows.uptoBulk, List.length_map, List.length_range] at this ⊢
      omega
    · intro y hy
      obtain ⟨i, hi, rfl⟩ := List.mem_map.1 hy
      obtain ⟨-, -, s0, s1⟩ := hF i (List.mem_range.1 hi)
      simp only [Rows.uptoBulk]
      exact ⟨by omega, by omega⟩

set_option maxRecDepth 100000 in
theorem open_section {fuel : Nat} {cs : List Value} {x : DataW H × List MemPlace} (h : DataW.trod enc Tryz.prog w 0 (fun _ => true) true fuel 35 cs = some x) :
    ∃ (p : Sec) (ev : Value), cs = [.string p.1, ev] ∧ EntsAt w ev p.2 ∧ p.1.size ≤ Rows.uptoBulk x.1 ∧ p.2.length ≤ Rows.uptoBulk x.1 ∧ ∀ y ∈ p.2, y.1.size ≤ Rows.uptoBulk x.1 ∧ y.2.size ≤ Rows.uptoBulk x.1 := by
  obtain ⟨y0, y1, n, rfl, hl, h0, h1⟩ := trod_struct2 Tryz.underlying35 h
  have e1 : Tryz.prog.cellsOf 9 = 1 := by kernel_rfl
  have e2 : Tryz.prog.cellsOf 35 = 2 := by kernel_rfl
  have e3 : Tryz.prog.cellsOf 33 = 1 := by kernel_rfl
  rw [e2] at hl
  match cs, hl with
  | [c0, c1], _ =>
    simp [e1] at h0
    simp [e3] at h1
    obtain ⟨s0, q0, z0, -⟩ := DataW.trod_string Tryz.underlying9 h0
    obtain ⟨es, hE, hn, hy⟩ := open_ents h1
    simp at q0
    subst q0 z0
    refine ⟨(s0, es), c1, rfl, hE, ?_, ?_, fun y hyy => ?_⟩
    · simp [Rows.uptoBulk, Rows.uptoBulkAll]; omega
    · simp only [Rows.uptoBulk, Rows.uptoBulkAll]; omega
    · have := hy y hyy
      simp only [Rows.uptoBulk, Rows.uptoBulkAll]
      omega

set_option maxRecDepth 100000 in
theorem open_secs {fuel : Nat} {v : Value} {x : DataW H × List MemPlace} (h : DataW.trod enc Tryz.prog w 0 (fun _ => true) true fuel 22 [v] = some x) :
    ∃ ss : List Sec, SecsAt w v ss ∧ ss.length ≤ Rows.uptoBulk x.1 ∧ ∀ p ∈ ss, p.1.size ≤ Rows.uptoBulk x.1 ∧ p.2.length ≤ Rows.uptoBulk x.1 ∧ ∀ y ∈ p.2, y.1.size ≤ Rows.uptoBulk x.1 ∧ y.2.size ≤ Rows.uptoBulk x.1 := by
  have e2 : Tryz.prog.cellsOf 35 = 2 := by kernel_rfl
  rcases DataW.trod_slice Tryz.underlying22 h with ⟨h1, rfl⟩ | ⟨a, len, cap, elems, rest, n, rfl, h1, rfl, -, hlc, hcm, hel, hx, -, -⟩
  · obtain rfl : v = .slice none 0 0 := by simpa using h1
    exact ⟨[], ⟨none, 0, rfl, Nat.le_refl _, fun j x h => by cases h⟩, Nat.zero_le _, fun y hy => by cases hy⟩
  · obtain rfl : v = .slice (some a) len cap := by simpa using h1
    rw [e2] at hx
    have each : ∀ i, i < len → ∃ p : Sec, (∃ ev, w.cell? ((a.add (i * 2)).add 0) = some (.string p.1) ∧ w.cell? ((a.add (i * 2)).add 1) = some ev ∧ EntsAt w ev p.2) ∧ p.1.size ≤ Rows.uptoBulkAll (elems.map (·.1)) ∧ p.2.length ≤ Rows.uptoBulkAll (elems.map (·.1)) ∧ ∀ y ∈ p.2, y.1.size ≤ Rows.uptoBulkAll (elems.map (·.1)) ∧ y.2.size ≤ Rows.uptoBulkAll (elems.map (·.1)) := by
      intro i hi
      have hy := hx i hi
      rw [List.getElem?_eq_getElem (by omega)] at hy
      obtain ⟨cs, hc, ht⟩ := Option.bind_eq_some_iff.1 hy
      obtain ⟨c0, c1, rfl, k0, k1⟩ := two_cells hc
      obtain ⟨p, ev, hp, hE, s0, s1, s2⟩ := open_section ht
      simp only [List.cons.injEq, and_true] at hp
      obtain ⟨rfl, rfl⟩ := hp
      have hb := bulk_part (l := elems.map (·.1)) (d := (elems[i]'(by omega)).1) (List.mem_map.2 ⟨_, List.getElem_mem _, rfl⟩)
      exact ⟨p, ⟨_, k0, k1, hE⟩, by omega, by omega, fun y hy => by have := s2 y hy; omega⟩
    obtain ⟨F, hF⟩ := choose_lt each
    refine ⟨(List.range len).map F, ⟨some a, cap, by simp, by simpa using hlc, fun j x hj => ?_⟩, ?_, ?_⟩
    · have hjl : j < len := by have := (List.getElem?_eq_some_iff.1 hj).1; simpa using this
      rw [List.getElem?_map, List.getElem?_range hjl] at hj
      simp only [Option.map_some, Option.some.injEq] at hj
      subst hj
      obtain ⟨⟨ev, k0, k1, hE⟩, -⟩ := hF j hjl
      obtain ⟨⟨ev0, z0, -, -⟩, -⟩ := hF 0 (by omega)
      obtain ⟨b, o, rfl⟩ := plain_base z0
      simp only [WideShapes.add_plain, Nat.add_zero] at k0 k1
      exact ⟨b, o, ev, rfl, k0, k1, hE⟩
    · have := bulk_length (elems.map (·.1))
      simp only [Rows.uptoBulk, List.length_map, List.length_range] at this ⊢
      omega
    · intro y hy
      obtain ⟨i, hi, rfl⟩ := List.mem_map.1 hy
      obtain ⟨-, s0, s1, s2⟩ := hF i (List.mem_range.1 hi)
      simp only [Rows.uptoBulk]
      exact ⟨by omega, by omega, fun z hz => by have := s2 z hz; omega⟩
end
end Go.Proofs.YtjoklcjpihadiaaGreatDoor

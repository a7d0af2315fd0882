/- Maps with texts as keys (as for the disk), at the run's level: look up, store, delete, length, over the entries as they lie. -/
import Derived.Test.YtjoklcjpihadiaaGreatDoorMem
import Derived.WideLaws
import Derived.MapKept
set_option linter.unusedVariables false
set_option linter.unusedSimpArgs false
set_option linter.unnecessarySimpa false
namespace Sluice
open Go Go.RowKit Go.MapKept
open Go.ChangeMaps (setBlock)

def keyIs (k : ByteArray) (e : MapEntry) : Bool := match e.key with | .string s => k == s | _ => false
/-- All keys are texts. -/
def StrKeys (es : List MapEntry) : Prop := ∀ e ∈ es, ∃ s, e.key = .string s
def lookEs (es : List MapEntry) (k : ByteArray) : Option Value := (es.find? (keyIs k)).map (·.val)

theorem findNow_str (k : ByteArray) : ∀ (es : List MapEntry) (i : Nat), StrKeys es →
    Instr.findNow .string (.string k) es i = some ((es.findIdx? (keyIs k)).map fun j => (i + j, ((es[j]?).map (·.val)).getD undef))
  | [], i, _ => by simp [Instr.findNow]
  | e :: es, i, h => by
    obtain ⟨s, hs⟩ := h e (List.mem_cons_self ..)
    have ih := findNow_str k es (i + 1) (fun x hx => h x (List.mem_cons_of_mem _ hx))
    unfold Instr.findNow
    simp only [hs, Instr.sameNow, List.findIdx?_cons, keyIs]
    by_cases hk : (k == s) = true
    · simp [hk]
    · simp only [Bool.not_eq_true] at hk
      simp only [hk, ih, Bool.false_eq_true, if_false, Option.map_map]
      congr 1
      cases hf : es.findIdx? (keyIs k) with
      | none => simp
      | some j => simp; omega

section
variable {P : Program} {w : World} {t kt et : TypeId} {r : Nat} {es : Array MapEntry} {clock : Nat}

theorem run_findKey_str (hk : P.underlying kt = some .string) (k : ByteArray) (hs : StrKeys es.toList) :
    (Instr.findKey kt (.string k) es.toList).run P w = .ok ((es.toList.findIdx? (keyIs k)).map fun j => (j, ((es[j]?).map (·.val)).getD undef)) w := by
  have := findNow_str k es.toList 0 hs
  simp only [Nat.zero_add, Array.getElem?_toList] at this
  simp [Instr.findKey, run_underlying hk, this]
theorem run_checkKey_str (hk : P.underlying kt = some .string) (k : ByteArray) (e : Bool) : (Instr.checkKey e 10000 kt (.string k)).run P w = .ok () w := by
  unfold Instr.checkKey
  simp [run_underlying hk]

theorem lookEs_of_findIdx {es : List MapEntry} {k : ByteArray} : lookEs es k = (es.findIdx? (keyIs k)).bind fun j => (es[j]?).map (·.val) := by
  unfold lookEs
  induction es with
  | nil => rfl
  | cons e es ih =>
    simp only [List.find?_cons, List.findIdx?_cons]
    by_cases h : keyIs k e = true
    · simp [h]
    · simp only [Bool.not_eq_true] at h
      simp only [h, Bool.false_eq_true, if_false, ih]
      cases es.findIdx? (keyIs k) <;> simp

theorem run_lookup_str (ht : P.underlying t = some (.map kt et)) (hk : P.underlying kt = some .string) (z : Value) (hz : (zeroValue et).run P w = .ok z w)
    (hb : w.heap[r]? = some (.map es clock)) (hs : StrKeys es.toList) (k : ByteArray) :
    (Instr.lookup t (.map (some r)) (.string k) true).run P w = .ok (.tuple (match lookEs es.toList k with | some v => #[v, .bool true] | none => #[z, .bool false])) w := by
  have hl := @lookEs_of_findIdx es.toList k
  cases hf : es.toList.findIdx? (keyIs k) with
  | none =>
    rw [hf] at hl
    simp only [Option.bind_none] at hl
    simp [Instr.lookup, run_underlying ht, run_getObj_map hb, run_checkKey_str hk, run_findKey_str hk k hs, hf, hz, hl, Result.andThen]
  | some j =>
    have hj : j < es.toList.length := (List.findIdx?_eq_some_iff_getElem.1 hf).1
    rw [hf] at hl
    simp only [Option.bind_some, Array.getElem?_toList] at hl
    have hj' : j < es.size := by simpa using hj
    simp [Instr.lookup, run_underlying ht, run_getObj_map hb, run_checkKey_str hk, run_findKey_str hk k hs, hf, hl, hj', Result.andThen]

theorem run_lookup_one (ht : P.underlying t = some (.map kt et)) (hk : P.underlying kt = some .string) (z : Value) (hz : (zeroValue et).run P w = .ok z w)
    (hb : w.heap[r]? = some (.map es clock)) (hs : StrKeys es.toList) (k : ByteArray) :
    (Instr.lookup t (.map (some r)) (.string k) false).run P w = .ok ((lookEs es.toList k).getD z) w := by
  have hl := @lookEs_of_findIdx es.toList k
  cases hf : es.toList.findIdx? (keyIs k) with
  | none =>
    rw [hf] at hl
    simp only [Option.bind_none] at hl
    simp [Instr.lookup, run_underlying ht, run_getObj_map hb, run_checkKey_str hk, run_findKey_str hk k hs, hf, hz, hl, Result.andThen]
  | some j =>
    have hj : j < es.toList.length := (List.findIdx?_eq_some_iff_getElem.1 hf).1
    rw [hf] at hl
    simp only [Option.bind_some, Array.getElem?_toList] at hl
    have hj' : j < es.size := by simpa using hj
    simp [Instr.lookup, run_underlying ht, run_getObj_map hb, run_checkKey_str hk, run_findKey_str hk k hs, hf, hl, hj', Result.andThen]

theorem run_mapUpdate_new (ht : P.underlying t = some (.map kt et)) (hk : P.underlying kt = some .string)
    (hb : w.heap[r]? = some (.map es clock)) (hs : StrKeys es.toList) (k : ByteArray) (v : Value) (hn : lookEs es.toList k = none) :
    (Instr.mapUpdate t (.map (some r)) (.string k) v).run P w = .ok () (setBlock w r (.map (es.push { key := .string k, val := v, born := clock }) (clock + 1))) := by
  have hf : es.toList.findIdx? (keyIs k) = none := by
    unfold lookEs at hn
    simp only [Option.map_eq_none_iff] at hn
    rw [List.findIdx?_eq_none_iff]
    intro x hx
    have := List.find?_eq_none.1 hn x hx
    simpa using this
  simp [Instr.mapUpdate, run_underlying ht, run_getObj_map hb, run_checkKey_str hk, run_findKey_str hk k hs, hf, run_setObj_map _ hb, Result.andThen, setBlock]

theorem erase_found {α : Type} (p : α → Bool) : ∀ l : List α, (match l.findIdx? p with | some j => l.eraseIdx j | none => l) = l.eraseP p
  | [] => rfl
  | x :: l => by
    have ih := erase_found p l
    simp only [List.findIdx?_cons, List.eraseP_cons]
    cases hx : p x with
    | true => simp
    | false =>
      simp only [Bool.false_eq_true, if_false, cond_false]
      rw [← ih]
      cases l.findIdx? p <;> simp
theorem run_delete_str (ht : P.underlying t = some (.map kt et)) (hk : P.underlying kt = some .string)
    (hb : w.heap[r]? = some (.map es clock)) (hs : StrKeys es.toList) (k : ByteArray) (ats : Array TypeId) (hat : ats[0]? = some t) :
    ∃ es' : Array MapEntry, es'.toList = es.toList.eraseP (keyIs k) ∧ ∀ ty, (Builtin.delete_ ats ty #[.map (some r), .string k]).run P w = .ok (.tuple #[]) (setBlock w r (.map es' clock)) := by
  have he := erase_found (keyIs k) es.toList
  cases hf : es.toList.findIdx? (keyIs k) with
  | none =>
    rw [hf] at he
    exact ⟨es, he, fun ty => by simp [Builtin.delete_, hat, run_underlying ht, run_getObj_map hb, run_checkKey_str hk, run_findKey_str hk k hs, hf, run_setObj_map _ hb, Result.andThen, setBlock]⟩
  | some j =>
    rw [hf] at he
    have hj : j < es.toList.length := (List.findIdx?_eq_some_iff_getElem.1 hf).1
    have hj' : j < es.size := by simpa using hj
    exact ⟨es.eraseIdxIfInBounds j, by simpa [Array.eraseIdxIfInBounds, hj'] using he, fun ty => by simp [Builtin.delete_, hat, run_underlying ht, run_getObj_map hb, run_checkKey_str hk, run_findKey_str hk k hs, hf, run_setObj_map _ hb, Result.andThen, setBlock]⟩

theorem run_len_map (ht : P.underlying t = some (.map kt et)) (ty : TypeId) (hb : w.heap[r]? = some (.map es clock)) :
    (Builtin.len_ #[t] ty #[.map (some r)]).run P w = .ok (goInt es.size) w := by
  simp [Builtin.len_, run_underlying ht, run_getObj_map hb, Result.andThen]
end

theorem heap_setBlock_ne (w : World) (b : Nat) (o : Obj) {k : Nat} (h : k ≠ b) : (setBlock w b o).heap[k]? = w.heap[k]? := by
  simp only [setBlock, Array.getElem?_setIfInBounds]
  rw [if_neg (by omega)]
theorem heap_setBlock_eq {w : World} {b : Nat} {o : Obj} (h : b < w.heap.size) : (setBlock w b o).heap[b]? = some o := by
  simp [setBlock, Array.getElem?_setIfInBounds, h]
theorem size_setBlock (w : World) (b : Nat) (o : Obj) : (setBlock w b o).heap.size = w.heap.size := by simp [setBlock]
theorem Fr.setBlock {S : Nat → Prop} {a b : World} (h : Fr S a b) {r : Nat} (hp : r < a.heap.size → S r) (o : Obj) : Fr S a (setBlock b r o) :=
  ⟨h.os, h.tape, h.output, by simpa [Go.ChangeMaps.setBlock] using h.size, fun k hk hn =>
    (heap_setBlock_ne b r o (fun e => hn (by subst e; exact hp hk))).trans (h.block k hk hn)⟩
theorem Blk.setBlock {w : World} {b : Nat} {cs : Array Value} {t : TypeId} (h : Blk w b cs t) {r : Nat} (hr : b ≠ r) (o : Obj) : Blk (setBlock w r o) b cs t :=
  (heap_setBlock_ne w r o hr).trans h
theorem cell_setBlock_ne (w : World) (b : Nat) (o : Obj) {a : Addr} (h : a.block ≠ b) : (setBlock w b o).cell? a = w.cell? a := World.cell?_of_block (heap_setBlock_ne w b o h)
theorem frozen_setBlock_ne (w : World) (b : Nat) (o : Obj) {a : Addr} (h : a.block ≠ b) : (setBlock w b o).frozen? a = w.frozen? a := World.frozen?_of_block (heap_setBlock_ne w b o h)
end Sluice

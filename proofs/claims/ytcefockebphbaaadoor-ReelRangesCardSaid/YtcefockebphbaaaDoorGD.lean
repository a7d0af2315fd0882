/- Maps with texts as keys, at the run's level: look up, store, delete, length, over the entries as they lie. -/
import Derived.Test.YtcefockebphbaaaDoorMem
import Derived.WideLaws
import Derived.Test.YtcefockebphbaaaDoorGA
set_option linter.unusedVariables false
set_option linter.unusedSimpArgs false
set_option linter.unnecessarySimpa false
namespace Sluice
open Go Go.RowKit Go.MapKept
open Go.ChangeMaps (setBlock)

def keyIs (k : ByteArray) (e : MapEntry) : Bool := match e.key with | .string s => k == s | _ => false
/-- All keys are texts. -/
def StrKeys (es : List MapEntry) : Prop := ∀ e ∈ es, ∃ s, e.key = .string s
def lookEs (es : List MapEntry) (k : ByteArray) : Option Value := (es.find? (keyIs k)).map (·.val)

theorem findNow_str (k : ByteArray) : ∀ (es : List MapEntry) (i : Nat), StrKeys es →
    Instr.findNow .string (.string k) es i = some ((es.findIdx? (keyIs k)).map fun j => (i + j, ((es[j]?).map (·.val)).getD undef))
  | [], i, _ => by simp [Instr.findNow]
  | e :: es, i, h => by
    obtain ⟨s, hs⟩ := h e (List.mem_cons_self ..)
    have ih := findNow_str k es (i + 1) (fun x hx => h x (List.mem_cons_of_mem _ hx))
    unfold Instr.findNow
    simp only [hs, Instr.sameNow, List.findIdx?_cons, keyIs]
    by_cases hk : (k == s) = true
    · simp [hk]
    · simp only [Bool.not_eq_true] at hk
      simp only [hk, ih, Bool.false_eq_true, if_false, Option.map_map]
      congr 1
      cases hf : es.findIdx? (keyIs k) with
      | none => simp
      | some j => simp; omega

section
variable {P : Program} {w : World} {t kt et : TypeId} {r : Nat} {es : Array MapEntry} {clock : Nat}

theorem run_findKey_str (hk : P.underlying kt = some .string) (k : ByteArray) (hs : StrKeys es.toList) :
    (Instr.findKey kt (.string k) es.toList).run P w = .ok ((es.toList.findIdx? (keyIs k)).map fun j => (j, ((es[j]?).map (·.val)).getD undef)) w := by
  have := findNow_str k es.toList 0 hs
  simp only [Nat.zero_add, Array.getElem?_toList] at this
  simp [Instr.findKey, run_underlying hk, this]
theorem run_checkKey_str (hk : P.underlying kt = some .string) (k : ByteArray) (e : Bool) : (Instr.checkKey e 10000 kt (.string k)).run P w = .ok () w := by
  unfold Instr.checkKey
  simp [run_underlying hk]

theorem lookEs_of_findIdx {es : List MapEntry} {k : ByteArray} : lookEs es k = (es.findIdx? (keyIs k)).bind fun j => (es[j]?).map (·.val) := by
  unfold lookEs
  induction es with
  | nil => rfl
  | cons e es ih =>
    simp only [List.find?_cons, List.findIdx?_cons]
    by_cases h : keyIs k e = true
    · simp [h]
    · simp only [Bool.not_eq_true] at h
      simp only [h, Bool.false_eq_true, if_false, ih]
      cases es.findIdx? (keyIs k) <;> simp

theorem run_lookup_str (ht : P.underlying t = some (.map kt et)) (hk : P.underlying kt = some .string) (z : Value) (hz : (zeroValue et).run P w = .ok z w)
    (hb : w.heap[r]? = some (.map es clock)) (hs : StrKeys es.toList) (k : ByteArray) :
    (Instr.lookup t (.map (some r)) (.string k) true).run P w = .ok (.tuple (match lookEs es.toList k with | some v => #[v, .bool true] | none => #[z, .bool false])) w := by
  have hl := @lookEs_of_findIdx es.toList k
  cases hf : es.toList.findIdx? (keyIs k) with
  | none =>
    rw [hf] at hl
    simp only [Option.bind_none] at hl
    simp [Instr.lookup, run_underlying ht, run_getObj_map hb, run_checkKey_str hk, run_findKey_str hk k hs, hf, hz, hl, Result.andThen]
  | some j =>
    have hj : j < es.toList.length := (List.findIdx?_eq_some_iff_getElem.1 hf).1
    rw [hf] at hl
    simp only [Option.bind_some, Array.getElem?_toList] at hl
    have hj' : j < es.size := by simpa using hj
    simp [Instr.lookup, run_underlying ht, run_getObj_map hb, run_checkKey_str hk, run_findKey_str hk k hs, hf, hl, hj', Result.andThen]

theorem run_mapUpdate_new (ht : P.underlying t = some (.map kt et)) (hk : P.underlying kt = some .string)
    (hb : w.heap[r]? = some (.map es clock)) (hs : StrKeys es.toList) (k : ByteArray) (v : Value) (hn : lookEs es.toList k = none) :
    (Instr.mapUpdate t (.map (some r)) (.string k) v).run P w = .ok () (setBlock w r (.map (es.push { key := .string k, val := v, born := clock }) (clock + 1))) := by
  have hf : es.toList.findIdx? (keyIs k) = none := by
    unfold lookEs at hn
    simp only [Option.map_eq_none_iff] at hn
    rw [List.findIdx?_eq_none_iff]
    intro x hx
    have := List.find?_eq_none.1 hn x hx
    simpa using this
  simp [Instr.mapUpdate, run_underlying ht, run_getObj_map hb, run_checkKey_str hk, run_findKey_str hk k hs, hf, run_setObj_map _ hb, Result.andThen, setBlock]

theorem erase_found {α : Type} (p : α → Bool) : ∀ l : List α, (match l.findIdx? p with | some j => l.eraseIdx j | none => l) = l.eraseP p
  | [] => rfl
  | x :: l => by
    have ih := erase_found p l
    simp only [List.findIdx?_cons, List.eraseP_cons]
    cases hx : p x with
    | true => simp
    | false =>
      simp only [Bool.false_eq_true, if_false, cond_false]
      rw [← ih]
      cases l.findIdx? p <;> simp
theorem run_delete_str (ht : P.underlying t = some (.map kt et)) (hk : P.underlying kt = some .string)
    (hb : w.heap[r]? = some (.map es clock)) (hs : StrKeys es.toList) (k : ByteArray) (ats : Array TypeId) (hat : ats[0]? = some t) :
    ∃ es' : Array MapEntry, es'.toList = es.toList.eraseP (keyIs k) ∧ ∀ ty, (Builtin.delete_ ats ty #[.map (some r), .string k]).run P w = .ok (.tuple #[]) (setBlock w r (.map es' clock)) := by
  have he := erase_found (keyIs k) es.toList
  cases hf : es.toList.findIdx? (keyIs k) with
  | none =>
    rw [hf] at he
    exact ⟨es, he, fun ty => by simp [Builtin.delete_, hat, run_underlying ht, run_getObj_map hb, run_checkKey_str hk, run_findKey_str hk k hs, hf, run_setObj_map _ hb, Result.andThen, setBlock]⟩
  | some j =>
    rw [hf] at he
    have hj : j < es.toList.length := (List.findIdx?_eq_some_iff_getElem.1 hf).1
    have hj' : j < es.size := by simpa using hj
    exact ⟨es.eraseIdxIfInBounds j, by simpa [Array.eraseIdxIfInBounds, hj'] using he, fun ty => by simp [Builtin.delete_, hat, run_underlying ht, run_getObj_map hb, run_checkKey_str hk, run_findKey_str hk k hs, hf, run_setObj_map _ hb, Result.andThen, setBlock]⟩

theorem run_len_map (ht : P.underlying t = some (.map kt et)) (ty : TypeId) (hb : w.heap[r]? = some (.map es clock)) :
    (Builtin.len_ #[t] ty #[.map (some r)]).run P w = .ok (goInt es.size) w := by
  simp [Builtin.len_, run_underlying ht, run_getObj_map hb, Result.andThen]
end

theorem heap_setBlock_ne (w : World) (b : Nat) (o : Obj) {k : Nat} (h : k ≠ b) : (setBlock w b o).heap[k]? = w.heap[k]? := by
  simp only [setBlock, Array.getElem?_setIfInBounds]
  rw [if_neg (by omega)]
theorem heap_setBlock_eq {w : World} {b : Nat} {o : Obj} (h : b < w.heap.size) : (setBlock w b o).heap[b]? = some o := by
  simp [setBlock, Array.getElem?_setIfInBounds, h]
theorem size_setBlock (w : World) (b : Nat) (o : Obj) : (setBlock w b o).heap.size = w.heap.size := by simp [setBlock]
theorem Fr.setBlock {S : Nat → Prop} {a b : World} (h : Fr S a b) {r : Nat} (hp : r < a.heap.size → S r) (o : Obj) : Fr S a (setBlock b r o) :=
  ⟨h.os, h.tape, h.output, by simpa [Go.ChangeMaps.setBlock] using h.size, fun k hk hn =>
    (heap_setBlock_ne b r o (fun e => hn (by subst e; exact hp hk))).trans (h.block k hk hn)⟩
theorem Blk.setBlock {w : World} {b : Nat} {cs : Array Value} {t : TypeId} (h : Blk w b cs t) {r : Nat} (hr : b ≠ r) (o : Obj) : Blk (setBlock w r o) b cs t :=
  (heap_setBlock_ne w r o hr).trans h
theorem cell_setBlock_ne (w : World) (b : Nat) (o : Obj) {a : Addr} (h : a.block ≠ b) : (setBlock w b o).cell? a = w.cell? a := World.cell?_of_block (heap_setBlock_ne w b o h)
theorem frozen_setBlock_ne (w : World) (b : Nat) (o : Obj) {a : Addr} (h : a.block ≠ b) : (setBlock w b o).frozen? a = w.frozen? a := World.frozen?_of_block (heap_setBlock_ne w b o h)
end Sluice

namespace Sluice
open Go Go.RowKit
open Go.ChangeMaps (setBlock)

/-- A file: its bytes, how many are synced, what was done to it, where its last reading ended. -/
structure PFile where
  bytes : List UInt8
  synced : Int
  reads : Int
  readBytes : Int
  writes : Int
  wroteBytes : Int
  seeks : Int
  last : Int

def PFile.zero : PFile := ⟨[], 0, 0, 0, 0, 0, 0, 0⟩
def PFile.cells (f : PFile) (v : Value) : Array Value :=
  #[v, .int .i64 f.synced, .string { data := #[] }, .int .i64 0, .int .i64 0, .int .i64 f.reads, .int .i64 f.readBytes, .int .i64 f.writes, .int .i64 f.wroteBytes, .int .i64 f.seeks, .int .i64 f.last]

/-- A directory: names and the numbers of their files, as they lie in the map. -/
abbrev PDir := List (ByteArray × Nat)

structure PFault where
  op : Int
  kind : Int
  n : Int

structure PDisk where
  quota : Int
  files : List PFile
  now : PDir
  kept : PDir
  changes : List (ByteArray × ByteArray × Option Nat)
  plan : List PFault
  ops : Int
  off : Bool
  down : Bool

def PDir.look (d : PDir) (k : ByteArray) : Option Nat := (d.find? (fun x => k == x.1)).map (·.2)

/-- What a block is for. -/
inductive Tag where
  | out | disk | now | kept | changes | plan
  | file (i : Nat)
  | bytes (i : Nat)

/-- Where the parts of a disk lie. -/
structure Lay where
  b : Nat
  m1 : Nat
  m2 : Nat
  fb : Nat → Nat

/-- A map holds a directory. -/
def MapIs (w : World) (m : Nat) (fb : Nat → Nat) (d : PDir) : Prop :=
  ∃ (es : Array MapEntry) (clock : Nat), w.heap[m]? = some (.map es clock) ∧
    es.toList.map (fun e => (e.key, e.val)) = d.map (fun x => (Value.string x.1, Value.pointer (some ⟨fb x.2, 0, none⟩))) ∧
    (es.toList.map (·.born)).Nodup ∧ ∀ e ∈ es.toList, e.born < clock

/-- A slice's block, if it has one, is marked so. -/
def Marked (own : Nat → Tag) (v : Value) (t : Tag) : Prop := ∀ k, v.ownBlock = some k → own k = t

def chCells (fb : Nat → Nat) (l : List (ByteArray × ByteArray × Option Nat)) : List Value :=
  l.flatMap fun c => [.string c.1, .string c.2.1, .pointer (c.2.2.map fun i => ⟨fb i, 0, none⟩)]
def planCells (l : List PFault) : List Value := l.flatMap fun f => [.int .i64 f.op, .int .i64 f.kind, .int .i64 f.n]

def diskCells (L : Lay) (D : PDisk) (ch pl : Value) : Array Value :=
  #[.bool true, .int .i64 D.quota, .map (some L.m1), .map (some L.m2), ch, pl, .int .i64 D.ops, .bool D.off, .bool D.down]

/-- The i-th file lies in its block. -/
def FileIs (w : World) (own : Nat → Tag) (L : Lay) (i : Nat) (f : PFile) : Prop :=
  own (L.fb i) = .file i ∧ ∃ v, Blk w (L.fb i) (f.cells v) 91 ∧ Row w 5 1 v f.bytes.length (f.bytes.map bv) ∧ Marked own v (.bytes i)

structure IsDisk (w : World) (own : Nat → Tag) (L : Lay) (D : PDisk) : Prop where
  lt : ∀ n, own n ≠ .out → n < w.heap.size
  mark : own L.b = .disk ∧ own L.m1 = .now ∧ own L.m2 = .kept
  head : ∃ ch pl, Blk w L.b (diskCells L D ch pl) 73 ∧ Row w 96 3 ch D.changes.length (chCells L.fb D.changes) ∧ Marked own ch .changes ∧
    Row w 84 3 pl D.plan.length (planCells D.plan) ∧ Marked own pl .plan ∧ (D.plan = [] → pl = .slice none 0 0)
  now : MapIs w L.m1 L.fb D.now
  kept : MapIs w L.m2 L.fb D.kept
  files : ∀ i f, D.files[i]? = some f → FileIs w own L i f
  names : (D.now.map (·.1)).Nodup
  ids : ∀ x ∈ D.now, x.2 < D.files.length
  idsK : ∀ x ∈ D.kept, x.2 < D.files.length
  idsC : ∀ c ∈ D.changes, ∀ i, c.2.2 = some i → i < D.files.length

/-- What an operation may change: the disk's own blocks. -/
def Own (own : Nat → Tag) : Nat → Prop := fun n => own n ≠ .out
/-- New marks stand at new blocks alone. -/
def Wider (w : World) (own own' : Nat → Tag) : Prop := ∀ n, n < w.heap.size → own' n ≠ .out → own n ≠ .out

theorem Wider.refl (w : World) (own : Nat → Tag) : Wider w own own := fun _ _ h => h
theorem Wider.trans {w w1 : World} {a b c : Nat → Tag} (h : Wider w a b) (k : Wider w1 b c) (hs : w.heap.size ≤ w1.heap.size) : Wider w a c :=
  fun n hn hc => h n hn (k n (by omega) hc)

theorem Row.kept {w w' : World} {e : TypeId} {size : Nat} {v : Value} {n : Nat} {xs : List Value} (h : Row w e size v n xs) {S : Nat → Prop} (hf : Fr S w w') (hn : ∀ k, v.ownBlock = some k → ¬ S k) : Row w' e size v n xs := by
  obtain ⟨h1, h2⟩ := h
  refine ⟨h1, ?_⟩
  rcases h2 with h2 | ⟨g, cap, cur, rfl, hb, r⟩
  · exact Or.inl h2
  · exact Or.inr ⟨g, cap, cur, rfl, hf.blk hb (hn g rfl), r⟩
theorem MapIs.kept {w w' : World} {m : Nat} {fb : Nat → Nat} {d : PDir} (h : MapIs w m fb d) {S : Nat → Prop} (hf : Fr S w w') (hn : ¬ S m) : MapIs w' m fb d := by
  obtain ⟨es, clock, h1, h2⟩ := h
  exact ⟨es, clock, (hf.block m (lt_of_block h1) hn).trans h1, h2⟩
theorem Marked.not {own : Nat → Tag} {v : Value} {t : Tag} (h : Marked own v t) {S : Nat → Prop} (hs : ∀ n, own n = t → ¬ S n) : ∀ k, v.ownBlock = some k → ¬ S k :=
  fun k hk => hs k (h k hk)

/-- What does not touch the disk's blocks leaves it. -/
theorem IsDisk.stays {w w' : World} {own : Nat → Tag} {L : Lay} {D : PDisk} (h : IsDisk w own L D) {S : Nat → Prop} (hf : Fr S w w') (hn : ∀ n, own n ≠ .out → ¬ S n) : IsDisk w' own L D := by
  refine ⟨fun n hn' => Nat.lt_of_lt_of_le (h.lt n hn') hf.size, h.mark, ?_, h.now.kept hf (hn _ (by simp [h.mark])), h.kept.kept hf (hn _ (by simp [h.mark])), ?_, h.names, h.ids, h.idsK, h.idsC⟩
  · obtain ⟨ch, pl, h1, h2, h3, h4, h5, h6⟩ := h.head
    exact ⟨ch, pl, hf.blk h1 (hn _ (by simp [h.mark])), h2.kept hf (h3.not fun n e => hn n (by simp [e])), h3, h4.kept hf (h5.not fun n e => hn n (by simp [e])), h5, h6⟩
  · intro i f hi
    obtain ⟨h1, v, h2, h3, h4⟩ := h.files i f hi
    exact ⟨h1, v, hf.blk h2 (hn _ (by simp [h1])), h3.kept hf (h4.not fun n e => hn n (by simp [e])), h4⟩
theorem IsDisk.keeps {w w' : World} {own : Nat → Tag} {L : Lay} {D : PDisk} (h : IsDisk w own L D) (hf : Keeps w w') : IsDisk w' own L D := h.stays hf fun _ _ h => h
theorem IsDisk.alloc {w : World} {own : Nat → Tag} {L : Lay} {D : PDisk} (h : IsDisk w own L D) (o : Obj) : IsDisk (w.alloc o) own L D := h.keeps ((Fr.refl _ _).alloc o)
theorem IsDisk.drew {w : World} {own : Nat → Tag} {L : Lay} {D : PDisk} (h : IsDisk w own L D) : IsDisk w.drew own L D := h.keeps (Fr.refl _ _).drew
/-- A store elsewhere. -/
theorem IsDisk.setCell {w : World} {own : Nat → Tag} {L : Lay} {D : PDisk} (h : IsDisk w own L D) {p : Addr} (hp : own p.block = .out) (u : Value) : IsDisk (w.setCell p u) own L D :=
  h.stays (S := (· = p.block)) ((Fr.refl (· = p.block) w).setCell (p := p) (fun _ => rfl) u) (fun n hn e => hn (e ▸ hp))
theorem IsDisk.out {w : World} {own : Nat → Tag} {L : Lay} {D : PDisk} (h : IsDisk w own L D) {n : Nat} (hn : w.heap.size ≤ n) : own n = .out := by
  cases e : own n with
  | out => rfl
  | _ => have := h.lt n (by simp [e]); omega

theorem dir_str {fb : Nat → Nat} : ∀ {es : List MapEntry} {d : PDir}, es.map (fun e => (e.key, e.val)) = d.map (fun x => (Value.string x.1, Value.pointer (some ⟨fb x.2, 0, none⟩))) → StrKeys es
  | [], _, _ => fun e h => by cases h
  | e :: es, [], h => by simp at h
  | e :: es, x :: d, h => by
    simp only [List.map_cons, List.cons.injEq, Prod.mk.injEq] at h
    intro y hy
    rcases List.mem_cons.1 hy with rfl | hy
    · exact ⟨_, h.1.1⟩
    · exact dir_str h.2 y hy
theorem dir_look {fb : Nat → Nat} (k : ByteArray) : ∀ {es : List MapEntry} {d : PDir}, es.map (fun e => (e.key, e.val)) = d.map (fun x => (Value.string x.1, Value.pointer (some ⟨fb x.2, 0, none⟩))) →
    lookEs es k = (d.look k).map fun i => Value.pointer (some ⟨fb i, 0, none⟩)
  | [], [], _ => rfl
  | [], x :: d, h => by simp at h
  | e :: es, [], h => by simp at h
  | e :: es, x :: d, h => by
    simp only [List.map_cons, List.cons.injEq, Prod.mk.injEq] at h
    have ih := dir_look k h.2
    unfold lookEs PDir.look at ih ⊢
    simp only [List.find?_cons, keyIs, h.1.1]
    by_cases hk : (k == x.1) = true
    · simp [hk, h.1.2]
    · simp only [Bool.not_eq_true] at hk
      simp only [hk]
      exact ih
theorem dir_size {fb : Nat → Nat} {es : Array MapEntry} {d : PDir} (h : es.toList.map (fun e => (e.key, e.val)) = d.map (fun x => (Value.string x.1, Value.pointer (some ⟨fb x.2, 0, none⟩)))) : es.size = d.length := by
  have := congrArg List.length h
  simpa using this

def PDisk.tick (D : PDisk) : PDisk := { D with ops := wrap64 (D.ops + 1) }
/-- Nothing is planned, the power is on. -/
def PDisk.Calm (D : PDisk) : Prop := D.plan = [] ∧ D.off = false ∧ D.down = false
/-- The head's block turned, and no other. -/
theorem IsDisk.head_set {w w' : World} {own : Nat → Tag} {L : Lay} {D : PDisk} (h : IsDisk w own L D) {q ops : Int} {off down : Bool} (hf : Fr (· = L.b) w w')
    (hb : ∀ ch pl, Blk w L.b (diskCells L D ch pl) 73 → Blk w' L.b (diskCells L { D with quota := q, ops := ops, off := off, down := down } ch pl) 73) :
    IsDisk w' own L { D with quota := q, ops := ops, off := off, down := down } := by
  have hne : ∀ n, own n ≠ .disk → ¬ n = L.b := fun n hn e => hn (e ▸ h.mark.1)
  refine ⟨fun n hn' => Nat.lt_of_lt_of_le (h.lt n hn') hf.size, h.mark, ?_, h.now.kept hf (hne _ (by simp [h.mark])), h.kept.kept hf (hne _ (by simp [h.mark])), ?_, h.names, h.ids, h.idsK, h.idsC⟩
  · obtain ⟨ch, pl, h1, h2, h3, h4, h5, h6⟩ := h.head
    exact ⟨ch, pl, hb _ _ h1, h2.kept hf (h3.not fun n e => hne n (by simp [e])), h3, h4.kept hf (h5.not fun n e => hne n (by simp [e])), h5, h6⟩
  · intro i f hi
    obtain ⟨h1, v, h2, h3, h4⟩ := h.files i f hi
    exact ⟨h1, v, hf.blk h2 (hne _ (by simp [h1])), h3.kept hf (h4.not fun n e => hne n (by simp [e])), h4⟩

theorem MapIs.congr {w : World} {m : Nat} {fb fb' : Nat → Nat} {d : PDir} (h : MapIs w m fb d) (he : ∀ x ∈ d, fb' x.2 = fb x.2) : MapIs w m fb' d := by
  obtain ⟨es, clock, h1, h2, h3⟩ := h
  refine ⟨es, clock, h1, h2.trans (List.map_congr_left fun x hx => ?_), h3⟩
  rw [he x hx]
theorem chCells_congr {fb fb' : Nat → Nat} {l : List (ByteArray × ByteArray × Option Nat)} (he : ∀ c ∈ l, ∀ i, c.2.2 = some i → fb' i = fb i) : chCells fb' l = chCells fb l := by
  unfold chCells
  rw [List.flatMap_def, List.flatMap_def]
  congr 1
  refine List.map_congr_left fun c hc => ?_
  cases hi : c.2.2 with
  | none => rfl
  | some i => simp [he c hc i hi]

def setTag (own : Nat → Tag) (n : Nat) (t : Tag) : Nat → Tag := fun k => if k = n then t else own k
def Lay.put (L : Lay) (i n : Nat) : Lay := { L with fb := fun k => if k = i then n else L.fb k }
theorem setTag_other {own : Nat → Tag} {n k : Nat} {t : Tag} (h : k ≠ n) : setTag own n t k = own k := by simp [setTag, h]
/-- A new empty file is the disk's. -/
theorem IsDisk.addFile {w : World} {own : Nat → Tag} {L : Lay} {D : PDisk} (h : IsDisk w own L D) {n : Nat} (hn : own n = .out) (hb : Blk w n (PFile.zero.cells (.slice none 0 0)) 91) :
    IsDisk w (setTag own n (.file D.files.length)) (L.put D.files.length n) { D with files := D.files ++ [PFile.zero] } := by
  have hne : ∀ k, own k ≠ .out → k ≠ n := fun k hk e => hk (e ▸ hn)
  have hfb : ∀ i, i < D.files.length → (L.put D.files.length n).fb i = L.fb i := fun i hi => by simp [Lay.put]; omega
  refine ⟨fun k hk => ?_, ⟨?_, ?_, ?_⟩, ?_, ?_, ?_, ?_, h.names, ?_, ?_, ?_⟩
  · by_cases e : k = n
    · rw [e]; exact hb.lt
    · rw [setTag_other e] at hk; exact h.lt k hk
  · show setTag own n _ L.b = _; rw [setTag_other (hne _ (by simp [h.mark])), h.mark.1]
  · show setTag own n _ L.m1 = _; rw [setTag_other (hne _ (by simp [h.mark])), h.mark.2.1]
  · show setTag own n _ L.m2 = _; rw [setTag_other (hne _ (by simp [h.mark])), h.mark.2.2]
  · obtain ⟨ch, pl, h1, h2, h3, h4, h5, h6⟩ := h.head
    refine ⟨ch, pl, h1, ?_, fun k hk => ?_, h4, fun k hk => ?_, h6⟩
    · rw [chCells_congr (fun c hc i hi => hfb i (h.idsC c hc i hi))]; exact h2
    · rw [setTag_other (hne _ (by simp [h3 k hk]))]; exact h3 k hk
    · rw [setTag_other (hne _ (by simp [h5 k hk]))]; exact h5 k hk
  · exact h.now.congr fun x hx => hfb _ (h.ids x hx)
  · exact h.kept.congr fun x hx => hfb _ (h.idsK x hx)
  · intro i f hi
    by_cases hlt : i < D.files.length
    · rw [List.getElem?_append_left hlt] at hi
      obtain ⟨h1, v, h2, h3, h4⟩ := h.files i f hi
      refine ⟨?_, v, ?_, h3, fun k hk => ?_⟩
      · rw [hfb i hlt, setTag_other (hne _ (by simp [h1]))]; exact h1
      · rw [hfb i hlt]; exact h2
      · rw [setTag_other (hne _ (by simp [h4 k hk]))]; exact h4 k hk
    · have hi' : i = D.files.length := by
        have := (List.getElem?_eq_some_iff.1 hi).1
        simp at this; omega
      subst hi'
      simp at hi
      subst hi
      refine ⟨by simp [Lay.put, setTag], .slice none 0 0, by simpa [Lay.put] using hb, ⟨rfl, Or.inl ⟨rfl, rfl⟩⟩, fun k hk => by cases hk⟩
  · intro x hx; have := h.ids x hx; simp; omega
  · intro x hx; have := h.idsK x hx; simp; omega
  · intro c hc i hi; have := h.idsC c hc i hi; simp; omega
end Sluice

namespace Go.Proofs.YtcefockebphbaaaDoor
open Go Go.RowKit Sluice
open Go.ChangeMaps (setBlock)

def namedC (c : UInt8) : Bool := (97 ≤ c && c ≤ 122) || (48 ≤ c && c ≤ 57) || c == 46 || c == 45 || c == 95
def namedB (s : ByteArray) : Bool := decide (1 ≤ s.size) && decide (s.size ≤ 48) && s.data.toList.all namedC

theorem getD_lt {α : Type} (l : List α) (j : Nat) (d : α) (h : j < l.length) : l.getD j d = l[j] := by simp [List.getD, h]
theorem namedC_yes {c : UInt8} (h : namedC c = true) : (97 ≤ (c.toNat : Int) ∧ (c.toNat : Int) ≤ 122) ∨ (48 ≤ (c.toNat : Int) ∧ (c.toNat : Int) ≤ 57) ∨ (c.toNat : Int) = 46 ∨ (c.toNat : Int) = 45 ∨ (c.toNat : Int) = 95 := by
  unfold namedC at h
  simp only [Bool.or_eq_true, Bool.and_eq_true, decide_eq_true_eq, beq_iff_eq, UInt8.le_iff_toNat_le, ← UInt8.toNat_inj] at h
  have e1 : (97 : UInt8).toNat = 97 := rfl
  have e2 : (122 : UInt8).toNat = 122 := rfl
  have e3 : (48 : UInt8).toNat = 48 := rfl
  have e4 : (57 : UInt8).toNat = 57 := rfl
  have e5 : (46 : UInt8).toNat = 46 := rfl
  have e6 : (45 : UInt8).toNat = 45 := rfl
  have e7 : (95 : UInt8).toNat = 95 := rfl
  omega
theorem namedC_no {c : UInt8} (h : namedC c = false) : ¬ ((97 ≤ (c.toNat : Int) ∧ (c.toNat : Int) ≤ 122) ∨ (48 ≤ (c.toNat : Int) ∧ (c.toNat : Int) ≤ 57) ∨ (c.toNat : Int) = 46 ∨ (c.toNat : Int) = 45 ∨ (c.toNat : Int) = 95) := by
  intro hx
  have : namedC c = true := by
    unfold namedC
    simp only [Bool.or_eq_true, Bool.and_eq_true, decide_eq_true_eq, beq_iff_eq, UInt8.le_iff_toNat_le, ← UInt8.toNat_inj]
    have e1 : (97 : UInt8).toNat = 97 := rfl
    have e2 : (122 : UInt8).toNat = 122 := rfl
    have e3 : (48 : UInt8).toNat = 48 := rfl
    have e4 : (57 : UInt8).toNat = 57 := rfl
    have e5 : (46 : UInt8).toNat = 46 := rfl
    have e6 : (45 : UInt8).toNat = 45 := rfl
    have e7 : (95 : UInt8).toNat = 95 := rfl
    omega
  rw [h] at this; cases this

set_option maxHeartbeats 1000000 in
set_option maxRecDepth 100000 in
theorem named_any (s : ByteArray) (hs : s.size ≤ maxLen) (w : World) : Calls Tryd.prog 59 #[.string s] w fun r w' => r = .returned (.bool (namedB s)) ∧ Keeps w w' := by
  have HB : Hid (namedB s = namedB s) := rfl
  have hconv := run_bytes_of_string (P := Tryd.prog) w 9 27 5 s Tryd.underlying9 Tryd.underlying27 Tryd.underlying5
  unfold maxLen at hs
  by_cases h1 : s.size < 1
  · have e : namedB s = false := by unfold namedB; simp; omega
    have h1' : decide ((s.size : Int) < 1) = true := by simp; omega
    go_enter Tryd.func59, Tryd.ntmps59
    go_wp2
    go_ret
    exact ⟨rfl, by (repeat (first | with_reducible exact Fr.refl _ _ | with_reducible assumption | with_reducible refine Fr.alloc ?_ _ | with_reducible refine Fr.drew ?_ | with_reducible refine Fr.drewN ?_ _ | with_reducible refine Fr.setCell ?_ (by simp; try omega) _))⟩
  by_cases h2 : 48 < s.size
  · have e : namedB s = false := by unfold namedB; simp; omega
    have h1' : decide ((s.size : Int) < 1) = false := by simp; omega
    have h2' : decide ((48 : Int) < s.size) = true := by simp; omega
    go_enter Tryd.func59, Tryd.ntmps59
    go_wp2
    go_ret
    exact ⟨rfl, by (repeat (first | with_reducible exact Fr.refl _ _ | with_reducible assumption | with_reducible refine Fr.alloc ?_ _ | with_reducible refine Fr.drew ?_ | with_reducible refine Fr.drewN ?_ _ | with_reducible refine Fr.setCell ?_ (by simp; try omega) _))⟩
  have h1' : decide ((s.size : Int) < 1) = false := by simp; omega
  have h2' : decide ((48 : Int) < s.size) = false := by simp; omega
  go_enter Tryd.func59, Tryd.ntmps59
  go_wp2
  clear hconv
  go_loopw [16] (fun i wr => ∃ k : Nat, k ≤ s.size ∧ i = .int .i64 k ∧ (s.data.toList.take k).all namedC = true ∧ Keeps w wr ∧ w.heap.size < wr.heap.size ∧ (∀ j : Nat, j < s.size → wr.cell? ⟨w.heap.size, j, none⟩ = some (bv (s.data.toList.getD j 0)))) (fun i _ => s.size - (intOf i).toNat)
  case atStart =>
    refine ⟨0, by omega, rfl, by simp, by (repeat (first | with_reducible exact Fr.refl _ _ | with_reducible assumption | with_reducible refine Fr.alloc ?_ _ | with_reducible refine Fr.drew ?_ | with_reducible refine Fr.drewN ?_ _ | with_reducible refine Fr.setCell ?_ (by simp; try omega) _)), by simp, ?_⟩
    intro j hj
    refine (World.cell?_alloc_mark w _ _ _ j).trans ?_
    rw [bytesRow_at _ _ _ hj, getD_lt _ _ _ (by simpa using hj)]
    rfl
  case round =>
    obtain ⟨k, hk, rfl, hall, hkw, hlt, hc⟩ := hrel
    have HA := Lib.hid hall
    have HC := Lib.hid hc
    have HK := Lib.hid hkw
    clear hall hkw
    by_cases hlt : k < s.size
    · have hck := hc k hlt
      clear hc
      unfold bv at hck
      generalize hch : s.data.toList.getD k 0 = c at hck
      have HH := Lib.hid hch
      clear hch
      have hb : (c.toNat : Int) ≤ 255 := by have := c.toNat_lt; omega
      have hb0 : (0 : Int) ≤ (c.toNat : Int) := by omega
      have htake : (s.data.toList.take (k + 1)) = s.data.toList.take k ++ [c] := by
        rw [List.take_succ_eq_append_getElem (by simpa using hlt), ← HH.out, getD_lt _ _ _ (by simpa using hlt)]
      have HT := Lib.hid htake
      clear htake
      cases hn : namedC c with
      | true =>
        have hy := namedC_yes hn
        go_wp2
        all_goals
          go_roundw
          case rel => exact ⟨k + 1, by omega, by go_num, by rw [HT.out, List.all_append, HA.out]; simp [hn], HK.out, by omega, HC.out⟩
          case measure => simp [intOf]; omega
      | false =>
        have hy := namedC_no hn
        have hy1 : decide ((c.toNat : Int) = 46) = false := by simp; omega
        have HF : Hid (namedB s = false) := by
          show namedB s = false
          unfold namedB
          have : s.data.toList.all namedC = false := by
            rw [List.all_eq_false]
            refine ⟨c, ?_, by simp [hn]⟩
            rw [← HH.out, getD_lt _ _ _ (by simpa using hlt)]
            exact List.getElem_mem _
          simp [this]
        go_wp2
        all_goals go_ret
        all_goals exact ⟨ret_bool HF.out.symm, HK.out⟩
    · go_wp2
      go_ret
      refine ⟨ret_bool ?_, HK.out⟩
      obtain rfl : k = s.size := by omega
      have h3 := HA.out
      rw [List.take_of_length_le (by simp)] at h3
      show true = namedB s
      unfold namedB
      rw [h3]; simp; omega

theorem zero_filePtr (w : World) : (zeroValue 85).run Tryd.prog w = .ok (.pointer none) w := by kernel_rfl

theorem find_bad (b : Nat) (name : ByteArray) (hs : name.size ≤ maxLen) (hn : namedB name = false) (w : World) :
    Calls Tryd.prog 34 #[.pointer (some ⟨b, 0, none⟩), .string name] w fun r w' => r = .returned (.tuple #[.pointer none, .int .i64 30]) ∧ Keeps w w' := by
  go_enter Tryd.func34, Tryd.ntmps34
  go_wp2_with (go_at_call 59; refine (named_any name hs _).mono ?_; rw [hn]; rintro r w1 ⟨rfl, hk⟩)
  go_ret2
  exact ⟨rfl, hk⟩
set_option maxHeartbeats 1000000 in
theorem find_look (L : Lay) (own : Nat → Tag) (D : PDisk) (name : ByteArray) (hs : name.size ≤ maxLen) (hn : namedB name = true) (w : World) (hD : IsDisk w own L D) :
    Calls Tryd.prog 34 #[.pointer (some ⟨L.b, 0, none⟩), .string name] w fun r w' =>
      r = .returned (match D.now.look name with | some i => .tuple #[.pointer (some ⟨L.fb i, 0, none⟩), .int .i64 0] | none => .tuple #[.pointer none, .int .i64 31]) ∧ Keeps w w' := by
  have step : ∀ w1, Keeps w w1 → ∃ (c : Nat) (es : Array MapEntry), w1.cell? ⟨L.b, 2, none⟩ = some (.map (some L.m1)) ∧
      (Instr.lookup 70 (.map (some L.m1)) (.string name) true).run Tryd.prog w1 =
        .ok (.tuple (match D.now.look name with | some i => #[.pointer (some ⟨L.fb i, 0, none⟩), .bool true] | none => #[.pointer none, .bool false])) w1 := by
    intro w1 hk
    obtain ⟨ch, pl, h1, _⟩ := (hD.keeps hk).head
    obtain ⟨es, clock, hm, he, hb⟩ := (hD.keeps hk).now
    refine ⟨0, es, h1.cell 2, ?_⟩
    rw [run_lookup_str Tryd.underlying70 Tryd.underlying9 (.pointer none) (zero_filePtr w1) hm (dir_str he) name, dir_look name he]
    cases D.now.look name <;> rfl
  have HS := Lib.hid step
  clear step
  go_enter Tryd.func34, Tryd.ntmps34
  cases hl : D.now.look name with
  | none =>
    simp only [hl] at HS
    go_wp2_with (go_at_call 59; refine (named_any name hs _).mono ?_; rw [hn]; rintro r w1 ⟨rfl, hk⟩; obtain ⟨_, _, hc, hrun⟩ := HS.out w1 hk)
    go_ret2
    exact ⟨rfl, hk⟩
  | some i =>
    simp only [hl] at HS
    go_wp2_with (go_at_call 59; refine (named_any name hs _).mono ?_; rw [hn]; rintro r w1 ⟨rfl, hk⟩; obtain ⟨_, _, hc, hrun⟩ := HS.out w1 hk)
    go_ret2
    exact ⟨rfl, hk⟩

theorem indexFunc_nil (f : Fn) (a c : Array Value) (w : World) : Calls Tryd.prog 56 #[.slice none 0 0, .func f a c] w fun r w' => r = .returned (.int .i64 (-1)) ∧ w = w' := by
  go_enter Tryd.func56, Tryd.ntmps56
  go_wp2
  refine wp_loop_rounds 1 ?_
  rw [rounds_succ]
  go_wp2
  go_ret
  exact ⟨rfl, rfl⟩

theorem missing_no (b : Nat) (w : World) (hc : w.cell? ⟨b, 0, none⟩ = some (.bool true)) : Calls Tryd.prog 49 #[.pointer (some ⟨b, 0, none⟩)] w fun r w' => r = .returned (.bool false) ∧ w = w' := by
  go_enter Tryd.func49, Tryd.ntmps49
  go_wp2
  go_ret
  exact ⟨rfl, rfl⟩
def zeroFault : Value := .agg #[.int .i64 0, .int .i64 0, .int .i64 0]
set_option maxHeartbeats 2000000 in
set_option maxRecDepth 100000 in
theorem operate_calm (L : Lay) (own : Nat → Tag) (D : PDisk) (hcalm : D.Calm) (k : Int) (g : FuncId) (cap : Array Value) (w : World) (hD : IsDisk w own L D) (R : Ending → World → Prop) (hgo : ∀ (xs : Array Value) (w : World), (callFunc g xs).run Tryd.prog w = .ok (.enter g xs) w)
    (h : ∀ w', IsDisk w' own L D.tick → Fr (· = L.b) w w' → Calls Tryd.prog g (#[zeroFault] ++ cap) w' (fun r w'' => ∃ v, r = .returned v ∧ R r w'')) :
    Calls Tryd.prog 32 #[.pointer (some ⟨L.b, 0, none⟩), .int .i64 k, .func (.func g) #[] cap] w R := by
  obtain ⟨c1, c2, c3⟩ := hcalm
  obtain ⟨ch, pl, hb, _, _, _, _, hp⟩ := hD.head
  obtain rfl := hp c1
  unfold diskCells at hb
  rw [c2, c3] at hb
  have hc := hb.cell
  have hf := hb.free
  have hlt := hb.lt
  have hlt1 : L.b < w.heap.size + 1 := by omega
  have hlt2 : L.b < w.heap.size + 1 + 1 := by omega
  have hlt3 : L.b ≠ w.heap.size := by omega
  have hlt4 : L.b ≠ w.heap.size + 1 := by omega
  have hlt5 : L.b ≠ w.heap.size + 1 + 1 := by omega
  have H := Lib.hid h
  clear h hp hb
  have HD := Lib.hid hD
  clear hD
  go_enter Tryd.func32, Tryd.ntmps32
  go_wp2_with (first
    | (go_at_call 49; refine (missing_no _ _ (by go_simp)).mono ?_; rintro r w1 ⟨rfl, rfl⟩)
    | (go_at_call 56; refine (indexFunc_nil _ _ _ _).mono ?_; rintro r w1 ⟨rfl, rfl⟩))
  have hfr : Fr (· = L.b) w ((((w.setCell ⟨L.b, 6, none⟩ (.int .i64 (wrap64 (D.ops + 1)))).alloc (.cells #[.pointer (some ⟨L.b, 0, none⟩)] 29)).alloc (.cells #[.int .i64 k] 82)).alloc (.cells #[.int .i64 0, .int .i64 0, .int .i64 0] 84)) :=
    ((((Fr.refl (· = L.b) w).setCell (p := ⟨L.b, 6, none⟩) (fun _ => rfl) _).alloc _).alloc _).alloc _
  refine (H.out _ (HD.out.head_set (q := D.quota) (ops := wrap64 (D.ops + 1)) (off := D.off) (down := D.down) hfr (fun ch pl hb => (((hb.set 6 (.int .i64 (wrap64 (D.ops + 1)))).alloc _).alloc _).alloc _)) hfr).mono ?_
  rintro r w'' ⟨v, rfl, hR⟩
  have HR := Lib.hid hR
  clear hR hc hf hgo hfr
  go_wp2
  exact HR.out
end Go.Proofs.YtcefockebphbaaaDoor

namespace Go.Proofs.YtcefockebphbaaaDoor
open Go Go.RowKit Sluice
open Go.ChangeMaps (setBlock)

/-- What 'apply' comes to where a new name gets a file. -/
def NewIn (m : Nat) (fb : Nat → Nat) (d : PDir) (w : World) (r : Ending) (w' : World) : Prop := r = .returned (.tuple #[]) ∧ MapIs w' m fb d ∧ Fr (· = m) w w'
set_option maxHeartbeats 1000000 in
theorem apply_new (m : Nat) (fb : Nat → Nat) (d : PDir) (name : ByteArray) (i : Nat) (hl : d.look name = none) (hne : name.toList.isEmpty = false) (w : World) (hm : MapIs w m fb d) :
    Calls Tryd.prog 60 #[.agg #[.string { data := #[] }, .string name, .pointer (some ⟨fb i, 0, none⟩)], .map (some m)] w (NewIn m fb (d ++ [(name, i)]) w) := by
  obtain ⟨es, clock, h1, h2, h3, h4⟩ := hm
  have hlt := lt_of_block h1
  have hrun := run_mapUpdate_new (P := Tryd.prog) (w := w.alloc (.cells #[.string { data := #[] }, .string name, .pointer (some ⟨fb i, 0, none⟩)] 96)) Tryd.underlying70 Tryd.underlying9 ((heap_alloc_lt w _ hlt).trans h1) (dir_str h2) name (.pointer (some ⟨fb i, 0, none⟩)) (by rw [dir_look name h2, hl]; rfl)
  have hne2 : (name.toList == []) = false := by simpa using hne
  have H2 := Lib.hid h2
  have H3 := Lib.hid h3
  have H4 := Lib.hid h4
  clear h2 h3 h4 hl
  go_enter Tryd.func60, Tryd.ntmps60
  go_wp2
  go_end0
  have h2 := H2.out
  have h3 := H3.out
  have h4 := H4.out
  refine ⟨rfl, ⟨_, _, heap_setBlock_eq (by simp; omega), ?_, ?_, ?_⟩, ((Fr.refl (· = m) w).alloc _).setBlock (fun _ => rfl) _⟩
  · simp [h2]
  · simp only [Array.toList_push, List.map_append, List.map_cons, List.map_nil]
    rw [List.nodup_append]
    refine ⟨h3, by simp, ?_⟩
    intro a ha b hb
    obtain ⟨e, he, rfl⟩ := List.mem_map.1 ha
    simp at hb
    subst hb
    have := h4 e he
    omega
  · intro e he
    simp at he
    rcases he with he | rfl
    · have := h4 e (by simpa using he); omega
    · simp
/-- What 'apply' comes to where a name loses its file. -/
def GoneIn (m : Nat) (fb : Nat → Nat) (d : PDir) (w : World) (r : Ending) (w' : World) : Prop := r = .returned (.tuple #[]) ∧ MapIs w' m fb d ∧ Fr (· = m) w w'
theorem eraseP_dir {fb : Nat → Nat} (k : ByteArray) : ∀ {es : List MapEntry} {d : PDir}, es.map (fun e => (e.key, e.val)) = d.map (fun x => (Value.string x.1, Value.pointer (some ⟨fb x.2, 0, none⟩))) →
    (es.eraseP (keyIs k)).map (fun e => (e.key, e.val)) = (d.eraseP (fun x => k == x.1)).map (fun x => (Value.string x.1, Value.pointer (some ⟨fb x.2, 0, none⟩)))
  | [], [], _ => rfl
  | [], x :: d, h => by simp at h
  | e :: es, [], h => by simp at h
  | e :: es, x :: d, h => by
    simp only [List.map_cons, List.cons.injEq, Prod.mk.injEq] at h
    have ih := eraseP_dir k h.2
    have hk : keyIs k e = (k == x.1) := by simp [keyIs, h.1.1]
    simp only [List.eraseP_cons, hk]
    cases (k == x.1) with
    | true => simpa using h.2
    | false => simp [ih, h.1.1, h.1.2]
set_option maxHeartbeats 1000000 in
theorem apply_del (m : Nat) (fb : Nat → Nat) (d : PDir) (name : ByteArray) (hne : name.toList.isEmpty = false) (w : World) (hm : MapIs w m fb d) :
    Calls Tryd.prog 60 #[.agg #[.string name, .string { data := #[] }, .pointer none], .map (some m)] w (GoneIn m fb (d.eraseP (fun x => name == x.1)) w) := by
  obtain ⟨es, clock, h1, h2, h3, h4⟩ := hm
  have hlt := lt_of_block h1
  obtain ⟨es', he', hrun⟩ := run_delete_str (P := Tryd.prog) (w := w.alloc (.cells #[.string name, .string { data := #[] }, .pointer none] 96)) Tryd.underlying70 Tryd.underlying9 ((heap_alloc_lt w _ hlt).trans h1) (dir_str h2) name #[70, 9] rfl
  have HP := Lib.hid (eraseP_dir name h2)
  have H3 := Lib.hid h3
  have H4 := Lib.hid h4
  have HE := Lib.hid he'
  clear h2 h3 h4 he'
  have hcs : ∀ i, (setBlock (w.alloc (.cells #[.string name, .string { data := #[] }, .pointer none] 96)) m (.map es' clock)).cell? ⟨w.heap.size, i, none⟩ = #[Value.string name, .string { data := #[] }, .pointer none][i]? := fun i => by
    rw [cell_setBlock_ne _ _ _ (by simp; omega)]; exact (Blk.new _ _ _).cell i
  go_enter Tryd.func60, Tryd.ntmps60
  go_wp2
  go_end0
  have he := HE.out
  refine ⟨rfl, ⟨es', clock, heap_setBlock_eq (by simp; omega), ?_, ?_, ?_⟩, ((Fr.refl (· = m) w).alloc _).setBlock (fun _ => rfl) _⟩
  · rw [he]; exact HP.out
  · rw [he]; exact List.Pairwise.sublist ((List.eraseP_sublist).map _) H3.out
  · intro e h
    rw [he] at h
    exact H4.out e (List.mem_of_mem_eraseP h)

theorem info_change : (Tryd.prog.info? 96).map (fun i => (i.zero, i.size, i.bytes)) = some (some (.agg #[.string { data := #[] }, .string { data := #[] }, .pointer none]), 3, 40) := by kernel_rfl

/-- A change is written down: the disk behind that. -/
def Noted (L : Lay) (D : PDisk) (own : Nat → Tag) (c : ByteArray × ByteArray × Option Nat) (w w' : World) : Prop :=
  ∃ own', IsDisk w' own' L { D with changes := D.changes ++ [c] } ∧ Fr (Own own) w w' ∧ Wider w own own'
theorem IsDisk.note {w w' : World} {own : Nat → Tag} {L : Lay} {D : PDisk} (h : IsDisk w own L D) (c : ByteArray × ByteArray × Option Nat) (hc : ∀ i, c.2.2 = some i → i < D.files.length)
    {ch v' : Value} {pl : Value} (hb : Blk w L.b (diskCells L D ch pl) 73) (hch : Marked own ch .changes) (hrow : Row w' 96 3 v' (D.changes.length + 1) (chCells L.fb D.changes ++ [.string c.1, .string c.2.1, .pointer (c.2.2.map fun i => ⟨L.fb i, 0, none⟩)]))
    (hfr : Fr (fun n => ch.ownBlock = some n) w w') (hnew : ∀ k, v'.ownBlock = some k → ch.ownBlock = some k ∨ w.heap.size ≤ k) :
    Noted L D own c w (w'.setCell ⟨L.b, 4, none⟩ v') := by
  have hne : ∀ n, own n ≠ .changes → own n ≠ .out → ¬ (ch.ownBlock = some n) := fun n hn _ e => hn (hch n e)
  have hlt : L.b < w.heap.size := hb.lt
  -- the marks behind it
  let own' : Nat → Tag := fun n => if v'.ownBlock = some n then .changes else own n
  have hown : ∀ n, own n ≠ .out → own n ≠ .changes → own' n = own n := by
    intro n h1 h2
    show (if v'.ownBlock = some n then Tag.changes else own n) = own n
    rw [if_neg]
    intro e
    rcases hnew n e with h3 | h3
    · exact h2 (hch n h3)
    · exact absurd (h.lt n h1) (by omega)
  have hfr2 : Fr (fun n => ch.ownBlock = some n ∨ n = L.b) w (w'.setCell ⟨L.b, 4, none⟩ v') :=
    (show Fr (fun n => ch.ownBlock = some n ∨ n = L.b) w w' from hfr.mono fun i _ hi => Or.inl hi).setCell (p := ⟨L.b, 4, none⟩) (fun _ => Or.inr rfl) v'
  have hs : ∀ n, own n ≠ .out → own n ≠ .changes → own n ≠ .disk → ¬ (ch.ownBlock = some n ∨ n = L.b) := by
    intro n h1 h2 h3 h4
    rcases h4 with h4 | h4
    · exact h2 (hch n h4)
    · exact h3 (h4 ▸ h.mark.1)
  refine ⟨own', ⟨?_, ⟨?_, ?_, ?_⟩, ?_, ?_, ?_, ?_, h.names, h.ids, h.idsK, ?_⟩, ?_, ?_⟩
  · intro n hn
    by_cases e : v'.ownBlock = some n
    · have := hrow.lt n e; simpa using this
    · have : own' n = own n := if_neg e
      rw [this] at hn
      exact Nat.lt_of_lt_of_le (h.lt n hn) hfr2.size
  · rw [hown _ (by simp [h.mark]) (by simp [h.mark])]; exact h.mark.1
  · rw [hown _ (by simp [h.mark]) (by simp [h.mark])]; exact h.mark.2.1
  · rw [hown _ (by simp [h.mark]) (by simp [h.mark])]; exact h.mark.2.2
  · obtain ⟨ch0, pl0, h1, h2, h3, h4, h5, h6⟩ := h.head
    have hinj := (hb.inj h1).1
    simp [diskCells] at hinj
    obtain ⟨rfl, rfl⟩ := hinj
    have hb' : Blk w' L.b (diskCells L D ch pl) 73 := hfr.blk hb (hne _ (by simp [h.mark]) (by simp [h.mark]))
    have hcne : v'.ownBlock ≠ some L.b := by
      intro e
      rcases hnew _ e with e | e
      · have := hch _ e; rw [h.mark.1] at this; cases this
      · omega
    refine ⟨v', pl, hb'.set 4 v', ?_, ?_, ?_, ?_, h6⟩
    · have e : chCells L.fb (D.changes ++ [c]) = chCells L.fb D.changes ++ [.string c.1, .string c.2.1, .pointer (c.2.2.map fun i => ⟨L.fb i, 0, none⟩)] := by simp [chCells]
      show Row _ _ _ _ (D.changes ++ [c]).length (chCells L.fb (D.changes ++ [c]))
      rw [e, List.length_append]
      exact hrow.kept ((Fr.refl (· = L.b) w').setCell (p := ⟨L.b, 4, none⟩) (fun _ => rfl) v') (fun k hk e => hcne (e ▸ hk))
    · intro k hk; exact if_pos hk
    · exact h4.kept hfr2 (fun k hk => hs k (by simp [h5 k hk]) (by simp [h5 k hk]) (by simp [h5 k hk]))
    · intro k hk; rw [hown k (by simp [h5 k hk]) (by simp [h5 k hk])]; exact h5 k hk
  · exact h.now.kept hfr2 (hs _ (by simp [h.mark]) (by simp [h.mark]) (by simp [h.mark]))
  · exact h.kept.kept hfr2 (hs _ (by simp [h.mark]) (by simp [h.mark]) (by simp [h.mark]))
  · intro i f hi
    obtain ⟨h1, v, h2, h3, h4⟩ := h.files i f hi
    refine ⟨by rw [hown _ (by simp [h1]) (by simp [h1])]; exact h1, v, hfr2.blk h2 (hs _ (by simp [h1]) (by simp [h1]) (by simp [h1])), h3.kept hfr2 (fun k hk => hs k (by simp [h4 k hk]) (by simp [h4 k hk]) (by simp [h4 k hk])), fun k hk => ?_⟩
    rw [hown k (by simp [h4 k hk]) (by simp [h4 k hk])]; exact h4 k hk
  · intro x hx i hi
    rcases List.mem_append.1 hx with hx | hx
    · exact h.idsC x hx i hi
    · simp at hx; subst hx; exact hc i hi
  · refine hfr2.mono fun i _ hi => ?_
    rcases hi with hi | hi
    · show own i ≠ .out; rw [hch i hi]; simp
    · subst hi; show own L.b ≠ .out; rw [h.mark.1]; simp
  · intro n hn h1
    by_cases e : v'.ownBlock = some n
    · rcases hnew n e with e | e
      · rw [hch n e]; simp
      · omega
    · have : own' n = own n := if_neg e
      rw [this] at h1; exact h1
end Go.Proofs.YtcefockebphbaaaDoor

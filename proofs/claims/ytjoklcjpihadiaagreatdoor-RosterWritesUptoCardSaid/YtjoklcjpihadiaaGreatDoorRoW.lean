/- What is the matter with a name behind others. -/
import Derived.Test.YtjoklcjpihadiaaGreatDoorRo2
import Derived.Test.YtjoklcjpihadiaaGreatDoorRoM
import Derived.Sort.Walk0
import Derived.Laws.StructEq
import Derived.WideShapes
set_option linter.unusedVariables false
set_option linter.unusedSimpArgs false
set_option linter.unnecessarySimpa false
namespace Go.Proofs.YtjoklcjpihadiaaGreatDoor
open Go Go.RowKit Sluice Go.Proofs.Ro
open Go.ChangeMaps (setBlock)

/-- A map of names, each of which stood once. -/
def NamesIs (w : World) (m : Nat) (l : List ByteArray) : Prop :=
  ∃ es clock, w.heap[m]? = some (.map es clock) ∧ es.toList.map (fun e => (e.key, e.val)) = l.map (fun s => (Value.string s, Value.int .i64 1))
theorem NamesIs.kept {w w' : World} {m : Nat} {l : List ByteArray} (h : NamesIs w m l) {S : Nat → Prop} (hf : Fr S w w') (hn : ¬ S m) : NamesIs w' m l := by
  obtain ⟨es, clock, h1, h2⟩ := h
  exact ⟨es, clock, (hf.block m (Array.getElem?_eq_some_iff.1 h1).1 hn).trans h1, h2⟩
theorem names_str {es : List MapEntry} {l : List ByteArray} (h : es.map (fun e => (e.key, e.val)) = l.map (fun s => (Value.string s, Value.int .i64 1))) : StrKeys es := by
  intro e he
  have : (e.key, e.val) ∈ es.map (fun e => (e.key, e.val)) := List.mem_map.2 ⟨e, he, rfl⟩
  rw [h] at this
  obtain ⟨s, -, hs⟩ := List.mem_map.1 this
  exact ⟨s, (Prod.mk.inj hs).1.symm⟩
theorem toList_inj {a b : ByteArray} (h : a.toList = b.toList) : a = b := by
  rw [Go.ByteArray.toList_eq, Go.ByteArray.toList_eq] at h
  exact Go.WideShapes.bytes_inj h
theorem nbeq (a b : ByteArray) : (a == b) = decide (a = b) := by
  rw [Go.beq_toListBytes, Bool.eq_iff_iff, beq_iff_eq, decide_eq_true_eq]
  exact ⟨toList_inj, fun h => by rw [h]⟩
theorem beq_bytes (a b : ByteArray) : (a == b) = true ↔ a = b := by
  rw [nbeq]; simp
theorem names_look (k : ByteArray) : ∀ (es : List MapEntry) (l : List ByteArray), es.map (fun e => (e.key, e.val)) = l.map (fun s => (Value.string s, Value.int .i64 1)) →
    lookEs es k = if l.any (fun y => bl y == bl k) = true then some (.int .i64 1) else none
  | [], [], _ => rfl
  | [], _ :: _, h => by simp at h
  | _ :: _, [], h => by simp at h
  | e :: es, s :: l, h => by
    simp only [List.map_cons, List.cons.injEq, Prod.mk.injEq] at h
    obtain ⟨⟨h1, h2⟩, h3⟩ := h
    have ih := names_look k es l h3
    unfold lookEs at ih ⊢
    rw [List.find?_cons]
    have hk : keyIs k e = (bl s == bl k) := by
      unfold keyIs
      rw [h1]
      show (k == s) = _
      rw [Bool.eq_iff_iff, beq_bytes]
      unfold bl
      simp only [beq_iff_eq]
      constructor
      · rintro rfl; rfl
      · intro hb
        cases k; cases s
        simp only [Array.toList_inj] at hb
        rw [hb]
    rw [hk, List.any_cons]
    cases hb : (bl s == bl k)
    · simp only [Bool.false_or]; exact ih
    · simp [h2]

theorem zero_int (w : World) : (zeroValue 3).run Tryz.prog w = .ok (.int .i64 0) w := Tryz.zeroValue3 w

set_option maxHeartbeats 2000000 in
set_option maxRecDepth 100000 in
theorem wrong_any (m : Nat) (l : List ByteArray) (s : ByteArray) (hl : l.length ≤ 1099511627776) (w : World) (hm : NamesIs w m l) :
    Calls Tryz.prog 11 #[.map (some m), .string s, .int .i64 64] w fun r w' => r = .returned (.int .i64 (wrongN l s : Int)) ∧ Fr (· = m) w w' ∧ (wrongN l s = 0 → NamesIs w' m (l ++ [s])) := by
  have HW : Hid (wrongN l s = if isNameL (bl s) = false then 72 else if l.any (fun y => bl y == bl s) = true then 75 else if 64 ≤ l.length then 77 else 0) := rfl
  have cN := Lib.hid (named_any s)
  generalize wrongN l s = W at HW
  generalize isNameL (bl s) = N at HW cN
  obtain ⟨A, hA⟩ : ∃ A, l.any (fun y => bl y == bl s) = A := ⟨_, rfl⟩
  have HW2 : Hid (W = if N = false then 72 else if A = true then 75 else if 64 ≤ l.length then 77 else 0) := by rw [← hA]; exact HW.out
  clear HW
  have HA := Lib.hid hA
  clear hA
  have Hm := Lib.hid hm
  clear hm
  have c1 : N = false ∨ (N = true ∧ (A = true ∨ A = false)) := by cases N <;> cases A <;> simp
  rcases c1 with rfl | ⟨rfl, rfl | rfl⟩
  · go_enter Tryz.func11, Tryz.ntmps11
    go_wp2_with ((go_at_call 24); (refine (cN.out _).mono ?_); (rintro r w1 ⟨rfl, hk⟩))
    go_ret
    have e : W = 72 := HW2.out
    exact ⟨by rw [e]; rfl, hk.any, fun h => by omega⟩
  · go_enter Tryz.func11, Tryz.ntmps11
    go_wp2_with ((go_at_call 24); (refine (cN.out _).mono ?_); (rintro r w1 ⟨rfl, hk⟩); (have hm1 := Hm.out.kept hk (fun x => x)); (obtain ⟨es, clock, hb, he⟩ := hm1); (have hst := names_str he); (have hlk := run_lookup_one (P := Tryz.prog) Tryz.underlying42 Tryz.underlying9 (.int .i64 0) (zero_int w1) hb hst s); (rw [names_look s _ l he, HA.out] at hlk); (clear hst hb he))
    go_ret
    have e : W = 75 := HW2.out
    exact ⟨by rw [e]; rfl, hk.any, fun h => by omega⟩
  · have e : W = if 64 ≤ l.length then 77 else 0 := HW2.out
    have E := Lib.hid e
    clear HW2 e
    go_enter Tryz.func11, Tryz.ntmps11
    go_wp2_with ((go_at_call 24); (refine (cN.out _).mono ?_); (rintro r w1 ⟨rfl, hk⟩); (have hm1 := Hm.out.kept hk (fun x => x)); (obtain ⟨es, clock, hb, he⟩ := hm1); (have HE := Lib.hid he); (have hst := names_str he); (have hlk := run_lookup_one (P := Tryz.prog) Tryz.underlying42 Tryz.underlying9 (.int .i64 0) (zero_int w1) hb hst s); (have hlen := Sluice.run_len_map (P := Tryz.prog) (ht := Tryz.underlying42) (ty := 3) (hb := hb)); (have hsz : es.size = l.length := by have := congrArg List.length he; simpa using this); (rw [hsz] at hlen); (have hn : lookEs es.toList s = none := by rw [names_look s _ l he, HA.out]; rfl); (rw [hn] at hlk); (have hup := run_mapUpdate_new (P := Tryz.prog) Tryz.underlying42 Tryz.underlying9 hb hst s (.int .i64 1) hn); (have HB := Lib.hid hb); (clear hst hb he hn))
    · rename_i h64
      go_ret
      have e : W = 77 := by rw [E.out, if_pos (by omega)]
      exact ⟨by rw [e]; rfl, hk.any, fun h => by omega⟩
    · rename_i h64
      go_ret
      have e : W = 0 := by rw [E.out, if_neg (by omega)]
      refine ⟨by rw [e]; rfl, Fr.setBlock (S := fun x => x = m) (Fr.any hk) (fun _ => rfl) _, fun _ => ?_⟩
      refine ⟨_, _, heap_setBlock_eq (Array.getElem?_eq_some_iff.1 HB.out).1, ?_⟩
      have := HE.out
      simp only [Array.toList_push, List.map_append, this, List.map_cons, List.map_nil]
end Go.Proofs.YtjoklcjpihadiaaGreatDoor

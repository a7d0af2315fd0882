/- strings.Replacer's build: the texts' list as the program hands it in. -/
import Derived.Test.YtjoklcjpihadiaaGreatDoorRoA2
import Derived.Laws.Tables
import Derived.Deep.WholeRow
import Derived.Lib.ConvBytes
import Derived.Laws.IdiomStrings
set_option linter.unusedVariables false
set_option linter.unusedSimpArgs false
set_option linter.unnecessarySimpa false
namespace Go.Proofs.YtjoklcjpihadiaaGreatDoor
open Go Go.RowKit Sluice Go.Proofs.Ro Go.Shelf

/-- The ten texts. -/
def oldnew : List ByteArray := [⟨#[92]⟩, ⟨#[92, 92]⟩, ⟨#[34]⟩, ⟨#[92, 34]⟩, ⟨#[10]⟩, ⟨#[92, 110]⟩, ⟨#[9]⟩, ⟨#[92, 116]⟩, ⟨#[13]⟩, ⟨#[92, 114]⟩]
/-- What is replaced, in the order in which build takes it. -/
def pairs : List (UInt8 × UInt8) := [(13, 114), (9, 116), (10, 110), (34, 34), (92, 92)]
def replA (T : Nat) (on : Value) (r : Value) (d : Int) (st : Int) : Array Value := #[.int .u32 d, .int .i32 st, .int .u32 0, r, on]

def nilS : Value := .slice none 0 0
theorem info_str : (Tryz.prog.info? 9).map (fun i => (i.zero, i.size, i.bytes)) = some (some (.string .empty), 1, 16) := by kernel_rfl
def zeros : Array Value := Array.replicate 257 nilS
theorem info_repl : (Tryz.prog.info? 129).map (fun i => (i.zero, i.size)) = some (some (.agg zeros), 257) := by kernel_rfl
theorem zeros_size : zeros.size = 257 := by unfold zeros; simp
def repl1 (tb : Nat) : Array Value := zeros.setIfInBounds 256 (.slice (some ⟨tb, 0, none⟩) 0 5)
theorem repl1_size (tb : Nat) : (repl1 tb).size = 257 := by unfold repl1; rw [Array.size_setIfInBounds, zeros_size]
theorem repl1_one (tb : Nat) : (repl1 tb).all (·.oneCell') = true := by
  have h : ∀ x ∈ (repl1 tb).toList, x.oneCell' = true := by
    unfold repl1 zeros
    rw [Array.toList_setIfInBounds]
    intro x hx
    rcases List.mem_or_eq_of_mem_set hx with h | h
    · rw [Array.toList_replicate] at h
      have := List.eq_of_mem_replicate h
      subst this; rfl
    · subst h; rfl
  rw [← Array.all_toList, List.all_eq_true]
  exact h
theorem repl1_low (tb i : Nat) (h : i < 256) : (repl1 tb)[i]? = some nilS := by
  unfold repl1 zeros
  rw [Array.getElem?_setIfInBounds_ne (by omega), Array.getElem?_replicate, if_pos (by omega)]
theorem repl1_top (tb : Nat) : (repl1 tb)[256]? = some (.slice (some ⟨tb, 0, none⟩) 0 5) := by
  unfold repl1
  rw [Array.getElem?_setIfInBounds_self_of_lt (by rw [zeros_size]; omega)]

/-- A row of texts that is owned. -/
def Strs (w : World) (v : Value) (l : List ByteArray) : Prop := Row w 9 1 v l.length (l.map Value.string)
theorem add_one {w : World} {v : Value} {l : List ByteArray} (h : Strs w v l) (x : ByteArray) (hn : l.length ≤ 1099511627776) (b : Nat) (hx : Blk w b #[.string x] 9) :
    ∃ v' w', (Builtin.append_ #[85, 85] 85 #[v, .slice (some ⟨b, 0, none⟩) 1 1]).run Tryz.prog w = .ok v' w' ∧ Strs w' v' (l ++ [x]) ∧ Fr (fun k => v.ownBlock = some k) w w' ∧
      ∀ k, v'.ownBlock = some k → v.ownBlock = some k ∨ w.heap.size ≤ k := by
  obtain ⟨v', w', hrun, hrow, hgrow, hnew⟩ := run_append_row (P := Tryz.prog) w 85 85 9 (.string .empty) 1 16 Tryz.underlying85 info_str rfl (by omega)
    v l.length (l.map Value.string) h ⟨b, 0, none⟩ 1 1 [.string x] rfl
    (by intro j u hj
        have hadd : (⟨b, 0, none⟩ : Addr).add j = ⟨b, j, none⟩ := by unfold Addr.add; split <;> simp_all
        rw [hadd, hx.cell]; simpa using hj)
    (by simp [Value.oneCell']) (by unfold maxLen; omega) (by omega)
  refine ⟨v', w', hrun, ?_, (Fr.refl _ w).grown hgrow (fun k hk _ => hk), hnew⟩
  unfold Strs
  rw [List.length_append, List.length_singleton, List.map_append]
  exact hrow

/-- In the midst of build: these pairs are laid. -/
def ReplK (B P : Nat) (l : List (UInt8 × UInt8)) (w : World) : Prop :=
  ∃ cs v, Blk w P cs 129 ∧ cs.size = 257 ∧ cs[256]? = some v ∧ Strs w v (l.map fun p => ⟨#[p.1]⟩) ∧ (∀ k, v.ownBlock = some k → k ≠ P ∧ B ≤ k) ∧
    ∀ c : UInt8, (c ∉ l.map (·.1) ∧ cs[c.toNat]? = some nilS) ∨
      (∃ x kb cap, (c, x) ∈ l ∧ cs[c.toNat]? = some (.slice (some ⟨kb, 0, none⟩) 2 cap) ∧ kb ≠ P ∧ B ≤ kb ∧ kb < w.heap.size ∧ (∀ k, v.ownBlock = some k → k ≠ kb) ∧ w.cell? ⟨kb, 0, none⟩ = some (bv 92) ∧ w.cell? ⟨kb, 1, none⟩ = some (bv x))

theorem ReplK.start {w : World} {B tb P : Nat} (hP : Blk w P (repl1 tb) 129) (ht : Blk w tb (Array.replicate 5 (.string .empty)) 9) (h1 : tb ≠ P) (h2 : B ≤ tb) : ReplK B P [] w := by
  refine ⟨_, _, hP, repl1_size tb, repl1_top tb, ⟨rfl, .inr ⟨tb, 5, _, rfl, ht, by simp, by unfold maxLen; omega, by simp, by simp⟩⟩, ?_, fun c => .inl ⟨by simp, repl1_low tb _ c.toNat_lt⟩⟩
  intro k hk
  cases hk
  exact ⟨h1, h2⟩

theorem wpList_append_run {P : Program} {ops : Array Oper} {rest : List Oper} {o : Oper} {a : Act} {w : World} {Q : Exit → Act → World → Prop} (hgd : o.guard = none) (s x : Operand) (t : TypeId)
    (ho : o.op = .call { callee := .builtin .append, args := #[s, x], argTypes := #[t, t] }) (sv xv v : Value) (w' : World) (hs : a.eval s = sv) (hx : a.eval x = xv)
    (hrun : (Builtin.append_ #[t, t] o.type #[sv, xv]).run P w = .ok v w') (h : wpList P ops Q rest (a.put o.dst v) w') : wpList P ops Q (o :: rest) a w :=
  wpList_plain hgd fun _ hK => by
    unfold Oper.wp
    simp [execOp, ho, resolve, invoke, builtin, hs, hx, hrun, Result.andThen]
    exact hK _ _ h
theorem row_slice {w : World} {e : TypeId} {size : Nat} {v : Value} {n : Nat} {xs : List Value} (h : Row w e size v n xs) : ∃ b c, v = .slice b n c := by
  rcases h.2 with ⟨h1, h2⟩ | ⟨g, cap, cur, h1, -⟩
  · subst h2; exact ⟨_, _, h1⟩
  · exact ⟨_, _, h1⟩
theorem row_kept {w w' : World} {e : TypeId} {size : Nat} {v : Value} {n : Nat} {xs : List Value} (h : Row w e size v n xs) {S : Nat → Prop} (hf : Fr S w w') (hn : ∀ k, v.ownBlock = some k → ¬ S k) : Row w' e size v n xs := by
  refine ⟨h.1, ?_⟩
  rcases h.2 with h1 | ⟨g, cap, cur, rfl, hb, h2⟩
  · exact .inl h1
  · exact .inr ⟨g, cap, cur, rfl, hf.blk hb (hn g rfl), h2⟩
theorem bytesWorld_keeps (w : World) (e : TypeId) (s : ByteArray) : Keeps w (Lib.bytesWorld w e s) :=
  ⟨rfl, rfl, rfl, by rw [Lib.bytesWorld_size]; omega, fun i hi _ => Lib.bytesWorld_at_old w e s i hi⟩

theorem step_fr (W3 : World) (P n : Nat) (v' u : Value) (s : ByteArray) : Fr (fun k => k = P) W3 ((Lib.bytesWorld (W3.setCell ⟨P, 256, none⟩ v') 5 s).setCell ⟨P, n, none⟩ u) :=
  Fr.setCell (S := fun k => k = P) (Fr.keeps (Fr.setCell (S := fun k => k = P) (Fr.refl _ W3) (fun _ => rfl) _) (bytesWorld_keeps _ _ _)) (fun _ => rfl) _
theorem ReplK.step {B P : Nat} {l : List (UInt8 × UInt8)} {a x : UInt8} {wr W2 W3 W5 : World} {cs : Array Value} {v v' : Value} {cap : Nat}
    (hP : Blk wr P cs 129) (hcs : cs.size = 257) (hvo : ∀ k, v.ownBlock = some k → k ≠ P ∧ B ≤ k)
    (hall : ∀ c : UInt8, (c ∉ l.map (·.1) ∧ cs[c.toNat]? = some nilS) ∨
      (∃ x kb cap, (c, x) ∈ l ∧ cs[c.toNat]? = some (.slice (some ⟨kb, 0, none⟩) 2 cap) ∧ kb ≠ P ∧ B ≤ kb ∧ kb < wr.heap.size ∧ (∀ k, v.ownBlock = some k → k ≠ kb) ∧ wr.cell? ⟨kb, 0, none⟩ = some (bv 92) ∧ wr.cell? ⟨kb, 1, none⟩ = some (bv x)))
    (hB : B ≤ wr.heap.size) (k2 : Keeps wr W2) (k3 : Fr (fun k => v.ownBlock = some k) W2 W3) (hS : Strs W3 v' (l.map (fun p => ⟨#[p.1]⟩) ++ [⟨#[a]⟩])) (hv' : ∀ k, v'.ownBlock = some k → v.ownBlock = some k ∨ W2.heap.size ≤ k)
    (h5 : W5 = Lib.bytesWorld (W3.setCell ⟨P, 256, none⟩ v') 5 ⟨#[92, x]⟩) :
    ReplK B P (l ++ [(a, x)]) (W5.setCell ⟨P, a.toNat, none⟩ (.slice (some ⟨W3.heap.size, 0, none⟩) 2 cap)) := by
  have ha := a.toNat_lt
  have hP2 : P < wr.heap.size := hP.lt
  have hP3 : Blk W3 P cs 129 := k3.blk (k2.blk hP (fun x => x)) (fun h => (hvo _ h).1 rfl)
  have hs3 : P < W3.heap.size := hP3.lt
  have hP4 := hP3.set 256 v'
  have hz4 : (W3.setCell ⟨P, 256, none⟩ v').heap.size = W3.heap.size := by simp
  have kb5 := bytesWorld_keeps (W3.setCell ⟨P, 256, none⟩ v') 5 ⟨#[92, x]⟩
  have hP5 : Blk W5 P (cs.setIfInBounds 256 v') 129 := by subst h5; exact kb5.blk hP4 (fun x => x)
  have hP6 := hP5.set a.toNat (.slice (some ⟨W3.heap.size, 0, none⟩) 2 cap)
  have f36 : Fr (fun k => k = P) W3 (W5.setCell ⟨P, a.toNat, none⟩ (.slice (some ⟨W3.heap.size, 0, none⟩) 2 cap)) := by
    subst h5
    exact Fr.setCell (S := fun k => k = P) (Fr.keeps (Fr.setCell (S := fun k => k = P) (Fr.refl _ W3) (fun _ => rfl) _) kb5) (fun _ => rfl) _
  have hz5 : W5.heap.size = W3.heap.size + 1 := by subst h5; rw [Lib.bytesWorld_size, hz4]
  have hz6 : (W5.setCell ⟨P, a.toNat, none⟩ (.slice (some ⟨W3.heap.size, 0, none⟩) 2 cap)).heap.size = W3.heap.size + 1 := by simp [hz5]
  have hv'P : ∀ k, v'.ownBlock = some k → k ≠ P ∧ B ≤ k ∧ k < W3.heap.size := by
    intro k hk
    have hlt := Row.lt hS k hk
    have := k2.size
    rcases hv' k hk with h | h
    · exact ⟨(hvo k h).1, (hvo k h).2, hlt⟩
    · exact ⟨by omega, by omega, hlt⟩
  refine ⟨_, v', hP6, by simp [hcs], ?_, ?_, fun k hk => ⟨(hv'P k hk).1, (hv'P k hk).2.1⟩, ?_⟩
  · rw [Array.getElem?_setIfInBounds_ne (by omega), Array.getElem?_setIfInBounds_self_of_lt (by omega)]
  · rw [List.map_append]
    exact row_kept hS f36 (fun k hk => (hv'P k hk).1)
  · intro c
    by_cases hca : c = a
    · subst hca
      refine .inr ⟨x, W3.heap.size, cap, by simp, ?_, by omega, by have := k2.size; have := k3.size; omega, by omega, fun k hk => by have := (hv'P k hk).2.2; omega, ?_, ?_⟩
      · rw [Array.getElem?_setIfInBounds_self_of_lt (by simp; omega)]
      · have e := Lib.bytesWorld_cell (W3.setCell ⟨P, 256, none⟩ v') 5 ⟨#[92, x]⟩ 0 (by show 0 < 2; omega)
        rw [hz4] at e
        subst h5
        exact (World.cell?_setCell_other _ _ _ _ (by first | (simp; done) | (simp; omega))).trans e
      · have e := Lib.bytesWorld_cell (W3.setCell ⟨P, 256, none⟩ v') 5 ⟨#[92, x]⟩ 1 (by show 1 < 2; omega)
        rw [hz4] at e
        subst h5
        exact (World.cell?_setCell_other _ _ _ _ (by first | (simp; done) | (simp; omega))).trans e
    · have hcn : c.toNat ≠ a.toNat := fun h => hca (UInt8.toNat_inj.1 h)
      have hc := c.toNat_lt
      have hget : ((cs.setIfInBounds 256 v').setIfInBounds a.toNat (.slice (some ⟨W3.heap.size, 0, none⟩) 2 cap))[c.toNat]? = cs[c.toNat]? := by
        rw [Array.getElem?_setIfInBounds_ne (by omega), Array.getElem?_setIfInBounds_ne (by omega)]
      rw [hget]
      rcases hall c with ⟨h1, h2⟩ | ⟨x', kb, cap', h1, h2, h3, h4, h6, h7, h8, h9⟩
      · refine .inl ⟨?_, h2⟩
        rw [List.map_append, List.mem_append]
        rintro (h | h)
        · exact h1 h
        · simp at h; exact hca h
      · have fr : Fr (fun k => k = P ∨ v.ownBlock = some k) wr (W5.setCell ⟨P, a.toNat, none⟩ (.slice (some ⟨W3.heap.size, 0, none⟩) 2 cap)) :=
          Fr.trans (Fr.trans (S := fun k => k = P ∨ v.ownBlock = some k) k2.any k3 (fun i _ h => .inr h)) f36 (fun i _ h => .inl h)
        have hn : ¬ (kb = P ∨ v.ownBlock = some kb) := by
          rintro (h | h)
          · exact h3 h
          · exact h7 kb h rfl
        refine .inr ⟨x', kb, cap', List.mem_append_left _ h1, h2, h3, h4, by have := k2.size; have := k3.size; omega, ?_, (fr.cell h6 hn).trans h8, (fr.cell h6 hn).trans h9⟩
        intro k hk
        rcases hv' k hk with h | h
        · exact h7 k h
        · have := k2.size; omega

theorem pairs_at {k : Nat} (h : k < 5) : ∃ a x : UInt8, pairs[k]? = some (a, x) ∧ oldnew[8 - 2 * k]? = some ⟨#[a]⟩ ∧ oldnew[8 - 2 * k + 1]? = some ⟨#[92, x]⟩ ∧ a ∉ (pairs.take k).map (·.1) := by
  have h6 : k = 0 ∨ k = 1 ∨ k = 2 ∨ k = 3 ∨ k = 4 := by omega
  rcases h6 with rfl | rfl | rfl | rfl | rfl
  · exact ⟨13, 114, rfl, rfl, rfl, by decide⟩
  · exact ⟨9, 116, rfl, rfl, rfl, by decide⟩
  · exact ⟨10, 110, rfl, rfl, rfl, by decide⟩
  · exact ⟨34, 34, rfl, rfl, rfl, by decide⟩
  · exact ⟨92, 92, rfl, rfl, rfl, by decide⟩

set_option maxHeartbeats 8000000 in
set_option maxRecDepth 1000000 in
theorem build_any (R g cap : Nat) (st : Int) (w : World) (hb : Blk w R (replA 0 (.slice (some ⟨g, 0, none⟩) 10 cap) .nilIface 0 st) 101) (hg : ∀ i s, oldnew[i]? = some s → w.cell? ⟨g, i, none⟩ = some (.string s)) :
    Calls Tryz.prog 66 #[.pointer (some ⟨R, 0, none⟩)] w fun e w' => ∃ P, e = .returned (.iface 130 (.pointer (some ⟨P, 0, none⟩))) ∧ ReplK w.heap.size P pairs w' ∧ w.heap.size ≤ P ∧ Keeps w w' := by
  have hc := hb.cell
  unfold replA at hc
  have h4 := hc 4
  have h0 := hc 0
  clear hc
  have g0 := hg 0 _ rfl
  have HG := Lib.hid hg
  clear hg
  go_enter Tryz.func66, Tryz.ntmps66
  go_wp2
  go_loopw [4, 5] (fun t4 t5 wr => ∃ (z : Int) (f : Bool), t5 = .int .i64 z ∧ t4 = .bool f ∧ Keeps w wr ∧ ((z = 0 ∧ f = true) ∨ ((z = 2 ∨ z = 4 ∨ z = 6 ∨ z = 8 ∨ z = 10) ∧ f = false))) (fun _ t5 _ => 20 - (intOf t5).toNat)
  case atStart => exact ⟨0, true, rfl, rfl, Fr.refl _ _, .inl ⟨rfl, rfl⟩⟩
  case round =>
    obtain ⟨z, f, rfl, rfl, hK, hz⟩ := hrel
    have e : ∀ i s, oldnew[i]? = some s → wr.cell? ⟨g, i, none⟩ = some (.string s) := fun i s h => cell_of_keeps hK (HG.out i s h)
    have E := Lib.hid e
    clear e
    rcases hz with ⟨rfl, rfl⟩ | ⟨rfl | rfl | rfl | rfl | rfl, rfl⟩
    · have e0 := E.out 0 _ rfl
      have e1 := E.out 1 _ rfl
      go_wp2
      go_roundw
      case measure => simp [intOf]
      case rel => exact ⟨2, false, rfl, rfl, hK, .inr ⟨by simp, rfl⟩⟩
    · have e0 := E.out 2 _ rfl
      have e1 := E.out 3 _ rfl
      go_wp2
      go_roundw
      case measure => simp [intOf]
      case rel => exact ⟨4, false, rfl, rfl, hK, .inr ⟨by simp, rfl⟩⟩
    · have e0 := E.out 4 _ rfl
      have e1 := E.out 5 _ rfl
      go_wp2
      go_roundw
      case measure => simp [intOf]
      case rel => exact ⟨6, false, rfl, rfl, hK, .inr ⟨by simp, rfl⟩⟩
    · have e0 := E.out 6 _ rfl
      have e1 := E.out 7 _ rfl
      go_wp2
      go_roundw
      case measure => simp [intOf]
      case rel => exact ⟨8, false, rfl, rfl, hK, .inr ⟨by simp, rfl⟩⟩
    · have e0 := E.out 8 _ rfl
      have e1 := E.out 9 _ rfl
      go_wp2
      go_roundw
      case measure => simp [intOf]
      case rel => exact ⟨10, false, rfl, rfl, hK, .inr ⟨by simp, rfl⟩⟩
    · go_upto_region 26 with fail
      have hzv := (zero_of_info info_repl).1
      have hzs := (zero_of_info info_repl).2
      obtain ⟨i0, hi0, hi1, hi2, hi3⟩ := info_parts info_str
      have hmk := run_make (P := Tryz.prog) wr 85 9 i0 (.string .empty) Tryz.underlying85 hi0 hi1 .i64 .i64 0 5 (by omega) (by omega) (by rw [hi3]; decide) (by omega)
      simp only [hi2] at hmk
      have HM : Hid (madeCells (Value.string ByteArray.empty).cells (Int.toNat 5 * 1) = Array.replicate 5 (.string .empty)) := madeCells_one _ _
      generalize madeCells (Value.string ByteArray.empty).cells (Int.toNat 5 * 1) = M at hmk HM
      have hsc := run_storeCells_new (P := Tryz.prog) (wr.alloc (.cells M 9)) 129 zeros (repl1 wr.heap.size) (by rw [hzs, repl1_size]) (by rw [zeros_size, repl1_size]) (repl1_one _)
      have hcz := zeros_size
      have hlz : (repl1 wr.heap.size).toList = zeros.toList.set 256 (.slice (some ⟨wr.heap.size, 0, none⟩) 0 5) := by unfold repl1; rw [Array.toList_setIfInBounds]
      have hza : (wr.alloc (.cells M 9)).heap.size = wr.heap.size + 1 := by simp
      rw [hlz, hza] at hsc
      have K0 : Hid (Keeps w ((wr.alloc (.cells M 9)).alloc (.cells (repl1 wr.heap.size) 129))) := (hK.alloc _).alloc _
      have B0 : Hid (ReplK w.heap.size (wr.heap.size + 1) [] ((wr.alloc (.cells M 9)).alloc (.cells (repl1 wr.heap.size) 129))) := by
        refine ReplK.start (tb := wr.heap.size) (Blk.new' (by simp)) ?_ (by omega) hK.size
        have hm := HM.out
        subst hm
        exact Blk.alloc (Blk.new _ _ _) _
      clear hi0 hi1 hi2 hi3 hlz
      go_wp2
      generalize (wr.alloc (.cells M 9)).alloc (.cells (repl1 wr.heap.size) 129) = W0 at K0 B0 ⊢
      have HPB : w.heap.size ≤ wr.heap.size + 1 := by have := hK.size; omega
      generalize wr.heap.size + 1 = P at B0 HPB ⊢
      clear hsc hmk hcz hzv hzs HM h4 h0 g0
      have E2 : Hid (∀ i s, oldnew[i]? = some s → W0.cell? ⟨g, i, none⟩ = some (.string s)) := fun i s h => cell_of_keeps K0.out (HG.out i s h)
      have hB0 : w.heap.size ≤ W0.heap.size := K0.out.size
      go_loopw [12] (fun t12 wr => ∃ (k : Nat) (z : Int), k ≤ 5 ∧ z = 8 - 2 * (k : Int) ∧ t12 = .int .i64 z ∧ ReplK w.heap.size P (pairs.take k) wr ∧ Keeps w wr) (fun t12 _ => (2 + intOf t12).toNat)
      case atStart => exact ⟨0, 8, by omega, rfl, rfl, B0.out, K0.out⟩
      case round =>
        obtain ⟨k, z, hk, hz, rfl, hR, hK2⟩ := hrel
        have h5 : k = 5 ∨ k < 5 := by omega
        rcases h5 with rfl | h5
        · have hz2 : z = -2 := by omega
          subst hz2
          go_wp2
          go_ret
          exact ⟨P, rfl, hR, HPB, hK2⟩
        · obtain ⟨a, x, hp, ho1, ho2, hnew⟩ := pairs_at h5
          obtain ⟨i, hi⟩ : ∃ i, 8 - 2 * k = i := ⟨_, rfl⟩
          rw [hi] at ho1 ho2
          have hzi : z = (i : Int) := by omega
          have hi9 : i < 9 := by omega
          have e0 := cell_of_keeps hK2 (HG.out _ _ ho1)
          have e1 := cell_of_keeps hK2 (HG.out _ _ ho2)
          obtain ⟨s1, hs1⟩ : ∃ s1 : ByteArray, s1 = ⟨#[a]⟩ := ⟨_, rfl⟩
          rw [← hs1] at e0
          obtain ⟨n, hn⟩ : ∃ n : Nat, a.toNat = n := ⟨_, rfl⟩
          have hz1 : s1.size = 1 := by rw [hs1]; rfl
          have hx1 : ∀ h : 0 < s1.size, (s1[0]'h).toNat = n := by subst hs1; intro _; exact hn
          have hn256 : n < 256 := hn ▸ a.toNat_lt
          obtain ⟨cs, v, hP, hcs, hv, hS, hvo, hall⟩ := hR
          have c13 := hP.cell n
          rw [← hn] at c13
          rcases hall a with ⟨-, hca⟩ | ⟨x', _, _, hm, -⟩
          case inr => exact absurd (List.mem_map.2 ⟨_, hm, rfl⟩) hnew
          rw [hca, hn] at c13
          unfold nilS at c13
          have c256 := hP.cell 256
          rw [hv] at c256
          have HI := Lib.hid hi
          have HZ := Lib.hid hz
          have HP := Lib.hid hP
          have HA := Lib.hid hall
          have HS := Lib.hid hS
          have HV := Lib.hid hv
          have HN := Lib.hid hn
          have HH := Lib.hid hs1
          have HQ := Lib.hid hp
          clear hi hz hnew hP hall hS hv hca hs1 hn hp ho1 ho2
          subst hzi
          have hse : ∀ w, (binOp .eql 39 (.slice none 0 0) (.slice none 0 0)).run Tryz.prog w = .ok (.bool true) w := fun w => run_eql_nil_slice w 39 5 none 0 0 0 0 Tryz.underlying39
          have hcv1 : (convert 39 9 (.slice (some ⟨wr.heap.size, 0, none⟩) 1 1)).run Tryz.prog (wr.alloc (.cells #[.int .u8 (n : Int)] 5)) = .ok (.string s1) (wr.alloc (.cells #[.int .u8 (n : Int)] 5)) := by
            have := run_convert_bytes_back (P := Tryz.prog) (wr.alloc (.cells #[.int .u8 (n : Int)] 5)) 39 9 5 ⟨wr.heap.size, 0, none⟩ 1 [a] Tryz.underlying39 Tryz.underlying5 Tryz.underlying9 (by
              intro j hj
              have hj0 : j = 0 := by simpa using hj
              subst hj0
              rw [← HN.out]
              simp [Addr.add])
            rw [HH.out]
            exact this
          obtain ⟨v', W3, hap, hS3, hF3, hv'⟩ := add_one (w := (wr.alloc (.cells #[.int .u8 (n : Int)] 5)).alloc (.cells #[.string s1] 9)) (Row.alloc (Row.alloc HS.out _) _) s1 (by simp; omega) (wr.heap.size + 1) (Blk.new' (by simp))
          obtain ⟨vb, vc, hvs⟩ := row_slice hS3
          subst hvs
          obtain ⟨vn, hvn⟩ : ∃ vn, (List.map (fun p => (⟨#[p.1]⟩ : ByteArray)) (pairs.take k) ++ [s1]).length = vn := ⟨_, rfl⟩
          rw [hvn] at hap hv' hS3
          have hP3 : Blk W3 P cs 129 := hF3.blk (Blk.alloc (Blk.alloc HP.out _) _) (fun h => (hvo _ h).1 rfl)
          have d256 := hP3.cell 256
          rw [HV.out] at d256
          have f256 := hP3.free 256
          obtain ⟨W5, hW5⟩ : ∃ W5, W5 = Lib.bytesWorld (W3.setCell ⟨P, 256, none⟩ (.slice vb vn vc)) 5 ⟨#[92, x]⟩ := ⟨_, rfl⟩
          have hcv2 := Lib.run_convert_string_bytes (P := Tryz.prog) (W3.setCell ⟨P, 256, none⟩ (.slice vb vn vc)) 9 39 5 ⟨#[92, x]⟩ Tryz.underlying9 Tryz.underlying39 Tryz.underlying5
          rw [← hW5] at hcv2
          have hz4 : (W3.setCell ⟨P, 256, none⟩ (.slice vb vn vc)).heap.size = W3.heap.size := by simp
          rw [hz4, show (⟨#[92, x]⟩ : ByteArray).size = 2 from rfl] at hcv2
          generalize grownCap (W3.setCell ⟨P, 256, none⟩ (.slice vb vn vc)) 2 0 5 = cap2 at hcv2
          have hP5 : Blk W5 P (cs.setIfInBounds 256 (.slice vb vn vc)) 129 := by rw [hW5]; exact (bytesWorld_keeps _ _ _).blk (hP3.set 256 _) (fun x => x)
          have d13 := hP5.cell n
          rw [Array.getElem?_setIfInBounds_ne (by omega), ← HP.out.cell n, c13] at d13
          have f13 := hP5.free n
          have HAp := Lib.hid hap
          clear hap
          have HC := Lib.hid hS3
          have HF := Lib.hid hF3
          have HW := Lib.hid hW5
          have HVV := Lib.hid hv'
          have HO := Lib.hid hvo
          clear hS3 hF3 hW5 hv' hvo hP3 hP5
          go_wp2_with (at_builtin; refine wpList_append_run rfl _ _ 85 rfl _ _ _ W3 rfl rfl HAp.out ?_)
          have hB : w.heap.size ≤ wr.heap.size := hK2.size
          have k2 : Keeps wr ((wr.alloc (.cells #[.int .u8 (n : Int)] 5)).alloc (.cells #[.string s1] 9)) := Fr.alloc (Fr.alloc (Fr.refl _ wr) _) _
          have hSS := HC.out
          rw [HH.out] at hSS
          have hst := ReplK.step (x := x) (cap := cap2) HP.out hcs HO.out HA.out hB k2 HF.out hSS HVV.out HW.out
          rw [HN.out] at hst
          have hfr := step_fr W3 P n (.slice vb vn vc) (.slice (some ⟨W3.heap.size, 0, none⟩) 2 cap2) ⟨#[92, x]⟩
          rw [← HW.out] at hfr
          have htk : pairs.take (k + 1) = pairs.take k ++ [(a, x)] := by rw [List.take_add_one, HQ.out]; rfl
          have kfin : Keeps w (W5.setCell ⟨P, n, none⟩ (.slice (some ⟨W3.heap.size, 0, none⟩) 2 cap2)) :=
            Fr.trans (Fr.trans (hK2.keeps k2) HF.out (fun i hi h => by have := (HO.out i h).2; omega)) hfr (fun i hi h => by omega)
          go_roundw
          case measure => simp [intOf]; omega
          case rel => exact ⟨k + 1, (i : Int) - 2, by omega, by have := HZ.out; omega, rfl, by rw [htk]; exact hst, kfin⟩
end Go.Proofs.YtjoklcjpihadiaaGreatDoor

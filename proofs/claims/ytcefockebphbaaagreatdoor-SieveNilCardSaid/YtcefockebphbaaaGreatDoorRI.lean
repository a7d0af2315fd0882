/- Regions that draw their order: one invariant, shown once for each operation, whatever the order. -/
import Derived.Test.YtcefockebphbaaaGreatDoorMem
import Derived.RegionTactic
set_option linter.unusedVariables false
set_option linter.unusedSimpArgs false
set_option linter.unnecessarySimpa false
namespace Sluice
open Go Go.RowKit

/-- A frame with the results of a region's operations put in. -/
def putsFrom : List Oper → Nat → (Nat → Value) → Act → Act
  | [], _, _, a => a
  | o :: os, i, x, a => putsFrom os (i + 1) x (a.put o.dst (x i))
def apartB : List Oper → Bool
  | [] => true
  | o :: os => os.all (fun p => !(o.dst.isSome && p.dst == o.dst)) && apartB os
def updV (x : Nat → Value) (i : Nat) (v : Value) : Nat → Value := fun j => if j = i then v else x j

theorem put_self (a : Act) (d : Option Tmp) : a.put d (match d with | some t => a.tmps.getD t undef | none => undef) = a := by
  cases d with
  | none => rfl
  | some t =>
    obtain ⟨tmps, defers⟩ := a
    simp only [Act.put]
    congr 1
    apply Array.ext (by simp)
    intro i h1 h2
    rw [Array.getElem_setIfInBounds]
    split
    · subst_vars
      simp [Array.getD, h2]
    · rfl
theorem putsFrom_congr : ∀ (l : List Oper) (i : Nat) (x y : Nat → Value) (a : Act), (∀ j, i ≤ j → x j = y j) → putsFrom l i x a = putsFrom l i y a
  | [], _, _, _, _, _ => rfl
  | o :: os, i, x, y, a, h => by
    simp only [putsFrom]
    rw [h i (Nat.le_refl _)]
    exact putsFrom_congr os (i + 1) x y _ fun j hj => h j (by omega)
theorem puts_exists : ∀ (l : List Oper) (i : Nat) (a : Act), ∃ x, putsFrom l i x a = a
  | [], _, _ => ⟨fun _ => undef, rfl⟩
  | o :: os, i, a => by
    obtain ⟨x, hx⟩ := puts_exists os (i + 1) a
    refine ⟨updV x i (match o.dst with | some t => a.tmps.getD t undef | none => undef), ?_⟩
    simp only [putsFrom]
    have e : updV x i (match o.dst with | some t => a.tmps.getD t undef | none => undef) i = (match o.dst with | some t => a.tmps.getD t undef | none => undef) := by simp [updV]
    rw [e, put_self, ← hx]
    rw [putsFrom_congr os (i + 1) _ x _ (fun j hj => by simp [updV]; omega), hx, hx]
theorem put_put (a : Act) (d : Option Tmp) (u v : Value) : (a.put d u).put d v = a.put d v := by
  cases d <;> simp [Act.put]
theorem puts_put : ∀ (l : List Oper) (i : Nat) (x : Nat → Value) (a : Act) (d : Option Tmp) (v : Value), l.all (fun p => !(d.isSome && p.dst == d)) = true → (putsFrom l i x a).put d v = putsFrom l i x (a.put d v)
  | [], _, _, _, _, _, _ => rfl
  | o :: os, i, x, a, d, v, h => by
    simp only [List.all_cons, Bool.and_eq_true] at h
    simp only [putsFrom]
    rw [puts_put os (i + 1) x _ d v h.2]
    congr 1
    refine Act.put_comm a _ _ ?_
    intro t ht e
    have h1 := h.1
    rw [ht, e] at h1
    simp at h1
theorem puts_update : ∀ (l : List Oper) (i0 : Nat) (x : Nat → Value) (a : Act), apartB l = true → ∀ (k : Nat) (o : Oper) (v : Value), l[k]? = some o → (putsFrom l i0 x a).put o.dst v = putsFrom l i0 (updV x (i0 + k) v) a
  | [], _, _, _, _, _, _, _, h => by cases h
  | p :: os, i0, x, a, hd, k, o, v, h => by
    simp only [apartB, Bool.and_eq_true] at hd
    simp only [putsFrom]
    cases k with
    | zero =>
      simp at h
      subst h
      rw [puts_put os _ _ _ _ _ hd.1, put_put]
      have e : updV x (i0 + 0) v i0 = v := by simp [updV]
      rw [e]
      exact putsFrom_congr _ _ _ _ _ fun j hj => by simp [updV]; omega
    | succ k =>
      simp only [List.getElem?_cons_succ] at h
      have e : updV x (i0 + (k + 1)) v i0 = x i0 := by simp [updV]
      rw [e, puts_update os (i0 + 1) x _ hd.2 k o v h]
      congr 2
      omega

/-- What an operation waits for; what it waits for by way of others. -/
def direct (ops : Array Oper) (i : Nat) : List Nat := ((ops[i]?).map fun o => (o.after.toList.filter fun e => Region.binds .any e).map (·.on)).getD []
def depsK (ops : Array Oper) : Nat → Nat → List Nat
  | 0, _ => []
  | n + 1, i => direct ops i ++ (direct ops i).flatMap (depsK ops n)
/-- All edges lead back. -/
def backB (ops : Array Oper) : Bool := (List.range ops.size).all fun i => (direct ops i).all (· < i)

theorem mem_ready {ops : Array Oper} {listed : Array Bool} {i : Nat} (h : i ∈ Region.ready .any ops listed) : i < ops.size ∧ listed.getD i true = false ∧ ∀ j ∈ direct ops i, listed.getD j false = true := by
  unfold Region.ready at h
  simp only [List.mem_filter, List.mem_range, Bool.and_eq_true, Bool.not_eq_true'] at h
  refine ⟨h.1, h.2.1, fun j hj => ?_⟩
  have h2 := h.2.2
  have hi : ops[i]? = some ops[i] := Array.getElem?_eq_getElem h.1
  unfold direct at hj
  rw [hi] at hj h2
  simp only [Option.map_some, Option.getD_some, List.mem_map, List.mem_filter] at hj h2
  obtain ⟨e, ⟨he, hb⟩, rfl⟩ := hj
  have h3 := Array.all_eq_true'.1 h2 e (by simpa using he)
  simpa [hb] using h3
theorem ready_nil {ops : Array Oper} (hb : backB ops = true) {listed : Array Bool} (hs : listed.size = ops.size) (h : Region.ready .any ops listed = []) : ∀ i, i < ops.size → listed.getD i false = true := by
  intro i
  induction i using Nat.strongRecOn with
  | _ i ih =>
    intro hi
    cases hl : listed.getD i false with
    | true => rfl
    | false =>
      exfalso
      have hm : i ∈ Region.ready .any ops listed := by
        unfold Region.ready
        simp only [List.mem_filter, List.mem_range, Bool.and_eq_true, Bool.not_eq_true']
        have hi' : ops[i]? = some ops[i] := Array.getElem?_eq_getElem hi
        refine ⟨hi, ?_, ?_⟩
        · have : i < listed.size := by omega
          simp [Array.getD, this] at hl ⊢
          exact hl
        · rw [hi']
          simp only [Option.map_some, Option.getD_some]
          rw [Array.all_eq_true']
          intro e he
          by_cases hbi : Region.binds .any e = true
          · have hd : e.on ∈ direct ops i := by
              unfold direct
              rw [hi']
              simp only [Option.map_some, Option.getD_some, List.mem_map, List.mem_filter]
              exact ⟨e, ⟨by simpa using he, hbi⟩, rfl⟩
            have hlt : e.on < i := by
              unfold backB at hb
              have := List.all_eq_true.1 (List.all_eq_true.1 hb i (List.mem_range.2 hi)) _ hd
              simpa using this
            simp [ih _ hlt (by omega)]
          · simp [hbi]
      rw [h] at hm
      cases hm

section
variable {P : Program} {ops : Array Oper} {Q : Exit → Act → World → Prop}
theorem wpAny_inv (hb : backB ops = true) (I : Array Bool → Act → World → Prop)
    (hstep : ∀ listed a w i, listed.size = ops.size → I listed a w → i ∈ Region.ready .any ops listed → wpOp P ops Q i (I (listed.setIfInBounds i true)) a w)
    (hend : ∀ listed a w, listed.size = ops.size → I listed a w → (∀ i, i < ops.size → listed.getD i false = true) → Q .normal a w) :
    ∀ fuel listed a w, listed.size = ops.size → listed.toList.count false ≤ fuel → I listed a w → wpAny P .any ops Q fuel listed a w := by
  intro fuel
  induction fuel with
  | zero =>
    intro listed a w hs hc hI
    have hall : ∀ i, i < ops.size → listed.getD i false = true := by
      intro i hi
      have hi' : i < listed.size := by omega
      cases hl : listed[i] with
      | true => simp [Array.getD, hi', hl]
      | false =>
        have : false ∈ listed.toList := by
          rw [← hl]; simp
        have := List.count_pos_iff.2 this
        omega
    refine ⟨?_, hend listed a w hs hI hall⟩
    cases hr : Region.ready .any ops listed with
    | nil => rfl
    | cons i rs =>
      have hm := mem_ready (ops := ops) (listed := listed) (i := i) (by rw [hr]; exact List.mem_cons_self ..)
      have h1 := hall i hm.1
      have hi' : i < listed.size := by omega
      have h2 := hm.2.1
      simp [Array.getD, hi'] at h1 h2
      rw [h1] at h2; cases h2
  | succ fuel ih =>
    intro listed a w hs hc hI
    refine ⟨fun hr => hend listed a w hs hI (ready_nil hb hs hr), fun i hi => ?_⟩
    refine wpOp_mono (fun a' w' h' => ih _ a' w' (by simpa using hs) ?_ h') (hstep listed a w i hs hI hi)
    have hm := mem_ready hi
    have hi' : i < listed.size := by omega
    have hf : listed[i] = false := by
      have := hm.2.1
      simpa [Array.getD, hi'] using this
    have hcnt : (listed.setIfInBounds i true).toList.count false + 1 = listed.toList.count false := by
      have hset : (listed.setIfInBounds i true).toList = listed.toList.set i true := by simp
      rw [hset, List.count_set (by simpa using hi')]
      have hpos : 0 < listed.toList.count false := List.count_pos_iff.2 (by rw [← hf]; simp)
      have e1 : (listed.toList[i] == false) = true := by simp [hf]
      have e2 : (true == false) = false := rfl
      rw [e1, e2]
      simp only [if_true, Bool.false_eq_true, if_false]
      omega
    omega

/-- One operation's part of the invariant: run in whatever frame and world, it gives a value of which F holds. -/
def StepOk (P : Program) (ops : Array Oper) (Q : Exit → Act → World → Prop) (G : (Nat → Bool) → World → Prop) (R : Nat → (Nat → Value) → World → World → Prop) (F : Nat → (Nat → Value) → World → Prop) (fr : (Nat → Value) → Act) (i : Nat) (o : Oper) : Prop :=
  ∀ (did : Nat → Bool) (x : Nat → Value) (w' : World), did i = false → G did w' → (∀ n j, (depsK ops n i).contains j = true → F j x w') →
    ∀ K : Act → World → Prop, (∀ v w'' b, b = (fr x).put o.dst v → R i x w' w'' → G (fun j => j == i || did j) w'' → F i (updV x i v) w'' → K b w'') →
      if Region.wanted o (yielded ops (fr x).tmps) = true then Oper.wp P o (fr x) w' K Q else K ((fr x).put o.dst undef) w'
def StepsFrom (P : Program) (ops : Array Oper) (Q : Exit → Act → World → Prop) (G : (Nat → Bool) → World → Prop) (R : Nat → (Nat → Value) → World → World → Prop) (F : Nat → (Nat → Value) → World → Prop) (fr : (Nat → Value) → Act) : Nat → List Oper → Prop
  | _, [] => True
  | i, o :: os => StepOk P ops Q G R F fr i o ∧ StepsFrom P ops Q G R F fr (i + 1) os
theorem StepsFrom.get {G : (Nat → Bool) → World → Prop} {R : Nat → (Nat → Value) → World → World → Prop} {F : Nat → (Nat → Value) → World → Prop} {fr : (Nat → Value) → Act} : ∀ {l : List Oper} {i : Nat}, StepsFrom P ops Q G R F fr i l → ∀ k o, l[k]? = some o → StepOk P ops Q G R F fr (i + k) o
  | [], _, _, _, _, h => by cases h
  | p :: os, i, hs, k, o, h => by
    cases k with
    | zero => simp at h; subst h; exact hs.1
    | succ k =>
      have := StepsFrom.get hs.2 k o (by simpa using h)
      rwa [show i + 1 + k = i + (k + 1) from by omega] at this

/-- A region's operations in whatever order: F says of each what its result is, G of the world (by what has been run), R what an operation may do to the world. -/
theorem wp_region_gen {id : Nat} {a : Act} {w : World} (G : (Nat → Bool) → World → Prop) (R : Nat → (Nat → Value) → World → World → Prop) (F : Nat → (Nat → Value) → World → Prop) (fr : (Nat → Value) → Act)
    (hfr : ∀ x, putsFrom ops.toList 0 x a = fr x) (hm : P.follows .mixedOrders = true) (hd : apartB ops.toList = true) (hb : backB ops = true)
    (h0 : G (fun _ => false) w.drew)
    (hloc : ∀ j x y w', (∀ k n, (k = j ∨ (depsK ops n j).contains k = true) → x k = y k) → F j x w' → F j y w')
    (hstab : ∀ i j x w1 w2, j ≠ i → (∀ n, (depsK ops n j).contains i = false) → F j x w1 → R i x w1 w2 → F j x w2)
    (hstep : StepsFrom P ops Q G R F fr 0 ops.toList)
    (hend : ∀ did x w', G did w' → (∀ i, i < ops.size → did i = true) → (∀ i, i < ops.size → F i x w') → Q .normal (fr x) w') :
    (Code.region id ops true).wp P Q a w := by
  refine wp_region_any hm ?_
  obtain ⟨x0, hx0⟩ := puts_exists ops.toList 0 a
  have main := wpAny_inv (P := P) (ops := ops) (Q := Q) hb
    (fun listed a' w' => ∃ x, a' = putsFrom ops.toList 0 x a ∧ G (fun i => listed.getD i false) w' ∧ (∀ i, listed.getD i false = true → F i x w') ∧ (∀ i, listed.getD i false = true → ∀ j ∈ direct ops i, listed.getD j false = true))
    ?_ ?_ ops.size (Array.replicate ops.size false) a w.drew (by simp) (by simp) ?_
  · exact main
  · rintro listed a' w' i hs ⟨x, rfl, hG, hl, hcl⟩ hi
    obtain ⟨h1, h2, h3⟩ := mem_ready hi
    have hsz : i < listed.size := by omega
    have hf : listed.getD i false = false := by simpa [Array.getD, hsz] using h2
    have ho : ops[i]? = some ops[i] := Array.getElem?_eq_getElem h1
    have key : ∀ n k, (∀ j ∈ direct ops k, listed.getD j false = true) → ∀ j ∈ depsK ops n k, listed.getD j false = true := by
      intro n
      induction n with
      | zero => intro k _ j hj; cases hj
      | succ n ih =>
        intro k hk j hj
        simp only [depsK, List.mem_append, List.mem_flatMap] at hj
        rcases hj with hj | ⟨m, hm1, hm2⟩
        · exact hk j hj
        · exact ih m (hcl m (hk m hm1)) j hm2
    have hget : ∀ j, (listed.setIfInBounds i true).getD j false = (j == i || listed.getD j false) := by
      intro j
      by_cases hj : j = i
      · subst hj; simp [Array.getD, hsz]
      · have hji : (j == i) = false := by simpa using hj
        rw [hji, Bool.false_or]
        simp only [Array.getD, Array.size_setIfInBounds]
        by_cases hjs : j < listed.size
        · simp [hjs, Array.getElem_setIfInBounds, Ne.symm hj]
        · simp [hjs]
    have hget2 : ∀ j, (listed.setIfInBounds i true).getD j false = true ↔ (j = i ∨ listed.getD j false = true) := by
      intro j; rw [hget]; simp
    refine wpOp_step (o := ops[i]) ho ?_
    intro K' hK'
    have hst := StepsFrom.get hstep i ops[i] (by simp)
    rw [Nat.zero_add] at hst
    unfold StepOk at hst
    simp only [← hfr] at hst
    refine hst (fun i => listed.getD i false) x w' hf hG (fun n j hj => hl j (key n i h3 j (by simpa using hj))) K' ?_
    rintro v w'' _ rfl hw hG2 hFv
    refine hK' _ _ ⟨updV x i v, ?_, ?_, ?_, ?_⟩
    · have := puts_update ops.toList 0 x a hd i ops[i] v (by simp)
      rwa [Nat.zero_add] at this
    · have e : (fun j => (listed.setIfInBounds i true).getD j false) = (fun j => j == i || listed.getD j false) := funext hget
      rw [e]; exact hG2
    · intro j hj
      rcases (hget2 j).1 hj with rfl | hj'
      · exact hFv
      · have hne : j ≠ i := by intro e; rw [e, hf] at hj'; cases hj'
        have hno : ∀ n, (depsK ops n j).contains i = false := fun n => by
          cases hcd : (depsK ops n j).contains i with
          | false => rfl
          | true =>
            exfalso
            have := key n j (hcl j hj') i (by simpa using hcd)
            rw [hf] at this; cases this
        refine hloc j x _ _ (fun k n hk => ?_) (hstab i j x _ _ hne hno (hl j hj') hw)
        have hki : k ≠ i := by
          rintro rfl
          rcases hk with hk | hk
          · exact hne hk.symm
          · rw [hno n] at hk; cases hk
        simp [updV, hki]
    · intro j hj m hm
      rw [hget2]
      right
      rcases (hget2 j).1 hj with rfl | hj'
      · exact h3 m hm
      · exact hcl j hj' m hm
  · rintro listed a' w' hs ⟨x, rfl, hG, hl, -⟩ hall
    rw [hfr]
    exact hend _ x w' hG hall fun i hi => hl i (hall i hi)
  · refine ⟨x0, hx0.symm, ?_, fun i hi => ?_, fun i hi => ?_⟩
    · have e : (fun i => (Array.replicate ops.size false).getD i false) = fun _ => false := by
        funext i
        simp only [Array.getD, Array.size_replicate]
        split <;> simp
      rw [e]; exact h0
    · exfalso
      simp only [Array.getD, Array.size_replicate] at hi
      split at hi <;> simp at hi
    · exfalso
      simp only [Array.getD, Array.size_replicate] at hi
      split at hi <;> simp at hi
end
end Sluice

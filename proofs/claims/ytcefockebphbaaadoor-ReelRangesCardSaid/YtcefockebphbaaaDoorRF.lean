/- A range over a function: the statement's rule in plain words, the marks that it leaves, and the round. -/
import Derived.Test.YtcefockebphbaaaDoorMem
import Derived.RangeFuncIn
import Derived.RangeFuncLeaves
import Derived.RangeFuncRecord
import Derived.RangeFuncSeq
import Derived.RangeFuncCalls
import Derived.Sort.QuietIn
set_option linter.unusedVariables false
set_option linter.unusedSimpArgs false
set_option linter.unnecessarySimpa false
namespace Go.Proofs.YtcefockebphbaaaDoor
open Go Go.RowKit Sluice

theorem putObj_ne {w : World} {D k : Nat} {o : Obj} (h : D ≠ k) : (w.putObj D o).heap[k]? = w.heap[k]? := World.putObj_heap_other h.symm
theorem fr_putObj {S : Nat → Prop} {a b : World} (h : Fr S a b) {D : Nat} (hD : D < a.heap.size → S D) (o : Obj) : Fr S a (b.putObj D o) :=
  ⟨h.os, h.tape, h.output, by unfold World.putObj; simpa using h.size, fun k hk hn => (putObj_ne (fun e => hn (by subst e; exact hD hk))).trans (h.block k hk hn)⟩

/-- The marks of ranges over functions whose rounds deferred nothing: their blocks lie in T. -/
def Marks (T : Nat → Prop) : List Deferred → World → Prop
  | [], _ => True
  | d :: ds, w => (∃ D, d = { target := .collected D, args := #[] } ∧ T D ∧ w.heap[D]? = some (.deferred (some [])) ∧ ∀ d' ∈ ds, d'.target ≠ .collected D) ∧ Marks T ds w

theorem Marks.keeps {T S : Nat → Prop} {w w' : World} (hf : Fr S w w') : ∀ {ds : List Deferred}, Marks T ds w → (∀ D, { target := .collected D, args := #[] } ∈ ds → T D → w.heap[D]? = some (.deferred (some [])) → ¬ S D) → Marks T ds w'
  | [], _, _ => trivial
  | d :: ds, ⟨⟨D, h1, h2, h3, h4⟩, h5⟩, hn => by
    refine ⟨⟨D, h1, h2, ?_, h4⟩, Marks.keeps hf h5 (fun D' hd => hn D' (List.mem_cons_of_mem _ hd))⟩
    rw [hf.block D (Array.getElem?_eq_some_iff.1 h3).1 (hn D (by rw [h1]; exact List.mem_cons_self) h2 h3)]
    exact h3
theorem Marks.mono {T T' : Nat → Prop} {w : World} (h : ∀ k, T k → T' k) : ∀ {ds : List Deferred}, Marks T ds w → Marks T' ds w
  | [], _ => trivial
  | _ :: _, ⟨⟨D, h1, h2, h3, h4⟩, h5⟩ => ⟨⟨D, h1, h _ h2, h3, h4⟩, Marks.mono h h5⟩
theorem Marks.lt {T : Nat → Prop} {w : World} : ∀ {ds : List Deferred}, Marks T ds w → ∀ d ∈ ds, ∃ D, d.target = .collected D ∧ D < w.heap.size
  | [], _, _, hd => by cases hd
  | d :: ds, ⟨⟨D, h1, h2, h3, h4⟩, h5⟩, d', hd => by
    rcases List.mem_cons.1 hd with e | e
    · subst e; exact ⟨D, by rw [h1], (Array.getElem?_eq_some_iff.1 h3).1⟩
    · exact Marks.lt h5 d' e

theorem leaves_marks {P : Program} {n : Nat} {fn : Func} {tmps : Array Value} {R : Ending → World → Prop} {T : Nat → Prop} : ∀ (ds : List Deferred) (w : World), Marks T ds w →
    (∀ w', Fr T w w' → (∀ k cs t, Blk w k cs t → Blk w' k cs t) → ∃ v, (results fn tmps).run P w' = .ok v w' ∧ R (.returned v) w') → LeavesInM Fence.wide n P fn tmps R ds .returning w
  | [], w, _, h => h w (Fr.refl _ _) (fun _ _ _ hb => hb)
  | d :: ds, w, ⟨⟨D, h1, h2, h3, h4⟩, h5⟩, h => by
    refine ⟨by simp, .inl ⟨D, w.putObj D (.deferred none), by rw [h1], run_takeDeferred h3, leaves_marks (T := T) ds _ ?_ ?_⟩⟩
    · refine h5.keeps (S := (· = D)) (fr_putObj (S := (· = D)) (Fr.refl _ _) (fun _ => rfl) _) ?_
      intro D' hd _ _ e
      subst e
      exact h4 _ hd rfl
    · intro w' hf hb
      refine h w' (Fr.then (fr_putObj (Fr.refl _ _) (fun _ => h2) _) hf) (fun k cs t hk => hb k cs t ?_)
      have e : D ≠ k := by intro e; subst e; unfold Blk at hk; rw [h3] at hk; cases hk
      exact (putObj_ne e).trans hk

/-- The statement: two blocks are laid; the iterator is called with yield. -/

theorem range_wp {P : Program} {g : Operand} {ps : Array Tmp} {assign body : Code} {Q : Exit → Act → World → Prop} {a : Act} {w : World} {gf : Nat} {lb : Array Value} (hg : a.eval g = .func (.func gf) #[] lb) (eg : ∀ args w, (callFunc gf args).run P w = .ok (.enter gf args) w)
    (h : ∀ fn, Calls P gf (#[.func (.yield (w.heap.size + 1)) #[] #[]] ++ lb) ((w.alloc (.deferred (some []))).alloc (.loop { state := .ready, pending := none, fn, tmps := a.tmps, params := ps, assign, body, defers := w.heap.size }))
      (rangePost Fence.wide 9 P (w.heap.size + 1) Q { a with defers := { target := .collected w.heap.size, args := #[] } :: a.defers })) :
    (Code.rangeFunc g ps assign body).wp P Q a w := by
  refine (wpIn_wide (n := 9)).1 ?_
  refine wpIn_rangeFunc (F := Fence.wide) ?_
  intro fn _
  have h := h fn
  generalize hW : (w.alloc (.deferred (some []))).alloc (.loop { state := .ready, pending := none, fn, tmps := a.tmps, params := ps, assign, body, defers := w.heap.size }) = W1 at h
  have h2 := (callsIn_wide (n := 8)).2 h
  refine ⟨w.heap.size + 1, [{ target := .collected w.heap.size, args := #[] }], W1, { target := .fn (.func gf) lb, args := #[.func (.yield (w.heap.size + 1)) #[] #[]] }, W1, gf,
    #[.func (.yield (w.heap.size + 1)) #[] #[]] ++ lb, W1, ?_, ?_, ?_, ?_, ?_, ?_⟩
  · rw [← hW]; exact run_enterLoop_outer _ _ _ _ _
  · simp only [resolve, hg]
    simp [go_sem]
  · exact fun _ _ => trivial
  · simp [invoke, go_sem, eg]
  · intro _; omega
  · exact h2

theorem range_wp2 {P : Program} {g : Operand} {ps : Array Tmp} {assign body : Code} {Q : Exit → Act → World → Prop} {a : Act} {w : World} {gf : Nat} {lb : Array Value} (hg : a.eval g = .func (.func gf) #[] lb) (eg : ∀ args w, (callFunc gf args).run P w = .ok (.enter gf args) w)
    (h : ∀ rec : Loop, rec.state = .ready → rec.pending = none → rec.tmps = a.tmps → rec.params = ps → rec.assign = assign → rec.body = body → Calls P gf (#[.func (.yield (w.heap.size + 1)) #[] #[]] ++ lb) ((w.alloc (.deferred (some []))).alloc (.loop rec))
      (rangePost Fence.wide 9 P (w.heap.size + 1) Q { a with defers := { target := .collected w.heap.size, args := #[] } :: a.defers })) :
    (Code.rangeFunc g ps assign body).wp P Q a w := range_wp hg eg fun _ => h _ rfl rfl rfl rfl rfl rfl

/-- A call of yield, from the walk of the round: the assignments to the left sides, then the body. -/
theorem yield_at {P : Program} {l : Nat} {r : Loop} {args : Array Value} {w : World} {R : Ending → World → Prop} (hl : w.heap[l]? = some (.loop r)) (hr : r.state = .ready) (hs : args.size = r.params.size)
    (h : r.assign.wpIn (Fence.wide.inRound l) 8 P (Exit.then (fun a₁ w₁ => ∃ r1, w₁.heap[l]? = some (.loop r1) ∧ r1.state = .ready ∧ r.body.wpIn (Fence.wide.inRound l) 8 P (roundPost P l R) a₁ (w₁.putObj l (.loop { r1 with state := .busy }))) (fun _ _ _ => False))
      { tmps := (r.params.zip args).foldl (fun t (p, v) => t.setIfInBounds p v) r.tmps, defers := [] } w) : YieldAt Fence.wide 8 P l args w R := by
  refine ⟨r.fn, _, r.assign, r.body, run_yield hl hs, roundIn_of_wpIn trivial (wpIn_mono h ?_)⟩
  intro e a1 w1 he
  cases e with
  | normal => obtain ⟨r1, h1, h2, h3⟩ := he; exact ⟨_, run_beginRound h1 h2, h3⟩
  | ret => exact he
  | exit _ => exact he
  | goto _ => exact he
  | panic _ => exact he
  | outgrown => exact he

/-! A region that draws its order, in a round: no deferred call: as outside. -/
def noDefer (l : List Oper) : Bool := l.all fun o => match o.op with | .defer _ => false | _ => true
theorem noDefer_spec {l : List Oper} (h : noDefer l = true) : ∀ (i : Nat) (o : Oper), l.toArray[i]? = some o → ∀ c, o.op ≠ .defer c := by
  intro i o ho c hc
  unfold noDefer at h
  rw [List.all_eq_true] at h
  have hm : o ∈ l := by rw [List.getElem?_toArray] at ho; exact List.mem_of_getElem? ho
  have := h o hm
  rw [hc] at this
  cases this
theorem wpAnyIn_inRound {F : Fence} {n : Nat} {P : Program} {md : Region.Mode} {ops : Array Oper} {Q : Exit → Act → World → Prop} (l : Nat) (hd : ∀ (i : Nat) (o : Oper), ops[i]? = some o → ∀ c, o.op ≠ .defer c) :
    ∀ (fuel : Nat) (listed : Array Bool) (a : Act) (w : World), wpAnyIn F n P md ops Q fuel listed a w → wpAnyIn (F.inRound l) n P md ops Q fuel listed a w
  | 0, _, _, _, h => h
  | k + 1, listed, a, w, h => by
    refine ⟨h.1, fun i hi => ?_⟩
    have h2 := h.2 i hi
    have ih := fun listed a w => wpAnyIn_inRound (F := F) (n := n) (P := P) (md := md) (Q := Q) l hd k listed a w
    unfold wpOpIn at h2 ⊢
    cases ho : ops[i]? with
    | none => rw [ho] at h2; exact ih _ _ _ h2
    | some o =>
      rw [ho] at h2
      dsimp only at h2 ⊢
      by_cases hw : Region.wanted o (yielded ops a.tmps) = true
      · rw [if_pos hw] at h2 ⊢
        have h3 := Oper.wpIn_mono (fun a w => ih (listed.setIfInBounds i true) a w) h2
        unfold Oper.wpIn at h3 ⊢
        rw [Oper.semAt_eq _ _ _ (hd i o ho)] at h3 ⊢
        exact h3
      · rw [if_neg hw] at h2 ⊢
        exact ⟨h2.1, ih _ _ _ h2.2⟩
theorem quiet_in_round {n : Nat} {P : Program} {id : Nat} {Q : Exit → Act → World → Prop} {a : Act} {w : World} {ll : List Oper} (l : Nat) (hm : P.follows .mixedOrders = true) (hB : Region.lexB .any ll.toArray = true) (hd : noDefer ll = true)
    (h : wpQuietIn Fence.wide n P ll.toArray (fun w' => ∃ n, w' = w.drewN n) (fun a' => ∀ w', (∃ n, w' = w.drewN n) → Q .normal a' w') ll a) : (Code.region id ll.toArray true).wpIn (Fence.wide.inRound l) n P Q a w := by
  simp only [Region.lexB, Bool.and_eq_true] at hB
  refine wpIn_region_any hm (wpAnyIn_inRound l (noDefer_spec hd) _ _ _ _ (wpAnyIn_of_quiet (C := fun w' => ∃ n, w' = w.drewN n) (Q := fun a' => ∀ w', (∃ n, w' = w.drewN n) → Q .normal a' w') rfl (fun _ w' hw' h => h w' hw') _ _ _ _ ⟨1, rfl⟩ ?_))
  have := wpAnyQIn_lex (F := Fence.wide) (n := n) (C := fun w' => ∃ n, w' = w.drewN n) (md := .any) hB.1 ll 0 (Array.replicate ll.toArray.size false) a (by simp) (by simpa using hB.2) h
  simpa using this
end Go.Proofs.YtcefockebphbaaaDoor

/- The disk: a change of the directory, made and noted. -/
import Derived.Test.YtcefockebphbaaaDoorGD
import Derived.Deep.RegionLaw
import Derived.Maps.RangeRun
import Derived.Laws.CopyRow
import Derived.Deep.DeepCutAuto
set_option linter.unusedVariables false
set_option linter.unusedSimpArgs false
set_option linter.unnecessarySimpa false
namespace Go.Proofs.YtcefockebphbaaaDoor
open Go Go.RowKit Sluice
open Go.ChangeMaps (setBlock)

/-- The directory turned: the disk behind that. -/
theorem IsDisk.now_set {w w' : World} {own : Nat → Tag} {L : Lay} {D : PDisk} (h : IsDisk w own L D) {d : PDir} (hf : Fr (· = L.m1) w w') (hm : MapIs w' L.m1 L.fb d) (hn : (d.map (·.1)).Nodup) (hi : ∀ x ∈ d, x.2 < D.files.length) :
    IsDisk w' own L { D with now := d } := by
  have hne : ∀ n, own n ≠ .now → ¬ n = L.m1 := fun n hn e => hn (e ▸ h.mark.2.1)
  refine ⟨fun n hn' => Nat.lt_of_lt_of_le (h.lt n hn') hf.size, h.mark, ?_, hm, h.kept.kept hf (hne _ (by simp [h.mark])), ?_, hn, hi, h.idsK, h.idsC⟩
  · obtain ⟨ch, pl, h1, h2, h3, h4, h5, h6⟩ := h.head
    exact ⟨ch, pl, hf.blk h1 (hne _ (by simp [h.mark])), h2.kept hf (h3.not fun n e => hne n (by simp [e])), h3, h4.kept hf (h5.not fun n e => hne n (by simp [e])), h5, h6⟩
  · intro i f hi
    obtain ⟨h1, v, h2, h3, h4⟩ := h.files i f hi
    exact ⟨h1, v, hf.blk h2 (hne _ (by simp [h1])), h3.kept hf (h4.not fun n e => hne n (by simp [e])), h4⟩

/-- The disk has come to D' (new blocks may be its own). -/
def To (own : Nat → Tag) (L : Lay) (D' : PDisk) (w w' : World) : Prop :=
  ∃ own', IsDisk w' own' L D' ∧ Fr (Own own) w w' ∧ Wider w own own'
theorem To.trans {own own1 : Nat → Tag} {L : Lay} {D' : PDisk} {w w1 w2 : World} (hF : Fr (Own own) w w1) (hW : Wider w own own1) (h : To own1 L D' w1 w2) : To own L D' w w2 := by
  obtain ⟨own', h1, h2, h3⟩ := h
  exact ⟨own', h1, hF.trans h2 fun i hi => hW i hi, hW.trans h3 hF.size⟩
theorem To.keeps {own : Nat → Tag} {L : Lay} {D' : PDisk} {w w1 w2 : World} (hF : Keeps w w1) (h : To own L D' w1 w2) : To own L D' w w2 := To.trans (Fr.any hF) (Wider.refl _ _) h
/-- What an operation of the disk comes to. -/
def Does (own : Nat → Tag) (L : Lay) (D' : PDisk) (v : Value) (w : World) (r : Ending) (w' : World) : Prop :=
  r = .returned v ∧ To own L D' w w'

theorem step_append_run {P : Program} {ops : Array Oper} {o : Oper} {a : Act} {w : World} {K : Act → World → Prop} {Q : Exit → Act → World → Prop} {E : Prop}
    (hg : o.guard = none) (s x : Operand) (t : TypeId) (hop : o.op = Op.call { callee := Callee.builtin Builtin.append, args := #[s, x], argTypes := #[t, t] })
    (sv xv v : Value) (w' : World) (hs : a.eval s = sv) (hx : a.eval x = xv) (hrun : (Builtin.append_ #[t, t] o.type #[sv, xv]).run P w = .ok v w')
    (hK : K (a.put o.dst v) w') :
    if Region.wanted o (yielded ops a.tmps) = true then Oper.wp P o a w K Q else E := by
  have hw : Region.wanted o (yielded ops a.tmps) = true := by simp [Region.wanted, hg]
  rw [if_pos hw]
  unfold Oper.wp
  simp [execOp, hop, resolve, invoke, builtin, hs, hx, hrun, Result.andThen]
  exact hK

set_option maxHeartbeats 2000000 in
theorem turn_core (L : Lay) (own : Nat → Tag) (D : PDisk) (c : ByteArray × ByteArray × Option Nat) (hci : ∀ i, c.2.2 = some i → i < D.files.length) (hroom : (D.changes.length + 1) * 40 ≤ 140737488355328)
    (d : PDir) (hd : (d.map (·.1)).Nodup) (hdi : ∀ x ∈ d, x.2 < D.files.length)
    (happ : ∀ w, MapIs w L.m1 L.fb D.now → Calls Tryd.prog 60 #[.agg #[.string c.1, .string c.2.1, .pointer (c.2.2.map fun i => ⟨L.fb i, 0, none⟩)], .map (some L.m1)] w fun r w' => r = .returned (.tuple #[]) ∧ MapIs w' L.m1 L.fb d ∧ Fr (· = L.m1) w w')
    (w : World) (hD : IsDisk w own L D) :
    Calls Tryd.prog 38 #[.pointer (some ⟨L.b, 0, none⟩), .agg #[.string c.1, .string c.2.1, .pointer (c.2.2.map fun i => ⟨L.fb i, 0, none⟩)]] w (Does own L { D with changes := D.changes ++ [c], now := d } (.int .i64 0) w) := by
  obtain ⟨c1, c2, c3⟩ := c
  dsimp only at hci happ ⊢
  obtain ⟨ch, pl, hb, hch, hchm, -, -, -⟩ := hD.head
  generalize hp : c3.map (fun i => (⟨L.fb i, 0, none⟩ : Addr)) = p at happ
  have HP := Lib.hid hp
  clear hp
  obtain ⟨wb, hwb⟩ : ∃ wb : World, wb = ((w.alloc (.cells #[.string c1, .string c2, .pointer p] 96)).alloc (.cells #[.string c1, .string c2, .pointer p] 96)).drew := ⟨_, rfl⟩
  have hbl : Blk wb (w.heap.size + 1) #[.string c1, .string c2, .pointer p] 96 := by rw [hwb]; exact Blk.drew (Blk.new' (by simp))
  have hbx : Blk wb w.heap.size #[.string c1, .string c2, .pointer p] 96 := by rw [hwb]; exact Blk.drew (Blk.alloc (Blk.new' rfl) _)
  have hbd : Blk wb L.b (diskCells L D ch pl) 73 := by rw [hwb]; exact Blk.drew (Blk.alloc (Blk.alloc hb _) _)
  have hkw : Keeps w wb := by rw [hwb]; exact (((Fr.refl _ w).alloc _).alloc _).drew
  obtain ⟨v', w2, hrun, hrow, hgrow, hnew⟩ := run_append_row (P := Tryd.prog) wb 71 71 96 (.agg #[.string { data := #[] }, .string { data := #[] }, .pointer none]) 3 40 Tryd.underlying71 info_change rfl (by omega)
    ch D.changes.length (chCells L.fb D.changes) (by rw [hwb]; exact Row.drew (Row.alloc (Row.alloc hch _) _)) ⟨w.heap.size + 1, 0, none⟩ 1 1 [.string c1, .string c2, .pointer p] rfl
    (by intro j u hj
        have hadd : (⟨w.heap.size + 1, 0, none⟩ : Addr).add j = ⟨w.heap.size + 1, j, none⟩ := by unfold Addr.add; split <;> simp_all
        rw [hadd, hbl.cell]; simpa using hj)
    (by simp [Value.oneCell']) (by unfold maxLen; omega) hroom
  have hv' : ∃ s1 n1 c1, v' = .slice s1 n1 c1 := by obtain ⟨-, (⟨rfl, -⟩ | ⟨g, c, -, rfl, -⟩)⟩ := hrow <;> exact ⟨_, _, _, rfl⟩
  obtain ⟨s1, n1, k1, rfl⟩ := hv'
  have hltb : L.b < w.heap.size := hb.lt
  have hsz : wb.heap.size = w.heap.size + 1 + 1 := by rw [hwb]; simp
  have hfr : Fr (fun n => ch.ownBlock = some n) wb w2 := (Fr.refl _ wb).grown hgrow (fun k hk _ => hk)
  have hno : ∀ n, own n ≠ .changes → ¬ (ch.ownBlock = some n) := fun n hn e => hn (hchm n e)
  have hbx2 : Blk w2 w.heap.size #[.string c1, .string c2, .pointer p] 96 := hfr.blk hbx (hno _ (by simp [hD.out (Nat.le_refl _)]))
  have hbd2 : Blk w2 L.b (diskCells L D ch pl) 73 := hfr.blk hbd (hno _ (by simp [hD.mark]))
  have hDb : IsDisk wb own L D := hD.keeps hkw
  have hnote := IsDisk.note hDb (c1, c2, c3) hci hbd hchm (by rw [HP.out]; exact hrow) hfr hnew
  have HN := Lib.hid hnote
  have HK := Lib.hid hkw
  have HA := Lib.hid happ
  have HW := Lib.hid hwb
  rw [hwb] at hrun
  unfold diskCells at hb hbd2
  have hx0 := hbx2.cell 0
  have hx1 := hbx2.cell 1
  have hx2 := hbx2.cell 2
  have hc := hb.cell
  have hc2 := hbd2.cell
  have hf2 := hbd2.free
  have hb4 := hb.cell 4
  have hs2 : w.heap.size + 1 < w2.heap.size := by have := hfr.size; omega
  have hne1 : L.b ≠ w.heap.size := by omega
  have hne2 : w.heap.size ≠ L.b := by omega
  clear hnote hkw happ hwb hbl hbx hbd hrow hgrow hnew hfr hno hbx2 hbd2 hDb hch hchm hb hD hci hroom
  go_enter Tryd.func38, Tryd.ntmps38
  go_wp2
  have hrun' := Lib.hid hrun
  clear hrun
  go_region_law (refine step_append_run rfl _ _ _ rfl _ _ _ w2 rfl rfl hrun'.out ?_)
  all_goals go_wp2
  all_goals go_region_with (go_at_call 60; refine (HA.out _ ?_).mono ?_; obtain ⟨own', hD', hF', hW'⟩ := HN.out; exact (IsDisk.drew hD').now; rintro r w' ⟨rfl, hM', hF'⟩)
  all_goals go_wp2
  all_goals (
    go_ret
    obtain ⟨own', hD', hF1, hW1⟩ := HN.out
    refine ⟨rfl, To.keeps HK.out (To.trans hF1 hW1 ⟨own', IsDisk.now_set (IsDisk.drew hD') hF' hM' hd hdi, ?_, fun _ _ h => h⟩)⟩
    exact Fr.mono (Fr.trans (S := (· = L.m1)) ((Fr.refl _ _).drew) hF' (fun _ _ h => h)) (fun n _ e => by rw [e]; unfold Own; rw [hD'.mark.2.1]; simp))
end Go.Proofs.YtcefockebphbaaaDoor

namespace Go.Proofs.YtcefockebphbaaaDoor
open Go Go.RowKit Sluice
open Go.ChangeMaps (setBlock)

/-- A file is made. -/
def _root_.Sluice.PDisk.made (D : PDisk) (name : ByteArray) : PDisk :=
  { D with files := D.files ++ [PFile.zero], now := D.now ++ [(name, D.files.length)], changes := D.changes ++ [(⟨#[]⟩, name, some D.files.length)] }
def Made (own : Nat → Tag) (L : Lay) (D : PDisk) (name : ByteArray) (w : World) (r : Ending) (w' : World) : Prop :=
  r = .returned (.int .i64 0) ∧ ∃ n, To own (L.put D.files.length n) (D.made name) w w'


theorem To.fresh {own : Nat → Tag} {t : Tag} {L : Lay} {D' : PDisk} {w w' : World} {o : Obj} (h : To (setTag own w.heap.size t) L D' (w.alloc o) w') : To own L D' w w' :=
  To.trans ((Fr.refl _ _).alloc o) (fun n hn h => by rwa [setTag_other (by omega)] at h) h
theorem To.head {own : Nat → Tag} {L L' : Lay} {D D' : PDisk} {w w1 w' : World} (hD : IsDisk w own L D) {w0 : World} (hF : Fr (· = L.b) w0 w1) (h : To own L' D' w1 w') : To own L' D' w0 w' :=
  To.trans (hF.mono fun n _ e => by rw [e]; unfold Own; rw [hD.mark.1]; simp) (Wider.refl _ _) h
theorem look_none {d : PDir} {name : ByteArray} (h : d.look name = none) : ∀ x ∈ d, x.1 ≠ name := by
  intro x hx e
  simp only [PDir.look, Option.map_eq_none_iff, List.find?_eq_none] at h
  exact h x hx (by subst e; show (x.1.data == x.1.data) = true; simp)
theorem named_ne {s : ByteArray} (h : namedB s = true) : s.toList.isEmpty = false := by
  simp only [namedB, Bool.and_eq_true, decide_eq_true_eq] at h
  cases e : s.toList with
  | nil =>
    have : s.size = 0 := by
      have h2 : s = ⟨#[]⟩ := by rw [ByteArray.ext_iff]; apply Array.ext'; rw [← Go.ByteArray.toList_eq s]; exact e
      rw [h2]; rfl
    omega
  | cons => rfl
/-- 'turn', with a new file. -/
theorem turn_new (L : Lay) (own : Nat → Tag) (D : PDisk) (name : ByteArray) (hn : namedB name = true) (hl : D.now.look name = none) (hroom : (D.changes.length + 1) * 40 ≤ 140737488355328)
    (w : World) (hD : IsDisk w own L D) (n : Nat) (hb : Blk w n (PFile.zero.cells (.slice none 0 0)) 91) (hn1 : own n = .out) :
    Calls Tryd.prog 38 #[.pointer (some ⟨L.b, 0, none⟩), .agg #[.string { data := #[] }, .string name, .pointer (some ⟨n, 0, none⟩)]] w
      (Does (setTag own n (.file D.files.length)) (L.put D.files.length n) { D with files := D.files ++ [PFile.zero], now := D.now ++ [(name, D.files.length)], changes := D.changes ++ [(⟨#[]⟩, name, some D.files.length)] } (.int .i64 0) w) := by
  have e : (L.put D.files.length n).fb D.files.length = n := by simp [Lay.put]
  have h1 := hD.addFile hn1 hb
  have h := turn_core (L.put D.files.length n) _ { D with files := D.files ++ [PFile.zero] } (⟨#[]⟩, name, some D.files.length) (by intro i hi; simp at hi; subst hi; simp) hroom (D.now ++ [(name, D.files.length)])
    (by rw [List.map_append, List.nodup_append]; refine ⟨hD.names, by simp, ?_⟩; intro a ha b hb; obtain ⟨x, hx, rfl⟩ := List.mem_map.1 ha; simp at hb; rw [hb]; exact look_none hl x hx)
    (by intro x hx; simp at hx ⊢; rcases hx with hx | rfl; · have := hD.ids x hx; omega
        · simp)
    (fun w hm => by have := apply_new _ _ _ name D.files.length hl (named_ne hn) w hm; exact this) w h1
  simp only [Option.map_some, e] at h
  exact h

set_option maxHeartbeats 2000000 in
set_option maxRecDepth 100000 in
theorem create_body (L : Lay) (own : Nat → Tag) (D : PDisk) (name : ByteArray) (hs : name.size ≤ maxLen) (hn : namedB name = true) (hl : D.now.look name = none) (hm : D.now.length < 4096) (hroom : (D.changes.length + 1) * 40 ≤ 140737488355328)
    (w : World) (hD : IsDisk w own L D) (bd bn : Nat) (hbd : own bd = .out) (hbn : own bn = .out) (hcd : Blk w bd #[.pointer (some ⟨L.b, 0, none⟩)] 29) (hcn : Blk w bn #[.string name] 9) :
    Calls Tryd.prog 39 #[zeroFault, .pointer (some ⟨bd, 0, none⟩), .pointer (some ⟨bn, 0, none⟩)] w (Made own L D name w) := by
  have hld := hcd.lt
  have hln := hcn.lt
  have hc0 := hcd.cell 0
  have hc1 := hcn.cell 0
  have HD := Lib.hid hD
  clear hD
  unfold zeroFault
  go_enter Tryd.func39, Tryd.ntmps39
  go_wp2_with (first
    | ((go_at_call 34); (refine (find_look L own D name hs hn _ (HD.out.keeps (by (repeat (first | with_reducible exact Fr.refl _ _ | with_reducible assumption | with_reducible refine Fr.alloc ?_ _ | with_reducible refine Fr.drew ?_ | with_reducible refine Fr.drewN ?_ _ | with_reducible refine Fr.setCell ?_ (by simp; try omega) _))))).mono ?_); (rw [hl]); (rintro r w1 ⟨rfl, hk⟩); (have hK : Keeps w w1 := Fr.keeps (by (repeat (first | with_reducible exact Fr.refl _ _ | with_reducible assumption | with_reducible refine Fr.alloc ?_ _ | with_reducible refine Fr.drew ?_ | with_reducible refine Fr.drewN ?_ _ | with_reducible refine Fr.setCell ?_ (by simp; try omega) _))) hk); (obtain ⟨ch, pl, hb, -⟩ := (HD.out.keeps hK).head); (obtain ⟨es, clock, hm1, hes, -⟩ := (HD.out.keeps hK).now); (have hmap := Sluice.run_len_map (P := Tryd.prog) (ht := Tryd.underlying70) (ty := 3) (hb := hm1)); (have hsz := dir_size hes); (have hb0 := hb.cell); (have hc0' := (hK.blk hcd (fun h => h)).cell 0); (have hc1' := (hK.blk hcn (fun h => h)).cell 0); (have hbl := hb.lt); (have hne1 : L.b ≠ w1.heap.size := by omega); (have hsz1 := hK.size); (have hne2 : bd ≠ w1.heap.size := by omega); (have hne3 : bn ≠ w1.heap.size := by omega); (rw [hsz] at hmap); (have HK := Lib.hid hK); (unfold diskCells at hb0); (clear hk hK hb hm1 hes hsz))
    | ((go_at_call 38); (refine (turn_new L own D name hn hl hroom _ ((HD.out.keeps HK.out).alloc _) w1.heap.size (Blk.new' rfl) ((HD.out.keeps HK.out).out (Nat.le_refl _))).mono ?_); (rintro r w2 ⟨rfl, hT⟩)))
  go_ret
  exact ⟨rfl, w1.heap.size, To.keeps HK.out (To.fresh hT)⟩
set_option maxHeartbeats 2000000 in
set_option maxRecDepth 100000 in
theorem create_calm (L : Lay) (own : Nat → Tag) (D : PDisk) (hcalm : D.Calm) (name : ByteArray) (hs : name.size ≤ maxLen) (hn : namedB name = true) (hl : D.now.look name = none) (hm : D.now.length < 4096) (hroom : (D.changes.length + 1) * 40 ≤ 140737488355328)
    (w : World) (hD : IsDisk w own L D) :
    Calls Tryd.prog 13 #[.pointer (some ⟨L.b, 0, none⟩), .string name] w (Made own L D.tick name w) := by
  have HD := Lib.hid hD
  clear hD
  go_enter Tryd.func13, Tryd.ntmps13
  go_wp2_with ((go_at_call 32); (refine operate_calm L own D hcalm _ _ _ _ (HD.out.keeps (by (repeat (first | with_reducible exact Fr.refl _ _ | with_reducible assumption | with_reducible refine Fr.alloc ?_ _ | with_reducible refine Fr.drew ?_ | with_reducible refine Fr.drewN ?_ _ | with_reducible refine Fr.setCell ?_ (by simp; try omega) _)))) _ (fun _ _ => rfl) ?_); (intro w1 hD1 hF1); (refine (create_body L own D.tick name hs hn hl hm hroom w1 hD1 _ _ (HD.out.out (Nat.le_refl _)) (HD.out.out (Nat.le_succ _)) (hF1.blk (Blk.alloc (Blk.new' rfl) _) (by have := HD.out.lt L.b (by simp [HD.out.mark]); simp; omega)) (hF1.blk (Blk.new' (by simp)) (by have := HD.out.lt L.b (by simp [HD.out.mark]); simp; omega))).mono ?_); (rintro r w2 ⟨rfl, n, hT⟩); (refine ⟨_, rfl, ?_⟩))
  go_ret
  exact ⟨rfl, n, To.keeps (((Fr.refl _ _).alloc _).alloc _) (To.head HD.out hF1 hT)⟩
end Go.Proofs.YtcefockebphbaaaDoor

namespace Go.Proofs.YtcefockebphbaaaDoor
open Go Go.RowKit Sluice
open Go.ChangeMaps (setBlock)

theorem _root_.Sluice.Row.slice {w : World} {e : TypeId} {size : Nat} {v : Value} {n : Nat} {xs : List Value} (h : Row w e size v n xs) : ∃ base cap, v = .slice base n cap ∧ n ≤ cap ∧ cap ≤ maxLen := by
  obtain ⟨-, (⟨rfl, rfl⟩ | ⟨g, cap, cur, rfl, -, h1, h2, -⟩)⟩ := h
  · exact ⟨none, 0, rfl, Nat.le_refl _, Nat.zero_le _⟩
  · exact ⟨_, _, rfl, h1, h2⟩

/-- A file is another one now. -/
def _root_.Sluice.PDisk.filed (D : PDisk) (i : Nat) (f : PFile) : PDisk := { D with files := D.files.set i f }
theorem IsDisk.fileSet {w w' : World} {own : Nat → Tag} {L : Lay} {D : PDisk} (h : IsDisk w own L D) {i : Nat} {f f' : PFile} (hi : D.files[i]? = some f) {v v' : Value} (hb : Blk w (L.fb i) (f.cells v) 91) (hm : Marked own v (.bytes i))
    (hf : Fr (fun n => n = L.fb i ∨ v.ownBlock = some n) w w') (hb' : Blk w' (L.fb i) (f'.cells v') 91) (hrow : Row w' 5 1 v' f'.bytes.length (f'.bytes.map bv)) (hnew : ∀ k, v'.ownBlock = some k → v.ownBlock = some k ∨ w.heap.size ≤ k) :
    To own L (D.filed i f') w w' := by
  have hil : i < D.files.length := by
    rcases Nat.lt_or_ge i D.files.length with h | h
    · exact h
    · rw [List.getElem?_eq_none h] at hi; cases hi
  have hfi : own (L.fb i) = .file i := (h.files i f hi).1
  let own' : Nat → Tag := fun n => if v'.ownBlock = some n then .bytes i else own n
  have hown : ∀ n, own n ≠ .out → own n ≠ .bytes i → own' n = own n := by
    intro n h1 h2
    show (if v'.ownBlock = some n then Tag.bytes i else own n) = own n
    rw [if_neg]
    intro e
    rcases hnew n e with h3 | h3
    · exact h2 (hm n h3)
    · exact absurd (h.lt n h1) (by omega)
  have hs : ∀ n, own n ≠ .file i → own n ≠ .bytes i → ¬ (n = L.fb i ∨ v.ownBlock = some n) := by
    intro n h1 h2 h3
    rcases h3 with h3 | h3
    · exact h1 (h3 ▸ hfi)
    · exact h2 (hm n h3)
  refine ⟨own', ⟨?_, ⟨?_, ?_, ?_⟩, ?_, ?_, ?_, ?_, h.names, ?_, ?_, ?_⟩, ?_, ?_⟩
  · intro n hn
    by_cases e : v'.ownBlock = some n
    · exact hrow.lt n e
    · have : own' n = own n := if_neg e
      rw [this] at hn
      exact Nat.lt_of_lt_of_le (h.lt n hn) hf.size
  · rw [hown _ (by simp [h.mark]) (by simp [h.mark])]; exact h.mark.1
  · rw [hown _ (by simp [h.mark]) (by simp [h.mark])]; exact h.mark.2.1
  · rw [hown _ (by simp [h.mark]) (by simp [h.mark])]; exact h.mark.2.2
  · obtain ⟨ch0, pl0, h1, h2, h3, h4, h5, h6⟩ := h.head
    refine ⟨ch0, pl0, hf.blk h1 (hs _ (by simp [h.mark]) (by simp [h.mark])), h2.kept hf (fun k hk => hs k (by simp [h3 k hk]) (by simp [h3 k hk])), fun k hk => ?_, h4.kept hf (fun k hk => hs k (by simp [h5 k hk]) (by simp [h5 k hk])), fun k hk => ?_, h6⟩
    · rw [hown k (by simp [h3 k hk]) (by simp [h3 k hk])]; exact h3 k hk
    · rw [hown k (by simp [h5 k hk]) (by simp [h5 k hk])]; exact h5 k hk
  · exact h.now.kept hf (hs _ (by simp [h.mark]) (by simp [h.mark]))
  · exact h.kept.kept hf (hs _ (by simp [h.mark]) (by simp [h.mark]))
  · intro j g hj
    simp only [PDisk.filed] at hj
    by_cases e : i = j
    · subst e
      rw [List.getElem?_set_self hil] at hj
      cases hj
      refine ⟨by rw [hown _ (by simp [hfi]) (by simp [hfi])]; exact hfi, v', hb', hrow, fun k hk => if_pos hk⟩
    · rw [List.getElem?_set_ne e] at hj
      obtain ⟨h1, u, h2, h3, h4⟩ := h.files j g hj
      have ne : j ≠ i := fun e' => e e'.symm
      refine ⟨by rw [hown _ (by simp [h1]) (by simp [h1])]; exact h1, u, hf.blk h2 (hs _ (by simp [h1, ne]) (by simp [h1])), h3.kept hf (fun k hk => hs k (by simp [h4 k hk]) (by simp [h4 k hk, ne])), fun k hk => ?_⟩
      rw [hown k (by simp [h4 k hk]) (by simp [h4 k hk, ne])]; exact h4 k hk
  · intro x hx; simp only [PDisk.filed, List.length_set]; exact h.ids x hx
  · intro x hx; simp only [PDisk.filed, List.length_set]; exact h.idsK x hx
  · intro x hx j hj; simp only [PDisk.filed, List.length_set]; exact h.idsC x hx j hj
  · refine hf.mono fun n _ hn => ?_
    rcases hn with hn | hn
    · show own n ≠ .out; rw [hn, hfi]; simp
    · show own n ≠ .out; rw [hm n hn]; simp
  · intro n hn hn'
    by_cases e : v'.ownBlock = some n
    · rcases hnew n e with h3 | h3
      · rw [hm n h3]; simp
      · omega
    · have : own' n = own n := if_neg e
      rwa [this] at hn'

theorem IsDisk.fileMeta {w w' : World} {own : Nat → Tag} {L : Lay} {D : PDisk} (h : IsDisk w own L D) {i : Nat} {f f' : PFile} (hi : D.files[i]? = some f) {v : Value} (hb : Blk w (L.fb i) (f.cells v) 91) (hr : Row w 5 1 v f.bytes.length (f.bytes.map bv)) (hm : Marked own v (.bytes i))
    (hf : Fr (· = L.fb i) w w') (hb' : Blk w' (L.fb i) (f'.cells v) 91) (he : f'.bytes = f.bytes) : To own L (D.filed i f') w w' := by
  refine IsDisk.fileSet h hi hb hm (hf.mono fun n _ e => Or.inl e) hb' (by rw [he]; exact hr.kept hf (fun k hk e => by have h1 := hm k hk; rw [e, (h.files i f hi).1] at h1; cases h1)) (fun k hk => Or.inl hk)
/-- Found: what is there behind 'find', of the disk's head, the file, the boxes. -/
theorem found {w w1 : World} {own : Nat → Tag} {L : Lay} {D : PDisk} (hD : IsDisk w own L D) (hK : Keeps w w1) {i : Nat} {f : PFile} (hi : D.files[i]? = some f) :
    ∃ base cap, IsDisk w1 own L D ∧ Blk w1 (L.fb i) (f.cells (.slice base f.bytes.length cap)) 91 ∧ Row w1 5 1 (.slice base f.bytes.length cap) f.bytes.length (f.bytes.map bv) ∧ Marked own (.slice base f.bytes.length cap) (.bytes i) ∧
      f.bytes.length ≤ cap ∧ cap ≤ maxLen ∧ own (L.fb i) = .file i := by
  have h := hD.keeps hK
  obtain ⟨h1, v, h2, h3, h4⟩ := h.files i f hi
  obtain ⟨base, cap, rfl, h5, h6⟩ := h3.slice
  exact ⟨base, cap, h, h2, h3, h4, h5, h6, h1⟩

set_option maxHeartbeats 2000000 in
set_option maxRecDepth 100000 in
theorem sync_body (L : Lay) (own : Nat → Tag) (D : PDisk) (name : ByteArray) (hs : name.size ≤ maxLen) (hn : namedB name = true) (i : Nat) (f : PFile) (hl : D.now.look name = some i) (hi : D.files[i]? = some f)
    (w : World) (hD : IsDisk w own L D) (bd bn : Nat) (hbd : own bd = .out) (hbn : own bn = .out) (hcd : Blk w bd #[.pointer (some ⟨L.b, 0, none⟩)] 29) (hcn : Blk w bn #[.string name] 9) :
    Calls Tryd.prog 100 #[zeroFault, .pointer (some ⟨bd, 0, none⟩), .pointer (some ⟨bn, 0, none⟩)] w (Does own L (D.filed i { f with synced := f.bytes.length }) (.int .i64 0) w) := by
  have hld := hcd.lt
  have hln := hcn.lt
  have hc0 := hcd.cell 0
  have hc1 := hcn.cell 0
  have HD := Lib.hid hD
  clear hD
  unfold zeroFault
  go_enter Tryd.func100, Tryd.ntmps100
  go_wp2_with (first
    | ((go_at_call 34); (refine (find_look L own D name hs hn _ (HD.out.keeps (by (repeat (first | with_reducible exact Fr.refl _ _ | with_reducible assumption | with_reducible refine Fr.alloc ?_ _ | with_reducible refine Fr.drew ?_ | with_reducible refine Fr.drewN ?_ _ | with_reducible refine Fr.setCell ?_ (by simp; try omega) _))))).mono ?_); (rw [hl]); (rintro r w1 ⟨rfl, hk⟩); (have hK : Keeps w w1 := Fr.keeps (by (repeat (first | with_reducible exact Fr.refl _ _ | with_reducible assumption | with_reducible refine Fr.alloc ?_ _ | with_reducible refine Fr.drew ?_ | with_reducible refine Fr.drewN ?_ _ | with_reducible refine Fr.setCell ?_ (by simp; try omega) _))) hk); (obtain ⟨base, cap, hD1, hb, hrow, hmk, hcap, hcap2, how⟩ := found HD.out hK hi); (have hb0 := hb.cell); (have hb1 := hb.free); (have HB := Lib.hid hb); (have HR := Lib.hid hrow); (have HM := Lib.hid hmk); (have HD1 := Lib.hid hD1); (have HK := Lib.hid hK); (unfold PFile.cells at hb0); (clear hk hK hb hrow hmk hD1)))
  go_ret
  exact ⟨rfl, To.keeps HK.out (IsDisk.fileMeta HD1.out hi HB.out HR.out HM.out ((Fr.refl (· = L.fb i) _).setCell (p := ⟨L.fb i, 1, none⟩) (fun _ => rfl) _) (HB.out.set 1 _) rfl)⟩
set_option maxHeartbeats 2000000 in
set_option maxRecDepth 100000 in
theorem sync_calm (L : Lay) (own : Nat → Tag) (D : PDisk) (hcalm : D.Calm) (name : ByteArray) (hs : name.size ≤ maxLen) (hn : namedB name = true) (i : Nat) (f : PFile) (hl : D.now.look name = some i) (hi : D.files[i]? = some f)
    (w : World) (hD : IsDisk w own L D) :
    Calls Tryd.prog 99 #[.pointer (some ⟨L.b, 0, none⟩), .string name] w (Does own L (D.tick.filed i { f with synced := f.bytes.length }) (.int .i64 0) w) := by
  have HD := Lib.hid hD
  clear hD
  go_enter Tryd.func99, Tryd.ntmps99
  go_wp2_with ((go_at_call 32); (refine operate_calm L own D hcalm _ _ _ _ (HD.out.keeps (by (repeat (first | with_reducible exact Fr.refl _ _ | with_reducible assumption | with_reducible refine Fr.alloc ?_ _ | with_reducible refine Fr.drew ?_ | with_reducible refine Fr.drewN ?_ _ | with_reducible refine Fr.setCell ?_ (by simp; try omega) _)))) _ (fun _ _ => rfl) ?_); (intro w1 hD1 hF1); (have hlb : L.b < w.heap.size := HD.out.lt L.b (by rw [HD.out.mark.1]; simp)); (refine (sync_body L own D.tick name hs hn i f hl hi w1 hD1 _ _ (HD.out.out (Nat.le_refl _)) (HD.out.out (Nat.le_succ _)) (hF1.blk (Blk.alloc (Blk.new' rfl) _) (by intro (e : _ = L.b); (try simp at e); omega)) (hF1.blk (Blk.new' (by simp)) (by intro (e : _ = L.b); (try simp at e); omega))).mono ?_); (rintro r w2 ⟨rfl, hT⟩); (refine ⟨_, rfl, ?_⟩))
  go_ret
  exact ⟨rfl, To.keeps (((Fr.refl _ _).alloc _).alloc _) (To.head HD.out hF1 hT)⟩

set_option maxHeartbeats 2000000 in
set_option maxRecDepth 100000 in
theorem size_body (L : Lay) (own : Nat → Tag) (D : PDisk) (name : ByteArray) (hs : name.size ≤ maxLen) (hn : namedB name = true) (i : Nat) (f : PFile) (hl : D.now.look name = some i) (hi : D.files[i]? = some f)
    (w : World) (hD : IsDisk w own L D) (bd bn bk : Nat) (x : Value) (hbk : own bk = .out) (hcd : Blk w bd #[.pointer (some ⟨L.b, 0, none⟩)] 29) (hcn : Blk w bn #[.string name] 9) (hck : Blk w bk #[x] 2) :
    Calls Tryd.prog 33 #[zeroFault, .pointer (some ⟨bd, 0, none⟩), .pointer (some ⟨bn, 0, none⟩), .pointer (some ⟨bk, 0, none⟩)] w fun r w' => r = .returned (.int .i64 0) ∧ Fr (· = bk) w w' ∧ Blk w' bk #[.int .i64 f.bytes.length] 2 := by
  have hld := hcd.lt
  have hln := hcn.lt
  have hlk := hck.lt
  have hc0 := hcd.cell 0
  have hc1 := hcn.cell 0
  have hc2 := hck.cell 0
  have hc3 := hck.free 0
  have HD := Lib.hid hD
  clear hD
  unfold zeroFault
  go_enter Tryd.func33, Tryd.ntmps33
  go_wp2_with (first
    | ((go_at_call 34); (refine (find_look L own D name hs hn _ (HD.out.keeps (by (repeat (first | with_reducible exact Fr.refl _ _ | with_reducible assumption | with_reducible refine Fr.alloc ?_ _ | with_reducible refine Fr.drew ?_ | with_reducible refine Fr.drewN ?_ _ | with_reducible refine Fr.setCell ?_ (by simp; try omega) _))))).mono ?_); (rw [hl]); (rintro r w1 ⟨rfl, hk⟩); (have hK : Keeps w w1 := Fr.keeps (by (repeat (first | with_reducible exact Fr.refl _ _ | with_reducible assumption | with_reducible refine Fr.alloc ?_ _ | with_reducible refine Fr.drew ?_ | with_reducible refine Fr.drewN ?_ _ | with_reducible refine Fr.setCell ?_ (by simp; try omega) _))) hk); (obtain ⟨base, cap, hD1, hb, hrow, hmk, hcap, hcap2, how⟩ := found HD.out hK hi); (have hb0 := hb.cell); (have hb1 := hb.free); (have hk1 := hK.blk hck (fun h => h)); (have hc4 := hk1.cell 0); (have hc5 := hk1.free 0); (have HB := Lib.hid hk1); (have HK := Lib.hid hK); (unfold PFile.cells at hb0); (clear hk hK hb hrow hmk hD1 hk1)))
  go_ret
  exact ⟨rfl, Fr.setCell (S := (· = bk)) (p := ⟨bk, 0, none⟩) (Fr.any HK.out) (fun _ => rfl) _, HB.out.set 0 _⟩
set_option maxHeartbeats 2000000 in
set_option maxRecDepth 100000 in
theorem size_calm (L : Lay) (own : Nat → Tag) (D : PDisk) (hcalm : D.Calm) (name : ByteArray) (hs : name.size ≤ maxLen) (hn : namedB name = true) (i : Nat) (f : PFile) (hl : D.now.look name = some i) (hi : D.files[i]? = some f)
    (w : World) (hD : IsDisk w own L D) :
    Calls Tryd.prog 10 #[.pointer (some ⟨L.b, 0, none⟩), .string name] w (Does own L D.tick (.tuple #[.int .i64 f.bytes.length, .int .i64 0]) w) := by
  have HD := Lib.hid hD
  clear hD
  go_enter Tryd.func10, Tryd.ntmps10
  go_wp2_with ((go_at_call 32); (refine operate_calm L own D hcalm _ _ _ _ (HD.out.keeps (by (repeat (first | with_reducible exact Fr.refl _ _ | with_reducible assumption | with_reducible refine Fr.alloc ?_ _ | with_reducible refine Fr.drew ?_ | with_reducible refine Fr.drewN ?_ _ | with_reducible refine Fr.setCell ?_ (by simp; try omega) _)))) _ (fun _ _ => rfl) ?_); (intro w1 hD1 hF1); (have hlb : L.b < w.heap.size := HD.out.lt L.b (by rw [HD.out.mark.1]; simp)); (refine (size_body L own D.tick name hs hn i f hl hi w1 hD1 _ _ _ (.int .i64 0) (HD.out.out (by omega)) (hF1.blk (Blk.alloc (Blk.alloc (Blk.new' rfl) _) _) (by intro (e : _ = L.b); (try simp at e); omega)) (hF1.blk (Blk.alloc (Blk.new' (by simp)) _) (by intro (e : _ = L.b); (try simp at e); omega)) (hF1.blk (Blk.new' (by simp)) (by intro (e : _ = L.b); (try simp at e); omega))).mono ?_); (rintro r w2 ⟨rfl, hF2, hB2⟩); (have hb2 := hB2.cell 0); (have hb3 := hB2.free 0); (refine ⟨_, rfl, ?_⟩))
  have hB4 := hB2.set 0 (.int .i64 f.bytes.length)
  have hb4 := hB4.cell 0
  simp at hb4
  refine bodyPost_ret (v := .tuple #[.int .i64 f.bytes.length, .int .i64 0]) (by simp [results, Tryd.results10, hb4, go_sem]) rfl ?_
  refine ⟨rfl, own, ?_, ?_, Wider.refl _ _⟩
  · exact hD1.stays (hF2.setCell (p := ⟨w.heap.size + 1 + 1, 0, none⟩) (fun _ => rfl) _) (fun n hn e => hn (by rw [e]; exact HD.out.out (by omega)))
  · refine Fr.trans (Fr.trans (S := Own own) ((((Fr.refl _ _).alloc _).alloc _).alloc _) hF1 (fun n _ e => ?_)) (hF2.setCell (p := ⟨w.heap.size + 1 + 1, 0, none⟩) (fun _ => rfl) _) (fun n hn e => ?_)
    · unfold Own; rw [e, HD.out.mark.1]; simp
    · have e2 : n = w.heap.size + 1 + 1 := e
      omega
end Go.Proofs.YtcefockebphbaaaDoor

namespace Go.Proofs.YtcefockebphbaaaDoor
open Go Go.RowKit Sluice
open Go.ChangeMaps (setBlock)

/-- The bytes of the files of the directory. -/
def _root_.Sluice.PDisk.sizeAt (D : PDisk) (i : Nat) : Nat := ((D.files[i]?).map (·.bytes.length)).getD 0
def _root_.Sluice.PDisk.used (D : PDisk) : Nat := (D.now.map fun x => D.sizeAt x.2).sum
/-- The size of the file at a value. -/
def sizeV (L : Lay) (D : PDisk) : Value → Nat
  | .pointer (some a) => (((List.range D.files.length).find? (fun i => L.fb i == a.block)).map D.sizeAt).getD 0
  | _ => 0
theorem IsDisk.fb_inj {w : World} {own : Nat → Tag} {L : Lay} {D : PDisk} (h : IsDisk w own L D) {i j : Nat} (hi : i < D.files.length) (hj : j < D.files.length) (e : L.fb i = L.fb j) : i = j := by
  have h1 := (h.files i _ (List.getElem?_eq_getElem hi)).1
  have h2 := (h.files j _ (List.getElem?_eq_getElem hj)).1
  rw [e, h2] at h1
  cases h1
  rfl
theorem sizeV_file {w : World} {own : Nat → Tag} {L : Lay} {D : PDisk} (h : IsDisk w own L D) {i : Nat} (hi : i < D.files.length) : sizeV L D (.pointer (some ⟨L.fb i, 0, none⟩)) = D.sizeAt i := by
  simp only [sizeV]
  cases hf : (List.range D.files.length).find? (fun j => L.fb j == L.fb i) with
  | none =>
    rw [List.find?_eq_none] at hf
    exact absurd (by simp) (hf i (by simpa using hi))
  | some j =>
    have h1 := List.find?_some hf
    have h2 := List.mem_of_find?_eq_some hf
    simp at h1 h2
    rw [IsDisk.fb_inj h h2 hi h1]
    rfl
def sizedE (L : Lay) (D : PDisk) (e : MapEntry) : MapEntry := { e with val := .int .i64 (sizeV L D e.val) }
theorem sized_sum {w : World} {own : Nat → Tag} {L : Lay} {D : PDisk} (h : IsDisk w own L D) : ∀ {es : List MapEntry} {d : PDir}, (∀ x ∈ d, x.2 < D.files.length) → es.map (fun e => (e.key, e.val)) = d.map (fun x => (Value.string x.1, Value.pointer (some ⟨L.fb x.2, 0, none⟩))) →
    ((es.map (sizedE L D)).map fun e => valOf e.val).sum = (((d.map fun x => D.sizeAt x.2).sum : Nat) : Int)
  | [], [], _, _ => rfl
  | [], x :: d, _, h => by simp at h
  | e :: es, [], _, h => by simp at h
  | e :: es, x :: d, hd, he => by
    simp only [List.map_cons, List.cons.injEq, Prod.mk.injEq] at he
    have ih := sized_sum h (fun y hy => hd y (List.mem_cons_of_mem _ hy)) he.2
    rw [List.map_cons, List.map_cons, List.sum_cons, ih, List.map_cons, List.sum_cons]
    have h1 : valOf (sizedE L D e).val = (D.sizeAt x.2 : Int) := by simp only [sizedE, valOf, he.1.2, sizeV_file h (hd x (by simp))]
    rw [h1]
    push_cast
    rfl
theorem seenSum_le (L : Lay) (D : PDisk) (seen : Array Nat) : ∀ es : List MapEntry, 0 ≤ seenSum (es.map (sizedE L D)) seen ∧ seenSum (es.map (sizedE L D)) seen ≤ ((es.map (sizedE L D)).map fun e => valOf e.val).sum
  | [] => by simp [seenSum]
  | e :: es => by
    have ih := seenSum_le L D seen es
    simp only [List.map_cons, List.sum_cons, seenSum, sizedE, valOf] at ih ⊢
    split <;> omega
theorem entry_file {fb : Nat → Nat} : ∀ {es : List MapEntry} {d : PDir}, es.map (fun e => (e.key, e.val)) = d.map (fun x => (Value.string x.1, Value.pointer (some ⟨fb x.2, 0, none⟩))) → ∀ e ∈ es, ∃ x ∈ d, e.key = .string x.1 ∧ e.val = .pointer (some ⟨fb x.2, 0, none⟩)
  | [], _, _, e, he => by cases he
  | e :: es, [], h, _, _ => by simp at h
  | e :: es, x :: d, h, y, hy => by
    simp only [List.map_cons, List.cons.injEq, Prod.mk.injEq] at h
    rcases List.mem_cons.1 hy with rfl | hy
    · exact ⟨x, by simp, h.1.1, h.1.2⟩
    · obtain ⟨z, hz, h3⟩ := entry_file h.2 y hy
      exact ⟨z, List.mem_cons_of_mem _ hz, h3⟩
set_option maxHeartbeats 4000000 in
set_option maxRecDepth 100000 in
theorem used_any (L : Lay) (own : Nat → Tag) (D : PDisk) (hu : D.used ≤ 1099511627776) (w : World) (hD : IsDisk w own L D) :
    Calls Tryd.prog 41 #[.pointer (some ⟨L.b, 0, none⟩)] w fun r w' => r = .returned (.tuple #[.int .i64 D.used, .int .i64 D.now.length]) ∧ Keeps w w' := by
  obtain ⟨ch, pl, hb, -⟩ := hD.head
  obtain ⟨es, clock, hm1, hes, hnd, hck⟩ := hD.now
  have hc := hb.cell
  have hl := hb.lt
  have hl1 := lt_of_block hm1
  have hrange := run_range_map (P := Tryd.prog) w 70 9 85 L.m1 es clock Tryd.underlying70 hm1
  unfold diskCells at hc
  have HD := Lib.hid hD
  have HM := Lib.hid hm1
  clear hD hb hm1
  go_enter Tryd.func41, Tryd.ntmps41
  go_wp2_with (first
    | (go_at_call 49; refine (missing_no _ _ (by go_simp)).mono ?_; rintro r w1 ⟨rfl, rfl⟩))
  clear hrange
  go_loopw [2] (fun b wr => ∃ seen c0, b = .int .i64 (seenSum (es.toList.map (sizedE L D)) seen) ∧ wr.heap[w.heap.size]? = some (.mapIter (some L.m1) clock seen c0) ∧ clock ≤ c0 ∧ Keeps w wr) (fun _ wr => (leftOf es (wr.iterSeen w.heap.size)).size)
  case atStart =>
    exact ⟨#[], clock, by rw [seenSum_none], heap_alloc_new _ _, Nat.le_refl _, by (repeat (first | with_reducible exact Fr.refl _ _ | with_reducible assumption | with_reducible refine Fr.alloc ?_ _ | with_reducible refine Fr.drew ?_ | with_reducible refine Fr.drewN ?_ _ | with_reducible refine Fr.setCell ?_ (by simp; try omega) _))⟩
  case round =>
    obtain ⟨seen, c0, rfl, hit, hcl, hkw⟩ := hrel
    have hDr := HD.out.keeps hkw
    have hmr : wr.heap[L.m1]? = some (.map es clock) := (hkw.block _ hl1 (fun h => h)).trans HM.out
    obtain ⟨ch, pl, hbr, -⟩ := hDr.head
    have hcr := hbr.cell
    unfold diskCells at hcr
    have hmap := Sluice.run_len_map (P := Tryd.prog) (ht := Tryd.underlying70) (ty := 3) (hb := hmr)
    rw [dir_size hes] at hmap
    have hlr : w.heap.size < wr.heap.size := lt_of_block hit
    have hsum := sized_sum HD.out HD.out.ids hes
    have hsl := seenSum_le L D seen es.toList
    rw [hsum] at hsl
    have htot : ((D.now.map fun x => D.sizeAt x.2).sum) = D.used := rfl
    rw [htot] at hsum hsl
    rcases run_next_at (P := Tryd.prog) wr 0 w.heap.size L.m1 clock c0 seen es clock hit hmr hck hcl with ⟨h0, hnext⟩ | ⟨e, he, w1, hw1, hnext⟩
    · have hall : seenSum (es.toList.map (sizedE L D)) seen = D.used := by
        rw [← hsum]
        exact seenSum_full _ _ (fun x hx => by
          obtain ⟨y, hy, rfl⟩ := List.mem_map.1 hx
          exact all_seen es seen h0 y hy)
      rw [hall]
      have HK := Lib.hid hkw
      clear hkw hDr hbr hmr hit hsl hsum h0 hc
      go_wp2
      go_ret2
      exact ⟨rfl, HK.out⟩
    · obtain ⟨hel, hes1⟩ := mem_left he
      obtain ⟨x, hx, hk1, hv1⟩ := entry_file hes e (by simpa using hel)
      have hxl := HD.out.ids x hx
      have hkw1 : Keeps w w1 := by rcases hw1 with rfl | rfl <;> first | exact hkw | exact hkw.drew
      have hkw2 : Keeps w (setBlock w1 w.heap.size (.mapIter (some L.m1) clock (seen.push e.born) clock)) := hkw1.setBlock (fun h => absurd h (by omega)) _
      have hw1s : w.heap.size < w1.heap.size := by rcases hw1 with rfl | rfl <;> exact hlr
      have hit2 := heap_setBlock_eq (o := .mapIter (some L.m1) clock (seen.push e.born) clock) hw1s
      generalize setBlock w1 w.heap.size (.mapIter (some L.m1) clock (seen.push e.born) clock) = w2 at hnext hkw2 hit2
      have hD2 := HD.out.keeps hkw2
      have hm2 : w2.heap[L.m1]? = some (.map es clock) := (hkw2.block _ hl1 (fun h => h)).trans HM.out
      have hentry := run_entry_at (P := Tryd.prog) w2 w.heap.size L.m1 clock seen es clock e hit2 hm2 (by simpa using hel) hnd
      obtain ⟨-, v, hfb, hfr, -⟩ := hD2.files x.2 _ (List.getElem?_eq_getElem hxl)
      obtain ⟨base, cap, rfl, -, -⟩ := hfr.slice
      have hf0 := hfb.cell 0
      have hsz : D.sizeAt x.2 = (D.files[x.2]).bytes.length := by simp [PDisk.sizeAt, List.getElem?_eq_getElem hxl]
      have hpush := seenSum_push seen (sizedE L D e) hes1 (es.toList.map (sizedE L D)) (by rw [List.map_map]; exact hnd) (List.mem_map.2 ⟨e, by simpa using hel, rfl⟩)
      have hval : valOf (sizedE L D e).val = ((D.files[x.2]).bytes.length : Int) := by simp only [sizedE, valOf, hv1, sizeV_file HD.out hxl, hsz]
      rw [hval] at hpush
      have hsl2 := seenSum_le L D (seen.push e.born) es.toList
      rw [hsum] at hsl2
      have hpush' : seenSum (es.toList.map (sizedE L D)) (seen.push e.born) = seenSum (es.toList.map (sizedE L D)) seen + ((D.files[x.2]).bytes.length : Int) := hpush
      have hmeas := left_shrinks es seen e he
      generalize (D.files[x.2]).bytes.length = n at hpush' hf0 hval hfr hsz
      generalize hacc : seenSum (es.toList.map (sizedE L D)) seen = acc at *
      rw [hk1, hv1] at hnext hentry
      unfold PFile.cells at hf0
      simp at hf0
      have HK2 := Lib.hid hkw2
      have HP := Lib.hid hpush'
      have HI := Lib.hid hit2
      have HS := Lib.hid hit
      clear hkw2 hkw1 hkw hDr hbr hmr hit hsum hc hit2 hD2 hm2 hfb hfr hw1 hel hes1 he hpush hval
      go_wp2
      go_roundw
      case rel =>
        have hp := HP.out
        refine ⟨seen.push e.born, clock, ?_, HI.out, Nat.le_refl _, HK2.out⟩
        rw [hp] at hsl2 ⊢
        first | done | rfl | rw [IntWalk.i64_in (by omega) (by omega)] | (congr 1; rw [IntWalk.i64_in (by omega) (by omega)])
      case measure =>
        have h1 : w2.iterSeen w.heap.size = seen.push e.born := by unfold World.iterSeen; rw [HI.out]
        have h2 : wr.iterSeen w.heap.size = seen := by unfold World.iterSeen; rw [HS.out]
        show (leftOf es (w2.iterSeen w.heap.size)).size < (leftOf es (wr.iterSeen w.heap.size)).size
        rw [h1, h2]; exact hmeas
end Go.Proofs.YtcefockebphbaaaDoor

namespace Go.Proofs.YtcefockebphbaaaDoor
open Go Go.RowKit Sluice
open Go.ChangeMaps (setBlock)

def _root_.Sluice.PFile.more (f : PFile) (bs : List UInt8) : PFile := { f with bytes := f.bytes ++ bs, writes := wrap64 (f.writes + 1), wroteBytes := wrap64 (f.wroteBytes + bs.length) }
theorem info_u8' : (Tryd.prog.info? 5).map (fun i => (i.zero, i.size, i.bytes)) = some (some (.int .u8 0), 1, 1) := by kernel_rfl

theorem _root_.Sluice.Fr.setIn {S : Nat → Prop} {a b : World} (h : Fr S a b) {n o : Nat} (hs : S n) (u : Value) : Fr S a (b.setCell ⟨n, o, none⟩ u) := h.setCell (fun _ => hs) u
theorem look_mem {d : PDir} {name : ByteArray} {i : Nat} (h : d.look name = some i) : ∃ x ∈ d, x.2 = i := by
  simp only [PDir.look, Option.map_eq_some_iff] at h
  obtain ⟨x, hx, rfl⟩ := h
  exact ⟨x, List.mem_of_find?_eq_some hx, rfl⟩
theorem sum_ge {α : Type} (g : α → Nat) : ∀ {l : List α} {x : α}, x ∈ l → g x ≤ (l.map g).sum
  | y :: l, x, hx => by
    rw [List.map_cons, List.sum_cons]
    rcases List.mem_cons.1 hx with rfl | hx
    · omega
    · have := sum_ge g hx; omega
theorem look_used {D : PDisk} {name : ByteArray} {i : Nat} {f : PFile} (h : D.now.look name = some i) (hi : D.files[i]? = some f) : f.bytes.length ≤ D.used := by
  obtain ⟨x, hx, rfl⟩ := look_mem h
  have := sum_ge (fun y : ByteArray × Nat => D.sizeAt y.2) hx
  simp only [PDisk.sizeAt, hi, Option.map_some, Option.getD_some] at this
  exact this
theorem blk_row {w : World} {g off n : Nat} {cs : Array Value} {t : TypeId} {l : List Value} (h : Blk w g cs t) (hc : (cs.toList.drop off).take n = l) (hn : l.length = n) : ∀ j u, l[j]? = some u → w.cell? ((⟨g, off, none⟩ : Addr).add j) = some u := by
  intro j u hj
  have hadd : (⟨g, off, none⟩ : Addr).add j = ⟨g, off + j, none⟩ := by unfold Addr.add; split <;> simp_all
  rw [hadd, h.cell]
  have hlt : j < l.length := by
    rcases Nat.lt_or_ge j l.length with h | h
    · exact h
    · rw [List.getElem?_eq_none h] at hj; cases hj
  rw [← hc, List.getElem?_take_of_lt (by omega), List.getElem?_drop] at hj
  simpa using hj

set_option maxHeartbeats 4000000 in
set_option maxRecDepth 100000 in
theorem append_body (L : Lay) (own : Nat → Tag) (D : PDisk) (name : ByteArray) (hs : name.size ≤ maxLen) (hn : namedB name = true) (i : Nat) (f : PFile) (hl : D.now.look name = some i) (hi : D.files[i]? = some f)
    (hu : D.used ≤ 1099511627776) (g off cap : Nat) (bs : List UInt8) (hq : (D.used : Int) + bs.length ≤ D.quota) (hq2 : D.quota ≤ 1099511627776) (cs : Array Value) (t : TypeId) (hgo : own g = .out) (hcs : (cs.toList.drop off).take bs.length = bs.map bv)
    (w : World) (hD : IsDisk w own L D) (bd bn ba : Nat) (hba : own ba = .out) (hcd : Blk w bd #[.pointer (some ⟨L.b, 0, none⟩)] 29) (hcn : Blk w bn #[.string name] 9) (hca : Blk w ba #[.slice (some ⟨g, off, none⟩) bs.length cap] 27) (hg : Blk w g cs t) :
    Calls Tryd.prog 40 #[zeroFault, .pointer (some ⟨bd, 0, none⟩), .pointer (some ⟨bn, 0, none⟩), .pointer (some ⟨ba, 0, none⟩)] w (Does own L (D.filed i (f.more bs)) (.int .i64 0) w) := by
  have hld := hcd.lt
  have hln := hcn.lt
  have hla := hca.lt
  have hc0 := hcd.cell 0
  have hc1 := hcn.cell 0
  have hc2 := hca.cell 0
  have hc3 := hca.free 0
  have HD := Lib.hid hD
  clear hD
  unfold zeroFault
  go_enter Tryd.func40, Tryd.ntmps40
  go_wp2_with (first
    | ((go_at_call 34); (refine (find_look L own D name hs hn _ (HD.out.keeps (by (repeat (first | with_reducible exact Fr.refl _ _ | with_reducible assumption | with_reducible refine Fr.alloc ?_ _ | with_reducible refine Fr.drew ?_ | with_reducible refine Fr.drewN ?_ _ | with_reducible refine Fr.setCell ?_ (by simp; try omega) _))))).mono ?_); (rw [hl]); (rintro r w1 ⟨rfl, hk⟩); (have hK : Keeps w w1 := Fr.keeps (by (repeat (first | with_reducible exact Fr.refl _ _ | with_reducible assumption | with_reducible refine Fr.alloc ?_ _ | with_reducible refine Fr.drew ?_ | with_reducible refine Fr.drewN ?_ _ | with_reducible refine Fr.setCell ?_ (by simp; try omega) _))) hk); (obtain ⟨ch, pl, hb, -⟩ := (HD.out.keeps hK).head); (have hb0 := hb.cell); (unfold diskCells at hb0); (have hc0' := (hK.blk hcd (fun h => h)).cell 0); (have hc2' := (hK.blk hca (fun h => h)).cell 0); (have hbx : Blk w1 w.heap.size #[.int .i64 0, .int .i64 0, .int .i64 0] 84 := hk.blk (Blk.new' rfl) (fun h => h)); (clear hb hk))
    | ((go_at_call 41); (refine (used_any L own D hu _ (HD.out.keeps hK)).mono ?_); (rintro r w2 ⟨rfl, hk2⟩); (have hK2 : Keeps w w2 := hK.keeps hk2); (obtain ⟨ch2, pl2, hb2, -⟩ := (HD.out.keeps hK2).head); (have hb3 := hb2.cell); (unfold diskCells at hb3); (have hc0'' := (hK2.blk hcd (fun h => h)).cell 0); (have hc2'' := (hK2.blk hca (fun h => h)).cell 0); (have hc3'' := (hK2.blk hca (fun h => h)).free 0); (have hbx2 := (hk2.blk hbx (fun h => h)).cell); (have HK2 := Lib.hid hK2); (have HBX := Lib.hid (hk2.blk hbx (fun h => h))); (clear hbx); (clear hK2 hK hk2 hb2)))
  go_region
  all_goals go_wp2
  have hfu := look_used hl hi
  obtain ⟨base, cap2, hD2, hfb, hrow, hmk, hcap, hcap2, how⟩ := found HD.out HK2.out.drew.drew hi
  obtain ⟨v', w3, hrun, hrow3, hgrow, hnew⟩ := run_append_row (P := Tryd.prog) w2.drew.drew 27 27 5 (.int .u8 0) 1 1 Tryd.underlying27 info_u8' rfl (by omega)
    _ f.bytes.length (f.bytes.map bv) hrow ⟨g, off, none⟩ bs.length cap (bs.map bv) (by simp)
    (blk_row (HK2.out.drew.drew.blk hg (fun h => h)) hcs (by simp)) (by intro u hu; obtain ⟨c, -, rfl⟩ := List.mem_map.1 hu; rfl) (by unfold maxLen; omega) (by omega)
  have hv' : ∃ s1 c1, v' = .slice s1 (f.bytes.length + bs.length) c1 := by obtain ⟨s1, c1, h1, -⟩ := hrow3.slice; exact ⟨s1, c1, h1⟩
  obtain ⟨s1, c1, rfl⟩ := hv'
  have hfr : Fr (fun n => Value.ownBlock (.slice base f.bytes.length cap2) = some n) w2.drew.drew w3 := (Fr.refl _ _).grown hgrow (fun k hk _ => hk)
  have hnb : ∀ k, own k ≠ .bytes i → ¬ Value.ownBlock (.slice base f.bytes.length cap2) = some k := fun k hk e => hk (hmk k e)
  have hfb3 := hfr.blk hfb (hnb _ (by rw [how]; simp))
  have hba3 := hfr.blk (HK2.out.drew.drew.blk hca (fun h => h)) (hnb _ (by rw [hba]; simp))
  have hbx3 := hfr.blk (HBX.out.drew.drew) (hnb _ (by rw [HD.out.out (Nat.le_refl _)]; simp))
  have hlf : L.fb i < w.heap.size := HD.out.lt _ (by rw [how]; simp)
  have hn1 : L.fb i ≠ w.heap.size := by omega
  have hn2 : L.fb i ≠ ba := fun e => by rw [e, hba] at how; cases how
  have hn3 : ba ≠ L.fb i := fun e => hn2 e.symm
  have hn4 : w.heap.size ≠ L.fb i := fun e => hn1 e.symm
  have hfc := hfb.cell
  have hfc3 := hfb3.cell
  have hff3 := hfb3.free
  have hac3 := hba3.cell 0
  have hxc3 := hbx3.cell
  have HR := Lib.hid hrun
  have HR3 := Lib.hid hrow3
  have HN := Lib.hid hnew
  have HF := Lib.hid hfr
  have HB := Lib.hid hfb
  have HB3 := Lib.hid hfb3
  have HM := Lib.hid hmk
  have HD2 := Lib.hid hD2
  unfold PFile.cells at hfc hfc3
  clear hrun hrow3 hnew hgrow hfr hfb hfb3 hmk hD2 hrow hba3 hbx3 hnb hb0 hb3 hc0' hc0'' hc0 hc1 hc2 hc3 hq hq2 hu
  go_region_law (refine step_append_run rfl _ _ _ rfl _ _ _ w3 rfl rfl HR.out ?_)
  all_goals go_wp2
  all_goals go_region
  all_goals go_wp2
  all_goals (
    go_ret
    refine ⟨rfl, To.keeps HK2.out.drew.drew (IsDisk.fileSet HD2.out hi (f' := f.more bs) (v' := .slice s1 (f.bytes.length + bs.length) c1) HB.out HM.out ?_ ?_ ?_ HN.out)⟩
    · refine Fr.drew (Fr.setIn (Fr.setIn (Fr.setIn ?_ (Or.inl rfl) _) (Or.inl rfl) _) (Or.inl rfl) _)
      exact HF.out.mono fun n _ h => Or.inr h
    · exact Blk.drew (((HB3.out.set 0 _).set 7 _).set 8 _)
    · have hlen : (f.more bs).bytes.length = f.bytes.length + bs.length := by simp [PFile.more]
      have hmap : (f.more bs).bytes.map bv = f.bytes.map bv ++ bs.map bv := by simp [PFile.more]
      rw [hlen, hmap]
      refine Row.drew (HR3.out.kept (S := (· = L.fb i)) (Fr.setIn (Fr.setIn (Fr.setIn (Fr.refl (· = L.fb i) _) rfl _) rfl _) rfl _) (fun k hk e => ?_))
      rcases HN.out k hk with h | h
      · have := HM.out k h
        rw [e, how] at this
        cases this
      · have := HK2.out.size
        simp at h
        omega)

set_option maxHeartbeats 4000000 in
set_option maxRecDepth 100000 in
theorem append_calm (L : Lay) (own : Nat → Tag) (D : PDisk) (hcalm : D.Calm) (name : ByteArray) (hs : name.size ≤ maxLen) (hn : namedB name = true) (i : Nat) (f : PFile) (hl : D.now.look name = some i) (hi : D.files[i]? = some f)
    (hu : D.used ≤ 1099511627776) (g off cap : Nat) (bs : List UInt8) (hq : (D.used : Int) + bs.length ≤ D.quota) (hq2 : D.quota ≤ 1099511627776) (cs : Array Value) (t : TypeId) (hgo : own g = .out) (hcs : (cs.toList.drop off).take bs.length = bs.map bv)
    (w : World) (hD : IsDisk w own L D) (hg : Blk w g cs t) :
    Calls Tryd.prog 14 #[.pointer (some ⟨L.b, 0, none⟩), .string name, .slice (some ⟨g, off, none⟩) bs.length cap] w (Does own L (D.tick.filed i (f.more bs)) (.int .i64 0) w) := by
  have HD := Lib.hid hD
  clear hD
  go_enter Tryd.func14, Tryd.ntmps14
  go_wp2_with ((go_at_call 32); (refine operate_calm L own D hcalm _ _ _ _ (HD.out.keeps (by (repeat (first | with_reducible exact Fr.refl _ _ | with_reducible assumption | with_reducible refine Fr.alloc ?_ _ | with_reducible refine Fr.drew ?_ | with_reducible refine Fr.drewN ?_ _ | with_reducible refine Fr.setCell ?_ (by simp; try omega) _)))) _ (fun _ _ => rfl) ?_); (intro w1 hD1 hF1); (have hlb : L.b < w.heap.size := HD.out.lt L.b (by rw [HD.out.mark.1]; simp)); (have hnb : ∀ k, own k = .out → ¬ (k = L.b) := fun k hk e => by rw [e, HD.out.mark.1] at hk; cases hk); (refine (append_body L own D.tick name hs hn i f hl hi hu g off cap bs hq hq2 cs t hgo hcs w1 hD1 _ _ _ (HD.out.out (by omega)) (hF1.blk (Blk.alloc (Blk.alloc (Blk.new' rfl) _) _) (by intro (e : _ = L.b); (try simp at e); omega)) (hF1.blk (Blk.alloc (Blk.new' (by simp)) _) (by intro (e : _ = L.b); (try simp at e); omega)) (hF1.blk (Blk.new' (by simp)) (by intro (e : _ = L.b); (try simp at e); omega)) (hF1.blk (((hg.alloc _).alloc _).alloc _) (hnb g hgo))).mono ?_); (rintro r w2 ⟨rfl, hT⟩); (refine ⟨_, rfl, ?_⟩))
  go_ret
  exact ⟨rfl, To.keeps ((((Fr.refl _ _).alloc _).alloc _).alloc _) (To.head HD.out hF1 hT)⟩
end Go.Proofs.YtcefockebphbaaaDoor

namespace Go.Proofs.YtcefockebphbaaaDoor
open Go Go.RowKit Sluice
open Go.ChangeMaps (setBlock)

/-- Cells with others laid into them. -/
def spl (cs : Array Value) (o : Nat) (l : List Value) : Array Value := (cs.toList.take o ++ l ++ cs.toList.drop (o + l.length)).toArray
theorem spl_size {cs : Array Value} {o : Nat} {l : List Value} (h : o + l.length ≤ cs.size) : (spl cs o l).size = cs.size := by
  simp [spl]; omega

theorem run_copy_blk {P : Program} (w : World) (dT sT ty elem : TypeId) (g o dLen dCap : Nat) (a : Addr) (sLen sCap : Nat) (cur : Array Value) (t : TypeId) (cs : List Value)
    (hu : P.underlying dT = some (.slice elem)) (hs : (P.info? elem).map (·.size) = some 1)
    (hg : Blk w g cur t) (hn : cs.length = Nat.min sLen dLen)
    (hsrc : ∀ j v, cs[j]? = some v → w.cell? (a.add j) = some v) (hfit : o + cs.length ≤ cur.size) (h1 : ∀ v ∈ cs, v.oneCell' = true) :
    ∃ w', (Builtin.copy_ #[dT, sT] ty #[.slice (some ⟨g, o, none⟩) dLen dCap, .slice (some a) sLen sCap]).run P w = .ok (goInt cs.length) w' ∧ Blk w' g (spl cur o cs) t ∧ Fr (· = g) w w' :=
  ⟨_, run_copy_row P w dT sT ty elem g o dLen dCap a sLen sCap cur t cs hu hs hg hn hsrc hfit h1, setRow_heap w g cur _ t _ hg, ⟨rfl, rfl, rfl, by simp, fun k _ hk => setRow_other w g k _ hk⟩⟩

theorem step_copy_run {P : Program} {ops : Array Oper} {o : Oper} {a : Act} {w : World} {K : Act → World → Prop} {Q : Exit → Act → World → Prop} {E : Prop}
    (hg : o.guard = none) (s x : Operand) (t u : TypeId) (hop : o.op = Op.call { callee := Callee.builtin Builtin.copy, args := #[s, x], argTypes := #[t, u] })
    (sv xv v : Value) (w' : World) (hs : a.eval s = sv) (hx : a.eval x = xv) (hrun : (Builtin.copy_ #[t, u] o.type #[sv, xv]).run P w = .ok v w')
    (hK : K (a.put o.dst v) w') :
    if Region.wanted o (yielded ops a.tmps) = true then Oper.wp P o a w K Q else E := by
  have hw : Region.wanted o (yielded ops a.tmps) = true := by simp [Region.wanted, hg]
  rw [if_pos hw]
  unfold Oper.wp
  simp [execOp, hop, resolve, invoke, builtin, hs, hx, hrun, Result.andThen]
  exact hK

def _root_.Sluice.PFile.read (f : PFile) (at_ : Int) (n : Nat) : PFile :=
  { f with reads := wrap64 (f.reads + 1), readBytes := wrap64 (f.readBytes + n), seeks := if at_ = f.last then f.seeks else wrap64 (f.seeks + 1), last := at_ + n }

/-- What a ReadAt comes to, in the world. -/
def ReadTo (own : Nat → Tag) (L : Lay) (D' : PDisk) (g : Nat) (cs : Array Value) (t : TypeId) (w w' : World) : Prop :=
  ∃ own', IsDisk w' own' L D' ∧ Fr (fun n => Own own n ∨ n = g) w w' ∧ Wider w own own' ∧ Blk w' g cs t

set_option maxHeartbeats 4000000 in
set_option maxRecDepth 100000 in
theorem readat_body (L : Lay) (own : Nat → Tag) (D : PDisk) (name : ByteArray) (hs : name.size ≤ maxLen) (hn : namedB name = true) (i : Nat) (f : PFile) (hl : D.now.look name = some i) (hi : D.files[i]? = some f) (hfl : f.bytes.length ≤ 1099511627776)
    (at_ : Nat) (g off m cap : Nat) (hm : 1 ≤ m) (hat : at_ + m ≤ f.bytes.length) (cs : Array Value) (t : TypeId) (hgo : own g = .out) (hfit : off + m ≤ cs.size)
    (w : World) (hD : IsDisk w own L D) (bd bn bt bi bk : Nat) (hbd : own bd = .out) (hbn : own bn = .out) (hbt : own bt = .out) (hbi : own bi = .out) (hbk : own bk = .out) (h1 : bd ≠ g) (h2 : bn ≠ g) (h3 : bt ≠ g) (h4 : bi ≠ g) (h5 : bk ≠ g) (h6 : bt ≠ bk) (h7 : bi ≠ bk)
    (hcd : Blk w bd #[.pointer (some ⟨L.b, 0, none⟩)] 29) (hcn : Blk w bn #[.string name] 9) (hct : Blk w bt #[.int .i64 at_] 2) (hci : Blk w bi #[.slice (some ⟨g, off, none⟩) m cap] 27) (hck : Blk w bk #[.int .i64 0] 3) (hg : Blk w g cs t) :
    Calls Tryd.prog 35 #[zeroFault, .pointer (some ⟨bd, 0, none⟩), .pointer (some ⟨bn, 0, none⟩), .pointer (some ⟨bt, 0, none⟩), .pointer (some ⟨bi, 0, none⟩), .pointer (some ⟨bk, 0, none⟩)] w
      fun r w' => r = .returned (.int .i64 0) ∧ ∃ own', IsDisk w' own' L (D.filed i (f.read at_ m)) ∧ Fr (fun n => Own own n ∨ n = g ∨ n = bk) w w' ∧ Wider w own own' ∧ Blk w' g (spl cs off (((f.bytes.drop at_).take m).map bv)) t ∧ Blk w' bk #[.int .i64 m] 3 := by
  have hld := hcd.lt
  have hln := hcn.lt
  have hlt := hct.lt
  have hli := hci.lt
  have hlk := hck.lt
  have hc0 := hcd.cell 0
  have hc1 := hcn.cell 0
  have HD := Lib.hid hD
  clear hD
  unfold zeroFault
  go_enter Tryd.func35, Tryd.ntmps35
  go_wp2_with (first
    | ((go_at_call 34); (refine (find_look L own D name hs hn _ (HD.out.keeps (by (repeat (first | with_reducible exact Fr.refl _ _ | with_reducible assumption | with_reducible refine Fr.alloc ?_ _ | with_reducible refine Fr.drew ?_ | with_reducible refine Fr.drewN ?_ _ | with_reducible refine Fr.setCell ?_ (by simp; try omega) _))))).mono ?_); (rw [hl]); (rintro r w1 ⟨rfl, hk⟩); (have hK : Keeps w w1 := Fr.keeps (by (repeat (first | with_reducible exact Fr.refl _ _ | with_reducible assumption | with_reducible refine Fr.alloc ?_ _ | with_reducible refine Fr.drew ?_ | with_reducible refine Fr.drewN ?_ _ | with_reducible refine Fr.setCell ?_ (by simp; try omega) _))) hk); (obtain ⟨base, cap2, hD1, hfb, hrow, hmk, hcap, hcap2, how⟩ := found HD.out hK hi); (have hfc := hfb.cell); (unfold PFile.cells at hfc); (have hbx := (hk.blk (Blk.new' rfl : Blk (w.alloc (.cells #[.int .i64 0, .int .i64 0, .int .i64 0] 84)) w.heap.size #[.int .i64 0, .int .i64 0, .int .i64 0] 84) (fun h => h))); (have hxc := hbx.cell); (have hct1 := (hK.blk hct (fun h => h)).cell 0); (have hci1 := (hK.blk hci (fun h => h)).cell 0); (clear hk)))
  have hd1 : decide ((at_ : Int) < 0) = false := by simp
  have hd2 : decide ((f.bytes.length : Int) < at_) = false := by simp; omega
  go_region
  all_goals go_wp2
  obtain ⟨gb, cur, rfl, hgb, hcur, hcs2⟩ : ∃ gb cur, base = some ⟨gb, 0, none⟩ ∧ Blk w1 gb cur 5 ∧ cap2 ≤ cur.size ∧ cur.toList.take f.bytes.length = f.bytes.map bv := by
    obtain ⟨-, (⟨h8, h9⟩ | ⟨g9, c9, cur, h8, h9, -, -, h10, h11⟩)⟩ := hrow
    · omega
    · cases h8
      exact ⟨g9, cur, rfl, h9, by omega, by simpa using h11⟩
  have hmg : own gb = .bytes i := hmk gb rfl
  have hne1 : gb ≠ g := fun e => by rw [e, hgo] at hmg; cases hmg
  have hlen : ((f.bytes.drop at_).take m).length = m := by simp; omega
  obtain ⟨w3, hrun, hg3, hfr⟩ := run_copy_blk (P := Tryd.prog) w1.drew.drew 27 27 3 5 g off m cap ⟨gb, at_, none⟩ (f.bytes.length - at_) (cap2 - at_) cs t (((f.bytes.drop at_).take m).map bv)
    Tryd.underlying27 (by kernel_rfl) ((hK.drew.drew).blk hg (fun h => h)) (by rw [List.length_map, hlen]; simp [Nat.min_def]; omega)
    (blk_row (n := m) hgb.drew.drew (by
      have h9 : (cur.toList.drop at_).take m = ((cur.toList.take f.bytes.length).drop at_).take m := by
        rw [List.drop_take, List.take_take, Nat.min_eq_left (by omega)]
      rw [h9, hcs2, ← List.map_drop, ← List.map_take]) (by rw [List.length_map, hlen])) (by rw [List.length_map, hlen]; omega)
    (by intro u hu; obtain ⟨c, -, rfl⟩ := List.mem_map.1 hu; rfl)
  rw [List.length_map, hlen] at hrun
  have hlf : L.fb i < w.heap.size := HD.out.lt _ (by rw [how]; simp)
  have hn1 : L.fb i ≠ w.heap.size := by omega
  have hn2 : L.fb i ≠ g := fun e => by rw [e, hgo] at how; cases how
  have hn3 : L.fb i ≠ bk := fun e => by rw [e, hbk] at how; cases how
  have hn4 : L.fb i ≠ bt := fun e => by rw [e, hbt] at how; cases how
  have hn5 := hn3.symm
  have hn6 := hn4.symm
  have hn7 : bk ≠ w.heap.size := by omega
  have hn8 : bt ≠ w.heap.size := by omega
  have hn9 : w.heap.size ≠ g := by have := hg.lt; omega
  have hn10 := hn1.symm
  have hfb3 := hfr.blk hfb.drew.drew hn2
  have hbk3 := hfr.blk (hK.drew.drew.blk hck (fun h => h)) h5
  have hbt3 := hfr.blk (hK.drew.drew.blk hct (fun h => h)) h3
  have hbx3 := hfr.blk hbx.drew.drew hn9
  have hfc3 := hfb3.cell
  have hff3 := hfb3.free
  have hkc3 := hbk3.cell 0
  have hkf3 := hbk3.free 0
  have htc3 := hbt3.cell 0
  have hxc3 := hbx3.cell
  unfold PFile.cells at hfc3
  have hle1 : at_ ≤ f.bytes.length := by omega
  have hle2 : ¬ cap2 = at_ := by omega
  have HR := Lib.hid hrun
  clear hrun
  have hend : ∀ wf, Fr (· = L.fb i) (w3.setCell ⟨bk, 0, none⟩ (.int .i64 m)) wf → (∀ v, Blk (w3.setCell ⟨bk, 0, none⟩ (.int .i64 m)) (L.fb i) (f.cells v) 91 → Blk wf (L.fb i) ((f.read at_ m).cells v) 91) →
      (∃ own', IsDisk wf own' L (D.filed i (f.read at_ m)) ∧ Fr (fun n => Own own n ∨ n = g ∨ n = bk) w wf ∧ Wider w own own' ∧ Blk wf g (spl cs off (((f.bytes.drop at_).take m).map bv)) t ∧ Blk wf bk #[.int .i64 m] 3) := by
    intro wf hf4 hB4
    have hD4 : IsDisk (w3.setCell ⟨bk, 0, none⟩ (.int .i64 m)) own L D := (hD1.drew.drew.stays hfr (fun n hn e => hn (by rw [e]; exact hgo))).setCell hbk _
    obtain ⟨-, v, hb4, hr4, hm4⟩ := hD4.files i f hi
    obtain ⟨own', h21, h22, h23⟩ := IsDisk.fileMeta hD4 hi hb4 hr4 hm4 hf4 (hB4 v hb4) rfl
    have hnO : ∀ n, own n = .out → ¬ Own own n := fun n hn h => h hn
    have hF0 : Fr (fun n => n = g ∨ n = bk) w (w3.setCell ⟨bk, 0, none⟩ (.int .i64 m)) := Fr.setIn (S := fun n => n = g ∨ n = bk) (n := bk) ((Fr.any (hK.drew.drew)).then (hfr.mono fun n _ h => Or.inl h)) (Or.inr rfl) _
    refine ⟨own', h21, (hF0.mono fun n _ h => Or.inr h).then (h22.mono fun n _ h => Or.inl h), Wider.trans (Wider.refl w own) h23 hF0.size, h22.blk (((Fr.setIn (Fr.refl (· = bk) w3) rfl _).blk hg3 h5.symm)) (hnO _ hgo), h22.blk (hbk3.set 0 _) (hnO _ hbk)⟩
  have HE := Lib.hid hend
  clear hend
  go_cut [] (fun wr => wr = w3.setCell ⟨bk, 0, none⟩ (.int .i64 m))
  case first =>
    go_region_law (refine step_copy_run rfl _ _ _ _ rfl _ _ _ w3 rfl rfl HR.out ?_)
    all_goals (go_wp2; go_meet)
    all_goals rfl
  case rest =>
    subst hcut
    go_wp2
    go_cut [] (fun wr => wr = (((w3.setCell ⟨bk, 0, none⟩ (.int .i64 m)).setCell ⟨L.fb i, 5, none⟩ (.int .i64 (wrap64 (f.reads + 1)))).setCell ⟨L.fb i, 6, none⟩ (.int .i64 (wrap64 (f.readBytes + m)))).drew)
    case first =>
      go_region
      all_goals (go_wp2; go_meet)
      all_goals rfl
    case rest =>
      subst hcut
      go_wp2
      by_cases hse : (at_ : Int) = f.last
      · have hde : decide ((at_ : Int) = f.last) = true := by simpa using hse
        go_region
        all_goals go_wp2
        all_goals go_ret
        refine ⟨rfl, HE.out _ ?_ ?_⟩
        · exact Fr.drew (Fr.drew (Fr.setIn (n := L.fb i) (Fr.setIn (n := L.fb i) (Fr.setIn (n := L.fb i) (Fr.refl (· = L.fb i) _) rfl _) rfl _) rfl _))
        · intro v hb4
          have hrd : (f.read at_ m).cells v = #[v, .int .i64 f.synced, .string { data := #[] }, .int .i64 0, .int .i64 0, .int .i64 (wrap64 (f.reads + 1)), .int .i64 (wrap64 (f.readBytes + m)), .int .i64 f.writes, .int .i64 f.wroteBytes, .int .i64 f.seeks, .int .i64 (at_ + m)] := by simp [PFile.read, PFile.cells, hse]
          rw [hrd, hse]
          exact Blk.drew (Blk.drew (((hb4.set 5 _).set 6 _).set 10 _))
      · have hde : decide ((at_ : Int) = f.last) = false := by simpa using hse
        go_region
        all_goals go_wp2
        all_goals go_ret
        refine ⟨rfl, HE.out _ ?_ ?_⟩
        · exact Fr.drew (Fr.drew (Fr.setIn (n := L.fb i) (Fr.setIn (n := L.fb i) (Fr.setIn (n := L.fb i) (Fr.setIn (n := L.fb i) (Fr.refl (· = L.fb i) _) rfl _) rfl _) rfl _) rfl _))
        · intro v hb4
          have hrd : (f.read at_ m).cells v = #[v, .int .i64 f.synced, .string { data := #[] }, .int .i64 0, .int .i64 0, .int .i64 (wrap64 (f.reads + 1)), .int .i64 (wrap64 (f.readBytes + m)), .int .i64 f.writes, .int .i64 f.wroteBytes, .int .i64 (wrap64 (f.seeks + 1)), .int .i64 (at_ + m)] := by simp [PFile.read, PFile.cells, hse]
          rw [hrd]
          exact Blk.drew (Blk.drew ((((hb4.set 5 _).set 6 _).set 9 _).set 10 _))
end Go.Proofs.YtcefockebphbaaaDoor

namespace Go.Proofs.YtcefockebphbaaaDoor
open Go Go.RowKit Sluice
open Go.ChangeMaps (setBlock)

set_option maxHeartbeats 4000000 in
set_option maxRecDepth 100000 in
theorem readat_calm (L : Lay) (own : Nat → Tag) (D : PDisk) (hcalm : D.Calm) (name : ByteArray) (hs : name.size ≤ maxLen) (hn : namedB name = true) (i : Nat) (f : PFile) (hl : D.now.look name = some i) (hi : D.files[i]? = some f) (hfl : f.bytes.length ≤ 1099511627776)
    (at_ : Nat) (g off m cap : Nat) (hm : 1 ≤ m) (hat : at_ + m ≤ f.bytes.length) (cs : Array Value) (t : TypeId) (hgo : own g = .out) (hfit : off + m ≤ cs.size)
    (w : World) (hD : IsDisk w own L D) (hg : Blk w g cs t) :
    Calls Tryd.prog 11 #[.pointer (some ⟨L.b, 0, none⟩), .string name, .int .i64 at_, .slice (some ⟨g, off, none⟩) m cap] w
      fun r w' => r = .returned (.tuple #[.int .i64 m, .int .i64 0]) ∧ ReadTo own L (D.tick.filed i (f.read at_ m)) g (spl cs off (((f.bytes.drop at_).take m).map bv)) t w w' := by
  have HD := Lib.hid hD
  clear hD
  have hgl := hg.lt
  go_enter Tryd.func11, Tryd.ntmps11
  go_wp2_with ((go_at_call 32); (refine operate_calm L own D hcalm _ _ _ _ (HD.out.keeps (by (repeat (first | with_reducible exact Fr.refl _ _ | with_reducible assumption | with_reducible refine Fr.alloc ?_ _ | with_reducible refine Fr.drew ?_ | with_reducible refine Fr.drewN ?_ _ | with_reducible refine Fr.setCell ?_ (by simp; try omega) _)))) _ (fun _ _ => rfl) ?_); (intro w1 hD1 hF1); (have hlb : L.b < w.heap.size := HD.out.lt L.b (by rw [HD.out.mark.1]; simp)); (have hnb : ∀ k, own k = .out → ¬ (k = L.b) := fun k hk e => by rw [e, HD.out.mark.1] at hk; cases hk); (refine (readat_body L own D.tick name hs hn i f hl hi hfl at_ g off m cap hm hat cs t hgo hfit w1 hD1 _ _ _ _ _ (HD.out.out (by omega)) (HD.out.out (by omega)) (HD.out.out (by omega)) (HD.out.out (by omega)) (HD.out.out (by omega)) (by omega) (by omega) (by omega) (by omega) (by omega) (by omega) (by omega) (hF1.blk (((((Blk.new' rfl).alloc _).alloc _).alloc _).alloc _) (by intro (e : _ = L.b); (try simp at e); omega)) (hF1.blk ((((Blk.new' (by simp)).alloc _).alloc _).alloc _) (by intro (e : _ = L.b); (try simp at e); omega)) (hF1.blk (((Blk.new' (by simp)).alloc _).alloc _) (by intro (e : _ = L.b); (try simp at e); omega)) (hF1.blk ((Blk.new' (by simp)).alloc _) (by intro (e : _ = L.b); (try simp at e); omega)) (hF1.blk (Blk.new' (by simp)) (by intro (e : _ = L.b); (try simp at e); omega)) (hF1.blk (((((hg.alloc _).alloc _).alloc _).alloc _).alloc _) (hnb g hgo))).mono ?_); (rintro r w2 ⟨rfl, own', hD2, hF2, hW2, hg2, hB2⟩); (have hb2 := hB2.cell 0); (have hb3 := hB2.free 0); (refine ⟨_, rfl, ?_⟩))
  have hB4 := hB2.set 0 (.int .i64 m)
  have hb4 := hB4.cell 0
  simp at hb4
  refine bodyPost_ret (v := .tuple #[.int .i64 m, .int .i64 0]) (by simp [results, Tryd.results11, hb4, go_sem]) rfl ?_
  have hgb : g ≠ w.heap.size + 1 + 1 + 1 + 1 := by omega
  have how : own (w.heap.size + 1 + 1 + 1 + 1) = .out := HD.out.out (by omega)
  have hsz := hF1.size
  simp at hsz
  have how2 : own' (w.heap.size + 1 + 1 + 1 + 1) = .out := by
    cases h : own' (w.heap.size + 1 + 1 + 1 + 1) with
    | out => rfl
    | _ => exact absurd how (hW2 _ (by omega) (by rw [h]; simp))
  refine ⟨rfl, own', hD2.setCell (p := ⟨w.heap.size + 1 + 1 + 1 + 1, 0, none⟩) how2 _, ?_, ?_, (Fr.setIn (Fr.refl (· = w.heap.size + 1 + 1 + 1 + 1) w2) rfl _).blk hg2 hgb⟩
  · refine Fr.trans (Fr.trans (S := fun n => Own own n ∨ n = g) ((((((Fr.refl _ _).alloc _).alloc _).alloc _).alloc _).alloc _) hF1 (fun n _ e => Or.inl ?_)) (Fr.setIn (S := fun n => Own own n ∨ n = g ∨ n = w.heap.size + 1 + 1 + 1 + 1) (n := w.heap.size + 1 + 1 + 1 + 1) hF2 (Or.inr (Or.inr rfl)) _) (fun n hn e => ?_)
    · unfold Own; rw [e, HD.out.mark.1]; simp
    · rcases e with e | e | e
      · exact Or.inl e
      · exact Or.inr e
      · omega
  · exact fun n hn h => hW2 n (by omega) h
end Go.Proofs.YtcefockebphbaaaDoor

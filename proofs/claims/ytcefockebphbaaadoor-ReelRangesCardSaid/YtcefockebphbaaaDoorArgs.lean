/- From a statement's arguments to what the walks ask of them. -/
import Derived.Test.YtcefockebphbaaaDoorGC
import Derived.Lib.LaidTab
import Derived.Lib.SmallJoins
import Derived.Deep.Strs
import Derived.Deep.Grids
import Derived.ChangeSlices
import Derived.Stop.LaidErr
set_option linter.unusedVariables false
set_option linter.unusedSimpArgs false
set_option linter.unnecessarySimpa false
namespace Go.Proofs.YtcefockebphbaaaDoor
open Go Go.RowKit Sluice Go.WideShapes Go.ChangeShapes Go.Deep Go.Joins

theorem array6 {α : Type} {cs : Array α} (h : cs.size = 6) : ∃ c0 c1 c2 c3 c4 c5, cs = #[c0, c1, c2, c3, c4, c5] := by
  obtain ⟨l⟩ := cs
  match l, h with
  | [c0, c1, c2, c3, c4, c5], _ => exact ⟨c0, c1, c2, c3, c4, c5, rfl⟩

section
variable {H : Type} {enc : TypeId × Value → H} {w : World} {base : Nat}
theorem bv_of {z : Int} (h0 : 0 ≤ z) (h1 : z ≤ 255) : bv (UInt8.ofNat z.toNat) = .int .u8 z := by
  have e : (UInt8.ofNat z.toNat).toNat = z.toNat := by simp [UInt8.toNat_ofNat']; omega
  unfold bv
  rw [e, Int.toNat_of_nonneg h0]
theorem plain_addr {w : World} {a : Addr} {v : Value} (h : w.cell? (a.add 0) = some v) : ∃ b off, a = ⟨b, off, none⟩ := by
  have e : a.add 0 = a := by simp [Addr.add]
  rw [e] at h
  have hs := World.cell?_spot h
  exact ⟨a.block, a.off, by cases a; simp_all⟩
theorem open_texts {t : TypeId} {fuel : Nat} {v : Value} {x : DataW H × List MemPlace} (ht : Tryd.prog.underlying t = some (.slice 9)) (h : DataW.trod enc Tryd.prog w base (fun _ => true) true fuel t [v] = some x) :
    ∃ a n c f, v = .slice a n c ∧ Texts w (fun k => k < w.heap.size) a n f := by
  rcases open_strs ht Tryd.underlying9 (by kernel_rfl) h with ⟨h1, -⟩ | ⟨a, len, cap, m, Sx, h1, -, hl, -, hm, -, hx⟩
  · exact ⟨none, 0, 0, fun _ => ⟨#[]⟩, by simpa using h1, fun i hi => by omega⟩
  · simp at hm
    refine ⟨some a, len, cap, Sx, by simpa using h1, fun i hi => ?_⟩
    obtain ⟨b, off, rfl⟩ := plain_addr (hx 0 (by omega)).1
    obtain ⟨h2, h3⟩ := hx i (by omega)
    rw [WideShapes.add_plain] at h2
    exact ⟨b, off, rfl, World.block_lt_of_cell? _ _ h2, h2, h3⟩
theorem open_flags {t : TypeId} {fuel : Nat} {v : Value} {x : DataW H × List MemPlace} (ht : Tryd.prog.underlying t = some (.slice 4)) (h : DataW.trod enc Tryd.prog w base (fun _ => true) true fuel t [v] = some x) :
    ∃ a n c f, v = .slice a n c ∧ n ≤ maxLen ∧ Bools w (fun k => k < w.heap.size) a n f := by
  rcases open_bools ht Tryd.underlying4 (by kernel_rfl) h with ⟨h1, -⟩ | ⟨a, len, cap, B, h1, -, hl, hm, -, hx⟩
  · exact ⟨none, 0, 0, fun _ => false, by simpa using h1, by omega, fun i hi => by omega⟩
  · refine ⟨some a, len, cap, B, by simpa using h1, by omega, fun i hi => ?_⟩
    obtain ⟨b, off, rfl⟩ := plain_addr (hx 0 (by omega))
    have h2 := hx i (by omega)
    rw [WideShapes.add_plain] at h2
    exact ⟨b, off, rfl, World.block_lt_of_cell? _ _ h2, h2⟩
theorem open_bytes {t : TypeId} {fuel : Nat} {v : Value} {x : DataW H × List MemPlace} (ht : Tryd.prog.underlying t = some (.slice 5)) (h : DataW.trod enc Tryd.prog w base (fun _ => true) true fuel t [v] = some x) :
    ∃ a l c, v = .slice a (List.length (l : List UInt8)) c ∧ l.length ≤ c ∧ (a = none → c = 0) ∧ ∀ b, a = some b → ∀ j u, (l.map bv)[j]? = some u → b.block < w.heap.size ∧ w.cell? (b.add j) = some u := by
  rcases open_ints ht Tryd.underlying5 (by kernel_rfl) h with ⟨h1, -⟩ | ⟨a, len, cap, zs, h1, -, hl, hm, hz, -, hx, hw⟩
  · exact ⟨none, [], 0, by simpa using h1, by simp, fun _ => rfl, fun b hb => by cases hb⟩
  · simp at hz
    refine ⟨some a, (zs.take len).map (fun z => UInt8.ofNat z.toNat), cap, ?_, ?_, (fun e => by cases e), ?_⟩
    · have : ((zs.take len).map (fun z => UInt8.ofNat z.toNat)).length = len := by simp; omega
      rw [this]; simpa using h1
    · simp; omega
    · intro b hb j u hu
      obtain rfl := Option.some.inj hb
      have hj : j < len := by
        have := (List.getElem?_eq_some_iff.1 hu).1
        simp at this; omega
      have h2 := hx j (by omega)
      have hwf := hw (zs.getD j 0) (by rw [List.getD_eq_getElem?_getD, List.getElem?_eq_getElem (by omega)]; exact List.getElem_mem _)
      have hr : 0 ≤ zs.getD j 0 ∧ zs.getD j 0 ≤ 255 := by simpa [Lit.wf, IntKind.min, IntKind.max, IntKind.signed, IntKind.bits] using hwf
      have hu2 : u = .int .u8 (zs.getD j 0) := by
        rw [List.getElem?_map, List.getElem?_map, List.getElem?_take_of_lt hj, List.getElem?_eq_getElem (by omega)] at hu
        simp only [Option.map_some, Option.some.injEq] at hu
        rw [← hu]
        have e : zs.getD j 0 = zs[j]'(by omega) := by rw [List.getD_eq_getElem?_getD, List.getElem?_eq_getElem (by omega)]; rfl
        rw [e] at hr ⊢
        exact bv_of hr.1 hr.2
      obtain ⟨b, off, rfl⟩ := plain_addr (hx 0 (by omega))
      rw [hu2]
      refine ⟨?_, h2⟩
      rw [WideShapes.add_plain] at h2
      have h5 : (⟨b, off + j, none⟩ : Addr).block < w.heap.size := World.block_lt_of_cell? _ _ h2
      exact h5
end
end Go.Proofs.YtcefockebphbaaaDoor

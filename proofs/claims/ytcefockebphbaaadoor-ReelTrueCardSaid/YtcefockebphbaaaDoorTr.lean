/- The walk of ReelTrue. -/
import Derived.Test.YtcefockebphbaaaDoorGL
import Derived.Test.YtcefockebphbaaaDoorGC
import Derived.Test.YtcefockebphbaaaDoorTp
set_option linter.unusedVariables false
set_option linter.unusedSimpArgs false
set_option linter.unnecessarySimpa false
namespace Go.Proofs.YtcefockebphbaaaDoor
open Go Go.RowKit Sluice

theorem flip_one {w : World} {b n : Nat} {S : Nat → Prop} {bs : List UInt8} (h : DiskAt w b n (some bs) S) (k : Nat) (hk : k < 8 * bs.length) (hl : bs.length ≤ 1099511627776) :
    Calls Tryd.prog 23 #[.pointer (some ⟨b, 0, none⟩), .string nameF, .int .i64 k] w fun r w' => r = .returned (.int .i64 0) ∧ DiskAt w' b n (some (flipAt bs k)) S ∧ Fr (fun k => ¬ S k) w w' := by
  obtain ⟨own, L, D, rfl, h2, ⟨c1, c2, c3, i, f, c4, c5, c6⟩, h4⟩ := h
  subst c6
  refine (flip_file L own D nameF nameF_size nameF_named i f (one_look c4) c5 hl k hk w h2).mono ?_
  rintro r w' ⟨rfl, hT⟩
  exact ⟨rfl, to_disk rfl hT ⟨c1, c2, c3, i, _, c4, filed_get c5, rfl⟩ h4⟩

/-- A file laid on a disk: what was there at wb's time stands; the records stand in a list of their own. -/
structure LaidC (wb w : World) (b n rn : Nat) (base : Option Addr) (cap : Nat) (gs : List (List (List UInt8))) (bs : List UInt8) : Prop where
  strs : Strs w (.slice base rn cap) gs.flatten
  own : ∀ x, (Value.slice base rn cap).ownBlock = some x → wb.heap.size ≤ x
  kp : Keeps wb w
  disk : DiskAt w b n (some bs) (fun x => x < wb.heap.size ∨ (Value.slice base rn cap).ownBlock = some x)
theorem keeps_of_all {wb w : World} {S : Nat → Prop} (h : Fr (fun k => ¬ S k) wb w) (hS : ∀ k, k < wb.heap.size → S k) : Keeps wb w := h.mono fun k hk hn => hn (hS k hk)
theorem laidc_of {wb w1 w : World} {b n wd M tag rn : Nat} {f : Nat → ByteArray} {v : Value} (hk : Keeps wb w1) (h : LaidTo w1 (fun k => k < wb.heap.size) b n wd M tag rn f v w) :
    ∃ base cap gs, v = .slice base rn cap ∧ gs.flatten.length = rn ∧ GoodGroups wd M gs ∧ LaidC wb w b n rn base cap gs (fileB wd tag gs) := by
  obtain ⟨gs, h1, h2, h3, h4, h5, h6⟩ := h
  have hl : gs.flatten.length = rn := by rw [h1]; simp
  obtain ⟨base, cap, hv, -⟩ := h3.form
  rw [hl] at hv
  subst hv
  have hs := hk.size
  exact ⟨base, cap, gs, rfl, hl, h2, h3, fun x hx => by have := h4 x hx; omega, Fr.trans hk h6 (fun i hi hn => hn hi), h5⟩
section
variable {wb w : World} {b n rn cap : Nat} {base : Option Addr} {gs : List (List (List UInt8))} {bs : List UInt8}
theorem laidc_frame (h : LaidC wb w b n rn base cap gs bs) {w' : World} {n' : Nat} {bs' : List UInt8} (hF : Fr (fun x => ¬ (x < wb.heap.size ∨ (Value.slice base rn cap).ownBlock = some x)) w w')
    (hD : DiskAt w' b n' (some bs') (fun x => x < wb.heap.size ∨ (Value.slice base rn cap).ownBlock = some x)) : LaidC wb w' b n' rn base cap gs bs' :=
  ⟨h.strs.keeps hF (fun k hk hn => hn (Or.inr hk)), h.own, Fr.trans h.kp hF (fun k hk hn => hn (Or.inl hk)), hD⟩
theorem laidc_keeps (h : LaidC wb w b n rn base cap gs bs) {w' : World} (hk : Keeps w w') : LaidC wb w' b n rn base cap gs bs :=
  ⟨h.strs.keeps hk (fun _ _ h => h), h.own, h.kp.keeps hk, h.disk.keeps hk⟩
theorem laidc_size (h : LaidC wb w b n rn base cap gs bs) :
    Calls Tryd.prog 10 #[.pointer (some ⟨b, 0, none⟩), .string nameF] w fun r w' => r = .returned (.tuple #[.int .i64 bs.length, .int .i64 0]) ∧ LaidC wb w' b n rn base cap gs bs := by
  refine (size_one h.disk).mono ?_
  rintro r w' ⟨rfl, hD, hF⟩
  exact ⟨rfl, laidc_frame h hF hD⟩
theorem laidc_flip (h : LaidC wb w b n rn base cap gs bs) (k : Nat) (hk : k < 8 * bs.length) (hl : bs.length ≤ 1099511627776) :
    Calls Tryd.prog 23 #[.pointer (some ⟨b, 0, none⟩), .string nameF, .int .i64 k] w fun r w' => r = .returned (.int .i64 0) ∧ LaidC wb w' b n rn base cap gs (flipAt bs k) := by
  refine (flip_one h.disk k hk hl).mono ?_
  rintro r w' ⟨rfl, hD, hF⟩
  exact ⟨rfl, laidc_frame h hF hD⟩
/-- What a told comes to then. -/
def ToldC (wb : World) (rn : Nat) (base : Option Addr) (cap : Nat) (gs : List (List (List UInt8))) (rd : List (List UInt8) × Bool) (r : Ending) (w : World) : Prop :=
  ∃ base' gn cap' rp code, r = .returned (.tuple #[.slice base' gn cap', .pointer rp, .int .i64 code]) ∧ rd.1.length = gn ∧ Strs w (.slice base' gn cap') rd.1 ∧ (code = 0 ↔ rd.2 = true) ∧ Keeps wb w ∧
    Strs w (.slice base rn cap) gs.flatten ∧ ((rp = none ∧ rd.2 = false ∧ rd.1 = []) ∨ ∃ rb, rp = some ⟨rb, 0, none⟩ ∧ RdOver w rb rd.2 code)
theorem laidc_told {tag : Nat} (h : LaidC wb w b n rn base cap gs bs) (W Wr Rd : Int) (cuts recs : Value) (hsl : bs.length ≤ 2147483648) (ht : tag < 18446744073709551616) (hS : Steps wb) :
    Calls Tryd.prog 15 #[layV W (tag : Int) Wr Rd cuts recs, .pointer (some ⟨b, 0, none⟩)] w (ToldC wb rn base cap gs (readR bs (bOf W Wr Rd) (wdOf W) tag)) := by
  refine (told_any _ b n tag W Wr Rd cuts recs bs hsl ht (Or.inl hS.1) w (hS.kept h.kp (fun h => h)) h.disk).mono ?_
  intro r w' hT
  obtain ⟨b1, c1, rp, code, h1, h2, h3, h4, h5⟩ := hT.is
  exact ⟨b1, _, c1, rp, code, h1, rfl, h2, h3, Fr.trans h.kp h4 (fun k hk hn => hn (Or.inl hk)), h.strs.keeps h4 (fun k hk hn => hn (Or.inr hk)), h5⟩
end

theorem turn_plain {wd M B tag p m j : Nat} {gs : List (List (List UInt8))} (hMB : M * wd ≤ B) (hB : 12 ≤ B) (hM2 : M * wd ≤ 1048576) (hM : M ≤ 1048576) (hw : wd ≤ 256) (ht : tag < 18446744073709551616) (hn : gs.length ≤ 262144) (hf : gs.flatten.length ≤ 262144) (hg : GoodGroups wd M gs)
    (hj : j ≤ 32) (hp : p + j ≤ 8 * (fileB wd tag gs).length) :
    (anyBit m j = false → readR (flips (fileB wd tag gs) p m j) B wd tag = (gs.flatten, true)) ∧
    (anyBit m j = true → (readR (flips (fileB wd tag gs) p m j) B wd tag).2 = false ∧ (readR (flips (fileB wd tag gs) p m j) B wd tag).1 <+: gs.flatten) := by
  refine ⟨fun h => ?_, fun h => ?_⟩
  · rw [flips_no hp h]
    have := (cut_plain (mm := (fileB wd tag gs).length) (l := []) hMB hB hM2 hM hw ht hn hf hg).1 rfl rfl
    rwa [List.take_length, List.append_nil] at this
  · exact read_turned hMB hM2 hM (by omega) hg (flips_near hp hj) (flips_yes hp h)
end Go.Proofs.YtcefockebphbaaaDoor

/- A calm disk of one file, seen from outside. -/
import Derived.Test.YtcefockebphbaaaDoorGE
import Derived.Test.YtcefockebphbaaaDoorGA
import Derived.Test.YtcefockebphbaaaDoorGN
set_option linter.unusedVariables false
set_option linter.unusedSimpArgs false
set_option linter.unnecessarySimpa false
namespace Go.Proofs.YtcefockebphbaaaDoor
open Go Go.RowKit Sluice

/-- The file's name. -/
def nameF : ByteArray := ⟨#[102]⟩
theorem nameF_size : nameF.size ≤ maxLen := by decide
theorem nameF_named : namedB nameF = true := by decide
/-- A disk without faults, with one file or none; n changes of its directory so far. -/
def OneDisk (D : PDisk) (n : Nat) (c : Option (List UInt8)) : Prop :=
  D.Calm ∧ D.quota = 1073741824 ∧ D.changes.length = n ∧
    match c with
    | none => D.now = []
    | some bs => ∃ i f, D.now = [(nameF, i)] ∧ D.files[i]? = some f ∧ f.bytes = bs
/-- Such a disk lies at b; none of the blocks of S is its own. -/
def DiskAt (w : World) (b n : Nat) (c : Option (List UInt8)) (S : Nat → Prop) : Prop :=
  ∃ own L D, L.b = b ∧ IsDisk w own L D ∧ OneDisk D n c ∧ ∀ k, S k → own k = .out ∧ k < w.heap.size

theorem DiskAt.stays {w w' : World} {b n : Nat} {c : Option (List UInt8)} {S T : Nat → Prop} (h : DiskAt w b n c S) (hf : Fr T w w') (ht : ∀ k, k < w.heap.size → T k → S k) : DiskAt w' b n c S := by
  obtain ⟨own, L, D, h1, h2, h3, h4⟩ := h
  refine ⟨own, L, D, h1, h2.stays (S := fun k => T k ∧ k < w.heap.size) ⟨hf.os, hf.tape, hf.output, hf.size, fun k hk hn => hf.block k hk (fun ht => hn ⟨ht, hk⟩)⟩ ?_, h3, fun k hk => ⟨(h4 k hk).1, Nat.lt_of_lt_of_le (h4 k hk).2 hf.size⟩⟩
  intro k hk hx
  exact hk (h4 k (ht k hx.2 hx.1)).1
theorem DiskAt.keeps {w w' : World} {b n : Nat} {c : Option (List UInt8)} {S : Nat → Prop} (h : DiskAt w b n c S) (hf : Keeps w w') : DiskAt w' b n c S := h.stays hf fun _ _ h => h.elim
theorem DiskAt.drew {w : World} {b n : Nat} {c : Option (List UInt8)} {S : Nat → Prop} (h : DiskAt w b n c S) : DiskAt w.drew b n c S := h.keeps (Fr.refl _ _).drew
theorem DiskAt.alloc {w : World} {b n : Nat} {c : Option (List UInt8)} {S : Nat → Prop} (h : DiskAt w b n c S) (o : Obj) : DiskAt (w.alloc o) b n c S := h.keeps ((Fr.refl _ _).alloc o)
/-- A block that was not there is none of the disk's. -/
theorem DiskAt.more {w w' : World} {b n : Nat} {c : Option (List UInt8)} {S S' : Nat → Prop} (h : DiskAt w b n c S) (hf : Keeps w w') (hs : ∀ k, S' k → S k ∨ (w.heap.size ≤ k ∧ k < w'.heap.size)) : DiskAt w' b n c S' := by
  obtain ⟨own, L, D, h1, h2, h3, h4⟩ := h
  refine ⟨own, L, D, h1, h2.keeps hf, h3, fun k hk => ?_⟩
  rcases hs k hk with h | ⟨h5, h6⟩
  · exact ⟨(h4 k h).1, Nat.lt_of_lt_of_le (h4 k h).2 hf.size⟩
  · exact ⟨h2.out h5, h6⟩
theorem DiskAt.less {w : World} {b n : Nat} {c : Option (List UInt8)} {S S' : Nat → Prop} (h : DiskAt w b n c S) (hs : ∀ k, S' k → S k) : DiskAt w b n c S' := by
  obtain ⟨own, L, D, h1, h2, h3, h4⟩ := h
  exact ⟨own, L, D, h1, h2, h3, fun k hk => h4 k (hs k hk)⟩
theorem DiskAt.lt {w : World} {b n : Nat} {c : Option (List UInt8)} {S : Nat → Prop} (h : DiskAt w b n c S) {k : Nat} (hk : S k) : k < w.heap.size := by
  obtain ⟨own, L, D, h1, h2, h3, h4⟩ := h
  exact (h4 k hk).2
theorem DiskAt.not {w : World} {b n : Nat} {c : Option (List UInt8)} {S : Nat → Prop} (h : DiskAt w b n c S) : ¬ S b := by
  obtain ⟨own, L, D, rfl, h2, h3, h4⟩ := h
  intro hs
  have := (h4 _ hs).1
  rw [h2.mark.1] at this; cases this
theorem DiskAt.lt_b {w : World} {b n : Nat} {c : Option (List UInt8)} {S : Nat → Prop} (h : DiskAt w b n c S) : b < w.heap.size := by
  obtain ⟨own, L, D, rfl, h2, h3, h4⟩ := h
  exact h2.lt _ (by rw [h2.mark.1]; simp)

theorem calm_tick {D : PDisk} (h : D.Calm) : D.tick.Calm := h
theorem one_look {D : PDisk} {i : Nat} (h : D.now = [(nameF, i)]) : D.now.look nameF = some i := by
  have he : (nameF == nameF) = true := by decide
  rw [h]; simp [PDir.look, he]
theorem one_used {D : PDisk} {i : Nat} {f : PFile} (h : D.now = [(nameF, i)]) (hf : D.files[i]? = some f) : D.used = f.bytes.length := by
  unfold PDisk.used; rw [h]; simp [PDisk.sizeAt, hf]
theorem filed_get {D : PDisk} {i : Nat} {f f' : PFile} (h : D.files[i]? = some f) : (D.filed i f').files[i]? = some f' := by
  have := (List.getElem?_eq_some_iff.1 h).1
  simp [PDisk.filed, this]

/-- What an operation leaves. -/
theorem to_disk {own : Nat → Tag} {L : Lay} {D' : PDisk} {w w' : World} {n : Nat} {c : Option (List UInt8)} {S : Nat → Prop} {L0 : Lay} (hb : L.b = L0.b) (h : To own L D' w w') (ho : OneDisk D' n c) (hS : ∀ k, S k → own k = .out ∧ k < w.heap.size) :
    DiskAt w' L0.b n c S ∧ Fr (fun k => ¬ S k) w w' := by
  obtain ⟨own', h1, h2, h3⟩ := h
  refine ⟨⟨own', L, D', hb, h1, ho, fun k hk => ⟨?_, Nat.lt_of_lt_of_le (hS k hk).2 h2.size⟩⟩, h2.mono fun k _ hk hs => hk (hS k hs).1⟩
  cases e : own' k with
  | out => rfl
  | _ => exact absurd (hS k hk).1 (h3 k (hS k hk).2 (by rw [e]; simp))

theorem create_one {w : World} {b n : Nat} {S : Nat → Prop} (h : DiskAt w b n none S) (hn : n ≤ 1000) :
    Calls Tryd.prog 13 #[.pointer (some ⟨b, 0, none⟩), .string nameF] w fun r w' => r = .returned (.int .i64 0) ∧ DiskAt w' b (n + 1) (some []) S ∧ Fr (fun k => ¬ S k) w w' := by
  obtain ⟨own, L, D, rfl, h2, ⟨c1, c2, c3, c4⟩, h4⟩ := h
  dsimp only at c4
  have hl : D.now.look nameF = none := by rw [c4]; rfl
  refine (create_calm L own D c1 nameF nameF_size nameF_named hl (by rw [c4]; simp) (by rw [c3]; omega) w h2).mono ?_
  rintro r w' ⟨rfl, k, hT⟩
  refine ⟨rfl, to_disk (L := L.put D.tick.files.length k) rfl hT ⟨c1, c2, ?_, D.files.length, PFile.zero, ?_, ?_, rfl⟩ h4⟩
  · show (D.changes ++ [_]).length = n + 1
    rw [List.length_append, c3]; rfl
  · show D.now ++ [_] = _
    rw [c4]; rfl
  · show (D.files ++ [PFile.zero])[D.files.length]? = _
    simp
theorem append_one {w : World} {b n : Nat} {S : Nat → Prop} {bs : List UInt8} (h : DiskAt w b n (some bs) S) (g off cap : Nat) (l : List UInt8) (hq : bs.length + l.length ≤ 1073741824) (cs : Array Value) (t : TypeId) (hS : S g) (hcs : (cs.toList.drop off).take l.length = l.map bv) (hg : Blk w g cs t) :
    Calls Tryd.prog 14 #[.pointer (some ⟨b, 0, none⟩), .string nameF, .slice (some ⟨g, off, none⟩) l.length cap] w fun r w' => r = .returned (.int .i64 0) ∧ DiskAt w' b n (some (bs ++ l)) S ∧ Fr (fun k => ¬ S k) w w' := by
  obtain ⟨own, L, D, rfl, h2, ⟨c1, c2, c3, i, f, c4, c5, c6⟩, h4⟩ := h
  have hu := one_used c4 c5
  refine (append_calm L own D c1 nameF nameF_size nameF_named i f (one_look c4) c5 (by rw [hu, c6]; omega) g off cap l (by rw [hu, c6, c2]; omega) (by rw [c2]; omega) cs t (h4 g hS).1 hcs w h2 hg).mono ?_
  rintro r w' ⟨rfl, hT⟩
  refine ⟨rfl, to_disk rfl hT ⟨c1, c2, c3, i, f.more l, c4, filed_get c5, ?_⟩ h4⟩
  rw [← c6]; rfl
theorem append_len {w : World} {b n : Nat} {S : Nat → Prop} {bs : List UInt8} (h : DiskAt w b n (some bs) S) (g off m cap : Nat) (l : List UInt8) (hm : l.length = m) (hq : bs.length + m ≤ 1073741824) (cs : Array Value) (t : TypeId) (hS : S g) (hcs : (cs.toList.drop off).take m = l.map bv) (hg : Blk w g cs t) :
    Calls Tryd.prog 14 #[.pointer (some ⟨b, 0, none⟩), .string nameF, .slice (some ⟨g, off, none⟩) m cap] w fun r w' => r = .returned (.int .i64 0) ∧ DiskAt w' b n (some (bs ++ l)) S ∧ Fr (fun k => ¬ S k) w w' := by
  subst hm
  exact append_one h g off cap l hq cs t hS hcs hg
theorem sync_one {w : World} {b n : Nat} {S : Nat → Prop} {bs : List UInt8} (h : DiskAt w b n (some bs) S) :
    Calls Tryd.prog 99 #[.pointer (some ⟨b, 0, none⟩), .string nameF] w fun r w' => r = .returned (.int .i64 0) ∧ DiskAt w' b n (some bs) S ∧ Fr (fun k => ¬ S k) w w' := by
  obtain ⟨own, L, D, rfl, h2, ⟨c1, c2, c3, i, f, c4, c5, c6⟩, h4⟩ := h
  refine (sync_calm L own D c1 nameF nameF_size nameF_named i f (one_look c4) c5 w h2).mono ?_
  rintro r w' ⟨rfl, hT⟩
  refine ⟨rfl, to_disk rfl hT ⟨c1, c2, c3, i, _, c4, filed_get c5, c6⟩ h4⟩
theorem size_one {w : World} {b n : Nat} {S : Nat → Prop} {bs : List UInt8} (h : DiskAt w b n (some bs) S) :
    Calls Tryd.prog 10 #[.pointer (some ⟨b, 0, none⟩), .string nameF] w fun r w' => r = .returned (.tuple #[.int .i64 bs.length, .int .i64 0]) ∧ DiskAt w' b n (some bs) S ∧ Fr (fun k => ¬ S k) w w' := by
  obtain ⟨own, L, D, rfl, h2, ⟨c1, c2, c3, i, f, c4, c5, c6⟩, h4⟩ := h
  refine (size_calm L own D c1 nameF nameF_size nameF_named i f (one_look c4) c5 w h2).mono ?_
  rintro r w' ⟨rfl, hT⟩
  subst c6
  refine ⟨rfl, to_disk rfl hT ⟨c1, c2, c3, i, f, c4, c5, rfl⟩ h4⟩
theorem readat_one {w : World} {b n : Nat} {S : Nat → Prop} {bs : List UInt8} (h : DiskAt w b n (some bs) S) (hbl : bs.length ≤ 1099511627776) (at_ : Nat) (g off m cap : Nat) (hm : 1 ≤ m) (hat : at_ + m ≤ bs.length) (ls : List UInt8) (t : TypeId) (hS : S g) (hfit : off + m ≤ ls.length) (hg : Blk w g (bytesA ls) t) :
    Calls Tryd.prog 11 #[.pointer (some ⟨b, 0, none⟩), .string nameF, .int .i64 at_, .slice (some ⟨g, off, none⟩) m cap] w
      fun r w' => r = .returned (.tuple #[.int .i64 m, .int .i64 0]) ∧ DiskAt w' b n (some bs) S ∧ Fr (fun k => ¬ S k ∨ k = g) w w' ∧ Blk w' g (bytesA (splB ls off ((bs.drop at_).take m))) t := by
  obtain ⟨own, L, D, rfl, h2, ⟨c1, c2, c3, i, f, c4, c5, c6⟩, h4⟩ := h
  subst c6
  refine (readat_calm L own D c1 nameF nameF_size nameF_named i f (one_look c4) c5 hbl at_ g off m cap hm hat (bytesA ls) t (h4 g hS).1 (by rw [bytesA_size]; exact hfit) w h2 hg).mono ?_
  rintro r w' ⟨rfl, own', h5, h6, h7, h8⟩
  rw [spl_bytes] at h8
  refine ⟨rfl, ⟨own', L, _, rfl, h5, ⟨c1, c2, c3, i, _, c4, filed_get c5, rfl⟩, fun k hk => ⟨?_, Nat.lt_of_lt_of_le (h4 k hk).2 h6.size⟩⟩, h6.mono ?_, h8⟩
  · cases e : own' k with
    | out => rfl
    | _ => exact absurd (h4 k hk).1 (h7 k (h4 k hk).2 (by rw [e]; simp))
  · intro k _ hk
    rcases hk with hk | hk
    · exact Or.inl fun hs => hk (h4 k hs).1
    · exact Or.inr hk
end Go.Proofs.YtcefockebphbaaaDoor

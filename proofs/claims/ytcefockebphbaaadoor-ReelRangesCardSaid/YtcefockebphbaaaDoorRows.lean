/-
  NARROWER THAN 'FOR EVERY INPUT', by the rows' own cells (each row's printed sentence says how): ReelCut: laid · ReelRanges: laid · ReelTrue: laid.
  DERIVED. THE GIVEN ROWS OF THIS SEAT. 3 by the template 'for every input the law returns true; each argument reads behind the call as it read before'; 0 by the template 'total and deterministic' (their statements: YtcefockebphbaaaDoorTotals.lean).
  GIVEN WITH THE SEED: the statements are not yours to turn. If you find one false, say at which input.
  Laid BY PROGRAM, IN A SANDBOX (cutbox-rows.mjs): the forced cells as the released guide's own fill.sh prints them over the translation b5d0edcc7e0ef4ec… (all of the seat's roots in one cut). By AI agents, Wed Nov 11 2026. No macro, syntax, notation, axiom, sorry.
-/
import Derived.Test.YtcefockebphbaaaDoorChecked
import GoSem.Claim
import GoSem.ClaimJoined
import GoSem.ClaimMapViews
import Derived.JoinedTies
import Derived.KernelRfl
namespace Go.Proofs.YtcefockebphbaaaDoor
/- THE CELL 'sum', in the pinned program and in every row, IS THE sha256 OF THE DUMP (.gsa) THAT YtcefockebphbaaaDoorProg.lean LOADS. Nothing in Lean hashes anything: it is a label: what it is worth is what the hold of that sum in a sandbox is worth. -/
noncomputable def Tryd.pinned : Pinned := { name := "ytcefockebphbaaadoor", sum := "b5d0edcc7e0ef4ec18ac2974287d82c2a849372b74d624459cbd3a27fadbe3c1", checked := Tryd.checked }
namespace Rows
def none {H : Type} : Left H := { results := [], args := [] }

/- WHAT THE LISTED PACKAGE-LEVEL VARIABLES READ AS WHEN THE CALL BEGINS. Each datum BY PROGRAM (the guide's laid-datum.mjs) off the statement by which the dump's own 'gosem.cut.vars' lays the variable. In a bare row this is a premise. The card (YtcefockebphbaaaDoorCards.lean) ties it to the program's text. -/
def laid_sluice_platter_fit {H : Type} : DataW H := .agg [.nil, .slice [.lit (.int .i64 1)] [], .slice [.lit (.int .i64 1)] [], .slice [.lit (.int .i64 1)] [], .slice [.lit (.int .i64 2)] [], .slice [.lit (.int .i64 2)] [], .slice [.lit (.int .i64 3)] [], .slice [.lit (.int .i64 1), .lit (.int .i64 2)] [], .slice [.lit (.int .i64 0), .lit (.int .i64 1), .lit (.int .i64 2), .lit (.int .i64 3)] [], .slice [.lit (.int .i64 0), .lit (.int .i64 1), .lit (.int .i64 2), .lit (.int .i64 3)] []]
def laid_sluice_grain_steps {H : Type} : DataW H := .agg [.lit (.int .u32 0), .lit (.int .u32 498536548), .lit (.int .u32 997073096), .lit (.int .u32 651767980), .lit (.int .u32 1994146192), .lit (.int .u32 1802195444), .lit (.int .u32 1303535960), .lit (.int .u32 1342533948), .lit (.int .u32 3988292384), .lit (.int .u32 4027552580), .lit (.int .u32 3604390888), .lit (.int .u32 3412177804), .lit (.int .u32 2607071920), .lit (.int .u32 2262029012), .lit (.int .u32 2685067896), .lit (.int .u32 3183342108)]

/-- 'sluicelaw06.ReelCut': WHATEVER THE INPUT: true; the input reads as it did. -/
def reelCutSpec : ChangeSpec := { name := "reelCut", fn := fun _ => fun
  | [d1, d2, d3] => { results := [.lit (.bool true)], args := [d1, d2, d3] }
  | _ => none }
def reelCutRow : OpenClaim := { program := "ytcefockebphbaaadoor", sum := "b5d0edcc7e0ef4ec18ac2974287d82c2a849372b74d624459cbd3a27fadbe3c1", func := "sluice/sluicelaw06.ReelCut", spec := "reelCut", unfollowed := true, recurses := true, named := ["sluice/grain.steps", "sluice/platter.fit"], apart := false, laid := [("sluice/platter.fit", laid_sluice_platter_fit), ("sluice/grain.steps", laid_sluice_grain_steps)] }
def ReelCutSaid : Prop := reelCutRow.holds Tryd.pinned (OpenSpec.ofChange reelCutSpec)

/-- ITS FALSE NEIGHBOUR: 'it returns false'. Refute it at one input. -/
def reelCutWrong : ChangeSpec := { name := "reelCut", fn := fun _ => fun
  | [d1, d2, d3] => { results := [.lit (.bool false)], args := [d1, d2, d3] }
  | _ => none }
def ReelCutWrongFalsely : Prop := reelCutRow.holds Tryd.pinned (OpenSpec.ofChange reelCutWrong)

/-- 'sluicelaw06.ReelRanges': WHATEVER THE INPUT: true; the input reads as it did. -/
def reelRangesSpec : ChangeSpec := { name := "reelRanges", fn := fun _ => fun
  | [d1, d2] => { results := [.lit (.bool true)], args := [d1, d2] }
  | _ => none }
def reelRangesRow : OpenClaim := { program := "ytcefockebphbaaadoor", sum := "b5d0edcc7e0ef4ec18ac2974287d82c2a849372b74d624459cbd3a27fadbe3c1", func := "sluice/sluicelaw06.ReelRanges", spec := "reelRanges", unfollowed := true, recurses := true, named := ["sluice/grain.steps"], apart := false, laid := [("sluice/grain.steps", laid_sluice_grain_steps)] }
def ReelRangesSaid : Prop := reelRangesRow.holds Tryd.pinned (OpenSpec.ofChange reelRangesSpec)

/-- ITS FALSE NEIGHBOUR: 'it returns false'. Refute it at one input. -/
def reelRangesWrong : ChangeSpec := { name := "reelRanges", fn := fun _ => fun
  | [d1, d2] => { results := [.lit (.bool false)], args := [d1, d2] }
  | _ => none }
def ReelRangesWrongFalsely : Prop := reelRangesRow.holds Tryd.pinned (OpenSpec.ofChange reelRangesWrong)

/-- 'sluicelaw06.ReelTrue': WHATEVER THE INPUT: true; the input reads as it did. -/
def reelTrueSpec : ChangeSpec := { name := "reelTrue", fn := fun _ => fun
  | [d1, d2] => { results := [.lit (.bool true)], args := [d1, d2] }
  | _ => none }
def reelTrueRow : OpenClaim := { program := "ytcefockebphbaaadoor", sum := "b5d0edcc7e0ef4ec18ac2974287d82c2a849372b74d624459cbd3a27fadbe3c1", func := "sluice/sluicelaw06.ReelTrue", spec := "reelTrue", unfollowed := true, recurses := true, named := ["sluice/grain.steps", "sluice/platter.fit"], apart := false, laid := [("sluice/platter.fit", laid_sluice_platter_fit), ("sluice/grain.steps", laid_sluice_grain_steps)] }
def ReelTrueSaid : Prop := reelTrueRow.holds Tryd.pinned (OpenSpec.ofChange reelTrueSpec)

/-- ITS FALSE NEIGHBOUR: 'it returns false'. Refute it at one input. -/
def reelTrueWrong : ChangeSpec := { name := "reelTrue", fn := fun _ => fun
  | [d1, d2] => { results := [.lit (.bool false)], args := [d1, d2] }
  | _ => none }
def ReelTrueWrongFalsely : Prop := reelTrueRow.holds Tryd.pinned (OpenSpec.ofChange reelTrueWrong)

/- THE SECOND FORM. 'bulk': how many values and letters a reading holds, each counted each time it is reached (what is shared counts as often as it is met; a slice's spare places count too). A statement '..UptoSaid' is the law's where the arguments, and the package variables that the reading takes, are together of bulk at most 1048576: NARROWER than '..Said'. Prove '..Said' where nothing that the law and all that it calls make is longer than what came in: it says more and counts as full. Else prove '..UptoSaid'. A law counts once. -/
mutual
def uptoBulk {H : Type} : DataW H → Nat
  | .lit (.string bytes) => bytes.length + 1
  | .lit _ => 1
  | .nil => 1
  | .ptr d => uptoBulk d + 1
  | .slice elems spare => uptoBulkAll elems + uptoBulkAll spare + 1
  | .agg parts => uptoBulkAll parts + 1
  | .iface _ d => uptoBulk d + 1
  | .map entries => uptoBulkEntries entries + 1
  | .held _ => 1
def uptoBulkAll {H : Type} : List (DataW H) → Nat
  | [] => 0
  | d :: r => uptoBulk d + uptoBulkAll r
def uptoBulkEntries {H : Type} : List (Lit × DataW H) → Nat
  | [] => 0
  | x :: r => uptoBulkEntry x + uptoBulkEntries r
def uptoBulkEntry {H : Type} : Lit × DataW H → Nat
  | (.string bytes, d) => bytes.length + uptoBulk d + 1
  | (_, d) => uptoBulk d + 1
 end
def uptoSmall : (H : Type) → List (DataW H) → Bool := fun _ ds => decide (uptoBulkAll ds ≤ 1048576)
def OpenSpec.upto (s : _root_.Go.ChangeSpec) : _root_.Go.OpenSpec := { _root_.Go.OpenSpec.ofChange s with cond := some uptoSmall }

/-- 'sluicelaw06.ReelCut', WHERE WHAT IT READS IS OF BULK AT MOST 1048576: true; the input reads as it did. -/
def reelCutUptoRow : OpenClaim := { program := "ytcefockebphbaaadoor", sum := "b5d0edcc7e0ef4ec18ac2974287d82c2a849372b74d624459cbd3a27fadbe3c1", func := "sluice/sluicelaw06.ReelCut", spec := "reelCut", unfollowed := true, recurses := true, named := ["sluice/grain.steps", "sluice/platter.fit"], apart := false, laid := [("sluice/platter.fit", laid_sluice_platter_fit), ("sluice/grain.steps", laid_sluice_grain_steps)], narrowed := true }
def ReelCutUptoSaid : Prop := reelCutUptoRow.holds Tryd.pinned (OpenSpec.upto reelCutSpec)

/-- 'sluicelaw06.ReelRanges', WHERE WHAT IT READS IS OF BULK AT MOST 1048576: true; the input reads as it did. -/
def reelRangesUptoRow : OpenClaim := { program := "ytcefockebphbaaadoor", sum := "b5d0edcc7e0ef4ec18ac2974287d82c2a849372b74d624459cbd3a27fadbe3c1", func := "sluice/sluicelaw06.ReelRanges", spec := "reelRanges", unfollowed := true, recurses := true, named := ["sluice/grain.steps"], apart := false, laid := [("sluice/grain.steps", laid_sluice_grain_steps)], narrowed := true }
def ReelRangesUptoSaid : Prop := reelRangesUptoRow.holds Tryd.pinned (OpenSpec.upto reelRangesSpec)

/-- 'sluicelaw06.ReelTrue', WHERE WHAT IT READS IS OF BULK AT MOST 1048576: true; the input reads as it did. -/
def reelTrueUptoRow : OpenClaim := { program := "ytcefockebphbaaadoor", sum := "b5d0edcc7e0ef4ec18ac2974287d82c2a849372b74d624459cbd3a27fadbe3c1", func := "sluice/sluicelaw06.ReelTrue", spec := "reelTrue", unfollowed := true, recurses := true, named := ["sluice/grain.steps", "sluice/platter.fit"], apart := false, laid := [("sluice/platter.fit", laid_sluice_platter_fit), ("sluice/grain.steps", laid_sluice_grain_steps)], narrowed := true }
def ReelTrueUptoSaid : Prop := reelTrueUptoRow.holds Tryd.pinned (OpenSpec.upto reelTrueSpec)

end Rows
end Go.Proofs.YtcefockebphbaaaDoor

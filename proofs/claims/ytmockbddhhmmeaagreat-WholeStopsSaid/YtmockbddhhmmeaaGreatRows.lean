/-
  No cell of these rows narrows 'for every input' (looked for: loops, veiled, ifaces, maps, wideKeys, modest, calm, conditions, laid).
  DERIVED. THE GIVEN ROWS OF THIS SEAT. 3 by the template 'for every input the law returns true; each argument reads behind the call as it read before'; 0 by the template 'total and deterministic' (their statements: YtmockbddhhmmeaaGreatTotals.lean).
  GIVEN WITH THE SEED: the statements are not yours to turn. If you find one false, say at which input.
  Laid BY PROGRAM, IN A SANDBOX (cutbox-rows.mjs): the forced cells as the released guide's own fill.sh prints them over the translation 3f0068f707dc87ff… (all of the seat's roots in one cut). By AI agents, Wed Nov 11 2026. No macro, syntax, notation, axiom, sorry.
-/
import Derived.Test.YtmockbddhhmmeaaGreatChecked
import GoSem.Claim
import GoSem.ClaimJoined
import GoSem.ClaimMapViews
import Derived.JoinedTies
import Derived.KernelRfl
namespace Go.Proofs.YtmockbddhhmmeaaGreat
/- THE CELL 'sum', in the pinned program and in every row, IS THE sha256 OF THE DUMP (.gsa) THAT YtmockbddhhmmeaaGreatProg.lean LOADS. Nothing in Lean hashes anything: it is a label: what it is worth is what the hold of that sum in a sandbox is worth. -/
noncomputable def Tryz.pinned : Pinned := { name := "ytmockbddhhmmeaagreat", sum := "3f0068f707dc87ff047622868b0e354451bc603cc668c16b32a0bf6d19284084", checked := Tryz.checked }
namespace Rows
def none {H : Type} : Left H := { results := [], args := [] }

/-- 'regimentop.WholeStops': WHATEVER THE INPUT: true; the input reads as it did. -/
def wholeStopsSpec : ChangeSpec := { name := "wholeStops", fn := fun _ => fun
  | [d1, d2] => { results := [.lit (.bool true)], args := [d1, d2] }
  | _ => none }
def wholeStopsRow : OpenClaim := { program := "ytmockbddhhmmeaagreat", sum := "3f0068f707dc87ff047622868b0e354451bc603cc668c16b32a0bf6d19284084", func := "regimen/regimentop.WholeStops", spec := "wholeStops", inPlace := ["slices.overlaps[regimen/api.Kept]"], unfollowed := true, recurses := true, named := ["math/bits.divideError", "math/bits.overflowError"], apart := false }
def WholeStopsSaid : Prop := wholeStopsRow.holds Tryz.pinned (OpenSpec.ofChange wholeStopsSpec)

/-- ITS FALSE NEIGHBOUR: 'it returns false'. Refute it at one input. -/
def wholeStopsWrong : ChangeSpec := { name := "wholeStops", fn := fun _ => fun
  | [d1, d2] => { results := [.lit (.bool false)], args := [d1, d2] }
  | _ => none }
def WholeStopsWrongFalsely : Prop := wholeStopsRow.holds Tryz.pinned (OpenSpec.ofChange wholeStopsWrong)

/-- 'regimentop.WholeBest': WHATEVER THE INPUT: true; the input reads as it did. -/
def wholeBestSpec : ChangeSpec := { name := "wholeBest", fn := fun _ => fun
  | [d1, d2] => { results := [.lit (.bool true)], args := [d1, d2] }
  | _ => none }
def wholeBestRow : OpenClaim := { program := "ytmockbddhhmmeaagreat", sum := "3f0068f707dc87ff047622868b0e354451bc603cc668c16b32a0bf6d19284084", func := "regimen/regimentop.WholeBest", spec := "wholeBest", inPlace := ["slices.overlaps[regimen/api.Kept]"], unfollowed := true, recurses := true, named := ["math/bits.divideError", "math/bits.overflowError"], apart := false }
def WholeBestSaid : Prop := wholeBestRow.holds Tryz.pinned (OpenSpec.ofChange wholeBestSpec)

/-- ITS FALSE NEIGHBOUR: 'it returns false'. Refute it at one input. -/
def wholeBestWrong : ChangeSpec := { name := "wholeBest", fn := fun _ => fun
  | [d1, d2] => { results := [.lit (.bool false)], args := [d1, d2] }
  | _ => none }
def WholeBestWrongFalsely : Prop := wholeBestRow.holds Tryz.pinned (OpenSpec.ofChange wholeBestWrong)

/-- 'regimentop.WholeCuts': WHATEVER THE INPUT: true; the input reads as it did. -/
def wholeCutsSpec : ChangeSpec := { name := "wholeCuts", fn := fun _ => fun
  | [d1, d2] => { results := [.lit (.bool true)], args := [d1, d2] }
  | _ => none }
def wholeCutsRow : OpenClaim := { program := "ytmockbddhhmmeaagreat", sum := "3f0068f707dc87ff047622868b0e354451bc603cc668c16b32a0bf6d19284084", func := "regimen/regimentop.WholeCuts", spec := "wholeCuts", inPlace := ["slices.overlaps[regimen/api.Kept]"], unfollowed := true, recurses := true, named := ["math/bits.divideError", "math/bits.overflowError"], apart := false }
def WholeCutsSaid : Prop := wholeCutsRow.holds Tryz.pinned (OpenSpec.ofChange wholeCutsSpec)

/-- ITS FALSE NEIGHBOUR: 'it returns false'. Refute it at one input. -/
def wholeCutsWrong : ChangeSpec := { name := "wholeCuts", fn := fun _ => fun
  | [d1, d2] => { results := [.lit (.bool false)], args := [d1, d2] }
  | _ => none }
def WholeCutsWrongFalsely : Prop := wholeCutsRow.holds Tryz.pinned (OpenSpec.ofChange wholeCutsWrong)

/- THE SECOND FORM. 'bulk': how many values and letters a reading holds, each counted each time it is reached (what is shared counts as often as it is met; a slice's spare places count too). A statement '..UptoSaid' is the law's where the arguments, and the package variables that the reading takes, are together of bulk at most 1048576: NARROWER than '..Said'. Prove '..Said' where nothing that the law and all that it calls make is longer than what came in: it says more and counts as full. Else prove '..UptoSaid'. A law counts once. -/
mutual
def uptoBulk {H : Type} : DataW H → Nat
  | .lit (.string bytes) => bytes.length + 1
  | .lit _ => 1
  | .nil => 1
  | .ptr d => uptoBulk d + 1
  | .slice elems spare => uptoBulkAll elems + uptoBulkAll spare + 1
  | .agg parts => uptoBulkAll parts + 1
  | .iface _ d => uptoBulk d + 1
  | .map entries => uptoBulkEntries entries + 1
  | .held _ => 1
def uptoBulkAll {H : Type} : List (DataW H) → Nat
  | [] => 0
  | d :: r => uptoBulk d + uptoBulkAll r
def uptoBulkEntries {H : Type} : List (Lit × DataW H) → Nat
  | [] => 0
  | x :: r => uptoBulkEntry x + uptoBulkEntries r
def uptoBulkEntry {H : Type} : Lit × DataW H → Nat
  | (.string bytes, d) => bytes.length + uptoBulk d + 1
  | (_, d) => uptoBulk d + 1
 end
def uptoSmall : (H : Type) → List (DataW H) → Bool := fun _ ds => decide (uptoBulkAll ds ≤ 1048576)
def OpenSpec.upto (s : _root_.Go.ChangeSpec) : _root_.Go.OpenSpec := { _root_.Go.OpenSpec.ofChange s with cond := some uptoSmall }

/-- 'regimentop.WholeStops', WHERE WHAT IT READS IS OF BULK AT MOST 1048576: true; the input reads as it did. -/
def wholeStopsUptoRow : OpenClaim := { program := "ytmockbddhhmmeaagreat", sum := "3f0068f707dc87ff047622868b0e354451bc603cc668c16b32a0bf6d19284084", func := "regimen/regimentop.WholeStops", spec := "wholeStops", inPlace := ["slices.overlaps[regimen/api.Kept]"], unfollowed := true, recurses := true, named := ["math/bits.divideError", "math/bits.overflowError"], apart := false, narrowed := true }
def WholeStopsUptoSaid : Prop := wholeStopsUptoRow.holds Tryz.pinned (OpenSpec.upto wholeStopsSpec)

/-- 'regimentop.WholeBest', WHERE WHAT IT READS IS OF BULK AT MOST 1048576: true; the input reads as it did. -/
def wholeBestUptoRow : OpenClaim := { program := "ytmockbddhhmmeaagreat", sum := "3f0068f707dc87ff047622868b0e354451bc603cc668c16b32a0bf6d19284084", func := "regimen/regimentop.WholeBest", spec := "wholeBest", inPlace := ["slices.overlaps[regimen/api.Kept]"], unfollowed := true, recurses := true, named := ["math/bits.divideError", "math/bits.overflowError"], apart := false, narrowed := true }
def WholeBestUptoSaid : Prop := wholeBestUptoRow.holds Tryz.pinned (OpenSpec.upto wholeBestSpec)

/-- 'regimentop.WholeCuts', WHERE WHAT IT READS IS OF BULK AT MOST 1048576: true; the input reads as it did. -/
def wholeCutsUptoRow : OpenClaim := { program := "ytmockbddhhmmeaagreat", sum := "3f0068f707dc87ff047622868b0e354451bc603cc668c16b32a0bf6d19284084", func := "regimen/regimentop.WholeCuts", spec := "wholeCuts", inPlace := ["slices.overlaps[regimen/api.Kept]"], unfollowed := true, recurses := true, named := ["math/bits.divideError", "math/bits.overflowError"], apart := false, narrowed := true }
def WholeCutsUptoSaid : Prop := wholeCutsUptoRow.holds Tryz.pinned (OpenSpec.upto wholeCutsSpec)

end Rows
end Go.Proofs.YtmockbddhhmmeaaGreat

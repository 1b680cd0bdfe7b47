/-
  No cell of these rows narrows 'for every input' (looked for: loops, veiled, ifaces, maps, wideKeys, modest, calm, conditions, laid).
  DERIVED. THE GIVEN ROWS OF THIS SEAT. 6 by the template 'for every input the law returns true; each argument reads behind the call as it read before'; 0 by the template 'total and deterministic' (their statements: YtojaokhkbmiidaaGreatTotals.lean).
  GIVEN WITH THE SEED: the statements are not yours to turn. If you find one false, say at which input.
  Laid BY PROGRAM, IN A SANDBOX (cutbox-rows.mjs): the forced cells as the released guide's own fill.sh prints them over the translation 25369a4415924aed… (all of the seat's roots in one cut). By AI agents, Wed Nov 11 2026. No macro, syntax, notation, axiom, sorry.
-/
import Derived.Test.YtojaokhkbmiidaaGreatChecked
import GoSem.Claim
import GoSem.ClaimJoined
import GoSem.ClaimMapViews
import Derived.JoinedTies
import Derived.KernelRfl
namespace Go.Proofs.YtojaokhkbmiidaaGreat
/- THE CELL 'sum', in the pinned program and in every row, IS THE sha256 OF THE DUMP (.gsa) THAT YtojaokhkbmiidaaGreatProg.lean LOADS. Nothing in Lean hashes anything: it is a label: what it is worth is what the hold of that sum in a sandbox is worth. -/
noncomputable def Tryz.pinned : Pinned := { name := "ytojaokhkbmiidaagreat", sum := "25369a4415924aed44fa08e9ef60ed6c1218a5d7dd023222f56d68def6cce588", checked := Tryz.checked }
namespace Rows
def none {H : Type} : Left H := { results := [], args := [] }

/-- 'regimenlaw21.CheckOf': WHATEVER THE INPUT: true; the input reads as it did. -/
def checkOfSpec : ChangeSpec := { name := "checkOf", fn := fun _ => fun
  | [d] => { results := [.lit (.bool true)], args := [d] }
  | _ => none }
def checkOfRow : OpenClaim := { program := "ytojaokhkbmiidaagreat", sum := "25369a4415924aed44fa08e9ef60ed6c1218a5d7dd023222f56d68def6cce588", func := "regimen/regimenlaw21.CheckOf", spec := "checkOf", unfollowed := true, recurses := true, plainKeys := false, apart := false }
def CheckOfSaid : Prop := checkOfRow.holds Tryz.pinned (OpenSpec.ofChange checkOfSpec)

/-- ITS FALSE NEIGHBOUR: 'it returns false'. Refute it at one input. -/
def checkOfWrong : ChangeSpec := { name := "checkOf", fn := fun _ => fun
  | [d] => { results := [.lit (.bool false)], args := [d] }
  | _ => none }
def CheckOfWrongFalsely : Prop := checkOfRow.holds Tryz.pinned (OpenSpec.ofChange checkOfWrong)

/-- 'regimenlaw22.PhasesSpans': WHATEVER THE INPUT: true; the input reads as it did. -/
def phasesSpansSpec : ChangeSpec := { name := "phasesSpans", fn := fun _ => fun
  | [d1, d2] => { results := [.lit (.bool true)], args := [d1, d2] }
  | _ => none }
def phasesSpansRow : OpenClaim := { program := "ytojaokhkbmiidaagreat", sum := "25369a4415924aed44fa08e9ef60ed6c1218a5d7dd023222f56d68def6cce588", func := "regimen/regimenlaw22.PhasesSpans", spec := "phasesSpans", unfollowed := true, recurses := true, plainKeys := false, apart := false }
def PhasesSpansSaid : Prop := phasesSpansRow.holds Tryz.pinned (OpenSpec.ofChange phasesSpansSpec)

/-- ITS FALSE NEIGHBOUR: 'it returns false'. Refute it at one input. -/
def phasesSpansWrong : ChangeSpec := { name := "phasesSpans", fn := fun _ => fun
  | [d1, d2] => { results := [.lit (.bool false)], args := [d1, d2] }
  | _ => none }
def PhasesSpansWrongFalsely : Prop := phasesSpansRow.holds Tryz.pinned (OpenSpec.ofChange phasesSpansWrong)

/-- 'regimenlaw27.TimesAt': WHATEVER THE INPUT: true; the input reads as it did. -/
def timesAtSpec : ChangeSpec := { name := "timesAt", fn := fun _ => fun
  | [d1, d2] => { results := [.lit (.bool true)], args := [d1, d2] }
  | _ => none }
def timesAtRow : OpenClaim := { program := "ytojaokhkbmiidaagreat", sum := "25369a4415924aed44fa08e9ef60ed6c1218a5d7dd023222f56d68def6cce588", func := "regimen/regimenlaw27.TimesAt", spec := "timesAt", unfollowed := true, recurses := true, plainKeys := false, apart := false }
def TimesAtSaid : Prop := timesAtRow.holds Tryz.pinned (OpenSpec.ofChange timesAtSpec)

/-- ITS FALSE NEIGHBOUR: 'it returns false'. Refute it at one input. -/
def timesAtWrong : ChangeSpec := { name := "timesAt", fn := fun _ => fun
  | [d1, d2] => { results := [.lit (.bool false)], args := [d1, d2] }
  | _ => none }
def TimesAtWrongFalsely : Prop := timesAtRow.holds Tryz.pinned (OpenSpec.ofChange timesAtWrong)

/-- 'regimenlaw27.TimesAll': WHATEVER THE INPUT: true; the input reads as it did. -/
def timesAllSpec : ChangeSpec := { name := "timesAll", fn := fun _ => fun
  | [d1, d2] => { results := [.lit (.bool true)], args := [d1, d2] }
  | _ => none }
def timesAllRow : OpenClaim := { program := "ytojaokhkbmiidaagreat", sum := "25369a4415924aed44fa08e9ef60ed6c1218a5d7dd023222f56d68def6cce588", func := "regimen/regimenlaw27.TimesAll", spec := "timesAll", unfollowed := true, recurses := true, plainKeys := false, apart := false }
def TimesAllSaid : Prop := timesAllRow.holds Tryz.pinned (OpenSpec.ofChange timesAllSpec)

/-- ITS FALSE NEIGHBOUR: 'it returns false'. Refute it at one input. -/
def timesAllWrong : ChangeSpec := { name := "timesAll", fn := fun _ => fun
  | [d1, d2] => { results := [.lit (.bool false)], args := [d1, d2] }
  | _ => none }
def TimesAllWrongFalsely : Prop := timesAllRow.holds Tryz.pinned (OpenSpec.ofChange timesAllWrong)

/-- 'regimenlaw27.TimesTurns': WHATEVER THE INPUT: true; the input reads as it did. -/
def timesTurnsSpec : ChangeSpec := { name := "timesTurns", fn := fun _ => fun
  | [d] => { results := [.lit (.bool true)], args := [d] }
  | _ => none }
def timesTurnsRow : OpenClaim := { program := "ytojaokhkbmiidaagreat", sum := "25369a4415924aed44fa08e9ef60ed6c1218a5d7dd023222f56d68def6cce588", func := "regimen/regimenlaw27.TimesTurns", spec := "timesTurns", unfollowed := true, recurses := true, plainKeys := false, apart := false }
def TimesTurnsSaid : Prop := timesTurnsRow.holds Tryz.pinned (OpenSpec.ofChange timesTurnsSpec)

/-- ITS FALSE NEIGHBOUR: 'it returns false'. Refute it at one input. -/
def timesTurnsWrong : ChangeSpec := { name := "timesTurns", fn := fun _ => fun
  | [d] => { results := [.lit (.bool false)], args := [d] }
  | _ => none }
def TimesTurnsWrongFalsely : Prop := timesTurnsRow.holds Tryz.pinned (OpenSpec.ofChange timesTurnsWrong)

/-- 'regimenlaw55.LintOf': WHATEVER THE INPUT: true; the input reads as it did. -/
def lintOfSpec : ChangeSpec := { name := "lintOf", fn := fun _ => fun
  | [d1, d2] => { results := [.lit (.bool true)], args := [d1, d2] }
  | _ => none }
def lintOfRow : OpenClaim := { program := "ytojaokhkbmiidaagreat", sum := "25369a4415924aed44fa08e9ef60ed6c1218a5d7dd023222f56d68def6cce588", func := "regimen/regimenlaw55.LintOf", spec := "lintOf", unfollowed := true, recurses := true, plainKeys := false, apart := false }
def LintOfSaid : Prop := lintOfRow.holds Tryz.pinned (OpenSpec.ofChange lintOfSpec)

/-- ITS FALSE NEIGHBOUR: 'it returns false'. Refute it at one input. -/
def lintOfWrong : ChangeSpec := { name := "lintOf", fn := fun _ => fun
  | [d1, d2] => { results := [.lit (.bool false)], args := [d1, d2] }
  | _ => none }
def LintOfWrongFalsely : Prop := lintOfRow.holds Tryz.pinned (OpenSpec.ofChange lintOfWrong)

/- THE SECOND FORM. 'bulk': how many values and letters a reading holds, each counted each time it is reached (what is shared counts as often as it is met; a slice's spare places count too). A statement '..UptoSaid' is the law's where the arguments, and the package variables that the reading takes, are together of bulk at most 1048576: NARROWER than '..Said'. Prove '..Said' where nothing that the law and all that it calls make is longer than what came in: it says more and counts as full. Else prove '..UptoSaid'. A law counts once. -/
mutual
def uptoBulk {H : Type} : DataW H → Nat
  | .lit (.string bytes) => bytes.length + 1
  | .lit _ => 1
  | .nil => 1
  | .ptr d => uptoBulk d + 1
  | .slice elems spare => uptoBulkAll elems + uptoBulkAll spare + 1
  | .agg parts => uptoBulkAll parts + 1
  | .iface _ d => uptoBulk d + 1
  | .map entries => uptoBulkEntries entries + 1
  | .held _ => 1
def uptoBulkAll {H : Type} : List (DataW H) → Nat
  | [] => 0
  | d :: r => uptoBulk d + uptoBulkAll r
def uptoBulkEntries {H : Type} : List (Lit × DataW H) → Nat
  | [] => 0
  | x :: r => uptoBulkEntry x + uptoBulkEntries r
def uptoBulkEntry {H : Type} : Lit × DataW H → Nat
  | (.string bytes, d) => bytes.length + uptoBulk d + 1
  | (_, d) => uptoBulk d + 1
 end
def uptoSmall : (H : Type) → List (DataW H) → Bool := fun _ ds => decide (uptoBulkAll ds ≤ 1048576)
def OpenSpec.upto (s : _root_.Go.ChangeSpec) : _root_.Go.OpenSpec := { _root_.Go.OpenSpec.ofChange s with cond := some uptoSmall }

/-- 'regimenlaw21.CheckOf', WHERE WHAT IT READS IS OF BULK AT MOST 1048576: true; the input reads as it did. -/
def checkOfUptoRow : OpenClaim := { program := "ytojaokhkbmiidaagreat", sum := "25369a4415924aed44fa08e9ef60ed6c1218a5d7dd023222f56d68def6cce588", func := "regimen/regimenlaw21.CheckOf", spec := "checkOf", unfollowed := true, recurses := true, plainKeys := false, apart := false, narrowed := true }
def CheckOfUptoSaid : Prop := checkOfUptoRow.holds Tryz.pinned (OpenSpec.upto checkOfSpec)

/-- 'regimenlaw22.PhasesSpans', WHERE WHAT IT READS IS OF BULK AT MOST 1048576: true; the input reads as it did. -/
def phasesSpansUptoRow : OpenClaim := { program := "ytojaokhkbmiidaagreat", sum := "25369a4415924aed44fa08e9ef60ed6c1218a5d7dd023222f56d68def6cce588", func := "regimen/regimenlaw22.PhasesSpans", spec := "phasesSpans", unfollowed := true, recurses := true, plainKeys := false, apart := false, narrowed := true }
def PhasesSpansUptoSaid : Prop := phasesSpansUptoRow.holds Tryz.pinned (OpenSpec.upto phasesSpansSpec)

/-- 'regimenlaw27.TimesAt', WHERE WHAT IT READS IS OF BULK AT MOST 1048576: true; the input reads as it did. -/
def timesAtUptoRow : OpenClaim := { program := "ytojaokhkbmiidaagreat", sum := "25369a4415924aed44fa08e9ef60ed6c1218a5d7dd023222f56d68def6cce588", func := "regimen/regimenlaw27.TimesAt", spec := "timesAt", unfollowed := true, recurses := true, plainKeys := false, apart := false, narrowed := true }
def TimesAtUptoSaid : Prop := timesAtUptoRow.holds Tryz.pinned (OpenSpec.upto timesAtSpec)

/-- 'regimenlaw27.TimesAll', WHERE WHAT IT READS IS OF BULK AT MOST 1048576: true; the input reads as it did. -/
def timesAllUptoRow : OpenClaim := { program := "ytojaokhkbmiidaagreat", sum := "25369a4415924aed44fa08e9ef60ed6c1218a5d7dd023222f56d68def6cce588", func := "regimen/regimenlaw27.TimesAll", spec := "timesAll", unfollowed := true, recurses := true, plainKeys := false, apart := false, narrowed := true }
def TimesAllUptoSaid : Prop := timesAllUptoRow.holds Tryz.pinned (OpenSpec.upto timesAllSpec)

/-- 'regimenlaw27.TimesTurns', WHERE WHAT IT READS IS OF BULK AT MOST 1048576: true; the input reads as it did. -/
def timesTurnsUptoRow : OpenClaim := { program := "ytojaokhkbmiidaagreat", sum := "25369a4415924aed44fa08e9ef60ed6c1218a5d7dd023222f56d68def6cce588", func := "regimen/regimenlaw27.TimesTurns", spec := "timesTurns", unfollowed := true, recurses := true, plainKeys := false, apart := false, narrowed := true }
def TimesTurnsUptoSaid : Prop := timesTurnsUptoRow.holds Tryz.pinned (OpenSpec.upto timesTurnsSpec)

/-- 'regimenlaw55.LintOf', WHERE WHAT IT READS IS OF BULK AT MOST 1048576: true; the input reads as it did. -/
def lintOfUptoRow : OpenClaim := { program := "ytojaokhkbmiidaagreat", sum := "25369a4415924aed44fa08e9ef60ed6c1218a5d7dd023222f56d68def6cce588", func := "regimen/regimenlaw55.LintOf", spec := "lintOf", unfollowed := true, recurses := true, plainKeys := false, apart := false, narrowed := true }
def LintOfUptoSaid : Prop := lintOfUptoRow.holds Tryz.pinned (OpenSpec.upto lintOfSpec)

end Rows
end Go.Proofs.YtojaokhkbmiidaaGreat

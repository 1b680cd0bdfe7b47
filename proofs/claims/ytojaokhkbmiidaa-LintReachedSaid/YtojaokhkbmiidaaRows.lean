/-
  No cell of these rows narrows 'for every input' (looked for: loops, veiled, ifaces, maps, wideKeys, modest, calm, conditions, laid).
  DERIVED. THE GIVEN ROWS OF THIS SEAT. 6 by the template 'for every input the law returns true; each argument reads behind the call as it read before'; 0 by the template 'total and deterministic' (their statements: YtojaokhkbmiidaaTotals.lean).
  GIVEN WITH THE SEED: the statements are not yours to turn. If you find one false, say at which input.
  Laid BY PROGRAM, IN A SANDBOX (cutbox-rows.mjs): the forced cells as the released guide's own fill.sh prints them over the translation 23fe733fb0d28e95… (all of the seat's roots in one cut). By AI agents, Wed Nov 11 2026. No macro, syntax, notation, axiom, sorry.
-/
import Derived.Test.YtojaokhkbmiidaaChecked
import GoSem.Claim
import GoSem.ClaimJoined
import GoSem.ClaimMapViews
import Derived.JoinedTies
import Derived.KernelRfl
namespace Go.Proofs.Ytojaokhkbmiidaa
/- THE CELL 'sum', in the pinned program and in every row, IS THE sha256 OF THE DUMP (.gsa) THAT YtojaokhkbmiidaaProg.lean LOADS. Nothing in Lean hashes anything: it is a label: what it is worth is what the hold of that sum in a sandbox is worth. -/
noncomputable def Try.pinned : Pinned := { name := "ytojaokhkbmiidaa", sum := "23fe733fb0d28e956dfa73456210ec9e58b3dd9b496e38cabe6fc6efd6456b71", checked := Try.checked }
namespace Rows
def none {H : Type} : Left H := { results := [], args := [] }

/-- 'regimenlaw15.TreeEnds': WHATEVER THE INPUT: true; the input reads as it did. -/
def treeEndsSpec : ChangeSpec := { name := "treeEnds", fn := fun _ => fun
  | [d1, d2, d3] => { results := [.lit (.bool true)], args := [d1, d2, d3] }
  | _ => none }
def treeEndsRow : OpenClaim := { program := "ytojaokhkbmiidaa", sum := "23fe733fb0d28e956dfa73456210ec9e58b3dd9b496e38cabe6fc6efd6456b71", func := "regimen/regimenlaw15.TreeEnds", spec := "treeEnds", unfollowed := true, recurses := true, plainKeys := false, apart := false }
def TreeEndsSaid : Prop := treeEndsRow.holds Try.pinned (OpenSpec.ofChange treeEndsSpec)

/-- ITS FALSE NEIGHBOUR: 'it returns false'. Refute it at one input. -/
def treeEndsWrong : ChangeSpec := { name := "treeEnds", fn := fun _ => fun
  | [d1, d2, d3] => { results := [.lit (.bool false)], args := [d1, d2, d3] }
  | _ => none }
def TreeEndsWrongFalsely : Prop := treeEndsRow.holds Try.pinned (OpenSpec.ofChange treeEndsWrong)

/-- 'regimenlaw15.TreeChecks': WHATEVER THE INPUT: true; the input reads as it did. -/
def treeChecksSpec : ChangeSpec := { name := "treeChecks", fn := fun _ => fun
  | [d] => { results := [.lit (.bool true)], args := [d] }
  | _ => none }
def treeChecksRow : OpenClaim := { program := "ytojaokhkbmiidaa", sum := "23fe733fb0d28e956dfa73456210ec9e58b3dd9b496e38cabe6fc6efd6456b71", func := "regimen/regimenlaw15.TreeChecks", spec := "treeChecks", unfollowed := true, recurses := true, plainKeys := false, apart := false }
def TreeChecksSaid : Prop := treeChecksRow.holds Try.pinned (OpenSpec.ofChange treeChecksSpec)

/-- ITS FALSE NEIGHBOUR: 'it returns false'. Refute it at one input. -/
def treeChecksWrong : ChangeSpec := { name := "treeChecks", fn := fun _ => fun
  | [d] => { results := [.lit (.bool false)], args := [d] }
  | _ => none }
def TreeChecksWrongFalsely : Prop := treeChecksRow.holds Try.pinned (OpenSpec.ofChange treeChecksWrong)

/-- 'regimenlaw15.TreeParts': WHATEVER THE INPUT: true; the input reads as it did. -/
def treePartsSpec : ChangeSpec := { name := "treeParts", fn := fun _ => fun
  | [d] => { results := [.lit (.bool true)], args := [d] }
  | _ => none }
def treePartsRow : OpenClaim := { program := "ytojaokhkbmiidaa", sum := "23fe733fb0d28e956dfa73456210ec9e58b3dd9b496e38cabe6fc6efd6456b71", func := "regimen/regimenlaw15.TreeParts", spec := "treeParts", unfollowed := true, recurses := true, plainKeys := false, apart := false }
def TreePartsSaid : Prop := treePartsRow.holds Try.pinned (OpenSpec.ofChange treePartsSpec)

/-- ITS FALSE NEIGHBOUR: 'it returns false'. Refute it at one input. -/
def treePartsWrong : ChangeSpec := { name := "treeParts", fn := fun _ => fun
  | [d] => { results := [.lit (.bool false)], args := [d] }
  | _ => none }
def TreePartsWrongFalsely : Prop := treePartsRow.holds Try.pinned (OpenSpec.ofChange treePartsWrong)

/-- 'regimenlaw21.CheckLines': WHATEVER THE INPUT: true; the input reads as it did. -/
def checkLinesSpec : ChangeSpec := { name := "checkLines", fn := fun _ => fun
  | [d1, d2] => { results := [.lit (.bool true)], args := [d1, d2] }
  | _ => none }
def checkLinesRow : OpenClaim := { program := "ytojaokhkbmiidaa", sum := "23fe733fb0d28e956dfa73456210ec9e58b3dd9b496e38cabe6fc6efd6456b71", func := "regimen/regimenlaw21.CheckLines", spec := "checkLines", unfollowed := true, recurses := true, plainKeys := false, apart := false }
def CheckLinesSaid : Prop := checkLinesRow.holds Try.pinned (OpenSpec.ofChange checkLinesSpec)

/-- ITS FALSE NEIGHBOUR: 'it returns false'. Refute it at one input. -/
def checkLinesWrong : ChangeSpec := { name := "checkLines", fn := fun _ => fun
  | [d1, d2] => { results := [.lit (.bool false)], args := [d1, d2] }
  | _ => none }
def CheckLinesWrongFalsely : Prop := checkLinesRow.holds Try.pinned (OpenSpec.ofChange checkLinesWrong)

/-- 'regimenlaw22.PhasesAt': WHATEVER THE INPUT: true; the input reads as it did. -/
def phasesAtSpec : ChangeSpec := { name := "phasesAt", fn := fun _ => fun
  | [d1, d2] => { results := [.lit (.bool true)], args := [d1, d2] }
  | _ => none }
def phasesAtRow : OpenClaim := { program := "ytojaokhkbmiidaa", sum := "23fe733fb0d28e956dfa73456210ec9e58b3dd9b496e38cabe6fc6efd6456b71", func := "regimen/regimenlaw22.PhasesAt", spec := "phasesAt", unfollowed := true, recurses := true, plainKeys := false, apart := false }
def PhasesAtSaid : Prop := phasesAtRow.holds Try.pinned (OpenSpec.ofChange phasesAtSpec)

/-- ITS FALSE NEIGHBOUR: 'it returns false'. Refute it at one input. -/
def phasesAtWrong : ChangeSpec := { name := "phasesAt", fn := fun _ => fun
  | [d1, d2] => { results := [.lit (.bool false)], args := [d1, d2] }
  | _ => none }
def PhasesAtWrongFalsely : Prop := phasesAtRow.holds Try.pinned (OpenSpec.ofChange phasesAtWrong)

/-- 'regimenlaw55.LintReached': WHATEVER THE INPUT: true; the input reads as it did. -/
def lintReachedSpec : ChangeSpec := { name := "lintReached", fn := fun _ => fun
  | [d1, d2, d3] => { results := [.lit (.bool true)], args := [d1, d2, d3] }
  | _ => none }
def lintReachedRow : OpenClaim := { program := "ytojaokhkbmiidaa", sum := "23fe733fb0d28e956dfa73456210ec9e58b3dd9b496e38cabe6fc6efd6456b71", func := "regimen/regimenlaw55.LintReached", spec := "lintReached", unfollowed := true, recurses := true, plainKeys := false, apart := false }
def LintReachedSaid : Prop := lintReachedRow.holds Try.pinned (OpenSpec.ofChange lintReachedSpec)

/-- ITS FALSE NEIGHBOUR: 'it returns false'. Refute it at one input. -/
def lintReachedWrong : ChangeSpec := { name := "lintReached", fn := fun _ => fun
  | [d1, d2, d3] => { results := [.lit (.bool false)], args := [d1, d2, d3] }
  | _ => none }
def LintReachedWrongFalsely : Prop := lintReachedRow.holds Try.pinned (OpenSpec.ofChange lintReachedWrong)

/- THE SECOND FORM. 'bulk': how many values and letters a reading holds, each counted each time it is reached (what is shared counts as often as it is met; a slice's spare places count too). A statement '..UptoSaid' is the law's where the arguments, and the package variables that the reading takes, are together of bulk at most 1048576: NARROWER than '..Said'. Prove '..Said' where nothing that the law and all that it calls make is longer than what came in: it says more and counts as full. Else prove '..UptoSaid'. A law counts once. -/
mutual
def uptoBulk {H : Type} : DataW H → Nat
  | .lit (.string bytes) => bytes.length + 1
  | .lit _ => 1
  | .nil => 1
  | .ptr d => uptoBulk d + 1
  | .slice elems spare => uptoBulkAll elems + uptoBulkAll spare + 1
  | .agg parts => uptoBulkAll parts + 1
  | .iface _ d => uptoBulk d + 1
  | .map entries => uptoBulkEntries entries + 1
  | .held _ => 1
def uptoBulkAll {H : Type} : List (DataW H) → Nat
  | [] => 0
  | d :: r => uptoBulk d + uptoBulkAll r
def uptoBulkEntries {H : Type} : List (Lit × DataW H) → Nat
  | [] => 0
  | x :: r => uptoBulkEntry x + uptoBulkEntries r
def uptoBulkEntry {H : Type} : Lit × DataW H → Nat
  | (.string bytes, d) => bytes.length + uptoBulk d + 1
  | (_, d) => uptoBulk d + 1
 end
def uptoSmall : (H : Type) → List (DataW H) → Bool := fun _ ds => decide (uptoBulkAll ds ≤ 1048576)
def OpenSpec.upto (s : _root_.Go.ChangeSpec) : _root_.Go.OpenSpec := { _root_.Go.OpenSpec.ofChange s with cond := some uptoSmall }

/-- 'regimenlaw15.TreeEnds', WHERE WHAT IT READS IS OF BULK AT MOST 1048576: true; the input reads as it did. -/
def treeEndsUptoRow : OpenClaim := { program := "ytojaokhkbmiidaa", sum := "23fe733fb0d28e956dfa73456210ec9e58b3dd9b496e38cabe6fc6efd6456b71", func := "regimen/regimenlaw15.TreeEnds", spec := "treeEnds", unfollowed := true, recurses := true, plainKeys := false, apart := false, narrowed := true }
def TreeEndsUptoSaid : Prop := treeEndsUptoRow.holds Try.pinned (OpenSpec.upto treeEndsSpec)

/-- 'regimenlaw15.TreeChecks', WHERE WHAT IT READS IS OF BULK AT MOST 1048576: true; the input reads as it did. -/
def treeChecksUptoRow : OpenClaim := { program := "ytojaokhkbmiidaa", sum := "23fe733fb0d28e956dfa73456210ec9e58b3dd9b496e38cabe6fc6efd6456b71", func := "regimen/regimenlaw15.TreeChecks", spec := "treeChecks", unfollowed := true, recurses := true, plainKeys := false, apart := false, narrowed := true }
def TreeChecksUptoSaid : Prop := treeChecksUptoRow.holds Try.pinned (OpenSpec.upto treeChecksSpec)

/-- 'regimenlaw15.TreeParts', WHERE WHAT IT READS IS OF BULK AT MOST 1048576: true; the input reads as it did. -/
def treePartsUptoRow : OpenClaim := { program := "ytojaokhkbmiidaa", sum := "23fe733fb0d28e956dfa73456210ec9e58b3dd9b496e38cabe6fc6efd6456b71", func := "regimen/regimenlaw15.TreeParts", spec := "treeParts", unfollowed := true, recurses := true, plainKeys := false, apart := false, narrowed := true }
def TreePartsUptoSaid : Prop := treePartsUptoRow.holds Try.pinned (OpenSpec.upto treePartsSpec)

/-- 'regimenlaw21.CheckLines', WHERE WHAT IT READS IS OF BULK AT MOST 1048576: true; the input reads as it did. -/
def checkLinesUptoRow : OpenClaim := { program := "ytojaokhkbmiidaa", sum := "23fe733fb0d28e956dfa73456210ec9e58b3dd9b496e38cabe6fc6efd6456b71", func := "regimen/regimenlaw21.CheckLines", spec := "checkLines", unfollowed := true, recurses := true, plainKeys := false, apart := false, narrowed := true }
def CheckLinesUptoSaid : Prop := checkLinesUptoRow.holds Try.pinned (OpenSpec.upto checkLinesSpec)

/-- 'regimenlaw22.PhasesAt', WHERE WHAT IT READS IS OF BULK AT MOST 1048576: true; the input reads as it did. -/
def phasesAtUptoRow : OpenClaim := { program := "ytojaokhkbmiidaa", sum := "23fe733fb0d28e956dfa73456210ec9e58b3dd9b496e38cabe6fc6efd6456b71", func := "regimen/regimenlaw22.PhasesAt", spec := "phasesAt", unfollowed := true, recurses := true, plainKeys := false, apart := false, narrowed := true }
def PhasesAtUptoSaid : Prop := phasesAtUptoRow.holds Try.pinned (OpenSpec.upto phasesAtSpec)

/-- 'regimenlaw55.LintReached', WHERE WHAT IT READS IS OF BULK AT MOST 1048576: true; the input reads as it did. -/
def lintReachedUptoRow : OpenClaim := { program := "ytojaokhkbmiidaa", sum := "23fe733fb0d28e956dfa73456210ec9e58b3dd9b496e38cabe6fc6efd6456b71", func := "regimen/regimenlaw55.LintReached", spec := "lintReached", unfollowed := true, recurses := true, plainKeys := false, apart := false, narrowed := true }
def LintReachedUptoSaid : Prop := lintReachedUptoRow.holds Try.pinned (OpenSpec.upto lintReachedSpec)

end Rows
end Go.Proofs.Ytojaokhkbmiidaa

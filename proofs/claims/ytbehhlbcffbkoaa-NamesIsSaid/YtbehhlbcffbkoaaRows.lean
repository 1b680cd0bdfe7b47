/-
  No cell of these rows narrows 'for every input' (looked for: loops, veiled, ifaces, maps, wideKeys, modest, calm, conditions, laid).
  DERIVED. THE GIVEN ROWS OF THIS SEAT. 13 by the template 'for every input the law returns true; each argument reads behind the call as it read before'; 0 by the template 'total and deterministic' (their statements: YtbehhlbcffbkoaaTotals.lean).
  GIVEN WITH THE SEED: the statements are not yours to turn. If you find one false, say at which input.
  Laid BY PROGRAM, IN A SANDBOX (cutbox-rows.mjs): the forced cells as the released guide's own fill.sh prints them over the translation 2e1139d8cc6d2a43… (all of the seat's roots in one cut). By AI agents, Wed Nov 11 2026. No macro, syntax, notation, axiom, sorry.
-/
import Derived.Test.YtbehhlbcffbkoaaChecked
import GoSem.Claim
import GoSem.ClaimJoined
import GoSem.ClaimMapViews
import Derived.JoinedTies
import Derived.KernelRfl
namespace Go.Proofs.Ytbehhlbcffbkoaa
/- THE CELL 'sum', in the pinned program and in every row, IS THE sha256 OF THE DUMP (.gsa) THAT YtbehhlbcffbkoaaProg.lean LOADS. Nothing in Lean hashes anything: it is a label: what it is worth is what the hold of that sum in a sandbox is worth. -/
noncomputable def Try.pinned : Pinned := { name := "ytbehhlbcffbkoaa", sum := "2e1139d8cc6d2a436a79445dca959566b267d98576cee164784be56229980e85", checked := Try.checked }
namespace Rows
def none {H : Type} : Left H := { results := [], args := [] }

/-- 'regimenlaw47.SealSums': WHATEVER THE INPUT: true; the input reads as it did. -/
def sealSumsSpec : ChangeSpec := { name := "sealSums", fn := fun _ => fun
  | [d] => { results := [.lit (.bool true)], args := [d] }
  | _ => none }
def sealSumsRow : OpenClaim := { program := "ytbehhlbcffbkoaa", sum := "2e1139d8cc6d2a436a79445dca959566b267d98576cee164784be56229980e85", func := "regimen/regimenlaw47.SealSums", spec := "sealSums", plainKeys := false, apart := false }
def SealSumsSaid : Prop := sealSumsRow.holds Try.pinned (OpenSpec.ofChange sealSumsSpec)

/-- ITS FALSE NEIGHBOUR: 'it returns false'. Refute it at one input. -/
def sealSumsWrong : ChangeSpec := { name := "sealSums", fn := fun _ => fun
  | [d] => { results := [.lit (.bool false)], args := [d] }
  | _ => none }
def SealSumsWrongFalsely : Prop := sealSumsRow.holds Try.pinned (OpenSpec.ofChange sealSumsWrong)

/-- 'regimenlaw47.SealOpens': WHATEVER THE INPUT: true; the input reads as it did. -/
def sealOpensSpec : ChangeSpec := { name := "sealOpens", fn := fun _ => fun
  | [d] => { results := [.lit (.bool true)], args := [d] }
  | _ => none }
def sealOpensRow : OpenClaim := { program := "ytbehhlbcffbkoaa", sum := "2e1139d8cc6d2a436a79445dca959566b267d98576cee164784be56229980e85", func := "regimen/regimenlaw47.SealOpens", spec := "sealOpens", plainKeys := false, apart := false }
def SealOpensSaid : Prop := sealOpensRow.holds Try.pinned (OpenSpec.ofChange sealOpensSpec)

/-- ITS FALSE NEIGHBOUR: 'it returns false'. Refute it at one input. -/
def sealOpensWrong : ChangeSpec := { name := "sealOpens", fn := fun _ => fun
  | [d] => { results := [.lit (.bool false)], args := [d] }
  | _ => none }
def SealOpensWrongFalsely : Prop := sealOpensRow.holds Try.pinned (OpenSpec.ofChange sealOpensWrong)

/-- 'regimenlaw47.SealJoins': WHATEVER THE INPUT: true; the input reads as it did. -/
def sealJoinsSpec : ChangeSpec := { name := "sealJoins", fn := fun _ => fun
  | [d1, d2, d3] => { results := [.lit (.bool true)], args := [d1, d2, d3] }
  | _ => none }
def sealJoinsRow : OpenClaim := { program := "ytbehhlbcffbkoaa", sum := "2e1139d8cc6d2a436a79445dca959566b267d98576cee164784be56229980e85", func := "regimen/regimenlaw47.SealJoins", spec := "sealJoins", plainKeys := false, apart := false }
def SealJoinsSaid : Prop := sealJoinsRow.holds Try.pinned (OpenSpec.ofChange sealJoinsSpec)

/-- ITS FALSE NEIGHBOUR: 'it returns false'. Refute it at one input. -/
def sealJoinsWrong : ChangeSpec := { name := "sealJoins", fn := fun _ => fun
  | [d1, d2, d3] => { results := [.lit (.bool false)], args := [d1, d2, d3] }
  | _ => none }
def SealJoinsWrongFalsely : Prop := sealJoinsRow.holds Try.pinned (OpenSpec.ofChange sealJoinsWrong)

/-- 'regimenlaw23.CycleFinds': WHATEVER THE INPUT: true; the input reads as it did. -/
def cycleFindsSpec : ChangeSpec := { name := "cycleFinds", fn := fun _ => fun
  | [d1, d2, d3] => { results := [.lit (.bool true)], args := [d1, d2, d3] }
  | _ => none }
def cycleFindsRow : OpenClaim := { program := "ytbehhlbcffbkoaa", sum := "2e1139d8cc6d2a436a79445dca959566b267d98576cee164784be56229980e85", func := "regimen/regimenlaw23.CycleFinds", spec := "cycleFinds", plainKeys := false, apart := false }
def CycleFindsSaid : Prop := cycleFindsRow.holds Try.pinned (OpenSpec.ofChange cycleFindsSpec)

/-- ITS FALSE NEIGHBOUR: 'it returns false'. Refute it at one input. -/
def cycleFindsWrong : ChangeSpec := { name := "cycleFinds", fn := fun _ => fun
  | [d1, d2, d3] => { results := [.lit (.bool false)], args := [d1, d2, d3] }
  | _ => none }
def CycleFindsWrongFalsely : Prop := cycleFindsRow.holds Try.pinned (OpenSpec.ofChange cycleFindsWrong)

/-- 'regimenlaw40.BytesPuts': WHATEVER THE INPUT: true; the input reads as it did. -/
def bytesPutsSpec : ChangeSpec := { name := "bytesPuts", fn := fun _ => fun
  | [d1, d2, d3] => { results := [.lit (.bool true)], args := [d1, d2, d3] }
  | _ => none }
def bytesPutsRow : OpenClaim := { program := "ytbehhlbcffbkoaa", sum := "2e1139d8cc6d2a436a79445dca959566b267d98576cee164784be56229980e85", func := "regimen/regimenlaw40.BytesPuts", spec := "bytesPuts", plainKeys := false, apart := false }
def BytesPutsSaid : Prop := bytesPutsRow.holds Try.pinned (OpenSpec.ofChange bytesPutsSpec)

/-- ITS FALSE NEIGHBOUR: 'it returns false'. Refute it at one input. -/
def bytesPutsWrong : ChangeSpec := { name := "bytesPuts", fn := fun _ => fun
  | [d1, d2, d3] => { results := [.lit (.bool false)], args := [d1, d2, d3] }
  | _ => none }
def BytesPutsWrongFalsely : Prop := bytesPutsRow.holds Try.pinned (OpenSpec.ofChange bytesPutsWrong)

/-- 'regimenlaw40.BytesGets': WHATEVER THE INPUT: true; the input reads as it did. -/
def bytesGetsSpec : ChangeSpec := { name := "bytesGets", fn := fun _ => fun
  | [d1, d2] => { results := [.lit (.bool true)], args := [d1, d2] }
  | _ => none }
def bytesGetsRow : OpenClaim := { program := "ytbehhlbcffbkoaa", sum := "2e1139d8cc6d2a436a79445dca959566b267d98576cee164784be56229980e85", func := "regimen/regimenlaw40.BytesGets", spec := "bytesGets", plainKeys := false, apart := false }
def BytesGetsSaid : Prop := bytesGetsRow.holds Try.pinned (OpenSpec.ofChange bytesGetsSpec)

/-- ITS FALSE NEIGHBOUR: 'it returns false'. Refute it at one input. -/
def bytesGetsWrong : ChangeSpec := { name := "bytesGets", fn := fun _ => fun
  | [d1, d2] => { results := [.lit (.bool false)], args := [d1, d2] }
  | _ => none }
def BytesGetsWrongFalsely : Prop := bytesGetsRow.holds Try.pinned (OpenSpec.ofChange bytesGetsWrong)

/-- 'regimenlaw23.CycleParts': WHATEVER THE INPUT: true; the input reads as it did. -/
def cyclePartsSpec : ChangeSpec := { name := "cycleParts", fn := fun _ => fun
  | [d1, d2, d3] => { results := [.lit (.bool true)], args := [d1, d2, d3] }
  | _ => none }
def cyclePartsRow : OpenClaim := { program := "ytbehhlbcffbkoaa", sum := "2e1139d8cc6d2a436a79445dca959566b267d98576cee164784be56229980e85", func := "regimen/regimenlaw23.CycleParts", spec := "cycleParts", plainKeys := false, apart := false }
def CyclePartsSaid : Prop := cyclePartsRow.holds Try.pinned (OpenSpec.ofChange cyclePartsSpec)

/-- ITS FALSE NEIGHBOUR: 'it returns false'. Refute it at one input. -/
def cyclePartsWrong : ChangeSpec := { name := "cycleParts", fn := fun _ => fun
  | [d1, d2, d3] => { results := [.lit (.bool false)], args := [d1, d2, d3] }
  | _ => none }
def CyclePartsWrongFalsely : Prop := cyclePartsRow.holds Try.pinned (OpenSpec.ofChange cyclePartsWrong)

/-- 'regimenlaw23.CycleSpans': WHATEVER THE INPUT: true; the input reads as it did. -/
def cycleSpansSpec : ChangeSpec := { name := "cycleSpans", fn := fun _ => fun
  | [d1, d2, d3] => { results := [.lit (.bool true)], args := [d1, d2, d3] }
  | _ => none }
def cycleSpansRow : OpenClaim := { program := "ytbehhlbcffbkoaa", sum := "2e1139d8cc6d2a436a79445dca959566b267d98576cee164784be56229980e85", func := "regimen/regimenlaw23.CycleSpans", spec := "cycleSpans", plainKeys := false, apart := false }
def CycleSpansSaid : Prop := cycleSpansRow.holds Try.pinned (OpenSpec.ofChange cycleSpansSpec)

/-- ITS FALSE NEIGHBOUR: 'it returns false'. Refute it at one input. -/
def cycleSpansWrong : ChangeSpec := { name := "cycleSpans", fn := fun _ => fun
  | [d1, d2, d3] => { results := [.lit (.bool false)], args := [d1, d2, d3] }
  | _ => none }
def CycleSpansWrongFalsely : Prop := cycleSpansRow.holds Try.pinned (OpenSpec.ofChange cycleSpansWrong)

/-- 'regimenlaw40.BytesReads': WHATEVER THE INPUT: true; the input reads as it did. -/
def bytesReadsSpec : ChangeSpec := { name := "bytesReads", fn := fun _ => fun
  | [d1, d2, d3] => { results := [.lit (.bool true)], args := [d1, d2, d3] }
  | _ => none }
def bytesReadsRow : OpenClaim := { program := "ytbehhlbcffbkoaa", sum := "2e1139d8cc6d2a436a79445dca959566b267d98576cee164784be56229980e85", func := "regimen/regimenlaw40.BytesReads", spec := "bytesReads", plainKeys := false, apart := false }
def BytesReadsSaid : Prop := bytesReadsRow.holds Try.pinned (OpenSpec.ofChange bytesReadsSpec)

/-- ITS FALSE NEIGHBOUR: 'it returns false'. Refute it at one input. -/
def bytesReadsWrong : ChangeSpec := { name := "bytesReads", fn := fun _ => fun
  | [d1, d2, d3] => { results := [.lit (.bool false)], args := [d1, d2, d3] }
  | _ => none }
def BytesReadsWrongFalsely : Prop := bytesReadsRow.holds Try.pinned (OpenSpec.ofChange bytesReadsWrong)

/-- 'regimenlaw10.NamesIs': WHATEVER THE INPUT: true; the input reads as it did. -/
def namesIsSpec : ChangeSpec := { name := "namesIs", fn := fun _ => fun
  | [d] => { results := [.lit (.bool true)], args := [d] }
  | _ => none }
def namesIsRow : OpenClaim := { program := "ytbehhlbcffbkoaa", sum := "2e1139d8cc6d2a436a79445dca959566b267d98576cee164784be56229980e85", func := "regimen/regimenlaw10.NamesIs", spec := "namesIs", unfollowed := true, recurses := true, plainKeys := false, apart := false }
def NamesIsSaid : Prop := namesIsRow.holds Try.pinned (OpenSpec.ofChange namesIsSpec)

/-- ITS FALSE NEIGHBOUR: 'it returns false'. Refute it at one input. -/
def namesIsWrong : ChangeSpec := { name := "namesIs", fn := fun _ => fun
  | [d] => { results := [.lit (.bool false)], args := [d] }
  | _ => none }
def NamesIsWrongFalsely : Prop := namesIsRow.holds Try.pinned (OpenSpec.ofChange namesIsWrong)

/-- 'regimenlaw10.NamesCheck': WHATEVER THE INPUT: true; the input reads as it did. -/
def namesCheckSpec : ChangeSpec := { name := "namesCheck", fn := fun _ => fun
  | [d1, d2, d3] => { results := [.lit (.bool true)], args := [d1, d2, d3] }
  | _ => none }
def namesCheckRow : OpenClaim := { program := "ytbehhlbcffbkoaa", sum := "2e1139d8cc6d2a436a79445dca959566b267d98576cee164784be56229980e85", func := "regimen/regimenlaw10.NamesCheck", spec := "namesCheck", unfollowed := true, recurses := true, plainKeys := false, apart := false }
def NamesCheckSaid : Prop := namesCheckRow.holds Try.pinned (OpenSpec.ofChange namesCheckSpec)

/-- ITS FALSE NEIGHBOUR: 'it returns false'. Refute it at one input. -/
def namesCheckWrong : ChangeSpec := { name := "namesCheck", fn := fun _ => fun
  | [d1, d2, d3] => { results := [.lit (.bool false)], args := [d1, d2, d3] }
  | _ => none }
def NamesCheckWrongFalsely : Prop := namesCheckRow.holds Try.pinned (OpenSpec.ofChange namesCheckWrong)

/-- 'regimenlaw56.SweepAt': WHATEVER THE INPUT: true; the input reads as it did. -/
def sweepAtSpec : ChangeSpec := { name := "sweepAt", fn := fun _ => fun
  | [d1, d2, d3] => { results := [.lit (.bool true)], args := [d1, d2, d3] }
  | _ => none }
def sweepAtRow : OpenClaim := { program := "ytbehhlbcffbkoaa", sum := "2e1139d8cc6d2a436a79445dca959566b267d98576cee164784be56229980e85", func := "regimen/regimenlaw56.SweepAt", spec := "sweepAt", unfollowed := true, recurses := true, plainKeys := false, apart := false }
def SweepAtSaid : Prop := sweepAtRow.holds Try.pinned (OpenSpec.ofChange sweepAtSpec)

/-- ITS FALSE NEIGHBOUR: 'it returns false'. Refute it at one input. -/
def sweepAtWrong : ChangeSpec := { name := "sweepAt", fn := fun _ => fun
  | [d1, d2, d3] => { results := [.lit (.bool false)], args := [d1, d2, d3] }
  | _ => none }
def SweepAtWrongFalsely : Prop := sweepAtRow.holds Try.pinned (OpenSpec.ofChange sweepAtWrong)

/-- 'regimenlaw56.SweepChoices': WHATEVER THE INPUT: true; the input reads as it did. -/
def sweepChoicesSpec : ChangeSpec := { name := "sweepChoices", fn := fun _ => fun
  | [d1, d2, d3] => { results := [.lit (.bool true)], args := [d1, d2, d3] }
  | _ => none }
def sweepChoicesRow : OpenClaim := { program := "ytbehhlbcffbkoaa", sum := "2e1139d8cc6d2a436a79445dca959566b267d98576cee164784be56229980e85", func := "regimen/regimenlaw56.SweepChoices", spec := "sweepChoices", unfollowed := true, recurses := true, plainKeys := false, apart := false }
def SweepChoicesSaid : Prop := sweepChoicesRow.holds Try.pinned (OpenSpec.ofChange sweepChoicesSpec)

/-- ITS FALSE NEIGHBOUR: 'it returns false'. Refute it at one input. -/
def sweepChoicesWrong : ChangeSpec := { name := "sweepChoices", fn := fun _ => fun
  | [d1, d2, d3] => { results := [.lit (.bool false)], args := [d1, d2, d3] }
  | _ => none }
def SweepChoicesWrongFalsely : Prop := sweepChoicesRow.holds Try.pinned (OpenSpec.ofChange sweepChoicesWrong)

/- THE SECOND FORM. 'bulk': how many values and letters a reading holds, each counted each time it is reached (what is shared counts as often as it is met; a slice's spare places count too). A statement '..UptoSaid' is the law's where the arguments, and the package variables that the reading takes, are together of bulk at most 1048576: NARROWER than '..Said'. Prove '..Said' where nothing that the law and all that it calls make is longer than what came in: it says more and counts as full. Else prove '..UptoSaid'. A law counts once. -/
mutual
def uptoBulk {H : Type} : DataW H → Nat
  | .lit (.string bytes) => bytes.length + 1
  | .lit _ => 1
  | .nil => 1
  | .ptr d => uptoBulk d + 1
  | .slice elems spare => uptoBulkAll elems + uptoBulkAll spare + 1
  | .agg parts => uptoBulkAll parts + 1
  | .iface _ d => uptoBulk d + 1
  | .map entries => uptoBulkEntries entries + 1
  | .held _ => 1
def uptoBulkAll {H : Type} : List (DataW H) → Nat
  | [] => 0
  | d :: r => uptoBulk d + uptoBulkAll r
def uptoBulkEntries {H : Type} : List (Lit × DataW H) → Nat
  | [] => 0
  | x :: r => uptoBulkEntry x + uptoBulkEntries r
def uptoBulkEntry {H : Type} : Lit × DataW H → Nat
  | (.string bytes, d) => bytes.length + uptoBulk d + 1
  | (_, d) => uptoBulk d + 1
 end
def uptoSmall : (H : Type) → List (DataW H) → Bool := fun _ ds => decide (uptoBulkAll ds ≤ 1048576)
def OpenSpec.upto (s : _root_.Go.ChangeSpec) : _root_.Go.OpenSpec := { _root_.Go.OpenSpec.ofChange s with cond := some uptoSmall }

/-- 'regimenlaw47.SealSums', WHERE WHAT IT READS IS OF BULK AT MOST 1048576: true; the input reads as it did. -/
def sealSumsUptoRow : OpenClaim := { program := "ytbehhlbcffbkoaa", sum := "2e1139d8cc6d2a436a79445dca959566b267d98576cee164784be56229980e85", func := "regimen/regimenlaw47.SealSums", spec := "sealSums", plainKeys := false, apart := false, narrowed := true }
def SealSumsUptoSaid : Prop := sealSumsUptoRow.holds Try.pinned (OpenSpec.upto sealSumsSpec)

/-- 'regimenlaw47.SealOpens', WHERE WHAT IT READS IS OF BULK AT MOST 1048576: true; the input reads as it did. -/
def sealOpensUptoRow : OpenClaim := { program := "ytbehhlbcffbkoaa", sum := "2e1139d8cc6d2a436a79445dca959566b267d98576cee164784be56229980e85", func := "regimen/regimenlaw47.SealOpens", spec := "sealOpens", plainKeys := false, apart := false, narrowed := true }
def SealOpensUptoSaid : Prop := sealOpensUptoRow.holds Try.pinned (OpenSpec.upto sealOpensSpec)

/-- 'regimenlaw47.SealJoins', WHERE WHAT IT READS IS OF BULK AT MOST 1048576: true; the input reads as it did. -/
def sealJoinsUptoRow : OpenClaim := { program := "ytbehhlbcffbkoaa", sum := "2e1139d8cc6d2a436a79445dca959566b267d98576cee164784be56229980e85", func := "regimen/regimenlaw47.SealJoins", spec := "sealJoins", plainKeys := false, apart := false, narrowed := true }
def SealJoinsUptoSaid : Prop := sealJoinsUptoRow.holds Try.pinned (OpenSpec.upto sealJoinsSpec)

/-- 'regimenlaw23.CycleFinds', WHERE WHAT IT READS IS OF BULK AT MOST 1048576: true; the input reads as it did. -/
def cycleFindsUptoRow : OpenClaim := { program := "ytbehhlbcffbkoaa", sum := "2e1139d8cc6d2a436a79445dca959566b267d98576cee164784be56229980e85", func := "regimen/regimenlaw23.CycleFinds", spec := "cycleFinds", plainKeys := false, apart := false, narrowed := true }
def CycleFindsUptoSaid : Prop := cycleFindsUptoRow.holds Try.pinned (OpenSpec.upto cycleFindsSpec)

/-- 'regimenlaw40.BytesPuts', WHERE WHAT IT READS IS OF BULK AT MOST 1048576: true; the input reads as it did. -/
def bytesPutsUptoRow : OpenClaim := { program := "ytbehhlbcffbkoaa", sum := "2e1139d8cc6d2a436a79445dca959566b267d98576cee164784be56229980e85", func := "regimen/regimenlaw40.BytesPuts", spec := "bytesPuts", plainKeys := false, apart := false, narrowed := true }
def BytesPutsUptoSaid : Prop := bytesPutsUptoRow.holds Try.pinned (OpenSpec.upto bytesPutsSpec)

/-- 'regimenlaw40.BytesGets', WHERE WHAT IT READS IS OF BULK AT MOST 1048576: true; the input reads as it did. -/
def bytesGetsUptoRow : OpenClaim := { program := "ytbehhlbcffbkoaa", sum := "2e1139d8cc6d2a436a79445dca959566b267d98576cee164784be56229980e85", func := "regimen/regimenlaw40.BytesGets", spec := "bytesGets", plainKeys := false, apart := false, narrowed := true }
def BytesGetsUptoSaid : Prop := bytesGetsUptoRow.holds Try.pinned (OpenSpec.upto bytesGetsSpec)

/-- 'regimenlaw23.CycleParts', WHERE WHAT IT READS IS OF BULK AT MOST 1048576: true; the input reads as it did. -/
def cyclePartsUptoRow : OpenClaim := { program := "ytbehhlbcffbkoaa", sum := "2e1139d8cc6d2a436a79445dca959566b267d98576cee164784be56229980e85", func := "regimen/regimenlaw23.CycleParts", spec := "cycleParts", plainKeys := false, apart := false, narrowed := true }
def CyclePartsUptoSaid : Prop := cyclePartsUptoRow.holds Try.pinned (OpenSpec.upto cyclePartsSpec)

/-- 'regimenlaw23.CycleSpans', WHERE WHAT IT READS IS OF BULK AT MOST 1048576: true; the input reads as it did. -/
def cycleSpansUptoRow : OpenClaim := { program := "ytbehhlbcffbkoaa", sum := "2e1139d8cc6d2a436a79445dca959566b267d98576cee164784be56229980e85", func := "regimen/regimenlaw23.CycleSpans", spec := "cycleSpans", plainKeys := false, apart := false, narrowed := true }
def CycleSpansUptoSaid : Prop := cycleSpansUptoRow.holds Try.pinned (OpenSpec.upto cycleSpansSpec)

/-- 'regimenlaw40.BytesReads', WHERE WHAT IT READS IS OF BULK AT MOST 1048576: true; the input reads as it did. -/
def bytesReadsUptoRow : OpenClaim := { program := "ytbehhlbcffbkoaa", sum := "2e1139d8cc6d2a436a79445dca959566b267d98576cee164784be56229980e85", func := "regimen/regimenlaw40.BytesReads", spec := "bytesReads", plainKeys := false, apart := false, narrowed := true }
def BytesReadsUptoSaid : Prop := bytesReadsUptoRow.holds Try.pinned (OpenSpec.upto bytesReadsSpec)

/-- 'regimenlaw10.NamesIs', WHERE WHAT IT READS IS OF BULK AT MOST 1048576: true; the input reads as it did. -/
def namesIsUptoRow : OpenClaim := { program := "ytbehhlbcffbkoaa", sum := "2e1139d8cc6d2a436a79445dca959566b267d98576cee164784be56229980e85", func := "regimen/regimenlaw10.NamesIs", spec := "namesIs", unfollowed := true, recurses := true, plainKeys := false, apart := false, narrowed := true }
def NamesIsUptoSaid : Prop := namesIsUptoRow.holds Try.pinned (OpenSpec.upto namesIsSpec)

/-- 'regimenlaw10.NamesCheck', WHERE WHAT IT READS IS OF BULK AT MOST 1048576: true; the input reads as it did. -/
def namesCheckUptoRow : OpenClaim := { program := "ytbehhlbcffbkoaa", sum := "2e1139d8cc6d2a436a79445dca959566b267d98576cee164784be56229980e85", func := "regimen/regimenlaw10.NamesCheck", spec := "namesCheck", unfollowed := true, recurses := true, plainKeys := false, apart := false, narrowed := true }
def NamesCheckUptoSaid : Prop := namesCheckUptoRow.holds Try.pinned (OpenSpec.upto namesCheckSpec)

/-- 'regimenlaw56.SweepAt', WHERE WHAT IT READS IS OF BULK AT MOST 1048576: true; the input reads as it did. -/
def sweepAtUptoRow : OpenClaim := { program := "ytbehhlbcffbkoaa", sum := "2e1139d8cc6d2a436a79445dca959566b267d98576cee164784be56229980e85", func := "regimen/regimenlaw56.SweepAt", spec := "sweepAt", unfollowed := true, recurses := true, plainKeys := false, apart := false, narrowed := true }
def SweepAtUptoSaid : Prop := sweepAtUptoRow.holds Try.pinned (OpenSpec.upto sweepAtSpec)

/-- 'regimenlaw56.SweepChoices', WHERE WHAT IT READS IS OF BULK AT MOST 1048576: true; the input reads as it did. -/
def sweepChoicesUptoRow : OpenClaim := { program := "ytbehhlbcffbkoaa", sum := "2e1139d8cc6d2a436a79445dca959566b267d98576cee164784be56229980e85", func := "regimen/regimenlaw56.SweepChoices", spec := "sweepChoices", unfollowed := true, recurses := true, plainKeys := false, apart := false, narrowed := true }
def SweepChoicesUptoSaid : Prop := sweepChoicesUptoRow.holds Try.pinned (OpenSpec.upto sweepChoicesSpec)

end Rows
end Go.Proofs.Ytbehhlbcffbkoaa

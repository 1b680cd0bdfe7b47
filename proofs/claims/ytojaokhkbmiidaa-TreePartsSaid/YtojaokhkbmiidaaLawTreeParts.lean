/- The row of TreeParts. -/
import Derived.Test.YtojaokhkbmiidaaRows
import Derived.Test.YtojaokhkbmiidaaCxTreeParts
import Derived.KernelRfl
namespace Go.Proofs.Ytojaokhkbmiidaa.treeParts
open Go Go.Proofs Go.ChangeShapes Go.WideShapes Go.ChangeAt Go.RowKit
set_option linter.unusedVariables false
theorem own : ownKnob Try.prog.godebug = none := by kernel_rfl
theorem laid : laidOutB Try.prog = true := by kernel_rfl
theorem same_left {H : Type} : ∀ ds : List (DataW H), ds.length = 1 → Rows.treePartsSpec.fn H ds = { results := [.lit (.bool true)], args := ds }
  | [d0], _ => rfl
set_option maxRecDepth 100000 in
theorem holds_at : ∀ vs, Ev.TypedAll Try.prog 6 [22] vs → ∃ m', Ev.treePartsLawG vs ⟨[], []⟩ = some (.v (.bool true), m') := by
  rintro (_ | ⟨a, _ | ⟨x, r⟩⟩) h
  · exact h.elim
  · obtain ⟨h0, _⟩ := h
    obtain ⟨l, ok, hl, rfl⟩ := Ev.arg_nodes h0
    refine ⟨⟨[], []⟩, ?_⟩
    simp only [Ev.treePartsLawG, Ev.unN_rowsN]
    exact if_pos hl
  · exact h.2.elim
set_option maxRecDepth 100000 in
theorem lifted (os : Os) (started : os.Started) (H : Type) (enc : TypeId × Value → H) :
    ReturnsInHanded {} Try.checked os 5 .any (Rows.treePartsSpec.pre6 enc Try.prog Try.f5 Rows.treePartsRow.domain false) (Rows.treePartsSpec.post enc Try.prog Try.f5 false true false false) :=
  Ev.law_lifted (C := Try.checked) own started (by kernel_rfl) Try.func5
    (ChangeSpec.witness6 (enc := enc) (C := Try.checked) false ⟨#[], #[.slice none 0 0], []⟩ 8 (by kernel_rfl) (by kernel_rfl) (by kernel_rfl) (by kernel_rfl))
    laid rfl [22] Try.params5 6 (by kernel_rfl) (tb := 4) rfl Try.underlying4 same_left Ev.treePartsLaw_ok holds_at
theorem over : Rows.treePartsRow.holds Try.pinned (OpenSpec.ofChange Rows.treePartsSpec) :=
  OpenClaim.holds_of_wide 5 Try.f5 rfl rfl rfl rfl rfl rfl rfl ⟨rfl, rfl, rfl, rfl, rfl⟩ rfl rfl rfl rfl rfl (by kernel_rfl) Try.func5 (by kernel_rfl)
    (of_decide_eq_true (by kernel_rfl)) (by unfold Func.isWrapper; first | (rw [if_pos (by decide +kernel)]; kernel_rfl) | (rw [if_neg (by decide +kernel)]; exact ⟨rfl, rfl⟩))
    (fun os started H enc _ => lifted os started H enc)
theorem proved : Rows.TreePartsSaid := over
end Go.Proofs.Ytojaokhkbmiidaa.treeParts
namespace Go.Proofs.Ytojaokhkbmiidaa
/-- The row, under a short name, for the claim. -/
theorem treeParts_holds : Rows.TreePartsSaid := treeParts.proved
end Go.Proofs.Ytojaokhkbmiidaa

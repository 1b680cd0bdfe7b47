/- The row of TreeChecks. -/
import Derived.Test.YtojaokhkbmiidaaRows
import Derived.Test.YtojaokhkbmiidaaCxTreeChecks
import Derived.KernelRfl
namespace Go.Proofs.Ytojaokhkbmiidaa.treeChecks
open Go Go.Proofs Go.ChangeShapes Go.WideShapes Go.ChangeAt Go.RowKit
set_option linter.unusedVariables false
theorem own : ownKnob Try.prog.godebug = none := by kernel_rfl
theorem laid : laidOutB Try.prog = true := by kernel_rfl
theorem same_left {H : Type} : ∀ ds : List (DataW H), ds.length = 1 → Rows.treeChecksSpec.fn H ds = { results := [.lit (.bool true)], args := ds }
  | [d0], _ => rfl
set_option maxRecDepth 100000 in
theorem holds_at : ∀ vs, Ev.TypedAll Try.prog 6 [22] vs → ∃ m', Ev.treeChecksLawG vs ⟨[], []⟩ = some (.v (.bool true), m') := by
  rintro (_ | ⟨a, _ | ⟨x, r⟩⟩) h
  · exact h.elim
  · obtain ⟨h0, _⟩ := h
    obtain ⟨l, ok, hl, rfl⟩ := Ev.arg_nodes h0
    refine ⟨⟨[], []⟩, ?_⟩
    simp only [Ev.treeChecksLawG, Ev.unN_rowsN]
    exact if_pos hl
  · exact h.2.elim
set_option maxRecDepth 100000 in
theorem lifted (os : Os) (started : os.Started) (H : Type) (enc : TypeId × Value → H) :
    ReturnsInHanded {} Try.checked os 4 .any (Rows.treeChecksSpec.pre6 enc Try.prog Try.f4 Rows.treeChecksRow.domain false) (Rows.treeChecksSpec.post enc Try.prog Try.f4 false true false false) :=
  Ev.law_lifted (C := Try.checked) own started (by kernel_rfl) Try.func4
    (ChangeSpec.witness6 (enc := enc) (C := Try.checked) false ⟨#[], #[.slice none 0 0], []⟩ 8 (by kernel_rfl) (by kernel_rfl) (by kernel_rfl) (by kernel_rfl))
    laid rfl [22] Try.params4 6 (by kernel_rfl) (tb := 4) rfl Try.underlying4 same_left Ev.treeChecksLaw_ok holds_at
theorem over : Rows.treeChecksRow.holds Try.pinned (OpenSpec.ofChange Rows.treeChecksSpec) :=
  OpenClaim.holds_of_wide 4 Try.f4 rfl rfl rfl rfl rfl rfl rfl ⟨rfl, rfl, rfl, rfl, rfl⟩ rfl rfl rfl rfl rfl (by kernel_rfl) Try.func4 (by kernel_rfl)
    (of_decide_eq_true (by kernel_rfl)) (by unfold Func.isWrapper; first | (rw [if_pos (by decide +kernel)]; kernel_rfl) | (rw [if_neg (by decide +kernel)]; exact ⟨rfl, rfl⟩))
    (fun os started H enc _ => lifted os started H enc)
theorem proved : Rows.TreeChecksSaid := over
end Go.Proofs.Ytojaokhkbmiidaa.treeChecks
namespace Go.Proofs.Ytojaokhkbmiidaa
/-- The row, under a short name, for the claim. -/
theorem treeChecks_holds : Rows.TreeChecksSaid := treeChecks.proved
end Go.Proofs.Ytojaokhkbmiidaa

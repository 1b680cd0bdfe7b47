/- The row of TreeEnds. -/
import Derived.Test.YtojaokhkbmiidaaRows
import Derived.Test.YtojaokhkbmiidaaCxTreeEnds
import Derived.KernelRfl
namespace Go.Proofs.Ytojaokhkbmiidaa.treeEnds
open Go Go.Proofs Go.ChangeShapes Go.WideShapes Go.ChangeAt Go.RowKit
set_option linter.unusedVariables false
theorem own : ownKnob Try.prog.godebug = none := by kernel_rfl
theorem laid : laidOutB Try.prog = true := by kernel_rfl
theorem same_left {H : Type} : ∀ ds : List (DataW H), ds.length = 3 → Rows.treeEndsSpec.fn H ds = { results := [.lit (.bool true)], args := ds }
  | [d0, d1, d2], _ => rfl
set_option maxRecDepth 100000 in
theorem holds_at : ∀ vs, Ev.TypedAll Try.prog 6 [22, 3, 3] vs → ∃ m', Ev.treeEndsLawG vs ⟨[], []⟩ = some (.v (.bool true), m') := by
  rintro (_ | ⟨a, _ | ⟨b, _ | ⟨c, _ | ⟨x, r⟩⟩⟩⟩) h
  · exact h.elim
  · exact h.2.elim
  · exact h.2.2.elim
  · obtain ⟨h0, h1, h2, _⟩ := h
    obtain ⟨l, ok, hl, rfl⟩ := Ev.arg_nodes h0
    obtain ⟨n, rfl, n0, n1⟩ := Ev.arg_int Try.underlying3 h1
    obtain ⟨o, rfl, _, _⟩ := Ev.arg_int Try.underlying3 h2
    refine ⟨⟨[], []⟩, ?_⟩
    simp only [Ev.treeEndsLawG, Ev.unN_rowsN]
    exact if_pos ⟨hl, by simp [IntKind.min, IntKind.max, IntKind.signed, IntKind.bits] at n0 n1; exact ⟨n0, n1⟩⟩
  · exact h.2.2.2.elim
set_option maxRecDepth 100000 in
theorem lifted (os : Os) (started : os.Started) (H : Type) (enc : TypeId × Value → H) :
    ReturnsInHanded {} Try.checked os 3 .any (Rows.treeEndsSpec.pre6 enc Try.prog Try.f3 Rows.treeEndsRow.domain false) (Rows.treeEndsSpec.post enc Try.prog Try.f3 false true false false) :=
  Ev.law_lifted (C := Try.checked) own started (by kernel_rfl) Try.func3
    (ChangeSpec.witness6 (enc := enc) (C := Try.checked) false ⟨#[], #[.slice none 0 0, .int .i64 0, .int .i64 0], []⟩ 8 (by kernel_rfl) (by kernel_rfl) (by kernel_rfl) (by kernel_rfl))
    laid rfl [22, 3, 3] Try.params3 6 (by kernel_rfl) (tb := 4) rfl Try.underlying4 same_left Ev.treeEndsLaw_ok holds_at
theorem over : Rows.treeEndsRow.holds Try.pinned (OpenSpec.ofChange Rows.treeEndsSpec) :=
  OpenClaim.holds_of_wide 3 Try.f3 rfl rfl rfl rfl rfl rfl rfl ⟨rfl, rfl, rfl, rfl, rfl⟩ rfl rfl rfl rfl rfl (by kernel_rfl) Try.func3 (by kernel_rfl)
    (of_decide_eq_true (by kernel_rfl)) (by unfold Func.isWrapper; first | (rw [if_pos (by decide +kernel)]; kernel_rfl) | (rw [if_neg (by decide +kernel)]; exact ⟨rfl, rfl⟩))
    (fun os started H enc _ => lifted os started H enc)
theorem proved : Rows.TreeEndsSaid := over
end Go.Proofs.Ytojaokhkbmiidaa.treeEnds
namespace Go.Proofs.Ytojaokhkbmiidaa
/-- The row, under a short name, for the claim. -/
theorem treeEnds_holds : Rows.TreeEndsSaid := treeEnds.proved
end Go.Proofs.Ytojaokhkbmiidaa

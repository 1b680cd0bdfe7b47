/- The row of NamesIs. -/
import Derived.Test.YtbehhlbcffbkoaaRows
import Derived.Test.YtbehhlbcffbkoaaCxNames
import Derived.KernelRfl
namespace Go.Proofs.Ytbehhlbcffbkoaa.namesIs
open Go Go.Proofs Go.ChangeShapes Go.WideShapes Go.ChangeAt Go.RowKit
set_option linter.unusedVariables false
theorem own : ownKnob Try.prog.godebug = none := by kernel_rfl
theorem laid : laidOutB Try.prog = true := by kernel_rfl
theorem same_left {H : Type} : ∀ ds : List (DataW H), ds.length = 1 → Rows.namesIsSpec.fn H ds = { results := [.lit (.bool true)], args := ds }
  | [d0], _ => rfl
set_option maxRecDepth 100000 in
theorem holds_at : ∀ vs, Ev.TypedAll Try.prog 4 [9] vs → ∃ m', Ev.namesIsLawG vs ⟨[], []⟩ = some (.v (.bool true), m') := by
  rintro (_ | ⟨a, _ | ⟨x, r⟩⟩) h
  · exact h.elim
  · obtain ⟨h0, _⟩ := h
    obtain ⟨s, rfl, hs⟩ := Ev.arg_str Try.underlying9 h0
    exact ⟨⟨[], []⟩, if_pos hs⟩
  · exact h.2.elim
set_option maxRecDepth 100000 in
theorem lifted (os : Os) (started : os.Started) (H : Type) (enc : TypeId × Value → H) :
    ReturnsInHanded {} Try.checked os 12 .any (Rows.namesIsSpec.pre6 enc Try.prog Try.f12 Rows.namesIsRow.domain false) (Rows.namesIsSpec.post enc Try.prog Try.f12 false true false false) :=
  Ev.law_lifted (C := Try.checked) own started (by kernel_rfl) Try.func12
    (ChangeSpec.witness6 (enc := enc) (C := Try.checked) false ⟨#[], #[.string ⟨#[]⟩], []⟩ 8 (by kernel_rfl) (by kernel_rfl) (by kernel_rfl) (by kernel_rfl))
    laid rfl [9] Try.params12 4 (by kernel_rfl) (tb := 4) rfl Try.underlying4 same_left Ev.namesIsLaw_ok holds_at
theorem over : Rows.namesIsRow.holds Try.pinned (OpenSpec.ofChange Rows.namesIsSpec) :=
  OpenClaim.holds_of_wide 12 Try.f12 rfl rfl rfl rfl rfl rfl rfl ⟨rfl, rfl, rfl, rfl, rfl⟩ rfl rfl rfl rfl rfl (by kernel_rfl) Try.func12 (by kernel_rfl)
    (of_decide_eq_true (by kernel_rfl)) (by unfold Func.isWrapper; first | (rw [if_pos (by decide +kernel)]; kernel_rfl) | (rw [if_neg (by decide +kernel)]; exact ⟨rfl, rfl⟩))
    (fun os started H enc _ => lifted os started H enc)
theorem proved : Rows.NamesIsSaid := over
end Go.Proofs.Ytbehhlbcffbkoaa.namesIs
namespace Go.Proofs.Ytbehhlbcffbkoaa
/-- The row, under a short name, for the claim. -/
theorem namesIs_holds : Rows.NamesIsSaid := namesIs.proved
end Go.Proofs.Ytbehhlbcffbkoaa

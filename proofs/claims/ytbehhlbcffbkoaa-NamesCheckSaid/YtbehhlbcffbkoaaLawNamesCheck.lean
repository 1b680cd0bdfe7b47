/- The row of NamesCheck. -/
import Derived.Test.YtbehhlbcffbkoaaRows
import Derived.Test.YtbehhlbcffbkoaaCxNamesB
import Derived.KernelRfl
namespace Go.Proofs.Ytbehhlbcffbkoaa.namesCheck
open Go Go.Proofs Go.ChangeShapes Go.WideShapes Go.ChangeAt Go.RowKit
set_option linter.unusedVariables false
theorem own : ownKnob Try.prog.godebug = none := by kernel_rfl
theorem laid : laidOutB Try.prog = true := by kernel_rfl
theorem same_left {H : Type} : ∀ ds : List (DataW H), ds.length = 3 → Rows.namesCheckSpec.fn H ds = { results := [.lit (.bool true)], args := ds }
  | [d0, d1, d2], _ => rfl
set_option maxRecDepth 100000 in
theorem holds_at : ∀ vs, Ev.TypedAll Try.prog 4 [64, 9, 66] vs → ∃ m', Ev.namesCheckLawG vs ⟨[], []⟩ = some (.v (.bool true), m') := by
  rintro (_ | ⟨a, _ | ⟨b, _ | ⟨c, _ | ⟨x, r⟩⟩⟩⟩) h
  · exact h.elim
  · exact h.2.elim
  · exact h.2.2.elim
  · obtain ⟨h0, h1, h2, _⟩ := h
    obtain ⟨l, ok, rfl⟩ := Ev.arg_strs Try.underlying64 Try.underlying9 Ev.szStr h0
    obtain ⟨s, rfl, hs⟩ := Ev.arg_str Try.underlying9 h1
    obtain ⟨x, y, hx, hy, rfl⟩ := Ev.arg_pair Try.underlying66 Try.underlying3 h2
    refine ⟨⟨[], []⟩, ?_⟩
    simp only [Ev.namesCheckLawG, Ev.unS_rowsS]
    exact if_pos ⟨ok, hs, hy⟩
  · exact h.2.2.2.elim
set_option maxRecDepth 100000 in
theorem lifted (os : Os) (started : os.Started) (H : Type) (enc : TypeId × Value → H) :
    ReturnsInHanded {} Try.checked os 13 .any (Rows.namesCheckSpec.pre6 enc Try.prog Try.f13 Rows.namesCheckRow.domain false) (Rows.namesCheckSpec.post enc Try.prog Try.f13 false true false false) :=
  Ev.law_lifted (C := Try.checked) own started (by kernel_rfl) Try.func13
    (ChangeSpec.witness6 (enc := enc) (C := Try.checked) false ⟨#[], #[.slice none 0 0, .string ⟨#[]⟩, .agg #[.int .i64 0, .int .i64 0]], []⟩ 8 (by kernel_rfl) (by kernel_rfl) (by kernel_rfl) (by kernel_rfl))
    laid rfl [64, 9, 66] Try.params13 4 (by kernel_rfl) (tb := 4) rfl Try.underlying4 same_left Ev.namesCheckLaw_ok holds_at
theorem over : Rows.namesCheckRow.holds Try.pinned (OpenSpec.ofChange Rows.namesCheckSpec) :=
  OpenClaim.holds_of_wide 13 Try.f13 rfl rfl rfl rfl rfl rfl rfl ⟨rfl, rfl, rfl, rfl, rfl⟩ rfl rfl rfl rfl rfl (by kernel_rfl) Try.func13 (by kernel_rfl)
    (of_decide_eq_true (by kernel_rfl)) (by unfold Func.isWrapper; first | (rw [if_pos (by decide +kernel)]; kernel_rfl) | (rw [if_neg (by decide +kernel)]; exact ⟨rfl, rfl⟩))
    (fun os started H enc _ => lifted os started H enc)
theorem proved : Rows.NamesCheckSaid := over
end Go.Proofs.Ytbehhlbcffbkoaa.namesCheck
namespace Go.Proofs.Ytbehhlbcffbkoaa
/-- The row, under a short name, for the claim. -/
theorem namesCheck_holds : Rows.NamesCheckSaid := namesCheck.proved
end Go.Proofs.Ytbehhlbcffbkoaa

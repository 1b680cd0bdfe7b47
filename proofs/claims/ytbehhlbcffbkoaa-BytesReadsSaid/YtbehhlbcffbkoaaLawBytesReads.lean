/- The row of BytesReads. -/
import Derived.Test.YtbehhlbcffbkoaaRows
import Derived.Test.YtbehhlbcffbkoaaSeT
import Derived.KernelRfl
namespace Go.Proofs.Ytbehhlbcffbkoaa.bytesReads
open Go Go.Proofs Go.ChangeShapes Go.WideShapes Go.ChangeAt Go.RowKit
set_option linter.unusedVariables false
theorem own : ownKnob Try.prog.godebug = none := by kernel_rfl
theorem laid : laidOutB Try.prog = true := by kernel_rfl
theorem same_left {H : Type} : ∀ ds : List (DataW H), ds.length = 3 → Rows.bytesReadsSpec.fn H ds = { results := [.lit (.bool true)], args := ds }
  | [d0, d1, d2], _ => rfl
set_option maxRecDepth 100000 in
theorem holds_at : ∀ vs, Ev.TypedAll Try.prog 4 [40, 56, 3] vs → ∃ m', Ev.readsLawG vs ⟨[], []⟩ = some (.v (.bool true), m') := by
  rintro (_ | ⟨a, _ | ⟨b, _ | ⟨c, _ | ⟨x, r⟩⟩⟩⟩) h
  · exact h.elim
  · exact h.2.elim
  · exact h.2.2.elim
  · obtain ⟨h0, h1, h2, _⟩ := h
    obtain ⟨l0, o0, _, rfl⟩ := Ev.arg_bytes Try.underlying40 Try.underlying5 Ev.sz5 h0
    obtain ⟨l1, o1, _, rfl⟩ := Ev.arg_ints Try.underlying56 Try.underlying3 Ev.sz3 h1
    obtain ⟨n, rfl, n0, n1⟩ := Ev.arg_int Try.underlying3 h2
    refine ⟨⟨[], []⟩, ?_⟩
    simp only [Ev.readsLawG, Ev.unB_rowsB o0, Ev.unI_rowsI o1]
  · exact h.2.2.2.elim
set_option maxRecDepth 100000 in
theorem lifted (os : Os) (started : os.Started) (H : Type) (enc : TypeId × Value → H) :
    ReturnsInHanded {} Try.checked os 11 .any (Rows.bytesReadsSpec.pre6 enc Try.prog Try.f11 Rows.bytesReadsRow.domain false) (Rows.bytesReadsSpec.post enc Try.prog Try.f11 false true false false) :=
  Ev.law_lifted (C := Try.checked) own started (by kernel_rfl) Try.func11
    (ChangeSpec.witness6 (enc := enc) (C := Try.checked) false ⟨#[], #[.slice none 0 0, .slice none 0 0, .int .i64 0], []⟩ 8 (by kernel_rfl) (by kernel_rfl) (by kernel_rfl) (by kernel_rfl))
    laid rfl [40, 56, 3] Try.params11 4 (by kernel_rfl) (tb := 4) rfl Try.underlying4 same_left Ev.readsLaw_ok holds_at
theorem over : Rows.bytesReadsRow.holds Try.pinned (OpenSpec.ofChange Rows.bytesReadsSpec) :=
  OpenClaim.holds_of_wide 11 Try.f11 rfl rfl rfl rfl rfl rfl rfl ⟨rfl, rfl, rfl, rfl, rfl⟩ rfl rfl rfl rfl rfl (by kernel_rfl) Try.func11 (by kernel_rfl)
    (of_decide_eq_true (by kernel_rfl)) (by unfold Func.isWrapper; first | (rw [if_pos (by decide +kernel)]; kernel_rfl) | (rw [if_neg (by decide +kernel)]; exact ⟨rfl, rfl⟩))
    (fun os started H enc _ => lifted os started H enc)
theorem proved : Rows.BytesReadsSaid := over
end Go.Proofs.Ytbehhlbcffbkoaa.bytesReads
namespace Go.Proofs.Ytbehhlbcffbkoaa
/-- The row, under a short name, for the claim. -/
theorem bytesReads_holds : Rows.BytesReadsSaid := bytesReads.proved
end Go.Proofs.Ytbehhlbcffbkoaa

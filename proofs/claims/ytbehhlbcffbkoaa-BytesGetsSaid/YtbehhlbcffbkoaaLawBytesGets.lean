/- The row of BytesGets. -/
import Derived.Test.YtbehhlbcffbkoaaRows
import Derived.Test.YtbehhlbcffbkoaaSeR
import Derived.KernelRfl
namespace Go.Proofs.Ytbehhlbcffbkoaa.bytesGets
open Go Go.Proofs Go.ChangeShapes Go.WideShapes Go.ChangeAt Go.RowKit
set_option linter.unusedVariables false
theorem own : ownKnob Try.prog.godebug = none := by kernel_rfl
theorem laid : laidOutB Try.prog = true := by kernel_rfl
theorem same_left {H : Type} : ∀ ds : List (DataW H), ds.length = 2 → Rows.bytesGetsSpec.fn H ds = { results := [.lit (.bool true)], args := ds }
  | [d0, d1], _ => rfl
set_option maxRecDepth 100000 in
theorem holds_at : ∀ vs, Ev.TypedAll Try.prog 4 [40, 45] vs → ∃ m', Ev.getsLawG vs ⟨[], []⟩ = some (.v (.bool true), m') := by
  rintro (_ | ⟨a, _ | ⟨b, _ | ⟨x, r⟩⟩⟩) h
  · exact h.elim
  · exact h.2.elim
  · obtain ⟨h0, h1, _⟩ := h
    obtain ⟨l0, o0, _, rfl⟩ := Ev.arg_bytes Try.underlying40 Try.underlying5 Ev.sz5 h0
    obtain ⟨n, rfl, n0, n1⟩ := Ev.arg_int Try.underlying45 h1
    refine ⟨⟨[], []⟩, ?_⟩
    simp only [Ev.getsLawG, Ev.unB_rowsB o0]
    exact if_pos (by simp [IntKind.min, IntKind.max, IntKind.signed, IntKind.bits] at n0 n1; omega)
  · exact h.2.2.elim
set_option maxRecDepth 100000 in
theorem lifted (os : Os) (started : os.Started) (H : Type) (enc : TypeId × Value → H) :
    ReturnsInHanded {} Try.checked os 8 .any (Rows.bytesGetsSpec.pre6 enc Try.prog Try.f8 Rows.bytesGetsRow.domain false) (Rows.bytesGetsSpec.post enc Try.prog Try.f8 false true false false) :=
  Ev.law_lifted (C := Try.checked) own started (by kernel_rfl) Try.func8
    (ChangeSpec.witness6 (enc := enc) (C := Try.checked) false ⟨#[], #[.slice none 0 0, .int .u64 0], []⟩ 8 (by kernel_rfl) (by kernel_rfl) (by kernel_rfl) (by kernel_rfl))
    laid rfl [40, 45] Try.params8 4 (by kernel_rfl) (tb := 4) rfl Try.underlying4 same_left Ev.getsLaw_ok holds_at
theorem over : Rows.bytesGetsRow.holds Try.pinned (OpenSpec.ofChange Rows.bytesGetsSpec) :=
  OpenClaim.holds_of_wide 8 Try.f8 rfl rfl rfl rfl rfl rfl rfl ⟨rfl, rfl, rfl, rfl, rfl⟩ rfl rfl rfl rfl rfl (by kernel_rfl) Try.func8 (by kernel_rfl)
    (of_decide_eq_true (by kernel_rfl)) (by unfold Func.isWrapper; first | (rw [if_pos (by decide +kernel)]; kernel_rfl) | (rw [if_neg (by decide +kernel)]; exact ⟨rfl, rfl⟩))
    (fun os started H enc _ => lifted os started H enc)
theorem proved : Rows.BytesGetsSaid := over
end Go.Proofs.Ytbehhlbcffbkoaa.bytesGets
namespace Go.Proofs.Ytbehhlbcffbkoaa
/-- The row, under a short name, for the claim. -/
theorem bytesGets_holds : Rows.BytesGetsSaid := bytesGets.proved
end Go.Proofs.Ytbehhlbcffbkoaa

/- The row of BytesPuts. -/
import Derived.Test.YtbehhlbcffbkoaaRows
import Derived.Test.YtbehhlbcffbkoaaSeQ
import Derived.KernelRfl
namespace Go.Proofs.Ytbehhlbcffbkoaa.bytesPuts
open Go Go.Proofs Go.ChangeShapes Go.WideShapes Go.ChangeAt Go.RowKit
set_option linter.unusedVariables false
theorem own : ownKnob Try.prog.godebug = none := by kernel_rfl
theorem laid : laidOutB Try.prog = true := by kernel_rfl
theorem same_left {H : Type} : ∀ ds : List (DataW H), ds.length = 3 → Rows.bytesPutsSpec.fn H ds = { results := [.lit (.bool true)], args := ds }
  | [d0, d1, d2], _ => rfl
set_option maxRecDepth 100000 in
theorem holds_at : ∀ vs, Ev.TypedAll Try.prog 4 [40, 3, 40] vs → ∃ m', Ev.putsLawG vs ⟨[], []⟩ = some (.v (.bool true), m') := by
  rintro (_ | ⟨a, _ | ⟨b, _ | ⟨c, _ | ⟨x, r⟩⟩⟩⟩) h
  · exact h.elim
  · exact h.2.elim
  · exact h.2.2.elim
  · obtain ⟨h0, h1, h2, _⟩ := h
    obtain ⟨l0, o0, _, rfl⟩ := Ev.arg_bytes Try.underlying40 Try.underlying5 Ev.sz5 h0
    obtain ⟨n, rfl, n0, n1⟩ := Ev.arg_int Try.underlying3 h1
    obtain ⟨l2, o2, _, rfl⟩ := Ev.arg_bytes Try.underlying40 Try.underlying5 Ev.sz5 h2
    refine ⟨⟨[], []⟩, ?_⟩
    simp only [Ev.putsLawG, Ev.unB_rowsB o0, Ev.unB_rowsB o2]
    exact if_pos (by simp [IntKind.min, IntKind.max, IntKind.signed, IntKind.bits] at n0 n1; exact ⟨n0, n1⟩)
  · exact h.2.2.2.elim
set_option maxRecDepth 100000 in
theorem lifted (os : Os) (started : os.Started) (H : Type) (enc : TypeId × Value → H) :
    ReturnsInHanded {} Try.checked os 7 .any (Rows.bytesPutsSpec.pre6 enc Try.prog Try.f7 Rows.bytesPutsRow.domain false) (Rows.bytesPutsSpec.post enc Try.prog Try.f7 false true false false) :=
  Ev.law_lifted (C := Try.checked) own started (by kernel_rfl) Try.func7
    (ChangeSpec.witness6 (enc := enc) (C := Try.checked) false ⟨#[], #[.slice none 0 0, .int .i64 0, .slice none 0 0], []⟩ 8 (by kernel_rfl) (by kernel_rfl) (by kernel_rfl) (by kernel_rfl))
    laid rfl [40, 3, 40] Try.params7 4 (by kernel_rfl) (tb := 4) rfl Try.underlying4 same_left Ev.putsLaw_ok holds_at
theorem over : Rows.bytesPutsRow.holds Try.pinned (OpenSpec.ofChange Rows.bytesPutsSpec) :=
  OpenClaim.holds_of_wide 7 Try.f7 rfl rfl rfl rfl rfl rfl rfl ⟨rfl, rfl, rfl, rfl, rfl⟩ rfl rfl rfl rfl rfl (by kernel_rfl) Try.func7 (by kernel_rfl)
    (of_decide_eq_true (by kernel_rfl)) (by unfold Func.isWrapper; first | (rw [if_pos (by decide +kernel)]; kernel_rfl) | (rw [if_neg (by decide +kernel)]; exact ⟨rfl, rfl⟩))
    (fun os started H enc _ => lifted os started H enc)
theorem proved : Rows.BytesPutsSaid := over
end Go.Proofs.Ytbehhlbcffbkoaa.bytesPuts
namespace Go.Proofs.Ytbehhlbcffbkoaa
/-- The row, under a short name, for the claim. -/
theorem bytesPuts_holds : Rows.BytesPutsSaid := bytesPuts.proved
end Go.Proofs.Ytbehhlbcffbkoaa

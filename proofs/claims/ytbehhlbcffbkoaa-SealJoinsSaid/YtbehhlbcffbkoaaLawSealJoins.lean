/- The row of SealJoins. -/
import Derived.Test.YtbehhlbcffbkoaaRows
import Derived.Test.YtbehhlbcffbkoaaSeJ
import Derived.WalkKit
import Derived.ProofKit
import Derived.OpenShut
import Derived.ShutString
import Derived.ChangeOld
import Derived.Below
import Derived.Carry
import Derived.SizedLaws
namespace Go.Proofs.Ytbehhlbcffbkoaa.sealJoins
open Go Go.Proofs Go.ChangeShapes Go.WideShapes Go.ChangeAt Go.RowKit
set_option linter.unusedVariables false
theorem int_of {P : Program} {w : World} {r : Reach} {base : Nat} {t : TypeId} {k : IntKind} {v : Value} (ht : P.underlying t = some (.int k)) (h : Cell.okWide P w r base t v) : ∃ n, v = .int k n ∧ k.min ≤ n ∧ n ≤ k.max := by
  unfold Cell.okWide Cell.ok at h
  rw [ht] at h
  cases v <;> simp at h
  obtain ⟨rfl, h⟩ := h
  exact ⟨_, rfl, h⟩
theorem own : ownKnob Try.prog.godebug = none := by kernel_rfl
theorem laid : laidOutB Try.prog = true := by kernel_rfl
theorem types29 : Try.prog.cellTypes Try.prog.depth 29 = some [26, 26] := by kernel_rfl
theorem cells29 : Try.prog.cellsOf 29 = 2 := by kernel_rfl
set_option maxRecDepth 100000 in
theorem lifted (os : Os) (started : os.Started) (H : Type) (enc : TypeId × Value → H) :
    ReturnsInHanded {} Try.checked os 5 .any (Rows.sealJoinsSpec.pre6 enc Try.prog Try.f5 Rows.sealJoinsRow.domain false) (Rows.sealJoinsSpec.post enc Try.prog Try.f5 false true false false) := by
  refine returnsInHanded_of_change_sized (C := Try.checked) own started (by kernel_rfl) Try.func5
    (ChangeSpec.witness6 (enc := enc) (C := Try.checked) false ⟨#[], #[.string ⟨#[]⟩, .string ⟨#[]⟩, .agg #[.int .u32 0, .int .u32 0]], []⟩ 8 (by kernel_rfl) (by kernel_rfl) (by kernel_rfl) (by kernel_rfl)) ?_
  intro W base args ds gs before hval0 hW hcnd hsz0 _
  have hval : ∀ (j : Nat) t v, Try.f5.params[j]? = some t → args[j]? = some v → Value.okWide Try.prog W .any base t v := hval0
  have hW' := hW
  obtain ⟨p, q, hA0, hV, rfl, hfz, hnd⟩ := hW
  have hA : DataW.TrodAll enc Try.prog W 0 (fun _ => true) true Try.f5.params.toList args.toList ds p := hA0
  have hlt := hA.lt
  rw [Try.params5] at hA hval
  obtain ⟨v0, vs0, d0, ds0, p0, q0, hargs, rfl, rfl, h0, r0⟩ := trodAll_cons hA
  obtain ⟨v1, vs1, d1, ds1, p1, q1, rfl, rfl, rfl, h1, r1⟩ := trodAll_cons r0
  obtain ⟨v2, vs2, d2, ds2, p2, q2, rfl, rfl, rfl, h2, r2⟩ := trodAll_cons r1
  obtain ⟨rfl, rfl, rfl⟩ := trodAll_nil r2
  obtain rfl : args = #[v0, v1, v2] := by cases args; simp_all
  obtain ⟨rfl, rfl⟩ := trodVars_none hV
  obtain ⟨a0, rfl⟩ := okWide_string Try.underlying9 (hval 0 9 v0 rfl rfl)
  obtain ⟨a1, rfl⟩ := okWide_string Try.underlying9 (hval 1 9 v1 rfl rfl)
  have hv2 := hval 2 29 v2 rfl rfl
  unfold Value.okWide at hv2
  rw [Try.underlying29] at hv2
  obtain ⟨cs, rfl, hsz, ts, hts, _, hcell⟩ := hv2
  rw [types29] at hts
  cases hts
  rw [cells29] at hsz
  obtain ⟨u0, g0, c0⟩ := hcell 0 cs[0] (Array.getElem?_eq_getElem (by omega))
  obtain ⟨u1, g1, c1⟩ := hcell 1 cs[1] (Array.getElem?_eq_getElem (by omega))
  cases g0
  cases g1
  obtain ⟨x, e0, x0, x1⟩ := int_of Try.underlying26 c0
  obtain ⟨y, e1, y0, y1⟩ := int_of Try.underlying26 c1
  have hx : 0 ≤ x ∧ x < 4294967296 ∧ 0 ≤ y ∧ y < 4294967296 := by
    simp [IntKind.min, IntKind.max, IntKind.signed, IntKind.bits] at x0 x1 y0 y1
    omega
  have hcs : Ev.Reps (Ev.phiW W) ⟨[], []⟩ W [.v (.int .u32 x), .v (.int .u32 y)] cs := by
    refine ⟨hsz, fun i a u h1 h2 => ?_⟩
    have hi : i < 2 := by have := (Array.getElem?_eq_some_iff.mp h2).1; omega
    rcases (by omega : i = 0 ∨ i = 1) with rfl | rfl
    · rw [Array.getElem?_eq_getElem (by omega), e0] at h2
      simp at h1 h2; subst h1; subst h2; exact .v _
    · rw [Array.getElem?_eq_getElem (by omega), e1] at h2
      simp at h1 h2; subst h1; subst h2; exact .v _
  refine (Ev.law_calls (vals := #[.string a0, .string a1, .agg cs]) Ev.joinsLaw_ok (args := [.v (.string a0), .v (.string a1), .agg [.v (.int .u32 x), .v (.int .u32 y)]]) (if_pos hx) ⟨rfl, fun i a u h1 h2 => ?_⟩).mono fun e W' ⟨he, bel⟩ => ?_
  · rcases i with _ | _ | _ | i
    · simp at h1 h2; subst h1; subst h2; exact .v _
    · simp at h1 h2; subst h1; subst h2; exact .v _
    · simp at h1 h2; subst h1; subst h2; exact .agg _ _ hcs.1 hcs.2
    · simp at h1
  subst he
  have back : ∀ {t : TypeId} {v : Value} {d : DataW H} {ps : List MemPlace}, Try.prog.readableRec t = true → t < Try.prog.types.size → DataW.Trod enc Try.prog W 0 (fun _ => true) true t v d ps → (∀ z ∈ ps, z.block < W.heap.size) → DataW.Trod enc Try.prog W' 0 (fun b => decide (b < W.heap.size)) true t v d ps :=
    fun hr ht h hl => Below.trod laid hr ht h bel hl
  have k9 : Try.prog.readableRec 9 = true := by kernel_rfl
  have k29 : Try.prog.readableRec 29 = true := by kernel_rfl
  have z9 : 9 < Try.prog.types.size := of_decide_eq_true (by kernel_rfl)
  have z29 : 29 < Try.prog.types.size := of_decide_eq_true (by kernel_rfl)
  exact ⟨_, rfl, _, _, _, [], _, [], hW', trodAll_mk1 (shut_bool Try.underlying4 _), (trodAll_cons_mk (back k9 z9 h0 fun z hz => hlt z (by simp [hz])) (trodAll_cons_mk (back k9 z9 h1 fun z hz => hlt z (by simp [hz])) (trodAll_cons_mk (back k29 z29 h2 fun z hz => hlt z (by simp [hz])) trodAll_mk0))), rfl, bel.frame _, fun h => by cases h⟩
theorem over : Rows.sealJoinsRow.holds Try.pinned (OpenSpec.ofChange Rows.sealJoinsSpec) :=
  OpenClaim.holds_of_wide 5 Try.f5 rfl rfl rfl rfl rfl rfl rfl ⟨rfl, rfl, rfl, rfl, rfl⟩ rfl rfl rfl rfl rfl (by kernel_rfl) Try.func5 (by kernel_rfl)
    (of_decide_eq_true (by kernel_rfl)) (by unfold Func.isWrapper; first | (rw [if_pos (by decide +kernel)]; kernel_rfl) | (rw [if_neg (by decide +kernel)]; exact ⟨rfl, rfl⟩))
    (fun os started H enc _ => lifted os started H enc)
theorem proved : Rows.SealJoinsSaid := over
end Go.Proofs.Ytbehhlbcffbkoaa.sealJoins
namespace Go.Proofs.Ytbehhlbcffbkoaa
/-- The row, under a short name, for the claim. -/
theorem sealJoins_holds : Rows.SealJoinsSaid := sealJoins.proved
end Go.Proofs.Ytbehhlbcffbkoaa

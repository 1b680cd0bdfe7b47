/- The law TimesAt. -/
import Derived.Test.YtojaokhkbmiidaaGreatMbcln5
import Derived.Test.YtojaokhkbmiidaaGreatRows
import Derived.KernelRfl
namespace Go.Proofs.YtojaokhkbmiidaaGreat.Ev
open Go Go.Proofs
set_option maxRecDepth 10000
set_option maxHeartbeats 8000000
set_option linter.unusedVariables false
set_option linter.unusedSimpArgs false
attribute [local irreducible] Next Inside Runs Ops table
attribute [local go_sem] szStr szInt Option.getD_some isNil evStr iv mapRc cellsRc newRc rowsEvt_len fpRcSteps
noncomputable section
def timesAtLawG : List AV → Mem → Option (AV × Mem)
  | [.agg cs, .v (.int .i64 step)], m =>
    match unRc cs with
    | some R => if R.wide then some (.v (.bool true), m) else none
    | none => none
  | _, _ => none
def kpTimesAtLaw : Nat → Option (List Nat) := fun
  | 0 => some [1, 2]
  | 1 => some [1, 2, 12]
  | 2 => some [4]
  | 3 => some [1, 2, 5]
  | 4 => some [1, 2, 5, 29]
  | 5 => some [4]
  | 6 => some [4]
  | _ => none
attribute [go_sem] kpTimesAtLaw
def tab_timesAtLaw_ok : List (FuncId × (List AV → Mem → Option (AV × Mem))) := [(9, lightG), (22, yesG), (23, timesAtG), (13, rsoundG), (24, timesLookG), (25, timesSwaG), (27, revAtG), (26, sameEG), (28, rlookG), (29, rswaG)]
theorem timesAtLaw_ok : FunOk Tryz.prog 5 timesAtLawG := by
  have hC := table_ok (P := Tryz.prog) (l := tab_timesAtLaw_ok) (table_more light_ok (table_more awake27_ok (table_more timesAt_ok (table_more sound21_ok (table_more timesLook_ok (table_more timesSwa_ok (table_more revAt_ok (table_more sameE_ok (table_more rlook_ok (table_more rswa_ok table_nil))))))))))
  have t1 := fun args mm => table_at (l := tab_timesAtLaw_ok) (f := 9) (args := args) (m := mm) rfl
  have t2 := fun args mm => table_at (l := tab_timesAtLaw_ok) (f := 22) (args := args) (m := mm) rfl
  have t3 := fun args mm => table_at (l := tab_timesAtLaw_ok) (f := 23) (args := args) (m := mm) rfl
  have t4 := fun args mm => table_at (l := tab_timesAtLaw_ok) (f := 13) (args := args) (m := mm) rfl
  have t5 := fun args mm => table_at (l := tab_timesAtLaw_ok) (f := 24) (args := args) (m := mm) rfl
  have t6 := fun args mm => table_at (l := tab_timesAtLaw_ok) (f := 25) (args := args) (m := mm) rfl
  have t7 := fun args mm => table_at (l := tab_timesAtLaw_ok) (f := 27) (args := args) (m := mm) rfl
  have t8 := fun args mm => table_at (l := tab_timesAtLaw_ok) (f := 26) (args := args) (m := mm) rfl
  have t9 := fun args mm => table_at (l := tab_timesAtLaw_ok) (f := 28) (args := args) (m := mm) rfl
  have t10 := fun args mm => table_at (l := tab_timesAtLaw_ok) (f := 29) (args := args) (m := mm) rfl
  refine fun_ok mixed hC Tryz.func5 rfl kpTimesAtLaw false rfl fun args m r h => ?_
  unfold timesAtLawG at h
  split at h
  · rename_i cs step
    split at h
    · rename_i R hR
      obtain rfl := unRc_some hR
      split at h
      · rename_i hw
        simp only [Option.some.injEq] at h
        subst h
        refine ⟨Nat.le_of_ble_eq_true rfl, ?_⟩
        simp only [entry, List.length_cons, List.length_nil, List.range, List.range.loop, List.zip_cons_cons, List.zip_nil_right]
        have hA := above_push (cs := R.row) (above_self m)
        have hv : (m.push R.row).var m.vars.length = some R.row := push_var
        have nr := newRc (m := m) (x := R)
        generalize m.push R.row = m1 at hA hv nr
        have l0 := vrRc hv
        have l2 := lpRcSteps hv
        have c1 := fun mm => lightG_at (R := R) (m := mm)
        have w1 : (!true) = false := rfl
        have w2 : (!false) = true := rfl
        cases hl : R.light with
        | false =>
          rw [hl] at c1
          refine go1 (jn @nr (jn @l0 (jn @t1 (jn @c1 @w2)))) ?_
          refine runs_cond rfl (fun hc => ?_) (fun hc => by cases hc)
          refine go1 (jn @t2 @yes_eq) ?_
          exact leaves_fin rfl rfl (above_fin hA)
        | true =>
          rw [hl] at c1
          cases q0 : decide (step > 3000) with
          | true =>
            refine go1 (jn @nr (jn @l0 (jn @t1 (jn @c1 (jn @w1 @q0))))) ?_
            refine runs_cond rfl (fun hc => ?_) (fun hc => by cases hc)
            refine go1 (jn @t2 @yes_eq) ?_
            exact leaves_fin rfl rfl (above_fin hA)
          | false =>
            have hfit := light_fit hl hw
            have hlite : R.lite := lit_lite hl hw
            have c3 := fun mm => timesAtG_at (R := R) (step := step) (m := mm) hfit
            have c4 := fun mm => rsoundG_at (m := mm) hlite
            have c5 := fun mm => timesLookG_at (R := R) (step := step) (m := mm) hfit
            have c6 := fun mm => timesSwaG_at (R := R) (step := step) (m := mm) hfit
            have hhas : R.has step = (decide (step ≥ 0) && decide (step < R.steps)) := rfl
            refine go1 (jn @nr (jn @l0 (jn @t1 (jn @c1 (jn @w1 @q0))))) ?_
            refine runs_cond rfl (fun hc => by cases hc) (fun hc => ?_)
            cases hs : R.sound with
            | false =>
              rw [hs] at c3 c4 c5 c6
              rw [Bool.false_and, if_neg (by decide)] at c3
              rw [Bool.false_and, Bool.false_and] at c5 c6
              have z0 : (((([] : List Evt).length : Nat) : Int) == 0) = true := rfl
              refine go1 (jn @l0 (jn @t3 (jn @c3 (jn @t4 (jn @c4 @w2))))) ?_
              refine runs_cond rfl (fun hc => ?_) (fun hc => by cases hc)
              refine go1 (jn @z0 (jn @l0 (jn @t5 (jn @c5 (jn @t6 (jn @c6 (jn @w2 (jn @t2 @yes_eq)))))))) ?_
              exact leaves_fin rfl rfl (above_fin hA)
            | true =>
              rw [hs] at c3 c4 c5 c6
              rw [Bool.true_and] at c3 c5 c6
              have hst := (sound_ok' hs).steps
              cases q1 : decide (step < 0) with
              | true =>
                have hn : R.has step = false := by rw [hhas, decide_eq_false (by have := of_decide_eq_true q1; omega)]; rfl
                rw [hn, if_neg (by decide)] at c3
                rw [hn, Bool.false_and] at c5 c6
                have z0 : (((([] : List Evt).length : Nat) : Int) == 0) = true := rfl
                refine go1 (jn @l0 (jn @t3 (jn @c3 (jn @t4 (jn @c4 (jn @w1 @q1)))))) ?_
                refine runs_cond rfl (fun hc => ?_) (fun hc => by cases hc)
                refine go1 (jn @z0 (jn @l0 (jn @t5 (jn @c5 (jn @t6 (jn @c6 (jn @w2 (jn @t2 @yes_eq)))))))) ?_
                exact leaves_fin rfl rfl (above_fin hA)
              | false =>
                have h0 : 0 ≤ step := by have := of_decide_eq_false q1; omega
                cases q2 : decide (step ≥ R.steps) with
                | true =>
                  have hn : R.has step = false := by rw [hhas, decide_eq_false (show ¬ step < R.steps by have := of_decide_eq_true q2; omega), Bool.and_false]
                  rw [hn, if_neg (by decide)] at c3
                  rw [hn, Bool.false_and] at c5 c6
                  have z0 : (((([] : List Evt).length : Nat) : Int) == 0) = true := rfl
                  refine go1 (jn @l0 (jn @t3 (jn @c3 (jn @t4 (jn @c4 (jn @w1 (jn @q1 (jn @l2 @q2)))))))) ?_
                  refine runs_cond rfl (fun hc => ?_) (fun hc => by cases hc)
                  refine go1 (jn @z0 (jn @l0 (jn @t5 (jn @c5 (jn @t6 (jn @c6 (jn @w2 (jn @t2 @yes_eq)))))))) ?_
                  exact leaves_fin rfl rfl (above_fin hA)
                | false =>
                  have h1 : step < R.steps := by have := of_decide_eq_false q2; omega
                  have hn : R.has step = true := by rw [hhas, decide_eq_true h0, decide_eq_true h1]; rfl
                  rw [hn, if_pos rfl] at c3
                  rw [hn, Bool.true_and] at c5 c6
                  have hmay := sound_may hs
                  have c7 := fun mm => revAtG_at (m := mm) hs hfit h0 h1
                  have hlen := evAt_len (Rc.may_small hmay) step
                  have c8 := fun mm => sameEG_at (m := mm) (g := .no) (g2 := .no) (l := evAt R step) (by omega)
                  have c9 := fun mm => rlookG_at (R := R) (step := step) (m := mm) (Rc.may_num hmay).eval
                  rw [← look_same h0] at c9
                  have c10 := fun mm => rswaG_at (R := R) (step := step) (m := mm) hs ⟨h0, by omega⟩
                  generalize lookB R step = lb at c5 c9
                  generalize swaIs R R.swaSteps.1 step = sb at c6 c10
                  have e1 : (lb == lb) = true := by cases lb <;> rfl
                  have e2 : (sb == sb) = true := by cases sb <;> rfl
                  refine go1 (jn @l0 (jn @t3 (jn @c3 (jn @t4 (jn @c4 (jn @w1 (jn @q1 (jn @l2 @q2)))))))) ?_
                  refine runs_cond rfl (fun hc => by cases hc) (fun hc => ?_)
                  refine go0 ?_
                  refine runs_ops_drawn_kept (by kernel_rfl) ?_
                  refine go1 (jn @l0 (jn @t7 (jn @c7 (jn @t8 (jn @c8 (jn @t5 (jn @c5 (jn @t9 (jn @c9 (jn @e1 (jn @t6 (jn @c6 (jn @t10 (jn @c10 (jn @e2 (jn @t2 @yes_eq)))))))))))))))) ?_
                  exact leaves_fin rfl rfl (above_fin hA)
      · cases h
    · cases h
  · cases h
end
end Go.Proofs.YtojaokhkbmiidaaGreat.Ev

namespace Go.Proofs.YtojaokhkbmiidaaGreat.timesAt
open Go Go.Proofs Go.ChangeShapes Go.WideShapes Go.ChangeAt Go.RowKit
set_option linter.unusedVariables false
theorem own : ownKnob Tryz.prog.godebug = none := by kernel_rfl
theorem laid : laidOutB Tryz.prog = true := by kernel_rfl
theorem same_left {H : Type} : ∀ ds : List (DataW H), ds.length = 2 → Rows.timesAtSpec.fn H ds = { results := [.lit (.bool true)], args := ds }
  | [d0, d1], _ => rfl
set_option maxRecDepth 100000 in
theorem holds_at : ∀ vs, Ev.TypedAll Tryz.prog 12 [37, 3] vs → ∃ m', Ev.timesAtLawG vs ⟨[], []⟩ = some (.v (.bool true), m') := by
  rintro (_ | ⟨a, _ | ⟨b, _ | ⟨x, r⟩⟩⟩) h
  · exact h.elim
  · exact h.2.elim
  · obtain ⟨h0, h1, _⟩ := h
    obtain ⟨R, hw, _, rfl⟩ := Ev.arg_rc h0
    obtain ⟨n, rfl, n0, n1⟩ := Ev.arg_int Tryz.underlying3 h1
    refine ⟨⟨[], []⟩, ?_⟩
    simp only [Ev.timesAtLawG, Ev.unRc_row]
    exact if_pos hw
  · exact h.2.2.elim
set_option maxRecDepth 100000 in
theorem lifted (os : Os) (started : os.Started) (H : Type) (enc : TypeId × Value → H) :
    ReturnsInHanded {} Tryz.checked os 5 .any (Rows.timesAtSpec.pre6 enc Tryz.prog Tryz.f5 Rows.timesAtRow.domain false) (Rows.timesAtSpec.post enc Tryz.prog Tryz.f5 false true false false) :=
  Ev.law_lifted (C := Tryz.checked) own started (by kernel_rfl) Tryz.func5
    (ChangeSpec.witness6 (enc := enc) (C := Tryz.checked) false ⟨#[], #[.agg #[.string ⟨#[]⟩, .int .i64 0, .int .i64 0, .int .i64 0, .slice none 0 0, .slice none 0 0, .int .i64 0, .slice none 0 0, .bool false, .string ⟨#[]⟩, .bool false, .int .i64 0, .int .i64 0, .bool false, .bool false, .string ⟨#[]⟩, .bool false, .int .i64 0, .int .i64 0, .int .i64 0, .int .i64 0, .int .i64 0, .bool false, .string ⟨#[]⟩, .bool false, .int .i64 0, .bool false, .int .i64 0, .bool false, .int .i64 0, .int .i64 0, .int .i64 0], .int .i64 0], []⟩ 8 (by kernel_rfl) (by kernel_rfl) (by kernel_rfl) (by kernel_rfl))
    laid rfl [37, 3] Tryz.params5 12 (by kernel_rfl) (tb := 4) rfl Tryz.underlying4 same_left Ev.timesAtLaw_ok holds_at
theorem over : Rows.timesAtRow.holds Tryz.pinned (OpenSpec.ofChange Rows.timesAtSpec) :=
  OpenClaim.holds_of_wide 5 Tryz.f5 rfl rfl rfl rfl rfl rfl rfl ⟨rfl, rfl, rfl, rfl, rfl⟩ rfl rfl rfl rfl rfl (by kernel_rfl) Tryz.func5 (by kernel_rfl)
    (of_decide_eq_true (by kernel_rfl)) (by unfold Func.isWrapper; first | (rw [if_pos (by decide +kernel)]; kernel_rfl) | (rw [if_neg (by decide +kernel)]; exact ⟨rfl, rfl⟩))
    (fun os started H enc _ => lifted os started H enc)
theorem proved : Rows.TimesAtSaid := over
end Go.Proofs.YtojaokhkbmiidaaGreat.timesAt
namespace Go.Proofs.YtojaokhkbmiidaaGreat
/-- The row, under a short name, for the claim. -/
theorem timesAt_holds : Rows.TimesAtSaid := timesAt.proved
end Go.Proofs.YtojaokhkbmiidaaGreat

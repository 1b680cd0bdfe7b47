/- The law PhasesSpans. -/
import Derived.Test.YtojaokhkbmiidaaGreatMbiae4
import Derived.Test.YtojaokhkbmiidaaGreatMbiae5
import Derived.Test.YtojaokhkbmiidaaGreatRows
import Derived.KernelRfl
namespace Go.Proofs.YtojaokhkbmiidaaGreat.Ev
open Go Go.Proofs
set_option maxRecDepth 10000
set_option maxHeartbeats 8000000
set_option linter.unusedVariables false
set_option linter.unusedSimpArgs false
attribute [local irreducible] Next Inside Runs Ops table
attribute [local go_sem] szStr szInt Option.getD_some isNil evStr iv loadInt mapRc cellsRc newRc rowsSp_len ldSp niSp fpRcSteps feSpFrom_ feSpTo_ leSpFrom_ leSpTo_
def phasesSpansLawG : List AV → Mem → Option (AV × Mem)
  | [.agg cs, .v (.int .i64 step)], m =>
    match unRc cs with
    | some R => if R.wide then some (.v (.bool true), m) else none
    | none => none
  | _, _ => none
theorem lite_of {R : Rc} (h : R.light = true) (hw : R.wide) : R.lite := lit_lite h hw
def kpPhasesSpansLaw : Nat → Option (List Nat) := fun
  | 0 => some [1, 2]
  | 1 => some [1, 2, 12]
  | 2 => some [4]
  | 3 => some [1, 2, 5, 6]
  | 4 => some [1, 2, 5, 6, 21]
  | 5 => some [4]
  | 6 => some [1, 2, 5, 6, 7]
  | 7 => some [1, 2, 5, 7, 42]
  | 8 => some [4]
  | 9 => some [1, 2, 5, 7, 8]
  | 10 => some [1, 2, 5, 7, 8, 9]
  | 11 => some [1, 2, 5, 7, 8, 9, 46]
  | 12 => some [1, 2, 5, 7, 8, 9]
  | 13 => some [1, 2, 5, 7, 8, 9, 57]
  | 14 => some [4]
  | 15 => some [1, 2, 5, 7, 8, 9, 73]
  | 16 => some [1, 2, 5, 7, 8, 9]
  | 17 => some [4]
  | _ => none
attribute [go_sem] kpPhasesSpansLaw
def tab_phasesSpansLaw_ok : List (FuncId × (List AV → Mem → Option (AV × Mem))) := [(9, lightG), (17, yesG), (18, spansG), (13, rsoundG), (19, rspansG), (20, spanAtG), (21, rspanAtG)]
theorem phasesSpansLaw_ok : FunOk Tryz.prog 4 phasesSpansLawG := by
  have hC := table_ok (P := Tryz.prog) (l := tab_phasesSpansLaw_ok) (table_more light_ok (table_more awake22_ok (table_more spansP_ok (table_more sound21_ok (table_more spans22_ok (table_more spanAt_ok (table_more at22_ok table_nil)))))))
  have t1 := fun args mm => table_at (l := tab_phasesSpansLaw_ok) (f := 9) (args := args) (m := mm) rfl
  have t2 := fun args mm => table_at (l := tab_phasesSpansLaw_ok) (f := 17) (args := args) (m := mm) rfl
  have t3 := fun args mm => table_at (l := tab_phasesSpansLaw_ok) (f := 18) (args := args) (m := mm) rfl
  have t4 := fun args mm => table_at (l := tab_phasesSpansLaw_ok) (f := 13) (args := args) (m := mm) rfl
  have t5 := fun args mm => table_at (l := tab_phasesSpansLaw_ok) (f := 19) (args := args) (m := mm) rfl
  have t6 := fun args mm => table_at (l := tab_phasesSpansLaw_ok) (f := 20) (args := args) (m := mm) rfl
  have t7 := fun args mm => table_at (l := tab_phasesSpansLaw_ok) (f := 21) (args := args) (m := mm) rfl
  refine fun_ok mixed hC Tryz.func4 rfl kpPhasesSpansLaw false rfl fun args m r h => ?_
  unfold phasesSpansLawG at h
  split at h
  · rename_i cs step
    split at h
    · rename_i R hR
      obtain rfl := unRc_some hR
      split at h
      · rename_i hw
        simp only [Option.some.injEq] at h
        subst h
        refine ⟨Nat.le_of_ble_eq_true rfl, ?_⟩
        simp only [entry, List.length_cons, List.length_nil, List.range, List.range.loop, List.zip_cons_cons, List.zip_nil_right]
        have hA := above_push (cs := R.row) (above_self m)
        have hv : (m.push R.row).var m.vars.length = some R.row := push_var
        have nr := newRc (m := m) (x := R)
        generalize m.push R.row = m1 at hA hv nr
        have l0 := vrRc hv
        have c1 := fun mm => lightG_at (R := R) (m := mm)
        have w1 : (!true) = false := rfl
        have w2 : (!false) = true := rfl
        cases hl : R.light with
        | false =>
          rw [hl] at c1
          refine go1 (jn @nr (jn @l0 (jn @t1 (jn @c1 @w2)))) ?_
          refine runs_cond rfl (fun hc => ?_) (fun hc => by cases hc)
          refine go1 (jn @t2 @yes_eq) ?_
          exact leaves_fin rfl rfl (above_fin hA)
        | true =>
          rw [hl] at c1
          have hfit := light_fit hl hw
          have hlite := lite_of hl hw
          have c3 := fun mm => spansG_at (R := R) (m := mm) hfit
          have c4 := fun mm => rsoundG_at (m := mm) hlite
          refine go1 (jn @nr (jn @l0 (jn @t1 (jn @c1 @w1)))) ?_
          refine runs_cond rfl (fun hc => by cases hc) (fun hc => ?_)
          cases hs : R.sound with
          | false =>
            rw [hs] at c3 c4
            rw [if_neg (by decide), if_neg (by decide)] at c3
            have z0 : (((rowsSp []).length : Int) == 0) = true := rfl
            have z1 : ((1 : Int) == 1) = true := rfl
            refine go1 (jn @l0 (jn @t3 (jn @c3 (jn @t4 (jn @c4 @w2))))) ?_
            refine runs_cond rfl (fun hc => ?_) (fun hc => by cases hc)
            refine go1 (jn @z0 (jn @z1 (jn @t2 @yes_eq))) ?_
            exact leaves_fin rfl rfl (above_fin hA)
          | true =>
            rw [hs] at c3 c4
            rw [if_pos rfl, if_pos rfl] at c3
            have ok := sound_ok' hs
            have hP64 := (Rc.may_small ok.may).2.2.1
            have c5 := fun mm => rspansG_at (m := mm) ok.may hfit
            have c6 := fun mm => spanAtG_eq (m := mm) (g := .no) (l := R.spans) (step := step) (by rw [show R.spans.length = R.phases.length from spansTo_len]; unfold big40; omega)
            have c7 := fun mm => rspanAtG_at (m := mm) (step := step) ok.may hfit
            have hcnt := cnt_spans (R := R) (step := step) ok.grow
            rw [ok.last] at hcnt
            have hcnt' : (R.spans.filter (spanHas step)).length = if 0 ≤ step ∧ step < R.steps then 1 else 0 := hcnt
            have hlen : R.spans.length = R.phases.length := spansTo_len
            have l2 := lpRcSteps hv
            generalize firstBy (spanHas step) R.spans 0 = at0 at c6 c7
            generalize R.spans = l at c3 c5 c6 hcnt' hlen
            have z0 : ((0 : Int) != 0) = false := rfl
            have q9 : (at0 == at0) = true := by simp
            have z1 : ((l.length : Int) != (l.length : Int)) = false := by simp
            refine go1 (jn @l0 (jn @t3 (jn @c3 (jn @t4 (jn @c4 @w1))))) ?_
            refine runs_cond rfl (fun hc => by cases hc) (fun hc => ?_)
            refine go1 (jn @l0 (jn @t5 (jn @c5 (jn @z0 @z1)))) ?_
            refine runs_cond rfl (fun hc => by cases hc) (fun hc => ?_)
            refine go0 ?_
            refine runs_loop (fun k e m' => ∃ (i : Nat), i ≤ l.length ∧ m1 = m' ∧ k = l.length - i ∧
              e = [(1, AV.v (.int .i64 step)), (2, .ptr m.vars.length 0), (5, .lst .no 2 (rowsSp l)), (7, .lst .no 2 (rowsSp l)), (8, .v (.int .i64 ((((l.take i).filter (spanHas step)).length : Nat) : Int))), (9, .v (.int .i64 (i : Int)))]) (k := l.length) ⟨0, Nat.zero_le _, rfl, rfl, rfl⟩ ?_
            rintro k e m' ⟨i, hi0, rfl, rfl, rfl⟩
            refine go0 ?_
            refine runs_cond rfl (fun hc => ?_) (fun hc => ?_)
            · have hi1 : i < l.length := by have := of_decide_eq_true hc; omega
              have f2 := atSp (g := .no) (kk := .i64) hi1
              have hN : ((l.take (i + 1)).filter (spanHas step)).length = ((l.take i).filter (spanHas step)).length + (if spanHas step (l.getD i sp0) = true then 1 else 0) := by
                rw [take_next (d := sp0) hi1, List.filter_append, List.length_append, List.filter_cons, List.filter_nil]
                split <;> rfl
              have hle : ((l.take i).filter (spanHas step)).length ≤ i := by
                have := List.length_filter_le (spanHas step) (l.take i)
                rw [List.length_take] at this
                omega
              have r6 := next_i64 (i := i) (by omega)
              generalize ((l.take i).filter (spanHas step)).length = c at hN hle
              have r7 := next_i64 (i := c) (by omega)
              generalize l.getD i sp0 = s at f2 hN
              have hsp : spanHas step s = (decide (s.from_ ≤ step) && decide (step < s.to_)) := rfl
              have e1 : eqTy Tryz.prog 8 51 (.agg s.row) (.agg s.row) = some true := by rw [eqSp]; simp
              refine go0 ?_
              refine runs_ops_drawn_kept (by kernel_rfl) ?_
              refine go1 (jn @f2 (jn @e1 @w1)) ?_
              refine runs_cond rfl (fun hc => by cases hc) (fun hc => ?_)
              cases q1 : decide (s.from_ ≤ step) with
              | false =>
                rw [hsp, q1, Bool.false_and, if_neg (by decide), Nat.add_zero] at hN
                refine go1 (jn @f2 @q1) ?_
                refine runs_cond rfl (fun hc => by cases hc) (fun hc => ?_)
                refine go1 @r6 ?_
                exact ⟨l.length - (i + 1), by omega, i + 1, hi1, rfl, rfl, by rw [hN]; rfl⟩
              | true =>
                cases q2 : decide (step < s.to_) with
                | false =>
                  rw [hsp, q1, q2, Bool.and_false, if_neg (by decide), Nat.add_zero] at hN
                  refine go1 (jn @f2 (jn @q1 @q2)) ?_
                  refine runs_cond rfl (fun hc => by cases hc) (fun hc => ?_)
                  refine go1 @r6 ?_
                  exact ⟨l.length - (i + 1), by omega, i + 1, hi1, rfl, rfl, by rw [hN]; rfl⟩
                | true =>
                  rw [hsp, q1, q2, Bool.and_self, if_pos rfl] at hN
                  refine go1 (jn @f2 (jn @q1 @q2)) ?_
                  refine runs_cond rfl (fun hc => ?_) (fun hc => by cases hc)
                  refine go1 (jn @r7 @r6) ?_
                  exact ⟨l.length - (i + 1), by omega, i + 1, hi1, rfl, rfl, by rw [hN]⟩
            · have hi1 : i = l.length := by have := of_decide_eq_false hc; omega
              subst hi1
              rw [List.take_length, hcnt']
              refine go0 ?_
              refine runs_ops_drawn_kept (by kernel_rfl) ?_
              by_cases hst : 0 ≤ step ∧ step < R.steps
              · rw [if_pos hst]
                have b0 : decide (step ≥ 0) = true := decide_eq_true hst.1
                have b1 : decide (step < R.steps) = true := decide_eq_true hst.2
                have b2 : ((((1 : Nat) : Int) == 1) == true) = true := rfl
                have b3 : decide (((1 : Nat) : Int) ≤ 1) = true := rfl
                refine go1 (jn @b0 (jn @l2 (jn @b1 (jn @b2 (jn @b3 (jn @t6 (jn @c6 (jn @l0 (jn @t7 (jn @c7 (jn @q9 (jn @t2 @yes_eq)))))))))))) ?_
                exact leaves_fin rfl rfl (above_fin hA)
              · rw [if_neg hst]
                have b2 : ((((0 : Nat) : Int) == 1) == false) = true := rfl
                have b3 : decide (((0 : Nat) : Int) ≤ 1) = true := rfl
                by_cases h0 : 0 ≤ step
                · have b0 : decide (step ≥ 0) = true := decide_eq_true h0
                  have b1 : decide (step < R.steps) = false := decide_eq_false (by omega)
                  refine go1 (jn @b0 (jn @l2 (jn @b1 (jn @b2 (jn @b3 (jn @t6 (jn @c6 (jn @l0 (jn @t7 (jn @c7 (jn @q9 (jn @t2 @yes_eq)))))))))))) ?_
                  exact leaves_fin rfl rfl (above_fin hA)
                · have b0 : decide (step ≥ 0) = false := decide_eq_false h0
                  refine go1 (jn @b0 (jn @b2 (jn @b3 (jn @t6 (jn @c6 (jn @l0 (jn @t7 (jn @c7 (jn @q9 (jn @t2 @yes_eq)))))))))) ?_
                  exact leaves_fin rfl rfl (above_fin hA)
      · cases h
    · cases h
  · cases h
end Go.Proofs.YtojaokhkbmiidaaGreat.Ev

namespace Go.Proofs.YtojaokhkbmiidaaGreat.phasesSpans
open Go Go.Proofs Go.ChangeShapes Go.WideShapes Go.ChangeAt Go.RowKit
set_option linter.unusedVariables false
theorem own : ownKnob Tryz.prog.godebug = none := by kernel_rfl
theorem laid : laidOutB Tryz.prog = true := by kernel_rfl
theorem same_left {H : Type} : ∀ ds : List (DataW H), ds.length = 2 → Rows.phasesSpansSpec.fn H ds = { results := [.lit (.bool true)], args := ds }
  | [d0, d1], _ => rfl
set_option maxRecDepth 100000 in
theorem holds_at : ∀ vs, Ev.TypedAll Tryz.prog 12 [37, 3] vs → ∃ m', Ev.phasesSpansLawG vs ⟨[], []⟩ = some (.v (.bool true), m') := by
  rintro (_ | ⟨a, _ | ⟨b, _ | ⟨x, r⟩⟩⟩) h
  · exact h.elim
  · exact h.2.elim
  · obtain ⟨h0, h1, _⟩ := h
    obtain ⟨R, hw, _, rfl⟩ := Ev.arg_rc h0
    obtain ⟨n, rfl, n0, n1⟩ := Ev.arg_int Tryz.underlying3 h1
    refine ⟨⟨[], []⟩, ?_⟩
    simp only [Ev.phasesSpansLawG, Ev.unRc_row]
    exact if_pos hw
  · exact h.2.2.elim
set_option maxRecDepth 100000 in
theorem lifted (os : Os) (started : os.Started) (H : Type) (enc : TypeId × Value → H) :
    ReturnsInHanded {} Tryz.checked os 4 .any (Rows.phasesSpansSpec.pre6 enc Tryz.prog Tryz.f4 Rows.phasesSpansRow.domain false) (Rows.phasesSpansSpec.post enc Tryz.prog Tryz.f4 false true false false) :=
  Ev.law_lifted (C := Tryz.checked) own started (by kernel_rfl) Tryz.func4
    (ChangeSpec.witness6 (enc := enc) (C := Tryz.checked) false ⟨#[], #[.agg #[.string ⟨#[]⟩, .int .i64 0, .int .i64 0, .int .i64 0, .slice none 0 0, .slice none 0 0, .int .i64 0, .slice none 0 0, .bool false, .string ⟨#[]⟩, .bool false, .int .i64 0, .int .i64 0, .bool false, .bool false, .string ⟨#[]⟩, .bool false, .int .i64 0, .int .i64 0, .int .i64 0, .int .i64 0, .int .i64 0, .bool false, .string ⟨#[]⟩, .bool false, .int .i64 0, .bool false, .int .i64 0, .bool false, .int .i64 0, .int .i64 0, .int .i64 0], .int .i64 0], []⟩ 8 (by kernel_rfl) (by kernel_rfl) (by kernel_rfl) (by kernel_rfl))
    laid rfl [37, 3] Tryz.params4 12 (by kernel_rfl) (tb := 4) rfl Tryz.underlying4 same_left Ev.phasesSpansLaw_ok holds_at
theorem over : Rows.phasesSpansRow.holds Tryz.pinned (OpenSpec.ofChange Rows.phasesSpansSpec) :=
  OpenClaim.holds_of_wide 4 Tryz.f4 rfl rfl rfl rfl rfl rfl rfl ⟨rfl, rfl, rfl, rfl, rfl⟩ rfl rfl rfl rfl rfl (by kernel_rfl) Tryz.func4 (by kernel_rfl)
    (of_decide_eq_true (by kernel_rfl)) (by unfold Func.isWrapper; first | (rw [if_pos (by decide +kernel)]; kernel_rfl) | (rw [if_neg (by decide +kernel)]; exact ⟨rfl, rfl⟩))
    (fun os started H enc _ => lifted os started H enc)
theorem proved : Rows.PhasesSpansSaid := over
end Go.Proofs.YtojaokhkbmiidaaGreat.phasesSpans
namespace Go.Proofs.YtojaokhkbmiidaaGreat
/-- The row, under a short name, for the claim. -/
theorem phasesSpans_holds : Rows.PhasesSpansSaid := phasesSpans.proved
end Go.Proofs.YtojaokhkbmiidaaGreat

/- The law LintOf. -/
import Derived.Test.YtojaokhkbmiidaaGreatMbehb16
import Derived.Test.YtojaokhkbmiidaaGreatRows
import Derived.KernelRfl
namespace Go.Proofs.YtojaokhkbmiidaaGreat.Ev
open Go Go.Proofs
set_option maxRecDepth 10000
set_option maxHeartbeats 8000000
set_option linter.unusedVariables false
set_option linter.unusedSimpArgs false
noncomputable section
attribute [local irreducible] Next Inside Runs Ops table
attribute [local go_sem] szStr szInt Option.getD_some isNil evStr iv mapRc cellsRc newRc rowsFl_len rowsS_len loadStr fpRcSteps
theorem mkWordsL : evBuildSlice Tryz.prog 22 8 [(0, .v (.string ⟨#[]⟩)), (1, .v (.string ⟨#[105, 100, 108, 101]⟩)), (2, .v (.string ⟨#[115, 116, 105, 108, 108]⟩)), (3, .v (.string ⟨#[98, 108, 105, 110, 100]⟩)), (4, .v (.string ⟨#[122, 101, 114, 111]⟩)), (5, .v (.string ⟨#[108, 111, 115, 116]⟩)), (6, .v (.string ⟨#[108, 97, 116, 101]⟩)), (7, .v (.string ⟨#[115, 108, 111, 119]⟩))] = some (.lst .full 1 (rowsS lwords)) := build_rows appStrs rfl rfl (by decide)
attribute [local go_sem] mkWordsL
def lintLawG : List AV → Mem → Option (AV × Mem)
 | [.agg cs, .v (.int .i64 rule)], m =>
  match unRc cs with
  | some R => if R.wide then some (.v (.bool true), m) else none
  | none => none
 | _, _ => none
theorem lintL_len {R : Rc} (h : R.small) : (lintL R).length ≤ 10000 := by
 have b1 := lidleTo_len R R.groups.length
 have b2 := lstillTo_len R R.phases.length
 have b3 := lblindTo_len R R.metrics.length
 have b4 := outerTo_len h 63 4 R.phases.length
 have b5 := outerTo_len h 65 5 R.phases.length
 have hG64 := h.2.1
 have hP64 := h.2.2.1
 have hM64 := h.1
 have s1 : ∀ (b : Bool) (x : Fl), (if b = true then [x] else []).length ≤ 1 := fun b x => by cases b <;> simp
 have s2 := s1 (lateB R) ⟨6, 0, 0⟩
 have s3 := s1 (slowB R) ⟨7, 0, 0⟩
 unfold lintL
 split
 ·unfold lint5
  simp only [List.length_append]
  omega
 ·simp
def kpLintLaw : Nat → Option (List Nat) := fun
 | 0 => some [1, 2]
 | 1 => some [1, 2, 5]
 | 2 => some [1, 2, 5, 6]
 | 3 => some [1, 2, 5, 6, 14]
 | 4 => some [1, 2, 5, 6, 14]
 | 5 => some [2, 22]
 | 6 => some [4]
 | 7 => some [2, 30]
 | 8 => some [4]
 | 9 => some [2, 7]
 | 10 => some [2, 7, 36]
 | 11 => some [4]
 | 12 => some [4]
 | _ => none
attribute [go_sem] kpLintLaw
def tab_lintLaw_ok : List (FuncId × (List AV → Mem → Option (AV × Mem))) := [(32, lwordG), (9, lightG), (33, yesG), (34, lintOfG), (13, rsoundG), (35, ref55G), (15, sameFG)]
theorem lintLaw_ok : FunOk Tryz.prog 8 lintLawG := by
 have hC := table_ok (P := Tryz.prog) (l := tab_lintLaw_ok) (table_more lword_ok (table_more light_ok (table_more awake55_ok (table_more lintOf_ok (table_more sound21_ok (table_more ref55_ok (table_more sameF_ok table_nil)))))))
 have t1 := fun args mm => table_at (l := tab_lintLaw_ok) (f := 32) (args := args) (m := mm) rfl
 have t2 := fun args mm => table_at (l := tab_lintLaw_ok) (f := 9) (args := args) (m := mm) rfl
 have t3 := fun args mm => table_at (l := tab_lintLaw_ok) (f := 33) (args := args) (m := mm) rfl
 have t4 := fun args mm => table_at (l := tab_lintLaw_ok) (f := 34) (args := args) (m := mm) rfl
 have t5 := fun args mm => table_at (l := tab_lintLaw_ok) (f := 13) (args := args) (m := mm) rfl
 have t6 := fun args mm => table_at (l := tab_lintLaw_ok) (f := 35) (args := args) (m := mm) rfl
 have t7 := fun args mm => table_at (l := tab_lintLaw_ok) (f := 15) (args := args) (m := mm) rfl
 refine fun_ok mixed hC Tryz.func8 rfl kpLintLaw false rfl fun args m r h => ?_
 unfold lintLawG at h
 split at h
 ·rename_i cs rule
  split at h
  ·rename_i R hR
   obtain rfl := unRc_some hR
   split at h
   ·rename_i hw
    simp only [Option.some.injEq] at h
    subst h
    refine ⟨Nat.le_of_ble_eq_true rfl, ?_⟩
    refine en ?_
    have hA := above_push (cs := R.row) (above_self m)
    have hv : (m.push R.row).var m.vars.length = some R.row := push_var
    have nr := newRc (m := m) (x := R)
    generalize m.push R.row = m1 at hA hv nr
    have l0 := vrRc hv
    have l2 := lpRcSteps hv
    have c1 := fun mm => lightG_at (R := R) (m := mm)
    have c0 : ∀ mm, lwordG [.v (.int .i64 rule)] mm = some (.v (.string (lword rule)), mm) := fun _ => rfl
    have w1 : (!true) = false := rfl
    have w2 : (!false) = true := rfl
    have hne : (lword rule != lword rule) = false := by unfold bne; rw [bytes_self]; rfl
    refine go1 @nr ?_
    generalize m.vars.length = n1 at hv l0 l2 ⊢
    refine ops_rcut [(1, .v (.int .i64 rule)), (2, .ptr n1 0), (5, .lst .full 1 (rowsS lwords)), (6, .v (.string ⟨#[]⟩)), (14, .v (.bool (decide (0 ≤ rule ∧ rule ≤ 7))))] m1 ?_ ?_
    ·repeat' (first | refine gos0 ?_ | (refine ops_here ?_; (fail_if_success (refine ops_case (B := true) rfl rfl rfl ?_ ?_)); (fail_if_success (refine ops_case (B := false) rfl rfl rfl ?_ ?_)); refine ops_case rfl rfl rfl (fun hB => ?_) (fun hB => ?_) <;> rw [hB]) | (refine runs_here ?_; refine runs_cond rfl (fun hc => ?_) (fun hc => ?_) <;> first | (cases hc; done) | skip))
     all_goals refine ⟨?_, rfl⟩
     all_goals first | (simp_all; done) | (simp_all; omega)
    refine next_normal ?_
    refine runs_rcut [(1, .v (.int .i64 rule)), (2, .ptr n1 0), (5, .lst .full 1 (rowsS lwords)), (6, .v (.string (lword rule))), (14, .v (.bool (decide (0 ≤ rule ∧ rule ≤ 7))))] m1 ?_ ?_
    ·refine runs_cond rfl (fun hc => ?_) (fun hc => ?_)
     ·have hr := of_decide_eq_true hc
      obtain ⟨i, rfl⟩ := Int.eq_ofNat_of_zero_le hr.1
      have f7 := atStrs (g := .full) (kk := .i64) (l := lwords) (i := i) (show i < 8 by omega)
      rw [← show lword (i : Int) = lwords.getD i ⟨#[]⟩ from if_pos ⟨by omega, by omega⟩] at f7
      refine go1 @f7 ?_
      exact ⟨rfl, rfl, rfl⟩
     ·have hr := of_decide_eq_false hc
      rw [show lword rule = ⟨#[]⟩ from if_neg hr]
      refine go0 ?_
      exact ⟨rfl, rfl, rfl⟩
    refine next_normal ?_
    refine go1 (jn @t1 (jn @c0 @hne)) ?_
    refine runs_cond rfl (fun hc => by cases hc) (fun hc => ?_)
    cases hl : R.light with
    | false =>
     rw [hl] at c1
     refine go1 (jn @l0 (jn @t2 (jn @c1 @w2))) ?_
     refine runs_cond rfl (fun hc => ?_) (fun hc => by cases hc)
     refine go1 (jn @t3 @yes_eq) ?_
     exact leaves_fin rfl rfl (above_fin hA)
    | true =>
     rw [hl] at c1
     cases q0 : decide (R.steps > 3000) with
     | true =>
      refine go1 (jn @l0 (jn @t2 (jn @c1 (jn @w1 (jn @l2 @q0))))) ?_
      refine runs_cond rfl (fun hc => ?_) (fun hc => by cases hc)
      refine go1 (jn @t3 @yes_eq) ?_
      exact leaves_fin rfl rfl (above_fin hA)
     | false =>
      have hfit := light_fit hl hw
      have hlite : R.lite := lit_lite hl hw
      have c3 := fun mm => lintOfG_at (R := R) (m := mm) hfit
      have c4 := fun mm => rsoundG_at (m := mm) hlite
      refine go1 (jn @l0 (jn @t2 (jn @c1 (jn @w1 (jn @l2 @q0))))) ?_
      refine runs_cond rfl (fun hc => by cases hc) (fun hc => ?_)
      cases hs : R.sound with
      | false =>
       rw [hs] at c4
       rw [show lintL R = [] from if_neg (by rw [hs]; decide)] at c3
       have z0 : (((([] : List Fl).length : Nat) : Int) == 0) = true := rfl
       refine go1 (jn @l0 (jn @t4 (jn @c3 (jn @t5 (jn @c4 @w2))))) ?_
       refine runs_cond rfl (fun hc => ?_) (fun hc => by cases hc)
       refine go1 (jn @z0 (jn @t3 @yes_eq)) ?_
       exact leaves_fin rfl rfl (above_fin hA)
      | true =>
       rw [hs] at c4
       have c5 := fun mm => ref55G_at (R := R) (m := mm) hfit hs
       have hlen := lintL_len (Rc.may_small (sound_may hs))
       have c6 := fun mm => sameFG_at (m := mm) (g := .no) (g2 := .no) (l := lintL R) (by omega)
       refine go1 (jn @l0 (jn @t4 (jn @c3 (jn @t5 (jn @c4 @w1))))) ?_
       refine runs_cond rfl (fun hc => by cases hc) (fun hc => ?_)
       refine go1 (jn @l0 (jn @t6 (jn @c5 (jn @t7 (jn @c6 (jn @t3 @yes_eq)))))) ?_
       exact leaves_fin rfl rfl (above_fin hA)
   ·cases h
  ·cases h
 ·cases h
end
end Go.Proofs.YtojaokhkbmiidaaGreat.Ev
namespace Go.Proofs.YtojaokhkbmiidaaGreat.lintOf
open Go Go.Proofs Go.ChangeShapes Go.WideShapes Go.ChangeAt Go.RowKit
set_option linter.unusedVariables false
theorem own : ownKnob Tryz.prog.godebug = none := by kernel_rfl
theorem laid : laidOutB Tryz.prog = true := by kernel_rfl
theorem same_left {H : Type} : ∀ ds : List (DataW H), ds.length = 2 → Rows.lintOfSpec.fn H ds = { results := [.lit (.bool true)], args := ds }
 | [d0, d1], _ => rfl
set_option maxRecDepth 100000 in
theorem holds_at : ∀ vs, Ev.TypedAll Tryz.prog 12 [37, 3] vs → ∃ m', Ev.lintLawG vs ⟨[], []⟩ = some (.v (.bool true), m') := by
 rintro (_ | ⟨a, _ | ⟨b, _ | ⟨x, r⟩⟩⟩) h
 ·exact h.elim
 ·exact h.2.elim
 ·obtain ⟨h0, h1, _⟩ := h
  obtain ⟨R, hw, _, rfl⟩ := Ev.arg_rc h0
  obtain ⟨n, rfl, n0, n1⟩ := Ev.arg_int Tryz.underlying3 h1
  refine ⟨⟨[], []⟩, ?_⟩
  simp only [Ev.lintLawG, Ev.unRc_row]
  exact if_pos hw
 ·exact h.2.2.elim
set_option maxRecDepth 100000 in
theorem lifted (os : Os) (started : os.Started) (H : Type) (enc : TypeId × Value → H) :
  ReturnsInHanded {} Tryz.checked os 8 .any (Rows.lintOfSpec.pre6 enc Tryz.prog Tryz.f8 Rows.lintOfRow.domain false) (Rows.lintOfSpec.post enc Tryz.prog Tryz.f8 false true false false) :=
 Ev.law_lifted (C := Tryz.checked) own started (by kernel_rfl) Tryz.func8
  (ChangeSpec.witness6 (enc := enc) (C := Tryz.checked) false ⟨#[], #[.agg #[.string ⟨#[]⟩, .int .i64 0, .int .i64 0, .int .i64 0, .slice none 0 0, .slice none 0 0, .int .i64 0, .slice none 0 0, .bool false, .string ⟨#[]⟩, .bool false, .int .i64 0, .int .i64 0, .bool false, .bool false, .string ⟨#[]⟩, .bool false, .int .i64 0, .int .i64 0, .int .i64 0, .int .i64 0, .int .i64 0, .bool false, .string ⟨#[]⟩, .bool false, .int .i64 0, .bool false, .int .i64 0, .bool false, .int .i64 0, .int .i64 0, .int .i64 0], .int .i64 0], []⟩ 8 (by kernel_rfl) (by kernel_rfl) (by kernel_rfl) (by kernel_rfl))
  laid rfl [37, 3] Tryz.params8 12 (by kernel_rfl) (tb := 4) rfl Tryz.underlying4 same_left Ev.lintLaw_ok holds_at
theorem over : Rows.lintOfRow.holds Tryz.pinned (OpenSpec.ofChange Rows.lintOfSpec) :=
 OpenClaim.holds_of_wide 8 Tryz.f8 rfl rfl rfl rfl rfl rfl rfl ⟨rfl, rfl, rfl, rfl, rfl⟩ rfl rfl rfl rfl rfl (by kernel_rfl) Tryz.func8 (by kernel_rfl)
  (of_decide_eq_true (by kernel_rfl)) (by unfold Func.isWrapper; first | (rw [if_pos (by decide +kernel)]; kernel_rfl) | (rw [if_neg (by decide +kernel)]; exact ⟨rfl, rfl⟩))
  (fun os started H enc _ => lifted os started H enc)
theorem proved : Rows.LintOfSaid := over
end Go.Proofs.YtojaokhkbmiidaaGreat.lintOf
namespace Go.Proofs.YtojaokhkbmiidaaGreat
/-- The row, under a short name, for the claim. -/
theorem lintOf_holds : Rows.LintOfSaid := lintOf.proved
end Go.Proofs.YtojaokhkbmiidaaGreat

/- The law CheckOf. -/
import Derived.Test.YtojaokhkbmiidaaGreatMbhmf5
import Derived.Test.YtojaokhkbmiidaaGreatRows
import Derived.KernelRfl
namespace Go.Proofs.YtojaokhkbmiidaaGreat.Ev
open Go Go.Proofs
set_option maxRecDepth 10000
set_option maxHeartbeats 8000000
set_option linter.unusedVariables false
set_option linter.unusedSimpArgs false
attribute [local irreducible] Next Inside Runs Ops table
noncomputable section
attribute [local go_sem] szStr szInt Option.getD_some isNil evStr iv mapRc cellsRc newRc rowsFl_len
def checkOfLawG : List AV → Mem → Option (AV × Mem)
  | [.agg cs], m =>
    match unRc cs with
    | some R => if R.wide then some (.v (.bool true), m) else none
    | none => none
  | _, _ => none
def kpCheckOfLaw : Nat → Option (List Nat) := fun
  | 0 => some [1]
  | 1 => some [1, 7]
  | 2 => some [2]
  | 3 => some [1, 3, 4]
  | 4 => some [1, 3, 4, 18]
  | 5 => some [2]
  | 6 => some [1, 3, 4, 21]
  | 7 => some [2]
  | 8 => some [2]
  | _ => none
attribute [go_sem] kpCheckOfLaw
def tab_checkOfLaw_ok : List (FuncId × (List AV → Mem → Option (AV × Mem))) := [(9, lightG), (10, yesG), (11, checkOfG), (12, soundG), (13, rsoundG), (14, mayBG), (16, rflawsG), (15, sameFG)]
theorem checkOfLaw_ok : FunOk Tryz.prog 3 checkOfLawG := by
  have hC := table_ok (P := Tryz.prog) (l := tab_checkOfLaw_ok) (table_more light_ok (table_more awake21_ok (table_more checkOf_ok (table_more sound_ok (table_more sound21_ok (table_more may18_ok (table_more of21_ok (table_more sameF_ok table_nil))))))))
  have t1 := fun args mm => table_at (l := tab_checkOfLaw_ok) (f := 9) (args := args) (m := mm) rfl
  have t2 := fun args mm => table_at (l := tab_checkOfLaw_ok) (f := 10) (args := args) (m := mm) rfl
  have t3 := fun args mm => table_at (l := tab_checkOfLaw_ok) (f := 11) (args := args) (m := mm) rfl
  have t4 := fun args mm => table_at (l := tab_checkOfLaw_ok) (f := 12) (args := args) (m := mm) rfl
  have t5 := fun args mm => table_at (l := tab_checkOfLaw_ok) (f := 13) (args := args) (m := mm) rfl
  have t6 := fun args mm => table_at (l := tab_checkOfLaw_ok) (f := 14) (args := args) (m := mm) rfl
  have t7 := fun args mm => table_at (l := tab_checkOfLaw_ok) (f := 16) (args := args) (m := mm) rfl
  have t8 := fun args mm => table_at (l := tab_checkOfLaw_ok) (f := 15) (args := args) (m := mm) rfl
  refine fun_ok mixed hC Tryz.func3 rfl kpCheckOfLaw false rfl fun args m r h => ?_
  unfold checkOfLawG at h
  split at h
  · rename_i cs
    split at h
    · rename_i R hR
      obtain rfl := unRc_some hR
      split at h
      · rename_i hw
        simp only [Option.some.injEq] at h
        subst h
        refine ⟨Nat.le_of_ble_eq_true rfl, ?_⟩
        simp only [entry, List.length_cons, List.length_nil, List.range, List.range.loop, List.zip_cons_cons, List.zip_nil_right]
        have hA := above_push (cs := R.row) (above_self m)
        have hv : (m.push R.row).var m.vars.length = some R.row := push_var
        have nr := newRc (m := m) (x := R)
        generalize m.push R.row = m1 at hA hv nr
        have l0 := vrRc hv
        have c1 := fun mm => lightG_at (R := R) (m := mm)
        have w1 : (!true) = false := rfl
        have w2 : (!false) = true := rfl
        cases hl : R.light with
        | false =>
          rw [hl] at c1
          refine go1 (jn @nr (jn @l0 (jn @t1 (jn @c1 @w2)))) ?_
          refine runs_cond rfl (fun hc => ?_) (fun hc => by cases hc)
          refine go1 (jn @t2 @yes_eq) ?_
          exact leaves_fin rfl rfl (above_fin hA)
        | true =>
          rw [hl] at c1
          have hfit := light_fit hl hw
          have hlite : R.lite := lit_lite hl hw
          have c3 := fun mm => checkOfG_at R mm hfit
          have c4 := fun mm => soundG_at R mm hfit
          have c5 := fun mm => rsoundG_at (m := mm) hlite
          have c6 := fun mm => mayBG_at (m := mm) hlite
          have q0 : (R.sound != R.sound) = false := by cases R.sound <;> rfl
          refine go1 (jn @nr (jn @l0 (jn @t1 (jn @c1 @w1)))) ?_
          refine runs_cond rfl (fun hc => by cases hc) (fun hc => ?_)
          refine go1 (jn @l0 (jn @t3 @c3)) ?_
          refine runs_ops_drawn_kept (by kernel_rfl) ?_
          refine go1 (jn @l0 (jn @t4 (jn @c4 (jn @t5 (jn @c5 @q0))))) ?_
          refine runs_cond rfl (fun hc => by cases hc) (fun hc => ?_)
          cases hm : R.may with
          | false =>
            rw [hm] at c6
            have hz : (((R.flaws.length : Nat) : Int) == 0) = true := by unfold Rc.flaws; rw [hm]; rfl
            have hz1 : ((if false = true then (0 : Int) else 1) == 1) = true := rfl
            refine go1 (jn @l0 (jn @t6 (jn @c6 @w2))) ?_
            refine runs_cond rfl (fun hc => ?_) (fun hc => by cases hc)
            refine go1 (jn @hz (jn @hz1 (jn @t2 @yes_eq))) ?_
            exact leaves_fin rfl rfl (above_fin hA)
          | true =>
            rw [hm] at c6
            have hz1 : ((if true = true then (0 : Int) else 1) == 0) = true := rfl
            have c7 := fun mm => rflawsG_at (m := mm) hm hfit
            have hlen : R.flaws.length ≤ 1000000 := by
              have := @upto_len (fun k => brkL R ((k + 1 : Nat) : Int)) 4096 19 fun k _ => brkL_len (Rc.may_small hm) _
              unfold Rc.flaws flawsTo
              rw [if_pos hm]
              omega
            have c8 := fun mm => sameFG_at (m := mm) (g := .no) (g2 := .no) hlen
            have hs : (R.sound == (((R.flaws.length : Nat) : Int) == 0)) = true := by
              unfold Rc.sound
              rw [hm, Bool.true_and]
              cases (((R.flaws.length : Nat) : Int) == 0) <;> rfl
            refine go1 (jn @l0 (jn @t6 (jn @c6 @w1))) ?_
            refine runs_cond rfl (fun hc => by cases hc) (fun hc => ?_)
            refine go1 (jn @hz1 (jn @l0 (jn @t7 (jn @c7 (jn @t8 (jn @c8 (jn @t4 (jn @c4 (jn @hs (jn @t2 @yes_eq)))))))))) ?_
            exact leaves_fin rfl rfl (above_fin hA)
      · cases h
    · cases h
  · cases h
end
end Go.Proofs.YtojaokhkbmiidaaGreat.Ev

namespace Go.Proofs.YtojaokhkbmiidaaGreat.checkOf
open Go Go.Proofs Go.ChangeShapes Go.WideShapes Go.ChangeAt Go.RowKit
set_option linter.unusedVariables false
theorem own : ownKnob Tryz.prog.godebug = none := by kernel_rfl
theorem laid : laidOutB Tryz.prog = true := by kernel_rfl
theorem same_left {H : Type} : ∀ ds : List (DataW H), ds.length = 1 → Rows.checkOfSpec.fn H ds = { results := [.lit (.bool true)], args := ds }
  | [d0], _ => rfl
set_option maxRecDepth 100000 in
theorem holds_at : ∀ vs, Ev.TypedAll Tryz.prog 12 [37] vs → ∃ m', Ev.checkOfLawG vs ⟨[], []⟩ = some (.v (.bool true), m') := by
  rintro (_ | ⟨a, _ | ⟨b, r⟩⟩) h
  · exact h.elim
  · obtain ⟨h0, _⟩ := h
    obtain ⟨R, hw, _, rfl⟩ := Ev.arg_rc h0
    refine ⟨⟨[], []⟩, ?_⟩
    simp only [Ev.checkOfLawG, Ev.unRc_row]
    exact if_pos hw
  · exact h.2.elim
set_option maxRecDepth 100000 in
theorem lifted (os : Os) (started : os.Started) (H : Type) (enc : TypeId × Value → H) :
    ReturnsInHanded {} Tryz.checked os 3 .any (Rows.checkOfSpec.pre6 enc Tryz.prog Tryz.f3 Rows.checkOfRow.domain false) (Rows.checkOfSpec.post enc Tryz.prog Tryz.f3 false true false false) :=
  Ev.law_lifted (C := Tryz.checked) own started (by kernel_rfl) Tryz.func3
    (ChangeSpec.witness6 (enc := enc) (C := Tryz.checked) false ⟨#[], #[.agg #[.string ⟨#[]⟩, .int .i64 0, .int .i64 0, .int .i64 0, .slice none 0 0, .slice none 0 0, .int .i64 0, .slice none 0 0, .bool false, .string ⟨#[]⟩, .bool false, .int .i64 0, .int .i64 0, .bool false, .bool false, .string ⟨#[]⟩, .bool false, .int .i64 0, .int .i64 0, .int .i64 0, .int .i64 0, .int .i64 0, .bool false, .string ⟨#[]⟩, .bool false, .int .i64 0, .bool false, .int .i64 0, .bool false, .int .i64 0, .int .i64 0, .int .i64 0]], []⟩ 8 (by kernel_rfl) (by kernel_rfl) (by kernel_rfl) (by kernel_rfl))
    laid rfl [37] Tryz.params3 12 (by kernel_rfl) (tb := 4) rfl Tryz.underlying4 same_left Ev.checkOfLaw_ok holds_at
theorem over : Rows.checkOfRow.holds Tryz.pinned (OpenSpec.ofChange Rows.checkOfSpec) :=
  OpenClaim.holds_of_wide 3 Tryz.f3 rfl rfl rfl rfl rfl rfl rfl ⟨rfl, rfl, rfl, rfl, rfl⟩ rfl rfl rfl rfl rfl (by kernel_rfl) Tryz.func3 (by kernel_rfl)
    (of_decide_eq_true (by kernel_rfl)) (by unfold Func.isWrapper; first | (rw [if_pos (by decide +kernel)]; kernel_rfl) | (rw [if_neg (by decide +kernel)]; exact ⟨rfl, rfl⟩))
    (fun os started H enc _ => lifted os started H enc)
theorem proved : Rows.CheckOfSaid := over
end Go.Proofs.YtojaokhkbmiidaaGreat.checkOf
namespace Go.Proofs.YtojaokhkbmiidaaGreat
/-- The row, under a short name, for the claim. -/
theorem checkOf_holds : Rows.CheckOfSaid := checkOf.proved
end Go.Proofs.YtojaokhkbmiidaaGreat

/- The law TimesTurns. -/
import Derived.Test.YtojaokhkbmiidaaGreatMbcia15
import Derived.Test.YtojaokhkbmiidaaGreatMbcia14
import Derived.Test.YtojaokhkbmiidaaGreatRows
import Derived.KernelRfl
namespace Go.Proofs.YtojaokhkbmiidaaGreat.Ev
open Go Go.Proofs
set_option maxRecDepth 10000
set_option maxHeartbeats 8000000
set_option linter.unusedVariables false
set_option linter.unusedSimpArgs false
noncomputable section
attribute [local irreducible] Next Inside Runs Ops table
attribute [local go_sem] szStr szInt Option.getD_some isNil evStr iv mapRc mapSp cellsRc newRc rowsEvt_len rowsPh_len rowsS_len bC_len fpRcSteps fpRcGroups fpRcPhases feEvtKind leEvtKind feEvtItem leEvtItem setB_len
theorem mkSpT {b : Int} : evBuild Tryz.prog 51 [(1, .v (.int .i64 b))] = some (.agg [.v (.int .i64 0), .v (.int .i64 b)]) := by kernel_rfl
attribute [local go_sem] mkSpT
theorem lpB {m : Mem} {r i : Nat} {b : List Bool} (hv : m.var r = some (bC b)) (hi : i < b.length) : evLoad Tryz.prog m 4 (.ptr r i) = some (.v (.bool (b.getD i false))) := by
  unfold evLoad
  simp only [ptrCells, hv, Option.map_some]
  rw [show tAgg Tryz.prog 4 = some false by kernel_rfl, show tSize Tryz.prog 4 = some 1 by kernel_rfl]
  have h1 : (bC b)[i]? = some (.v (.bool (b.getD i false))) := by simp [bC, List.getD, List.getElem?_eq_getElem hi]
  have h2 : i < (bC b).length := by rw [bC_len]; exact hi
  have h3 : (bC b).drop i = .v (.bool (b.getD i false)) :: (bC b).drop (i + 1) := by
    rw [List.drop_eq_getElem_cons h2]
    congr 1
    rw [List.getElem?_eq_getElem h2] at h1
    exact Option.some.inj h1
  simp only [h3]
  rfl
def timesTurnsG : List AV → Mem → Option (AV × Mem)
  | [.agg cs], m =>
    match unRc cs with
    | some R => if R.wide then some (.v (.bool true), m) else none
    | none => none
  | _, _ => none
def kpTimesTurns : Nat → Option (List Nat) := fun
  | 0 => some [1]
  | 1 => some [1, 21]
  | 2 => some [2]
  | 3 => some [1, 3, 4]
  | 4 => some [1, 3, 32]
  | 5 => some [2]
  | 6 => some [1, 3, 5]
  | 7 => some [1, 3, 5, 6]
  | 8 => some [1, 3, 5, 6, 7]
  | 9 => some [1, 3, 5, 6, 7, 40]
  | 10 => some [1, 3, 5, 6, 7]
  | 11 => some [1, 3, 5, 6, 7, 47]
  | 12 => some [1, 3, 5, 6, 7, 47, 48]
  | 13 => some [1, 3, 5, 6, 7, 56]
  | 14 => some [2]
  | 15 => some [1, 3, 5, 6, 7]
  | 16 => some [1, 3, 5, 6, 7, 47, 59]
  | 17 => some [1, 3, 5, 6, 7, 59]
  | 18 => some [1, 3, 5, 6, 7, 8]
  | 19 => some [1, 3, 5, 6, 7, 8, 87]
  | 20 => some [2]
  | 21 => some [1, 3, 5, 6, 7]
  | 22 => some [2]
  | _ => none
attribute [go_sem] kpTimesTurns
def tab_timesTurns_ok : List (FuncId × (List AV → Mem → Option (AV × Mem))) := [(9, lightG), (13, rsoundG), (22, yesG), (30, allG)]
theorem timesTurns_ok : FunOk Tryz.prog 7 timesTurnsG := by
  have hC := table_ok (P := Tryz.prog) (l := tab_timesTurns_ok) (table_more light_ok (table_more sound21_ok (table_more awake27_ok (table_more all_ok table_nil))))
  have t1 := fun args mm => table_at (l := tab_timesTurns_ok) (f := 9) (args := args) (m := mm) rfl
  have t2 := fun args mm => table_at (l := tab_timesTurns_ok) (f := 13) (args := args) (m := mm) rfl
  have t3 := fun args mm => table_at (l := tab_timesTurns_ok) (f := 22) (args := args) (m := mm) rfl
  have t4 := fun args mm => table_at (l := tab_timesTurns_ok) (f := 30) (args := args) (m := mm) rfl
  refine fun_ok mixed hC Tryz.func7 rfl kpTimesTurns false rfl fun args m r h => ?_
  unfold timesTurnsG at h
  split at h
  · rename_i cs
    split at h
    · rename_i R hR
      obtain rfl := unRc_some hR
      split at h
      · rename_i hw
        simp only [Option.some.injEq] at h
        subst h
        refine ⟨Nat.le_of_ble_eq_true rfl, ?_⟩
        refine en ?_
        have hA := above_push (cs := R.row) (above_self m)
        have hv : (m.push R.row).var m.vars.length = some R.row := push_var
        have nr := newRc (m := m) (x := R)
        have hlen1 : (m.push R.row).vars.length = m.vars.length + 1 := push_len
        generalize m.push R.row = m1 at hA hv nr hlen1
        have l0 := vrRc hv
        have l2 := lpRcSteps hv
        have l3 := lpRcGroups hv
        have c1 := fun mm => lightG_at (R := R) (m := mm)
        have w1 : (!true) = false := rfl
        have w2 : (!false) = true := rfl
        cases hl : R.light with
        | false =>
          rw [hl] at c1
          refine go1 (jn @nr (jn @l0 (jn @t1 (jn @c1 @w2)))) ?_
          refine runs_cond rfl (fun hc => ?_) (fun hc => by cases hc)
          refine go1 (jn @t3 @yes_eq) ?_
          exact leaves_fin rfl rfl (above_fin hA)
        | true =>
          rw [hl] at c1
          have hfit := light_fit hl hw
          have hlite : R.lite := lit_lite hl hw
          have c2 := fun mm => rsoundG_at (m := mm) hlite
          cases hs : R.sound with
          | false =>
            rw [hs] at c2
            refine go1 (jn @nr (jn @l0 (jn @t1 (jn @c1 (jn @w1 (jn @t2 (jn @c2 @w2))))))) ?_
            refine runs_cond rfl (fun hc => ?_) (fun hc => by cases hc)
            refine go1 (jn @t3 @yes_eq) ?_
            exact leaves_fin rfl rfl (above_fin hA)
          | true =>
            rw [hs] at c2
            cases q1 : decide (R.steps > 10000) with
            | true =>
              refine go1 (jn @nr (jn @l0 (jn @t1 (jn @c1 (jn @w1 (jn @t2 (jn @c2 (jn @l2 @q1)))))))) ?_
              refine runs_cond rfl (fun hc => ?_) (fun hc => by cases hc)
              refine go1 (jn @t3 @yes_eq) ?_
              exact leaves_fin rfl rfl (above_fin hA)
            | false =>
              have g1 := of_decide_eq_false q1
              have hst := (sound_ok' hs).steps
              have hsm := Rc.may_small (sound_may hs)
              have hG64 := hsm.2.1
              have hP64 := hsm.2.2.1
              have hst1 : inI R.steps := ⟨by omega, by omega⟩
              have hb : spanBad R ⟨0, R.steps⟩ = false := by
                unfold spanBad
                rw [decide_eq_false (show ¬ (⟨0, R.steps⟩ : Sp).from_ < 0 by show ¬ (0 : Int) < 0; omega), decide_eq_false (show ¬ (⟨0, R.steps⟩ : Sp).to_ < (⟨0, R.steps⟩ : Sp).from_ by show ¬ R.steps < 0; omega), decide_eq_false (show ¬ (⟨0, R.steps⟩ : Sp).to_ > R.steps by show ¬ R.steps > R.steps; omega), decide_eq_false (show ¬ (⟨0, R.steps⟩ : Sp).to_ - (⟨0, R.steps⟩ : Sp).from_ > 10000 by show ¬ R.steps - 0 > 10000; omega)]
                rfl
              have c4 : ∀ mm, allG [.agg R.row, .agg [.v (.int .i64 0), .v (.int .i64 R.steps)]] mm = some (.tup [.lst .no 3 (rowsEvt (allEv R ⟨0, R.steps⟩)), .v (.int .i64 0)], mm) := fun mm => by
                have := allG_at (R := R) (s := ⟨0, R.steps⟩) (m := mm) hfit (show inI 0 from ⟨by decide, by decide⟩) hst1
                rw [if_pos ⟨hs, hb⟩] at this
                exact this
              have hal : (allEv R ⟨0, R.steps⟩).length ≤ 3000000 := by
                have := evRange_len hsm (⟨0, R.steps⟩ : Sp).from_.toNat (R.steps - 0).toNat
                show (evRange R (⟨0, R.steps⟩ : Sp).from_.toNat (R.steps - 0).toNat).length ≤ 3000000
                omega
              obtain ⟨bf, hW⟩ := turn_all hs
              have z3 : ((0 : Int) != 0) = false := rfl
              have mk := makeBools (n := R.groups.length) (by omega)
              have nv := newBools (m := m1) (l := List.replicate R.groups.length false)
              have hA2 := above_push (cs := bC (List.replicate R.groups.length false)) hA
              have hv2 := push_old (cs' := bC (List.replicate R.groups.length false)) hv
              have hb2 : (m1.push (bC (List.replicate R.groups.length false))).var m1.vars.length = some (bC (List.replicate R.groups.length false)) := push_var
              have hlt : m1.vars.length < (m1.push (bC (List.replicate R.groups.length false))).vars.length := by rw [push_len]; omega
              refine go1 (jn @nr (jn @l0 (jn @t1 (jn @c1 (jn @w1 (jn @t2 (jn @c2 (jn @l2 @q1)))))))) ?_
              refine runs_cond rfl (fun hc => by cases hc) (fun hc => ?_)
              generalize allEv R ⟨0, R.steps⟩ = L at c4 hal hW
              refine go1 (jn @l0 (jn @l2 (jn @t4 (jn @c4 @z3)))) ?_
              refine runs_cond rfl (fun hc => by cases hc) (fun hc => ?_)
              refine go1 (jn @l3 (jn @mk @nv)) ?_
              generalize m1.push (bC (List.replicate R.groups.length false)) = m2 at hA2 hv2 hb2 hlt
              have hne : m.vars.length ≠ m1.vars.length := by omega
              have hle : m.vars.length ≤ m1.vars.length := by omega
              generalize m1.vars.length = n2 at hb2 hlt hne hle ⊢
              refine runs_loop (fun k e m' => ∃ (i p : Nat) (b : List Bool), i ≤ L.length ∧ walkT (p, b) (L.drop i) = some (R.phases.length, bf) ∧ p ≤ i ∧ b.length = R.groups.length ∧ Above m m' ∧ n2 < m'.vars.length ∧ m'.var m.vars.length = some R.row ∧ m'.var n2 = some (bC b) ∧ k = L.length - i ∧
                e = [(1, AV.ptr m.vars.length 0), (3, .lst .no 3 (rowsEvt L)), (5, .v (.int .i64 (p : Int))), (6, .vs n2 0 1 R.groups.length R.groups.length), (7, .v (.int .i64 (i : Int)))]) (k := L.length) ⟨0, 0, _, Nat.zero_le _, hW, Nat.le_refl _, List.length_replicate .., hA2, hlt, hv2, hb2, rfl, rfl⟩ ?_
              rintro k e m' ⟨i, p, b, hi0, hW, hpi, hbl, hA3, hlt3, hv3, hb3, rfl, rfl⟩
              refine go0 ?_
              refine runs_cond rfl (fun hc => ?_) (fun hc => ?_)
              · have hi1 : i < L.length := by have := of_decide_eq_true hc; omega
                have f1 := atEvt (g := .no) (kk := .i64) (l := L) (i := i) hi1
                have hd : L.drop i = L.getD i evt0 :: L.drop (i + 1) := by
                  rw [List.drop_eq_getElem_cons hi1]
                  simp [List.getD, List.getElem?_eq_getElem hi1]
                rw [hd] at hW
                have hW1 : ((turn1 (p, b) (L.getD i evt0)).bind fun s' => walkT s' (L.drop (i + 1))) = some (R.phases.length, bf) := hW
                have r6 := next_i64 (i := i) (by omega)
                generalize L.getD i evt0 = x at f1 hW1
                have hT : turn1 (p, b) x = if (x.kind == 1) = true then (if (x.item != (p : Int)) = true then none else some (p + 1, b))
                  else if ((x.kind == 3) || (x.kind == 2)) = true then
                    (if (decide (x.item < 0) || (decide (x.item ≥ (b.length : Int)) || (b.getD x.item.toNat false == (x.kind == 3)))) = true then none else some (p, b.set x.item.toNat (!b.getD x.item.toNat false)))
                  else some (p, b) := rfl
                rw [hT] at hW1
                cases k1 : (x.kind == 1) with
                | true =>
                  rw [k1, if_pos rfl] at hW1
                  cases k0 : (x.item != (p : Int)) with
                  | true =>
                    rw [k0, if_pos rfl] at hW1
                    cases hW1
                  | false =>
                    rw [k0, if_neg (by decide)] at hW1
                    have r7 := next_i64 (i := p) (by omega)
                    refine go1 (jn @f1 @k1) ?_
                    refine runs_cond rfl (fun hc => ?_) (fun hc => by cases hc)
                    refine go1 (jn @f1 @k0) ?_
                    refine runs_cond rfl (fun hc => by cases hc) (fun hc => ?_)
                    refine go1 (jn @r7 @r6) ?_
                    exact ⟨L.length - (i + 1), by omega, i + 1, p + 1, b, hi1, hW1, by omega, hbl, hA3, hlt3, hv3, hb3, rfl, rfl⟩
                | false =>
                  rw [k1, if_neg (by decide)] at hW1
                  refine go1 (jn @f1 @k1) ?_
                  refine runs_cond rfl (fun hc => by cases hc) (fun hc => ?_)
                  have turns : ((x.kind == 3) || (x.kind == 2)) = true → ∃ g : Nat, x.item = (g : Int) ∧ g < b.length ∧ (b.getD g false == (x.kind == 3)) = false ∧ walkT (p, b.set g (!b.getD g false)) (L.drop (i + 1)) = some (R.phases.length, bf) := fun h => by
                    rw [if_pos h] at hW1
                    split at hW1
                    · cases hW1
                    · rename_i hn
                      rw [Bool.not_eq_true, Bool.or_eq_false_iff, Bool.or_eq_false_iff] at hn
                      obtain ⟨n1, n2, n3⟩ := hn
                      have n1 := of_decide_eq_false n1
                      have n2 := of_decide_eq_false n2
                      obtain ⟨g, hg⟩ := Int.eq_ofNat_of_zero_le (show 0 ≤ x.item by omega)
                      rw [hg, Int.toNat_natCast] at n3 hW1
                      exact ⟨g, hg, by omega, n3, hW1⟩
                  cases k3 : (x.kind == 3) with
                  | true =>
                    obtain ⟨g, hg, hgl, hne2, hW2⟩ := turns (by rw [k3]; rfl)
                    rw [k3] at hne2
                    refine go1 @k3 ?_
                    refine runs_cond rfl (fun hc => ?_) (fun hc => by cases hc)
                    refine go0 ?_
                    refine runs_cond rfl (fun hc => ?_) (fun hc => by cases hc)
                    refine go1 @f1 ?_
                    have b0 : decide ((g : Int) < 0) = false := decide_eq_false (by omega)
                    have b1 : decide ((g : Int) ≥ (R.groups.length : Int)) = false := decide_eq_false (by omega)
                    have f3 := vsAtB (r := n2) (n := R.groups.length) (kk := .i64) (show g < R.groups.length by omega)
                    have f4 := lpB hb3 hgl
                    have st := storeB (v := !b.getD g false) hb3 hgl
                    have hv4 := setB_var_ne (b := b.set g (!b.getD g false)) hne hv3
                    have hb4 := setB_var (b := b.set g (!b.getD g false)) hlt3
                    have hA4 := above_setB (b := b.set g (!b.getD g false)) hA3 hle
                    have hlt4 : n2 < (setB m' n2 (b.set g (!b.getD g false))).vars.length := by rw [setB_len]; exact hlt3
                    have hbl4 : (b.set g (!b.getD g false)).length = R.groups.length := by rw [List.length_set]; exact hbl
                    rw [hg]
                    refine runs_ops_drawn_kept (by kernel_rfl) ?_
                    refine go1 (jn @b0 (jn @b1 (jn @f3 (jn @f4 (jn @f1 (jn @k3 @hne2)))))) ?_
                    refine runs_cond rfl (fun hc => by cases hc) (fun hc => ?_)
                    refine go1 (jn @f3 (jn @f4 (jn @st @r6))) ?_
                    exact ⟨L.length - (i + 1), by omega, i + 1, p, _, hi1, hW2, by omega, hbl4, hA4, hlt4, hv4, hb4, rfl, rfl⟩
                  | false =>
                    refine go1 @k3 ?_
                    refine runs_cond rfl (fun hc => by cases hc) (fun hc => ?_)
                    cases k2 : (x.kind == 2) with
                    | true =>
                      obtain ⟨g, hg, hgl, hne2, hW2⟩ := turns (by rw [k3, k2]; rfl)
                      rw [k3] at hne2
                      refine go1 @k2 ?_
                      refine runs_cond rfl (fun hc => ?_) (fun hc => by cases hc)
                      refine go1 @f1 ?_
                      have b0 : decide ((g : Int) < 0) = false := decide_eq_false (by omega)
                      have b1 : decide ((g : Int) ≥ (R.groups.length : Int)) = false := decide_eq_false (by omega)
                      have f3 := vsAtB (r := n2) (n := R.groups.length) (kk := .i64) (show g < R.groups.length by omega)
                      have f4 := lpB hb3 hgl
                      have st := storeB (v := !b.getD g false) hb3 hgl
                      have hv4 := setB_var_ne (b := b.set g (!b.getD g false)) hne hv3
                      have hb4 := setB_var (b := b.set g (!b.getD g false)) hlt3
                      have hA4 := above_setB (b := b.set g (!b.getD g false)) hA3 hle
                      have hlt4 : n2 < (setB m' n2 (b.set g (!b.getD g false))).vars.length := by rw [setB_len]; exact hlt3
                      have hbl4 : (b.set g (!b.getD g false)).length = R.groups.length := by rw [List.length_set]; exact hbl
                      rw [hg]
                      refine runs_ops_drawn_kept (by kernel_rfl) ?_
                      refine go1 (jn @b0 (jn @b1 (jn @f3 (jn @f4 (jn @f1 (jn @k3 @hne2)))))) ?_
                      refine runs_cond rfl (fun hc => by cases hc) (fun hc => ?_)
                      refine go1 (jn @f3 (jn @f4 (jn @st @r6))) ?_
                      exact ⟨L.length - (i + 1), by omega, i + 1, p, _, hi1, hW2, by omega, hbl4, hA4, hlt4, hv4, hb4, rfl, rfl⟩
                    | false =>
                      rw [k3, k2, if_neg (by decide)] at hW1
                      refine go1 @k2 ?_
                      refine runs_cond rfl (fun hc => by cases hc) (fun hc => ?_)
                      refine go1 @r6 ?_
                      exact ⟨L.length - (i + 1), by omega, i + 1, p, b, hi1, hW1, by omega, hbl, hA3, hlt3, hv3, hb3, rfl, rfl⟩
              · have hi1 : i = L.length := by have := of_decide_eq_false hc; omega
                subst hi1
                rw [List.drop_length] at hW
                have hpe : (p, b) = (R.phases.length, bf) := Option.some.inj hW
                obtain ⟨rfl, rfl⟩ := Prod.mk.inj hpe
                have l7 := lpRcPhases hv3
                have e1 : ((R.phases.length : Int) == (R.phases.length : Int)) = true := beq_self_eq_true _
                refine go1 (jn @l7 (jn @e1 (jn @t3 @yes_eq))) ?_
                exact leaves_fin rfl rfl (above_fin hA3)
      · cases h
    · cases h
  · cases h
end
end Go.Proofs.YtojaokhkbmiidaaGreat.Ev
namespace Go.Proofs.YtojaokhkbmiidaaGreat.timesTurns
open Go Go.Proofs Go.ChangeShapes Go.WideShapes Go.ChangeAt Go.RowKit
set_option linter.unusedVariables false
theorem own : ownKnob Tryz.prog.godebug = none := by kernel_rfl
theorem laid : laidOutB Tryz.prog = true := by kernel_rfl
theorem same_left {H : Type} : ∀ ds : List (DataW H), ds.length = 1 → Rows.timesTurnsSpec.fn H ds = { results := [.lit (.bool true)], args := ds }
  | [d0], _ => rfl
set_option maxRecDepth 100000 in
theorem holds_at : ∀ vs, Ev.TypedAll Tryz.prog 12 [37] vs → ∃ m', Ev.timesTurnsG vs ⟨[], []⟩ = some (.v (.bool true), m') := by
  rintro (_ | ⟨a, _ | ⟨b, r⟩⟩) h
  · exact h.elim
  · obtain ⟨h0, _⟩ := h
    obtain ⟨R, hw, _, rfl⟩ := Ev.arg_rc h0
    refine ⟨⟨[], []⟩, ?_⟩
    simp only [Ev.timesTurnsG, Ev.unRc_row]
    exact if_pos hw
  · exact h.2.elim
set_option maxRecDepth 100000 in
theorem lifted (os : Os) (started : os.Started) (H : Type) (enc : TypeId × Value → H) :
    ReturnsInHanded {} Tryz.checked os 7 .any (Rows.timesTurnsSpec.pre6 enc Tryz.prog Tryz.f7 Rows.timesTurnsRow.domain false) (Rows.timesTurnsSpec.post enc Tryz.prog Tryz.f7 false true false false) :=
  Ev.law_lifted (C := Tryz.checked) own started (by kernel_rfl) Tryz.func7
    (ChangeSpec.witness6 (enc := enc) (C := Tryz.checked) false ⟨#[], #[.agg #[.string ⟨#[]⟩, .int .i64 0, .int .i64 0, .int .i64 0, .slice none 0 0, .slice none 0 0, .int .i64 0, .slice none 0 0, .bool false, .string ⟨#[]⟩, .bool false, .int .i64 0, .int .i64 0, .bool false, .bool false, .string ⟨#[]⟩, .bool false, .int .i64 0, .int .i64 0, .int .i64 0, .int .i64 0, .int .i64 0, .bool false, .string ⟨#[]⟩, .bool false, .int .i64 0, .bool false, .int .i64 0, .bool false, .int .i64 0, .int .i64 0, .int .i64 0]], []⟩ 8 (by kernel_rfl) (by kernel_rfl) (by kernel_rfl) (by kernel_rfl))
    laid rfl [37] Tryz.params7 12 (by kernel_rfl) (tb := 4) rfl Tryz.underlying4 same_left Ev.timesTurns_ok holds_at
theorem over : Rows.timesTurnsRow.holds Tryz.pinned (OpenSpec.ofChange Rows.timesTurnsSpec) :=
  OpenClaim.holds_of_wide 7 Tryz.f7 rfl rfl rfl rfl rfl rfl rfl ⟨rfl, rfl, rfl, rfl, rfl⟩ rfl rfl rfl rfl rfl (by kernel_rfl) Tryz.func7 (by kernel_rfl)
    (of_decide_eq_true (by kernel_rfl)) (by unfold Func.isWrapper; first | (rw [if_pos (by decide +kernel)]; kernel_rfl) | (rw [if_neg (by decide +kernel)]; exact ⟨rfl, rfl⟩))
    (fun os started H enc _ => lifted os started H enc)
theorem proved : Rows.TimesTurnsSaid := over
end Go.Proofs.YtojaokhkbmiidaaGreat.timesTurns
namespace Go.Proofs.YtojaokhkbmiidaaGreat
/-- The row, under a short name, for the claim. -/
theorem timesTurns_holds : Rows.TimesTurnsSaid := timesTurns.proved
end Go.Proofs.YtojaokhkbmiidaaGreat

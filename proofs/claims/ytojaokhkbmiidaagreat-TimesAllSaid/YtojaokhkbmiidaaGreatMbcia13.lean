/- The timetable: the planned events of a step. -/
import Derived.Test.YtojaokhkbmiidaaGreatMbcia12
import Derived.Test.YtojaokhkbmiidaaGreatMacia6
namespace Go.Proofs.YtojaokhkbmiidaaGreat.Ev
open Go Go.Proofs
set_option maxRecDepth 10000
set_option maxHeartbeats 8000000
set_option linter.unusedVariables false
set_option linter.unusedSimpArgs false
noncomputable section
attribute [local irreducible] Next Inside Runs Ops table
attribute [local go_sem] szStr szInt Option.getD_some isNil evStr iv loadInt mapRc mapTab cellsTab newTb fpTabR fpTabS fpRcSteps rowsEvt_len rowsSp_len mkEvt3 mkEvt2 mkEvts1 feSpFrom_ leSpFrom_
def spanIdx (R : Rc) (step : Int) : Int := firstBy (spanHas step) R.spans 0
theorem span_find {R : Rc} {step : Int} (h0 : 0 ≤ step) : ∀ {n : Nat}, step < R.at_ n → ∃ i, i < n ∧ R.at_ i ≤ step ∧ step < R.at_ (i + 1)
  | 0, h => by have : R.at_ 0 = 0 := rfl; omega
  | n + 1, h => by
    by_cases hn : step < R.at_ n
    · obtain ⟨i, h1, h2⟩ := span_find h0 hn
      exact ⟨i, by omega, h2⟩
    · exact ⟨n, by omega, by omega, h⟩
theorem span_at {R : Rc} (ok : R.Ok) {step : Int} (h0 : 0 ≤ step) (h1 : step < R.steps) : ∃ i, i < R.phases.length ∧ R.at_ i ≤ step ∧ step < R.at_ (i + 1) ∧ spanIdx R step = (i : Int) := by
  rw [← ok.last] at h1
  obtain ⟨i, hi, h2, h3⟩ := span_find h0 h1
  refine ⟨i, hi, h2, h3, ?_⟩
  have hl : R.spans.length = R.phases.length := spansTo_len
  have get : ∀ j, j < R.phases.length → R.spans.getD j sp0 = ⟨R.at_ j, R.at_ (j + 1)⟩ := fun j hj => spansTo_get hj
  refine firstBy_is (d := sp0) (by omega) ?_ fun j hj => ?_
  · rw [get i hi]
    unfold spanHas
    rw [decide_eq_true h2, decide_eq_true h3]
    rfl
  · rw [get j (by omega)]
    have := at_le ok.grow (j := i) (by omega) (j + 1) (by omega)
    unfold spanHas
    rw [decide_eq_false (show ¬ step < R.at_ (j + 1) by omega), Bool.and_false]
def beginEv (R : Rc) (step : Int) : List Evt := if ((R.spans.getD (spanIdx R step).toNat sp0).from_ == step) = true then beginsAt R (spanIdx R step) step else []
def swaEv (R : Rc) (step : Int) : List Evt := if swaIs R R.swaSteps.1 step = true then [⟨step, 4, (step - R.swaSteps.1).tdiv R.swaEvery⟩] else []
def endEv (R : Rc) (step : Int) : List Evt := if (step == R.steps - 1) = true then [⟨step, 11, 0⟩] else []
def evAt (R : Rc) (step : Int) : List Evt := beginEv R step ++ swaEv R step ++ endEv R step
theorem beginsAt_len {R : Rc} (h : R.small) (p step : Int) : (beginsAt R p step).length ≤ 200 := by
  have h1 := turnsEv_len h p step 2
  have h2 := turnsEv_len h p step 3
  unfold beginsAt
  simp only [List.length_append, List.length_cons, List.length_nil, List.flatMap_cons, List.flatMap_nil]
  omega
theorem beginEv_len {R : Rc} (h : R.small) (step : Int) : (beginEv R step).length ≤ 200 := by
  unfold beginEv
  split
  · exact beginsAt_len h _ _
  · simp
theorem evAt_len {R : Rc} (h : R.small) (step : Int) : (evAt R step).length ≤ 300 := by
  have h1 := beginEv_len h step
  have h2 : (swaEv R step).length ≤ 1 := by unfold swaEv; split <;> simp
  have h3 : (endEv R step).length ≤ 1 := by unfold endEv; split <;> simp
  unfold evAt
  simp only [List.length_append]
  omega
def atTG : List AV → Mem → Option (AV × Mem)
  | [.agg cs, .v (.int .i64 step)], m =>
    match unTab cs with
    | some (R, l, f) => open Classical in if R.sound = true ∧ l = R.spans ∧ f = R.swaSteps.1 ∧ 0 ≤ step ∧ step < R.steps then some (.lst .no 3 (rowsEvt (evAt R step)), m) else none
    | none => none
  | _, _ => none
theorem atTG_at {R : Rc} {step : Int} {m : Mem} (h : R.sound = true) (h1 : 0 ≤ step) (h2 : step < R.steps) : atTG [.agg (tabRow R R.spans R.swaSteps.1), .v (.int .i64 step)] m = some (.lst .no 3 (rowsEvt (evAt R step)), m) := by
  simp only [atTG, unTab_row]
  rw [if_pos ⟨h, trivial, trivial, h1, h2⟩]
theorem growsA_tk {m m' : Mem} (h : Above m m') : GrowsA m (.tok m'.toks.length 0) (m'.tk [0]) := by
  obtain ⟨L, rfl⟩ := h
  exact ⟨m.tk [0], grows_tok, L, rfl⟩
theorem sound_every {R : Rc} (h : R.sound = true) : R.swaOn = true → 0 < R.swaEvery := fun ho => by
  have b := flawIf_nil (show flawIf (R.endBad 18) 18 0 0 = [] from sound_brk h 18 (by decide) (by decide))
  have e : R.endBad 18 = (R.swaOn && ((R.swaEvery == 0) || ((R.swaSteps.2 != 0) || decide (R.swaSteps.1 > R.steps)))) := rfl
  rw [e, ho, Bool.true_and, Bool.or_eq_false_iff] at b
  have := (Rc.may_num (sound_may h)).every ho
  have h0 := b.1
  simp only [beq_eq_false_iff_ne, ne_eq] at h0
  omega
theorem sound_from {R : Rc} : 0 ≤ R.swaSteps.1 ∧ R.swaSteps.1 ≤ 1099511627776 := stepsP_in
def kpAtT : Nat → Option (List Nat) := fun
  | 0 => some [1, 2]
  | 1 => some [1, 2, 5]
  | 2 => some [1, 2, 5, 6]
  | 3 => some [1, 2, 5, 6, 20]
  | 4 => some [1, 2, 5]
  | 5 => some [1, 2, 5, 7, 8]
  | 6 => some [1, 2, 5, 7, 31]
  | 7 => some [1, 2, 5]
  | 8 => some [1, 5, 43]
  | 9 => some [5]
  | 10 => some [4]
  | _ => none
attribute [go_sem] kpAtT
def tab_atT_ok : List (FuncId × (List AV → Mem → Option (AV × Mem))) := [(20, spanAtG), (57, (beginsG true)), (54, swaTG)]
theorem atT_ok : FunOk Tryz.prog 53 atTG := by
  have hC := table_ok (P := Tryz.prog) (l := tab_atT_ok) (table_more spanAt_ok (table_more (begins_ok true) (table_more swaT_ok table_nil)))
  have t1 := fun args mm => table_at (l := tab_atT_ok) (f := 20) (args := args) (m := mm) rfl
  have t2 := fun args mm => table_at (l := tab_atT_ok) (f := 57) (args := args) (m := mm) rfl
  have t3 := fun args mm => table_at (l := tab_atT_ok) (f := 54) (args := args) (m := mm) rfl
  refine fun_ok mixed hC Tryz.func53 rfl kpAtT false rfl fun args m r h => ?_
  unfold atTG at h
  split at h
  · rename_i cs step
    split at h
    · rename_i R l f hR
      obtain rfl := unTab_some hR
      split at h
      · rename_i hyp
        obtain ⟨hs, rfl, rfl, h0, h1⟩ := hyp
        simp only [Option.some.injEq] at h
        subst h
        refine ⟨Nat.le_of_ble_eq_true rfl, ?_⟩
        refine en ?_
        have ok := sound_ok' hs
        have hsm := Rc.may_small ok.may
        have hP64 := hsm.2.2.1
        have hst := ok.steps
        obtain ⟨i, hi, hi1, hi2, hidx⟩ := span_at ok h0 h1
        have hbe : beginEv R step = if ((R.spans.getD (spanIdx R step).toNat sp0).from_ == step) = true then beginsAt R (spanIdx R step) step else [] := rfl
        rw [hidx, Int.toNat_natCast, show R.spans.getD i sp0 = ⟨R.at_ i, R.at_ (i + 1)⟩ from spansTo_get hi] at hbe
        have hA := above_push (cs := tabRow R R.spans R.swaSteps.1) (above_self m)
        have hv : (m.push (tabRow R R.spans R.swaSteps.1)).var m.vars.length = some (tabRow R R.spans R.swaSteps.1) := push_var
        have nr := newTb (m := m) (R := R) (l := R.spans) (f := R.swaSteps.1)
        have hG0 : GrowsA m .full (m.push (tabRow R R.spans R.swaSteps.1)) := growsA_push growsA_full
        generalize m.push (tabRow R R.spans R.swaSteps.1) = m1 at hA hv nr hG0
        have hlen : R.spans.length = R.phases.length := spansTo_len
        have c1 := fun mm => spanAtG_eq (m := mm) (g := .no) (l := R.spans) (step := step) (by rw [hlen]; unfold big40; omega)
        rw [show firstBy (spanHas step) R.spans 0 = (i : Int) from hidx] at c1
        have f1 := atSp (g := .no) (kk := .i64) (l := R.spans) (i := i) (by omega)
        rw [show R.spans.getD i sp0 = ⟨R.at_ i, R.at_ (i + 1)⟩ from spansTo_get hi] at f1
        have c3 := fun mm => swaTG_at (R := R) (l := R.spans) (f := R.swaSteps.1) (step := step) (m := mm) (sound_every hs) ⟨h0, by omega⟩ sound_from
        have hsw : swaEv R step = if swaIs R R.swaSteps.1 step = true then [⟨step, 4, (step - R.swaSteps.1).tdiv R.swaEvery⟩] else [] := rfl
        have hso : swaOf R R.swaSteps.1 step = if swaIs R R.swaSteps.1 step = true then ((step - R.swaSteps.1).tdiv R.swaEvery, true) else (0, false) := rfl
        have hen : endEv R step = if (step == R.steps - 1) = true then [⟨step, 11, 0⟩] else [] := rfl
        have hbl := beginEv_len hsm step
        have w1 : IntKind.i64.wrap (R.steps - 1) = R.steps - 1 := i64_wrap (by omega) (by omega)
        unfold evAt
        have l0 := vrTab hv
        have l1 := lpTabS hv
        generalize swaOf R R.swaSteps.1 step = so at c3 hso
        generalize (step - R.swaSteps.1).tdiv R.swaEvery = sn at hsw hso
        generalize swaIs R R.swaSteps.1 step = si at hsw hso
        refine go1 (jn @nr (jn @l1 (jn @t1 (jn @c1 @f1)))) ?_
        refine runs_icut (fun e2 m2 => ∃ gr2 E, GrowsA m gr2 m2 ∧ m2.var m.vars.length = some (tabRow R R.spans R.swaSteps.1) ∧ e2 = (1, AV.v (.int .i64 step)) :: (2, .ptr m.vars.length 0) :: (5, .lst gr2 3 (rowsEvt (beginEv R step))) :: E) ?_ ?_
        · refine runs_cond rfl (fun hc => ?_) (fun hc => ?_)
          · rw [hbe, if_pos hc]
            have c2 := beginsG_at (R := R) (l := R.spans) (f := R.swaSteps.1) (p := (i : Int)) (step := step) (m := m1) (gr := true) hsm (by omega) (by omega)
            rw [if_pos rfl] at c2
            refine go1 (jn @l0 (jn @t2 @c2)) ?_
            exact ⟨rfl, _, _, growsA_tk hA, hv, rfl⟩
          · rw [hbe, if_neg (by rw [hc]; decide)]
            refine go0 ?_
            exact ⟨rfl, _, _, hG0, hv, rfl⟩
        rintro e2 m2 ⟨gr2, E, hG2, hv2, rfl⟩
        generalize beginEv R step = acc at hG2 hbl ⊢
        have l2 := vrTab hv2
        refine next_normal ?_
        refine go1 (jn @l2 (jn @t3 @c3)) ?_
        refine runs_icut (fun e2 m2 => ∃ gr2 E, GrowsA m gr2 m2 ∧ m2.var m.vars.length = some (tabRow R R.spans R.swaSteps.1) ∧ e2 = (1, AV.v (.int .i64 step)) :: (2, .ptr m.vars.length 0) :: (5, .lst gr2 3 (rowsEvt (acc ++ swaEv R step))) :: E) ?_ ?_
        · cases si with
          | true =>
            rw [if_pos rfl] at hsw hso
            subst hso
            refine runs_cond rfl (fun hc => ?_) (fun hc => by cases hc)
            obtain ⟨g3, m3, a1, hG3, hV3⟩ := app_evt (g2 := .full) hG2 acc step 4 sn (by omega)
            rw [hsw]
            refine go1 @a1 ?_
            exact ⟨rfl, _, _, hG3, by rw [hV3]; exact hv2, rfl⟩
          | false =>
            rw [if_neg (by decide)] at hsw hso
            subst hso
            refine runs_cond rfl (fun hc => by cases hc) (fun hc => ?_)
            rw [hsw, List.append_nil]
            refine go0 ?_
            exact ⟨rfl, _, _, hG2, hv2, rfl⟩
        rintro e3 m3 ⟨gr3, E3, hG3, hv3, rfl⟩
        have hl2 : (acc ++ swaEv R step).length ≤ 201 := by
          have : (swaEv R step).length ≤ 1 := by rw [hsw]; split <;> simp
          rw [List.length_append]
          omega
        generalize acc ++ swaEv R step = acc2 at hG3 hl2 ⊢
        have l3 := lpTabSteps hv3
        refine next_normal ?_
        refine go1 (jn @l3 @w1) ?_
        refine runs_cond rfl (fun hc => ?_) (fun hc => ?_)
        · obtain ⟨g4, m4, a1, hG4, hV4⟩ := app_evt (g2 := .full) hG3 acc2 step 11 0 (by omega)
          rw [hen, if_pos hc]
          refine go1 @a1 ?_
          exact leaves_lst rfl rfl (growsA_fin hG4)
        · rw [hen, if_neg (by rw [hc]; decide), List.append_nil]
          refine go0 ?_
          exact leaves_lst rfl rfl (growsA_fin hG3)
      · cases h
    · cases h
  · cases h
end
noncomputable section
attribute [local irreducible] Next Inside Runs Ops table
attribute [local irreducible] XRuns XOps XNext XInside XAny XStep
attribute [local go_sem] szStr szInt Option.getD_some isNil evStr iv mapRc cellsRc newRc fpRcSteps zrTab zoTab znTab
def thereOf (O : List AV → Mem → Option (AV × Mem)) : List AV → Mem → Option (AV × Mem)
  | [.agg cs, .v (.int .i64 step)], m =>
    match unRc cs, O [.agg cs] (m.push cs |>.push zeroTab) with
    | some R, some (.tup [.agg T, .v (.int .i64 x)], m') => open Classical in if m' = (m.push cs |>.push zeroTab) ∧ T.length = 34 ∧ cellsOf (.agg T) = some T ∧ T.mapM (resCell m.vars.length) = some T ∧ (∀ q, T.all (refLe q) = true) then some (.tup [.agg T, .v (.bool ((x == 0) && (decide (step ≥ 0) && decide (step < R.steps))))], m) else none
    | _, _ => none
  | _, _ => none
theorem vrTab34 {m : Mem} {r : Nat} {T : List AV} (hv : m.var r = some T) (h : T.length = 34) : evLoad Tryz.prog m 90 (.ptr r 0) = some (.agg T) := by
  unfold evLoad
  simp only [ptrCells, hv, Option.map_some, szTab, agTab, List.drop_zero]
  rw [if_pos (by omega)]
  simp [← h]
theorem x_sets1 {P : Program} {call : CallF} {nt : Nat} {φ₀ : Phi} {m₀ : Mem} {w₀ : World} (hm : P.follows .mixedOrders = true) (hC : CallOk P call) {id : Nat} {l : List Oper} {l2 : Option (List Nat)} {F : Objs} {Q : PostF} {e : Env} {m m' : Mem} (hD : drawnS l = true) (A : Nat → AV) (MS : (Nat → Bool) → Mem)
    (hM0 : ∀ r, m.var r = (MS fun _ => false).var r) (hM1 : m.toks = (MS fun _ => false).toks) (hT : ∀ (k : Nat) o, l[k]? = some o → putAV nt o.dst (A k) (envOf l A e k) = some (envOf l A e (k + 1)))
    (hW : ∀ (k : Nat) o, l[k]? = some o → ∃ b, wantedAV l.toArray (envOf l A e k) o = some b ∧ (b = false → A k = .v (.tuple #[])))
    (hM : ∀ S (i : Nat) o, l[i]? = some o → ClosedS l S → S i = false → (∀ e ∈ o.after.toList, Region.binds .any e = true → S e.on = true) →
      (wantedAV l.toArray (envOf l A e i) o = some true → SOp P call (envOf l A e i) (MS S) o (A i) (MS (ins S i))) ∧ (wantedAV l.toArray (envOf l A e i) o = some false → MS (ins S i) = MS S))
    (hend : ∀ S, (∀ j, j < l.length → S j = true) → MS S = m') (hQ : ∀ e2, Ev.restr l2 (envOf l A e l.length) = e2 → Q .normal e2 m' F) : XRuns P φ₀ m₀ w₀ nt (.region id l.toArray true) e m F Q :=
  x_sets (E := envOf l A e) (A := A) (MS := MS) hm hC hD rfl hM0 hM1 hT hW hM hend hQ
def kpThere : Nat → Option (List Nat) := fun
  | 0 => some [1, 2, 4]
  | 1 => some [1, 2, 4, 6, 7]
  | 2 => some [4, 5]
  | _ => none
attribute [go_sem] kpThere
theorem there_ok {O : List AV → Mem → Option (AV × Mem)} (hO : FunOk Tryz.prog 56 O) : FunOk Tryz.prog 52 (thereOf O) := by
  have hC := table_ok (P := Tryz.prog) (l := [(56, O)]) (table_more hO table_nil)
  have t1 := fun args mm => table_at (l := [(56, O)]) (f := 56) (args := args) (m := mm) rfl
  refine fun_okX Tryz.func52 rfl false rfl fun args m r h => ?_
  unfold thereOf at h
  split at h
  · rename_i cs step
    split at h
    · rename_i R T x m' hR hO1
      obtain rfl := unRc_some hR
      split at h
      · rename_i hyp
        obtain ⟨rfl, hT, hTc, hTr, hTk⟩ := hyp
        simp only [Option.some.injEq] at h
        subst h
        refine ⟨Nat.le_of_ble_eq_true rfl, fun φ w => ?_⟩
        refine en ?_
        have hA := above_push (cs := R.row) (above_self m)
        have hv := push_var (m := m) (cs := R.row)
        have hz4 : ((m.push R.row).push zeroTab).var (m.push R.row).vars.length = some zeroTab := push_var
        have hA1 := above_push (cs := zeroTab) hA
        have hv1 := push_old (cs' := zeroTab) hv
        have hne : m.vars.length ≠ (m.push R.row).vars.length := by rw [push_len]; omega
        repeat (first | refine x_seq ?_ | refine x_block ?_ | refine xn_normal ?_ | refine xi_normal ?_ | refine xn_exit ?_ | refine xi_exit ?_ | refine xi_other (by decide) ?_ | refine xn_ret ?_ | refine xi_ret ?_ | refine x_skip ?_ | refine x_exit ?_ | refine x_ret ?_)
        refine x_region (kp := kpThere) mixed hC ?_
        refine go0 ?_
        repeat (first | refine x_seq ?_ | refine x_block ?_ | refine xn_normal ?_ | refine xi_normal ?_ | refine xn_exit ?_ | refine xi_exit ?_ | refine xi_other (by decide) ?_ | refine xn_ret ?_ | refine xi_ret ?_ | refine x_skip ?_ | refine x_exit ?_ | refine x_ret ?_)
        refine x_region (kp := kpThere) mixed hC ?_
        have hT6 : ((m.push R.row |>.push zeroTab).push T).var (m.push R.row |>.push zeroTab).vars.length = some T := push_var
        have hA2 := above_push (cs := T) hA1
        have hv2 := push_old (cs' := T) hv1
        have hz2 := push_old (cs' := T) hz4
        have hne2 : (m.push R.row |>.push zeroTab).vars.length ≠ (m.push R.row).vars.length := by rw [push_len]; omega
        have nz : newVar (m.push R.row |>.push zeroTab) (m.push R.row |>.push zeroTab).vars.length zeroTab = some ((m.push R.row |>.push zeroTab).push zeroTab) := znTab
        have st6 : evStore Tryz.prog ((m.push R.row |>.push zeroTab).push zeroTab) 90 (.ptr (m.push R.row |>.push zeroTab).vars.length 0) (.agg T) = some ((m.push R.row |>.push zeroTab).push T) := by
          rw [storeTb (old := zeroTab) push_var rfl hT hTc (hTk _), setv_push]
        have l0 := vrRc hv1
        refine go1 (jn @l0 (jn @t1 (jn @hO1 (jn @nz @st6)))) ?_
        generalize hm2 : (m.push R.row |>.push zeroTab).push T = m2 at hT6 hA2 hv2 hz2
        generalize hn6 : (m.push R.row |>.push zeroTab).vars.length = n6 at hT6 hne2
        have hn4le : m.vars.length ≤ (m.push R.row).vars.length := by rw [push_len]; omega
        generalize hn4 : (m.push R.row).vars.length = n4 at hz2 hne hne2 hn4le
        have hz4 := hz2
        let MS : (Nat → Bool) → Mem := fun S => if S 13 = true then setv m2 n4 T else m2
        have hRS : ∀ S, (MS S).var m.vars.length = some R.row := fun S => by
          show (if S 13 = true then _ else _ : Mem).var _ = _
          split
          · exact var_set_ne hne hv2
          · exact hv2
        have hTS : ∀ S, evLoad Tryz.prog (MS S) 90 (.ptr n6 0) = some (.agg T) := fun S => vrTab34 (by
          show (if S 13 = true then _ else _ : Mem).var _ = _
          split
          · exact var_set_ne hne2 hT6
          · exact hT6) hT
        have hend : ∀ (b : Bool), XLeaves Tryz.prog false Tryz.f52 m (.tup [.agg T, .v (.bool b)], m) .ret [(4, .ptr n4 0), (5, .v (.bool b))] (setv m2 n4 T) [] := fun b => by
          refine x_leaves (leaves_cell (x0 := .agg T) rfl (vrTab34 (setv_self hz2) hT) ?_ rfl (above_fin (above_setv hA2 hn4le)))
          show (T.mapM (resCell m.vars.length)).map AV.agg = _
          rw [hTr]
          rfl
        repeat (first | refine x_seq ?_ | refine x_block ?_ | refine xn_normal ?_ | refine xi_normal ?_ | refine xn_exit ?_ | refine xi_exit ?_ | refine xi_other (by decide) ?_ | refine xn_ret ?_ | refine xi_ret ?_ | refine x_skip ?_ | refine x_exit ?_ | refine x_ret ?_)
        cases h0 : (x == 0) with
        | false =>
          refine x_sets1 (l2 := kpThere 2) (m' := setv m2 n4 T) mixed hC (by decide +kernel) (fun i => [.agg T, .v (.int .i64 x), .v (.bool false), .v (.bool false), .v (.tuple #[]), .v (.tuple #[]), .v (.bool false), .v (.bool false), .v (.tuple #[]), .v (.tuple #[]), .v (.tuple #[]), .v (.tuple #[]), .v (.bool false), .v (.tuple #[]), .v (.bool false)].getD i .junk) MS (fun r => rfl) rfl ?_ ?_ ?_ ?_ ?_
          · intro k o ho
            match k, ho with
            | 0, ho => cases ho; rfl
            | 1, ho => cases ho; rfl
            | 2, ho => cases ho; rfl
            | 3, ho => cases ho; rfl
            | 4, ho => cases ho; rfl
            | 5, ho => cases ho; rfl
            | 6, ho => cases ho; rfl
            | 7, ho => cases ho; rfl
            | 8, ho => cases ho; rfl
            | 9, ho => cases ho; rfl
            | 10, ho => cases ho; rfl
            | 11, ho => cases ho; rfl
            | 12, ho => cases ho; rfl
            | 13, ho => cases ho; rfl
            | 14, ho => cases ho; rfl
          · intro k o ho
            match k, ho with
            | 0, ho => cases ho; exact ⟨true, rfl, fun h => by first | rfl | cases h⟩
            | 1, ho => cases ho; exact ⟨true, rfl, fun h => by first | rfl | cases h⟩
            | 2, ho => cases ho; exact ⟨true, rfl, fun h => by first | rfl | cases h⟩
            | 3, ho => cases ho; exact ⟨true, rfl, fun h => by first | rfl | cases h⟩
            | 4, ho => cases ho; exact ⟨false, rfl, fun h => by first | rfl | cases h⟩
            | 5, ho => cases ho; exact ⟨false, rfl, fun h => by first | rfl | cases h⟩
            | 6, ho => cases ho; exact ⟨true, rfl, fun h => by first | rfl | cases h⟩
            | 7, ho => cases ho; exact ⟨true, rfl, fun h => by first | rfl | cases h⟩
            | 8, ho => cases ho; exact ⟨false, rfl, fun h => by first | rfl | cases h⟩
            | 9, ho => cases ho; exact ⟨false, rfl, fun h => by first | rfl | cases h⟩
            | 10, ho => cases ho; exact ⟨false, rfl, fun h => by first | rfl | cases h⟩
            | 11, ho => cases ho; exact ⟨false, rfl, fun h => by first | rfl | cases h⟩
            | 12, ho => cases ho; exact ⟨true, rfl, fun h => by first | rfl | cases h⟩
            | 13, ho => cases ho; exact ⟨true, rfl, fun h => by first | rfl | cases h⟩
            | 14, ho => cases ho; exact ⟨true, rfl, fun h => by first | rfl | cases h⟩
          · intro S i o ho hc hi hr
            match i, ho with
            | 0, ho =>
              cases ho
              refine ⟨fun _ => .inl ?_, fun _ => rfl⟩
              show _ = some (_, MS S)
              have l1 := hTS S
              have l2 := lpRcSteps (hRS S)
              simp only [go_sem, reduceIte, Nat.reduceEqDiff, reduceCtorEq, Int.reduceEq, envOf, List.getElem?_cons_zero, List.getElem?_cons_succ, Option.bind_some, List.getD_cons_zero, List.getD_cons_succ, List.getElem?_toArray, l1, l2, h0]
              try rfl
            | 1, ho =>
              cases ho
              refine ⟨fun _ => .inl ?_, fun _ => rfl⟩
              show _ = some (_, MS S)
              have l1 := hTS S
              have l2 := lpRcSteps (hRS S)
              simp only [go_sem, reduceIte, Nat.reduceEqDiff, reduceCtorEq, Int.reduceEq, envOf, List.getElem?_cons_zero, List.getElem?_cons_succ, Option.bind_some, List.getD_cons_zero, List.getD_cons_succ, List.getElem?_toArray, l1, l2, h0]
              try rfl
            | 2, ho =>
              cases ho
              refine ⟨fun _ => .inl ?_, fun _ => rfl⟩
              show _ = some (_, MS S)
              have l1 := hTS S
              have l2 := lpRcSteps (hRS S)
              simp only [go_sem, reduceIte, Nat.reduceEqDiff, reduceCtorEq, Int.reduceEq, envOf, List.getElem?_cons_zero, List.getElem?_cons_succ, Option.bind_some, List.getD_cons_zero, List.getD_cons_succ, List.getElem?_toArray, l1, l2, h0]
              try rfl
            | 3, ho =>
              cases ho
              refine ⟨fun _ => .inl ?_, fun _ => rfl⟩
              show _ = some (_, MS S)
              have l1 := hTS S
              have l2 := lpRcSteps (hRS S)
              simp only [go_sem, reduceIte, Nat.reduceEqDiff, reduceCtorEq, Int.reduceEq, envOf, List.getElem?_cons_zero, List.getElem?_cons_succ, Option.bind_some, List.getD_cons_zero, List.getD_cons_succ, List.getElem?_toArray, l1, l2, h0]
              try rfl
            | 4, ho =>
              cases ho
              exact ⟨fun hw => (by cases hw), fun _ => rfl⟩
            | 5, ho =>
              cases ho
              exact ⟨fun hw => (by cases hw), fun _ => rfl⟩
            | 6, ho =>
              cases ho
              refine ⟨fun _ => .inl ?_, fun _ => rfl⟩
              show _ = some (_, MS S)
              have l1 := hTS S
              have l2 := lpRcSteps (hRS S)
              simp only [go_sem, reduceIte, Nat.reduceEqDiff, reduceCtorEq, Int.reduceEq, envOf, List.getElem?_cons_zero, List.getElem?_cons_succ, Option.bind_some, List.getD_cons_zero, List.getD_cons_succ, List.getElem?_toArray, l1, l2, h0]
              try rfl
            | 7, ho =>
              cases ho
              refine ⟨fun _ => .inl ?_, fun _ => rfl⟩
              show _ = some (_, MS S)
              have l1 := hTS S
              have l2 := lpRcSteps (hRS S)
              simp only [go_sem, reduceIte, Nat.reduceEqDiff, reduceCtorEq, Int.reduceEq, envOf, List.getElem?_cons_zero, List.getElem?_cons_succ, Option.bind_some, List.getD_cons_zero, List.getD_cons_succ, List.getElem?_toArray, l1, l2, h0]
              try rfl
            | 8, ho =>
              cases ho
              exact ⟨fun hw => (by cases hw), fun _ => rfl⟩
            | 9, ho =>
              cases ho
              exact ⟨fun hw => (by cases hw), fun _ => rfl⟩
            | 10, ho =>
              cases ho
              exact ⟨fun hw => (by cases hw), fun _ => rfl⟩
            | 11, ho =>
              cases ho
              exact ⟨fun hw => (by cases hw), fun _ => rfl⟩
            | 12, ho =>
              cases ho
              refine ⟨fun _ => .inl ?_, fun _ => rfl⟩
              show _ = some (_, MS S)
              have l1 := hTS S
              have l2 := lpRcSteps (hRS S)
              simp only [go_sem, reduceIte, Nat.reduceEqDiff, reduceCtorEq, Int.reduceEq, envOf, List.getElem?_cons_zero, List.getElem?_cons_succ, Option.bind_some, List.getD_cons_zero, List.getD_cons_succ, List.getElem?_toArray, l1, l2, h0]
              try rfl
            | 13, ho =>
              cases ho
              refine ⟨fun _ => .inl ?_, fun hw => by cases hw⟩
              have e1 : MS S = m2 := by show (if S 13 = true then _ else _) = _; rw [hi]; rfl
              have e2 : MS (ins S 13) = setv m2 n4 T := rfl
              rw [e1, e2]
              have st := storeTb hz4 rfl hT hTc (hTk _)
              simp only [go_sem, reduceIte, Nat.reduceEqDiff, reduceCtorEq, Int.reduceEq, envOf, List.getElem?_cons_zero, List.getElem?_cons_succ, Option.bind_some, List.getD_cons_zero, List.getD_cons_succ, List.getElem?_toArray, st]
              try rfl
            | 14, ho =>
              cases ho
              refine ⟨fun _ => .inl ?_, fun _ => rfl⟩
              show _ = some (_, MS S)
              have l1 := hTS S
              have l2 := lpRcSteps (hRS S)
              simp only [go_sem, reduceIte, Nat.reduceEqDiff, reduceCtorEq, Int.reduceEq, envOf, List.getElem?_cons_zero, List.getElem?_cons_succ, Option.bind_some, List.getD_cons_zero, List.getD_cons_succ, List.getElem?_toArray, l1, l2, h0]
              try rfl
          · intro S hS
            exact if_pos (hS 13 (by decide))
          · rintro e2 rfl
            repeat (first | refine x_seq ?_ | refine x_block ?_ | refine xn_normal ?_ | refine xi_normal ?_ | refine xn_exit ?_ | refine xi_exit ?_ | refine xi_other (by decide) ?_ | refine xn_ret ?_ | refine xi_ret ?_ | refine x_skip ?_ | refine x_exit ?_ | refine x_ret ?_)
            exact hend _
        | true =>
          cases h1 : decide (step ≥ 0) with
          | false =>
            refine x_sets1 (l2 := kpThere 2) (m' := setv m2 n4 T) mixed hC (by decide +kernel) (fun i => [.agg T, .v (.int .i64 x), .v (.bool true), .v (.bool true), .v (.int .i64 step), .v (.bool false), .v (.bool false), .v (.bool false), .v (.tuple #[]), .v (.tuple #[]), .v (.tuple #[]), .v (.tuple #[]), .v (.bool false), .v (.tuple #[]), .v (.bool false)].getD i .junk) MS (fun r => rfl) rfl ?_ ?_ ?_ ?_ ?_
            · intro k o ho
              match k, ho with
              | 0, ho => cases ho; rfl
              | 1, ho => cases ho; rfl
              | 2, ho => cases ho; rfl
              | 3, ho => cases ho; rfl
              | 4, ho => cases ho; rfl
              | 5, ho => cases ho; rfl
              | 6, ho => cases ho; rfl
              | 7, ho => cases ho; rfl
              | 8, ho => cases ho; rfl
              | 9, ho => cases ho; rfl
              | 10, ho => cases ho; rfl
              | 11, ho => cases ho; rfl
              | 12, ho => cases ho; rfl
              | 13, ho => cases ho; rfl
              | 14, ho => cases ho; rfl
            · intro k o ho
              match k, ho with
              | 0, ho => cases ho; exact ⟨true, rfl, fun h => by first | rfl | cases h⟩
              | 1, ho => cases ho; exact ⟨true, rfl, fun h => by first | rfl | cases h⟩
              | 2, ho => cases ho; exact ⟨true, rfl, fun h => by first | rfl | cases h⟩
              | 3, ho => cases ho; exact ⟨true, rfl, fun h => by first | rfl | cases h⟩
              | 4, ho => cases ho; exact ⟨true, rfl, fun h => by first | rfl | cases h⟩
              | 5, ho => cases ho; exact ⟨true, rfl, fun h => by first | rfl | cases h⟩
              | 6, ho => cases ho; exact ⟨true, rfl, fun h => by first | rfl | cases h⟩
              | 7, ho => cases ho; exact ⟨true, rfl, fun h => by first | rfl | cases h⟩
              | 8, ho => cases ho; exact ⟨false, rfl, fun h => by first | rfl | cases h⟩
              | 9, ho => cases ho; exact ⟨false, rfl, fun h => by first | rfl | cases h⟩
              | 10, ho => cases ho; exact ⟨false, rfl, fun h => by first | rfl | cases h⟩
              | 11, ho => cases ho; exact ⟨false, rfl, fun h => by first | rfl | cases h⟩
              | 12, ho => cases ho; exact ⟨true, rfl, fun h => by first | rfl | cases h⟩
              | 13, ho => cases ho; exact ⟨true, rfl, fun h => by first | rfl | cases h⟩
              | 14, ho => cases ho; exact ⟨true, rfl, fun h => by first | rfl | cases h⟩
            · intro S i o ho hc hi hr
              match i, ho with
              | 0, ho =>
                cases ho
                refine ⟨fun _ => .inl ?_, fun _ => rfl⟩
                show _ = some (_, MS S)
                have l1 := hTS S
                have l2 := lpRcSteps (hRS S)
                simp only [go_sem, reduceIte, Nat.reduceEqDiff, reduceCtorEq, Int.reduceEq, envOf, List.getElem?_cons_zero, List.getElem?_cons_succ, Option.bind_some, List.getD_cons_zero, List.getD_cons_succ, List.getElem?_toArray, l1, l2, h0, h1]
                try rfl
              | 1, ho =>
                cases ho
                refine ⟨fun _ => .inl ?_, fun _ => rfl⟩
                show _ = some (_, MS S)
                have l1 := hTS S
                have l2 := lpRcSteps (hRS S)
                simp only [go_sem, reduceIte, Nat.reduceEqDiff, reduceCtorEq, Int.reduceEq, envOf, List.getElem?_cons_zero, List.getElem?_cons_succ, Option.bind_some, List.getD_cons_zero, List.getD_cons_succ, List.getElem?_toArray, l1, l2, h0, h1]
                try rfl
              | 2, ho =>
                cases ho
                refine ⟨fun _ => .inl ?_, fun _ => rfl⟩
                show _ = some (_, MS S)
                have l1 := hTS S
                have l2 := lpRcSteps (hRS S)
                simp only [go_sem, reduceIte, Nat.reduceEqDiff, reduceCtorEq, Int.reduceEq, envOf, List.getElem?_cons_zero, List.getElem?_cons_succ, Option.bind_some, List.getD_cons_zero, List.getD_cons_succ, List.getElem?_toArray, l1, l2, h0, h1]
                try rfl
              | 3, ho =>
                cases ho
                refine ⟨fun _ => .inl ?_, fun _ => rfl⟩
                show _ = some (_, MS S)
                have l1 := hTS S
                have l2 := lpRcSteps (hRS S)
                simp only [go_sem, reduceIte, Nat.reduceEqDiff, reduceCtorEq, Int.reduceEq, envOf, List.getElem?_cons_zero, List.getElem?_cons_succ, Option.bind_some, List.getD_cons_zero, List.getD_cons_succ, List.getElem?_toArray, l1, l2, h0, h1]
                try rfl
              | 4, ho =>
                cases ho
                refine ⟨fun _ => .inl ?_, fun _ => rfl⟩
                show _ = some (_, MS S)
                have l1 := hTS S
                have l2 := lpRcSteps (hRS S)
                simp only [go_sem, reduceIte, Nat.reduceEqDiff, reduceCtorEq, Int.reduceEq, envOf, List.getElem?_cons_zero, List.getElem?_cons_succ, Option.bind_some, List.getD_cons_zero, List.getD_cons_succ, List.getElem?_toArray, l1, l2, h0, h1]
                try rfl
              | 5, ho =>
                cases ho
                refine ⟨fun _ => .inl ?_, fun _ => rfl⟩
                show _ = some (_, MS S)
                have l1 := hTS S
                have l2 := lpRcSteps (hRS S)
                simp only [go_sem, reduceIte, Nat.reduceEqDiff, reduceCtorEq, Int.reduceEq, envOf, List.getElem?_cons_zero, List.getElem?_cons_succ, Option.bind_some, List.getD_cons_zero, List.getD_cons_succ, List.getElem?_toArray, l1, l2, h0, h1]
                try rfl
              | 6, ho =>
                cases ho
                refine ⟨fun _ => .inl ?_, fun _ => rfl⟩
                show _ = some (_, MS S)
                have l1 := hTS S
                have l2 := lpRcSteps (hRS S)
                simp only [go_sem, reduceIte, Nat.reduceEqDiff, reduceCtorEq, Int.reduceEq, envOf, List.getElem?_cons_zero, List.getElem?_cons_succ, Option.bind_some, List.getD_cons_zero, List.getD_cons_succ, List.getElem?_toArray, l1, l2, h0, h1]
                try rfl
              | 7, ho =>
                cases ho
                refine ⟨fun _ => .inl ?_, fun _ => rfl⟩
                show _ = some (_, MS S)
                have l1 := hTS S
                have l2 := lpRcSteps (hRS S)
                simp only [go_sem, reduceIte, Nat.reduceEqDiff, reduceCtorEq, Int.reduceEq, envOf, List.getElem?_cons_zero, List.getElem?_cons_succ, Option.bind_some, List.getD_cons_zero, List.getD_cons_succ, List.getElem?_toArray, l1, l2, h0, h1]
                try rfl
              | 8, ho =>
                cases ho
                exact ⟨fun hw => (by cases hw), fun _ => rfl⟩
              | 9, ho =>
                cases ho
                exact ⟨fun hw => (by cases hw), fun _ => rfl⟩
              | 10, ho =>
                cases ho
                exact ⟨fun hw => (by cases hw), fun _ => rfl⟩
              | 11, ho =>
                cases ho
                exact ⟨fun hw => (by cases hw), fun _ => rfl⟩
              | 12, ho =>
                cases ho
                refine ⟨fun _ => .inl ?_, fun _ => rfl⟩
                show _ = some (_, MS S)
                have l1 := hTS S
                have l2 := lpRcSteps (hRS S)
                simp only [go_sem, reduceIte, Nat.reduceEqDiff, reduceCtorEq, Int.reduceEq, envOf, List.getElem?_cons_zero, List.getElem?_cons_succ, Option.bind_some, List.getD_cons_zero, List.getD_cons_succ, List.getElem?_toArray, l1, l2, h0, h1]
                try rfl
              | 13, ho =>
                cases ho
                refine ⟨fun _ => .inl ?_, fun hw => by cases hw⟩
                have e1 : MS S = m2 := by show (if S 13 = true then _ else _) = _; rw [hi]; rfl
                have e2 : MS (ins S 13) = setv m2 n4 T := rfl
                rw [e1, e2]
                have st := storeTb hz4 rfl hT hTc (hTk _)
                simp only [go_sem, reduceIte, Nat.reduceEqDiff, reduceCtorEq, Int.reduceEq, envOf, List.getElem?_cons_zero, List.getElem?_cons_succ, Option.bind_some, List.getD_cons_zero, List.getD_cons_succ, List.getElem?_toArray, st]
                try rfl
              | 14, ho =>
                cases ho
                refine ⟨fun _ => .inl ?_, fun _ => rfl⟩
                show _ = some (_, MS S)
                have l1 := hTS S
                have l2 := lpRcSteps (hRS S)
                simp only [go_sem, reduceIte, Nat.reduceEqDiff, reduceCtorEq, Int.reduceEq, envOf, List.getElem?_cons_zero, List.getElem?_cons_succ, Option.bind_some, List.getD_cons_zero, List.getD_cons_succ, List.getElem?_toArray, l1, l2, h0, h1]
                try rfl
            · intro S hS
              exact if_pos (hS 13 (by decide))
            · rintro e2 rfl
              repeat (first | refine x_seq ?_ | refine x_block ?_ | refine xn_normal ?_ | refine xi_normal ?_ | refine xn_exit ?_ | refine xi_exit ?_ | refine xi_other (by decide) ?_ | refine xn_ret ?_ | refine xi_ret ?_ | refine x_skip ?_ | refine x_exit ?_ | refine x_ret ?_)
              exact hend _
          | true =>
            refine x_sets1 (l2 := kpThere 2) (m' := setv m2 n4 T) mixed hC (by decide +kernel) (fun i => [.agg T, .v (.int .i64 x), .v (.bool true), .v (.bool true), .v (.int .i64 step), .v (.bool true), .v (.bool true), .v (.bool true), .v (.int .i64 step), .ptr m.vars.length 1, .v (.int .i64 R.steps), .v (.bool (decide (step < R.steps))), .v (.bool (decide (step < R.steps))), .v (.tuple #[]), .v (.bool (decide (step < R.steps)))].getD i .junk) MS (fun r => rfl) rfl ?_ ?_ ?_ ?_ ?_
            · intro k o ho
              match k, ho with
              | 0, ho => cases ho; rfl
              | 1, ho => cases ho; rfl
              | 2, ho => cases ho; rfl
              | 3, ho => cases ho; rfl
              | 4, ho => cases ho; rfl
              | 5, ho => cases ho; rfl
              | 6, ho => cases ho; rfl
              | 7, ho => cases ho; rfl
              | 8, ho => cases ho; rfl
              | 9, ho => cases ho; rfl
              | 10, ho => cases ho; rfl
              | 11, ho => cases ho; rfl
              | 12, ho => cases ho; rfl
              | 13, ho => cases ho; rfl
              | 14, ho => cases ho; rfl
            · intro k o ho
              match k, ho with
              | 0, ho => cases ho; exact ⟨true, rfl, fun h => by first | rfl | cases h⟩
              | 1, ho => cases ho; exact ⟨true, rfl, fun h => by first | rfl | cases h⟩
              | 2, ho => cases ho; exact ⟨true, rfl, fun h => by first | rfl | cases h⟩
              | 3, ho => cases ho; exact ⟨true, rfl, fun h => by first | rfl | cases h⟩
              | 4, ho => cases ho; exact ⟨true, rfl, fun h => by first | rfl | cases h⟩
              | 5, ho => cases ho; exact ⟨true, rfl, fun h => by first | rfl | cases h⟩
              | 6, ho => cases ho; exact ⟨true, rfl, fun h => by first | rfl | cases h⟩
              | 7, ho => cases ho; exact ⟨true, rfl, fun h => by first | rfl | cases h⟩
              | 8, ho => cases ho; exact ⟨true, rfl, fun h => by first | rfl | cases h⟩
              | 9, ho => cases ho; exact ⟨true, rfl, fun h => by first | rfl | cases h⟩
              | 10, ho => cases ho; exact ⟨true, rfl, fun h => by first | rfl | cases h⟩
              | 11, ho => cases ho; exact ⟨true, rfl, fun h => by first | rfl | cases h⟩
              | 12, ho => cases ho; exact ⟨true, rfl, fun h => by first | rfl | cases h⟩
              | 13, ho => cases ho; exact ⟨true, rfl, fun h => by first | rfl | cases h⟩
              | 14, ho => cases ho; exact ⟨true, rfl, fun h => by first | rfl | cases h⟩
            · intro S i o ho hc hi hr
              match i, ho with
              | 0, ho =>
                cases ho
                refine ⟨fun _ => .inl ?_, fun _ => rfl⟩
                show _ = some (_, MS S)
                have l1 := hTS S
                have l2 := lpRcSteps (hRS S)
                simp only [go_sem, reduceIte, Nat.reduceEqDiff, reduceCtorEq, Int.reduceEq, envOf, List.getElem?_cons_zero, List.getElem?_cons_succ, Option.bind_some, List.getD_cons_zero, List.getD_cons_succ, List.getElem?_toArray, l1, l2, h0, h1]
                try rfl
              | 1, ho =>
                cases ho
                refine ⟨fun _ => .inl ?_, fun _ => rfl⟩
                show _ = some (_, MS S)
                have l1 := hTS S
                have l2 := lpRcSteps (hRS S)
                simp only [go_sem, reduceIte, Nat.reduceEqDiff, reduceCtorEq, Int.reduceEq, envOf, List.getElem?_cons_zero, List.getElem?_cons_succ, Option.bind_some, List.getD_cons_zero, List.getD_cons_succ, List.getElem?_toArray, l1, l2, h0, h1]
                try rfl
              | 2, ho =>
                cases ho
                refine ⟨fun _ => .inl ?_, fun _ => rfl⟩
                show _ = some (_, MS S)
                have l1 := hTS S
                have l2 := lpRcSteps (hRS S)
                simp only [go_sem, reduceIte, Nat.reduceEqDiff, reduceCtorEq, Int.reduceEq, envOf, List.getElem?_cons_zero, List.getElem?_cons_succ, Option.bind_some, List.getD_cons_zero, List.getD_cons_succ, List.getElem?_toArray, l1, l2, h0, h1]
                try rfl
              | 3, ho =>
                cases ho
                refine ⟨fun _ => .inl ?_, fun _ => rfl⟩
                show _ = some (_, MS S)
                have l1 := hTS S
                have l2 := lpRcSteps (hRS S)
                simp only [go_sem, reduceIte, Nat.reduceEqDiff, reduceCtorEq, Int.reduceEq, envOf, List.getElem?_cons_zero, List.getElem?_cons_succ, Option.bind_some, List.getD_cons_zero, List.getD_cons_succ, List.getElem?_toArray, l1, l2, h0, h1]
                try rfl
              | 4, ho =>
                cases ho
                refine ⟨fun _ => .inl ?_, fun _ => rfl⟩
                show _ = some (_, MS S)
                have l1 := hTS S
                have l2 := lpRcSteps (hRS S)
                simp only [go_sem, reduceIte, Nat.reduceEqDiff, reduceCtorEq, Int.reduceEq, envOf, List.getElem?_cons_zero, List.getElem?_cons_succ, Option.bind_some, List.getD_cons_zero, List.getD_cons_succ, List.getElem?_toArray, l1, l2, h0, h1]
                try rfl
              | 5, ho =>
                cases ho
                refine ⟨fun _ => .inl ?_, fun _ => rfl⟩
                show _ = some (_, MS S)
                have l1 := hTS S
                have l2 := lpRcSteps (hRS S)
                simp only [go_sem, reduceIte, Nat.reduceEqDiff, reduceCtorEq, Int.reduceEq, envOf, List.getElem?_cons_zero, List.getElem?_cons_succ, Option.bind_some, List.getD_cons_zero, List.getD_cons_succ, List.getElem?_toArray, l1, l2, h0, h1]
                try rfl
              | 6, ho =>
                cases ho
                refine ⟨fun _ => .inl ?_, fun _ => rfl⟩
                show _ = some (_, MS S)
                have l1 := hTS S
                have l2 := lpRcSteps (hRS S)
                simp only [go_sem, reduceIte, Nat.reduceEqDiff, reduceCtorEq, Int.reduceEq, envOf, List.getElem?_cons_zero, List.getElem?_cons_succ, Option.bind_some, List.getD_cons_zero, List.getD_cons_succ, List.getElem?_toArray, l1, l2, h0, h1]
                try rfl
              | 7, ho =>
                cases ho
                refine ⟨fun _ => .inl ?_, fun _ => rfl⟩
                show _ = some (_, MS S)
                have l1 := hTS S
                have l2 := lpRcSteps (hRS S)
                simp only [go_sem, reduceIte, Nat.reduceEqDiff, reduceCtorEq, Int.reduceEq, envOf, List.getElem?_cons_zero, List.getElem?_cons_succ, Option.bind_some, List.getD_cons_zero, List.getD_cons_succ, List.getElem?_toArray, l1, l2, h0, h1]
                try rfl
              | 8, ho =>
                cases ho
                refine ⟨fun _ => .inl ?_, fun _ => rfl⟩
                show _ = some (_, MS S)
                have l1 := hTS S
                have l2 := lpRcSteps (hRS S)
                simp only [go_sem, reduceIte, Nat.reduceEqDiff, reduceCtorEq, Int.reduceEq, envOf, List.getElem?_cons_zero, List.getElem?_cons_succ, Option.bind_some, List.getD_cons_zero, List.getD_cons_succ, List.getElem?_toArray, l1, l2, h0, h1]
                try rfl
              | 9, ho =>
                cases ho
                refine ⟨fun _ => .inl ?_, fun _ => rfl⟩
                show _ = some (_, MS S)
                have l1 := hTS S
                have l2 := lpRcSteps (hRS S)
                simp only [go_sem, reduceIte, Nat.reduceEqDiff, reduceCtorEq, Int.reduceEq, envOf, List.getElem?_cons_zero, List.getElem?_cons_succ, Option.bind_some, List.getD_cons_zero, List.getD_cons_succ, List.getElem?_toArray, l1, l2, h0, h1]
                try rfl
              | 10, ho =>
                cases ho
                refine ⟨fun _ => .inl ?_, fun _ => rfl⟩
                show _ = some (_, MS S)
                have l1 := hTS S
                have l2 := lpRcSteps (hRS S)
                simp only [go_sem, reduceIte, Nat.reduceEqDiff, reduceCtorEq, Int.reduceEq, envOf, List.getElem?_cons_zero, List.getElem?_cons_succ, Option.bind_some, List.getD_cons_zero, List.getD_cons_succ, List.getElem?_toArray, l1, l2, h0, h1]
                try rfl
              | 11, ho =>
                cases ho
                refine ⟨fun _ => .inl ?_, fun _ => rfl⟩
                show _ = some (_, MS S)
                have l1 := hTS S
                have l2 := lpRcSteps (hRS S)
                simp only [go_sem, reduceIte, Nat.reduceEqDiff, reduceCtorEq, Int.reduceEq, envOf, List.getElem?_cons_zero, List.getElem?_cons_succ, Option.bind_some, List.getD_cons_zero, List.getD_cons_succ, List.getElem?_toArray, l1, l2, h0, h1]
                try rfl
              | 12, ho =>
                cases ho
                refine ⟨fun _ => .inl ?_, fun _ => rfl⟩
                show _ = some (_, MS S)
                have l1 := hTS S
                have l2 := lpRcSteps (hRS S)
                simp only [go_sem, reduceIte, Nat.reduceEqDiff, reduceCtorEq, Int.reduceEq, envOf, List.getElem?_cons_zero, List.getElem?_cons_succ, Option.bind_some, List.getD_cons_zero, List.getD_cons_succ, List.getElem?_toArray, l1, l2, h0, h1]
                try rfl
              | 13, ho =>
                cases ho
                refine ⟨fun _ => .inl ?_, fun hw => by cases hw⟩
                have e1 : MS S = m2 := by show (if S 13 = true then _ else _) = _; rw [hi]; rfl
                have e2 : MS (ins S 13) = setv m2 n4 T := rfl
                rw [e1, e2]
                have st := storeTb hz4 rfl hT hTc (hTk _)
                simp only [go_sem, reduceIte, Nat.reduceEqDiff, reduceCtorEq, Int.reduceEq, envOf, List.getElem?_cons_zero, List.getElem?_cons_succ, Option.bind_some, List.getD_cons_zero, List.getD_cons_succ, List.getElem?_toArray, st]
                try rfl
              | 14, ho =>
                cases ho
                refine ⟨fun _ => .inl ?_, fun _ => rfl⟩
                show _ = some (_, MS S)
                have l1 := hTS S
                have l2 := lpRcSteps (hRS S)
                simp only [go_sem, reduceIte, Nat.reduceEqDiff, reduceCtorEq, Int.reduceEq, envOf, List.getElem?_cons_zero, List.getElem?_cons_succ, Option.bind_some, List.getD_cons_zero, List.getD_cons_succ, List.getElem?_toArray, l1, l2, h0, h1]
                try rfl
            · intro S hS
              exact if_pos (hS 13 (by decide))
            · rintro e2 rfl
              repeat (first | refine x_seq ?_ | refine x_block ?_ | refine xn_normal ?_ | refine xi_normal ?_ | refine xn_exit ?_ | refine xi_exit ?_ | refine xi_other (by decide) ?_ | refine xn_ret ?_ | refine xi_ret ?_ | refine x_skip ?_ | refine x_exit ?_ | refine x_ret ?_)
              exact hend _
      · cases h
    · cases h
  · cases h
end
noncomputable section
attribute [local irreducible] Next Inside Runs Ops table
attribute [local go_sem] szStr szInt Option.getD_some isNil evStr iv mapRc mapTab cellsTab cellsRc newRc zrTab zoTab znTab zsTab fpRcEval
def thereG := thereOf ofG
theorem there_okG : FunOk Tryz.prog 52 thereG := there_ok of_ok
theorem tab_plain {R : Rc} {l : List Sp} {f : Int} {n : Nat} : (tabRow R l f).mapM (resCell n) = some (tabRow R l f) := rfl
theorem tab_low {R : Rc} {l : List Sp} {f : Int} (q : Nat) : (tabRow R l f).all (refLe q) = true := rfl
def Rc.has (R : Rc) (step : Int) : Bool := decide (step ≥ 0) && decide (step < R.steps)
theorem thereG_at {R : Rc} {step : Int} {m : Mem} (h : R.fit) (hs : R.sound = true) : thereG [.agg R.row, .v (.int .i64 step)] m = some (.tup [.agg (tabRow R R.spans R.swaSteps.1), .v (.bool (R.has step))], m) := by
  unfold thereG thereOf
  simp only [unRc_row, ofG_at h hs]
  rw [if_pos ⟨rfl, rfl, rfl, tab_plain, tab_low⟩]
  rfl
theorem thereG_no {R : Rc} {step : Int} {m : Mem} (h : R.fit) (hs : R.sound = false) : thereG [.agg R.row, .v (.int .i64 step)] m = some (.tup [.agg (tabRow rc0 [] 0), .v (.bool false)], m) := by
  unfold thereG thereOf
  simp only [unRc_row, ofG_no h hs]
  rw [show tab0 = tabRow rc0 [] 0 from rfl, if_pos ⟨rfl, rfl, rfl, tab_plain, tab_low⟩]
  rfl
def kpTimesAt : Nat → Option (List Nat) := fun
  | 0 => some [1, 2]
  | 1 => some [1, 5, 6]
  | 2 => some [1, 5, 14]
  | 3 => some [4]
  | 4 => some [4]
  | _ => none
attribute [go_sem] kpTimesAt
def kpTimesLook : Nat → Option (List Nat) := fun
  | 0 => some [1, 2]
  | 1 => some [1, 2, 6]
  | 2 => some [4]
  | _ => none
attribute [go_sem] kpTimesLook
def kpTimesSwa : Nat → Option (List Nat) := fun
  | 0 => some [1, 2]
  | 1 => some [1, 5, 6]
  | 2 => some [1, 5, 16]
  | 3 => some [4]
  | 4 => some [8]
  | 5 => some [4]
  | _ => none
attribute [go_sem] kpTimesSwa
end
noncomputable section
attribute [local irreducible] Next Inside Runs Ops table
attribute [local go_sem] szStr szInt Option.getD_some isNil evStr iv loadInt loadStr mapRc cellsRc newRc rowsS_len rowsPh_len rowsEvt_len rowsSp_len fpRcPhases fpRcGroups fpRcEval fpRcSwa fpRcSwaFrom fpRcSwaOn fpRcSwaEvery fpRcSteps fePhFrozen lePhFrozen mkEvt3 mkEvt2 mkEvts1 feSpFrom_ leSpFrom_ niEvt ldEvt
theorem mkEvt0 : evBuildSlice Tryz.prog 55 0 [] = some (.lst .full 3 []) := build_nil appEvt
attribute [local go_sem] mkEvt0
def frozenRG : List AV → Mem → Option (AV × Mem)
  | [.agg cs, .v (.int .i64 p), .v (.int .i64 g)], m =>
    match unRc cs with
    | some R => if R.small ∧ 0 ≤ g ∧ g < (R.groups.length : Int) then some (.v (.bool ((frozenAt R p).getD g.toNat false)), m) else none
    | none => none
  | _, _ => none
theorem frozenRG_at {R : Rc} {p : Int} {g : Nat} {m : Mem} (h : R.small) (h1 : g < R.groups.length) : frozenRG [.agg R.row, .v (.int .i64 p), .v (.int .i64 (g : Int))] m = some (.v (.bool ((frozenAt R p).getD g false)), m) := by
  simp only [frozenRG, unRc_row]
  rw [if_pos ⟨h, by omega, by omega⟩, Int.toNat_natCast]
def kpFrozenR : Nat → Option (List Nat) := fun
  | 0 => some [1, 2, 3]
  | 1 => some [6]
  | _ => none
attribute [go_sem] kpFrozenR
def tab_frozenR_ok : List (FuncId × (List AV → Mem → Option (AV × Mem))) := [(93, placeG)]
theorem frozenR_ok : FunOk Tryz.prog 55 frozenRG := by
  have hC := table_ok (P := Tryz.prog) (l := tab_frozenR_ok) (table_more refPlace_ok table_nil)
  have t1 := fun args mm => table_at (l := tab_frozenR_ok) (f := 93) (args := args) (m := mm) rfl
  refine fun_ok mixed hC Tryz.func55 rfl kpFrozenR false rfl fun args m r h => ?_
  unfold frozenRG at h
  split at h
  · rename_i cs p g
    split at h
    · rename_i R hR
      obtain rfl := unRc_some hR
      split at h
      · rename_i hyp
        obtain ⟨hsm, hg0, hg1⟩ := hyp
        obtain ⟨j, rfl⟩ := Int.eq_ofNat_of_zero_le hg0
        rw [Int.toNat_natCast] at h
        simp only [Option.some.injEq] at h
        subst h
        refine ⟨Nat.le_of_ble_eq_true rfl, ?_⟩
        refine en ?_
        have hj : j < R.groups.length := by omega
        have hA := above_push (cs := R.row) (above_self m)
        have hv : (m.push R.row).var m.vars.length = some R.row := push_var
        have nr := newRc (m := m) (x := R)
        generalize m.push R.row = m1 at hA hv nr
        have l1 := lpRcPhases hv
        have l2 := lpRcGroups hv
        unfold frozenAt
        refine go1 @nr ?_
        refine runs_ops_drawn_kept (by kernel_rfl) ?_
        by_cases h0 : 0 ≤ p
        · have b0 : decide (p ≥ 0) = true := decide_eq_true h0
          by_cases h1 : p < (R.phases.length : Int)
          · have b1 : decide (p < (R.phases.length : Int)) = true := decide_eq_true h1
            rw [if_pos ⟨h0, h1⟩]
            obtain ⟨q, rfl⟩ := Int.eq_ofNat_of_zero_le h0
            rw [Int.toNat_natCast]
            have hq : q < R.phases.length := by omega
            have f1 := atPh (g := .no) (kk := .i64) hq
            have f2 := atStrs (g := .no) (kk := .i64) hj
            have hfl := (hsm.phase q).1
            have c1 := fun mm => placeG_eq (m := mm) (g := .no) (s := R.groups.getD j ⟨#[]⟩) (show (R.phases.getD q ph0).frozen.length ≤ 9223372036854775807 by omega)
            have d1 := among_place (R.phases.getD q ph0).frozen (R.groups.getD j ⟨#[]⟩)
            have hget : (R.groups.map fun g => among (R.phases.getD q ph0).frozen g).getD j false = among (R.phases.getD q ph0).frozen (R.groups.getD j ⟨#[]⟩) := by simp [List.getD, List.getElem?_eq_getElem hj]
            rw [hget]
            generalize R.phases.getD q ph0 = P at f1 c1 d1
            generalize R.groups.getD j ⟨#[]⟩ = s at f2 c1 d1
            refine go1 (jn @b0 (jn @l1 (jn @b1 (jn @f1 (jn @l2 (jn @f2 (jn @t1 (jn @c1 @d1)))))))) ?_
            exact leaves_fin rfl rfl (above_fin hA)
          · have b1 : decide (p < (R.phases.length : Int)) = false := decide_eq_false h1
            rw [if_neg (fun h => h1 h.2)]
            refine go1 (jn @b0 (jn @l1 @b1)) ?_
            exact leaves_fin rfl rfl (above_fin hA)
        · have b0 : decide (p ≥ 0) = false := decide_eq_false h0
          rw [if_neg (fun h => h0 h.1)]
          refine go1 @b0 ?_
          exact leaves_fin rfl rfl (above_fin hA)
      · cases h
    · cases h
  · cases h
/-! ### Swa, Looked -/
def rswaG : List AV → Mem → Option (AV × Mem)
  | [.agg cs, .v (.int .i64 step)], m =>
    match unRc cs with
    | some R => if R.may = true ∧ (R.swaOn = true → 0 < R.swaEvery) ∧ stepIn step then some (.v (.bool (swaIs R R.swaSteps.1 step)), m) else none
    | none => none
  | _, _ => none
theorem rswaG_at {R : Rc} {step : Int} {m : Mem} (h : R.sound = true) (h1 : stepIn step) : rswaG [.agg R.row, .v (.int .i64 step)] m = some (.v (.bool (swaIs R R.swaSteps.1 step)), m) := by
  simp only [rswaG, unRc_row]
  rw [if_pos ⟨sound_may h, sound_every h, h1⟩]
def kpRSwa : Nat → Option (List Nat) := fun
  | 0 => some [1, 2]
  | 1 => some [1, 2, 5]
  | 2 => some [4]
  | _ => none
attribute [go_sem] kpRSwa
def tab_rswa_ok : List (FuncId × (List AV → Mem → Option (AV × Mem))) := [(49, rstepsG)]
theorem rswa_ok : FunOk Tryz.prog 29 rswaG := by
  have hC := table_ok (P := Tryz.prog) (l := tab_rswa_ok) (table_more rsteps_ok table_nil)
  have t1 := fun args mm => table_at (l := tab_rswa_ok) (f := 49) (args := args) (m := mm) rfl
  refine fun_ok mixed hC Tryz.func29 rfl kpRSwa false rfl fun args m r h => ?_
  unfold rswaG at h
  split at h
  · rename_i cs step
    split at h
    · rename_i R hR
      obtain rfl := unRc_some hR
      split at h
      · rename_i hyp
        obtain ⟨hmay, hev, hst⟩ := hyp
        simp only [Option.some.injEq] at h
        subst h
        refine ⟨Nat.le_of_ble_eq_true rfl, ?_⟩
        refine en ?_
        have hn := Rc.may_num hmay
        have hA := above_push (cs := R.row) (above_self m)
        have hv : (m.push R.row).var m.vars.length = some R.row := push_var
        have nr := newRc (m := m) (x := R)
        generalize m.push R.row = m1 at hA hv nr
        have l0 := vrRc hv
        have l1 := lpRcSwaFrom hv
        have l2 := lpRcSwaOn hv
        have l3 := lpRcSwaEvery hv
        have c1 := fun mm => rstepsG_at (R := R) (m := mm) hn.from_ hn.steps.1 hn.epoch.1
        rw [show stepsP R.swaFromU R.swaFromN R.steps R.epoch = R.swaSteps from rfl] at c1
        have hf := @sound_from R
        unfold stepIn at hst
        unfold swaIs
        generalize R.swaSteps.1 = f at c1 hf
        generalize R.swaSteps.2 = e2 at c1
        have w1 : IntKind.i64.wrap (step - f) = step - f := i64_wrap (by omega) (by omega)
        refine go1 (jn @nr (jn @l0 (jn @l1 (jn @t1 @c1)))) ?_
        cases q0 : R.swaOn with
        | false =>
          refine go1 (jn @l2 @q0) ?_
          exact leaves_fin rfl rfl (above_fin hA)
        | true =>
          have hne : R.swaEvery ≠ 0 := by have := hev q0; omega
          cases q1 : decide (step ≥ f) with
          | false =>
            refine go1 (jn @l2 (jn @q0 @q1)) ?_
            exact leaves_fin rfl rfl (above_fin hA)
          | true =>
            rw [Bool.true_and, Bool.true_and]
            refine go1 (jn @l2 (jn @q0 (jn @q1 (jn @w1 (jn @l3 @hne))))) ?_
            exact leaves_fin rfl rfl (above_fin hA)
      · cases h
    · cases h
  · cases h
def kpRLook : Nat → Option (List Nat) := fun
  | 0 => some [1, 2]
  | 1 => some [4]
  | _ => none
attribute [go_sem] kpRLook
/-! ### Same -/
def sameEG : List AV → Mem → Option (AV × Mem)
  | [.lst _ 3 rows, .lst _ 3 rows2], m =>
    match unsEvt rows with
    | some l => open Classical in if l.length ≤ 1000000000 ∧ rows2 = rowsEvt l then some (.v (.bool true), m) else none
    | none => none
  | _, _ => none
theorem sameEG_at {m : Mem} {g g2 : Grow} {l : List Evt} (h : l.length ≤ 1000000000) : sameEG [.lst g 3 (rowsEvt l), .lst g2 3 (rowsEvt l)] m = some (.v (.bool true), m) := by
  simp only [sameEG, unsEvt_rowsEvt]
  rw [if_pos ⟨h, trivial⟩]
def kpSameE : Nat → Option (List Nat) := fun
  | 0 => some [0, 1]
  | 1 => some [0, 1, 10]
  | 2 => some [4]
  | 3 => some [0, 1, 5]
  | 4 => some [0, 1, 5, 14]
  | 5 => some [0, 1, 5]
  | 6 => some [0, 1, 5, 25]
  | 7 => some [4]
  | 8 => some [4]
  | _ => none
attribute [go_sem] kpSameE
theorem sameE_ok : FunOk Tryz.prog 26 sameEG := by
  have hC := table_ok (P := Tryz.prog) (l := []) table_nil
  refine fun_ok mixed hC Tryz.func26 rfl kpSameE false rfl fun args m r h => ?_
  unfold sameEG at h
  split at h
  · rename_i g rows g2 rows2
    split at h
    · rename_i l hl
      obtain rfl := unsEvt_some hl
      split at h
      · rename_i hyp
        obtain ⟨hlen, rfl⟩ := hyp
        simp only [Option.some.injEq] at h
        subst h
        refine ⟨Nat.le_of_ble_eq_true rfl, ?_⟩
        refine en ?_
        have b0 : ((l.length : Int) != (l.length : Int)) = false := by simp
        refine go1 @b0 ?_
        refine runs_cond rfl (fun hc => by cases hc) (fun hc => ?_)
        refine go0 ?_
        refine runs_loop (fun k e m' => ∃ (i : Nat), i ≤ l.length ∧ m = m' ∧ k = l.length - i ∧
          e = [(0, AV.lst g 3 (rowsEvt l)), (1, .lst g2 3 (rowsEvt l)), (5, .v (.int .i64 (i : Int)))]) (k := l.length) ⟨0, Nat.zero_le _, rfl, rfl, rfl⟩ ?_
        rintro k e m' ⟨i, hi, rfl, rfl, rfl⟩
        refine go0 ?_
        refine runs_cond rfl (fun hc => ?_) (fun hc => ?_)
        · have hi1 : i < l.length := by have := of_decide_eq_true hc; omega
          have f1 := atEvt (g := g) (kk := .i64) hi1
          have f2 := atEvt (g := g2) (kk := .i64) hi1
          have r6 := next_i64 (i := i) (by omega)
          generalize l.getD i evt0 = x at f1 f2
          have e1 : eqTy Tryz.prog 8 65 (.agg x.row) (.agg x.row) = some true := by rw [eqEvt]; simp
          have w1 : (!true) = false := rfl
          refine go0 ?_
          refine runs_ops_drawn_kept (by kernel_rfl) ?_
          refine go1 (jn @f1 (jn @f2 (jn @e1 @w1))) ?_
          refine runs_cond rfl (fun hc => by cases hc) (fun hc => ?_)
          refine go1 @r6 ?_
          exact ⟨l.length - (i + 1), by omega, i + 1, hi1, rfl, rfl, rfl⟩
        · refine go0 ?_
          exact leaves_v rfl rfl
      · cases h
    · cases h
  · cases h
end
end Go.Proofs.YtojaokhkbmiidaaGreat.Ev

/- The phases' spans. -/
import Derived.Test.YtojaokhkbmiidaaGreatMbcia11
import Derived.Test.YtojaokhkbmiidaaGreatMbcia8
import Derived.Test.YtojaokhkbmiidaaGreatMbcia2
import Derived.Test.YtojaokhkbmiidaaGreatMbcia1
namespace Go.Proofs.YtojaokhkbmiidaaGreat.Ev
open Go Go.Proofs
set_option maxRecDepth 10000
set_option maxHeartbeats 8000000
set_option linter.unusedVariables false
set_option linter.unusedSimpArgs false
section
attribute [local irreducible] Next Inside Runs Ops table
attribute [local go_sem] szStr szInt Option.getD_some isNil evStr iv loadStr loadInt mapRc cellsRc newRc rowsPh_len rowsSp_len fpRcSteps fpRcEpoch fpRcPhases fpPhLen fpPhLenU zrPh zoPh ldPh cellsPh mapPh fePhLen lePhLen feLenU leLenU
theorem mkSp {a b : Int} : evBuild Tryz.prog 51 [(0, .v (.int .i64 a)), (1, .v (.int .i64 b))] = some (.agg [.v (.int .i64 a), .v (.int .i64 b)]) := by kernel_rfl
attribute [local go_sem] mkSp
theorem mkSps1 {a b : Int} : evBuildSlice Tryz.prog 46 1 [(0, .agg [.v (.int .i64 a), .v (.int .i64 b)])] = some (.lst .full 2 [[.v (.int .i64 a), .v (.int .i64 b)]]) := build_rows appSp rfl rfl (by decide)
attribute [local go_sem] mkSps1
theorem mkSp0 : evBuildSlice Tryz.prog 46 0 [] = some (.lst .full 2 []) := build_nil appSp
attribute [local go_sem] mkSp0
theorem app_sp {m m' : Mem} {g g2 : Grow} (hG : GrowsA m g m') (xs : List Sp) (a b : Int) (hl : xs.length ≤ 1000000) :
    ∃ g' m'', evAppend Tryz.prog 46 46 m' (.lst g 2 (rowsSp xs)) (.lst g2 2 [[.v (.int .i64 a), .v (.int .i64 b)]]) = some (.lst g' 2 (rowsSp (xs ++ [⟨a, b⟩])), m'') ∧ GrowsA m g' m'' ∧ ∀ q, m''.var q = m'.var q := by
  have := app_growsV appSp hG (y := .lst g2 2 [[.v (.int .i64 a), .v (.int .i64 b)]]) asList_lst (xs := rowsSp xs) (by rw [rowsSp_len]; unfold lim; simp; omega)
  rwa [show ([[.v (.int .i64 a), .v (.int .i64 b)]] : List (List AV)) = rowsSp [⟨a, b⟩] from rfl, rowsSp_app] at this
/-- Where a phase begins. -/
def Rc.at_ (R : Rc) : Nat → Int
  | 0 => 0
  | i + 1 => if (R.phases.getD i ph0).lenU = 3 then R.steps else R.at_ i + (R.stepsOf (R.phases.getD i ph0)).1
def Rc.spansTo (R : Rc) (n : Nat) : List Sp := (List.range n).map fun i => ⟨R.at_ i, R.at_ (i + 1)⟩
def Rc.spans (R : Rc) : List Sp := R.spansTo R.phases.length
theorem spansTo_next {R : Rc} {n : Nat} : R.spansTo (n + 1) = R.spansTo n ++ [⟨R.at_ n, R.at_ (n + 1)⟩] := by
  unfold Rc.spansTo
  rw [List.range_succ, List.map_append]
  rfl
theorem spansTo_len {R : Rc} {n : Nat} : (R.spansTo n).length = n := by simp [Rc.spansTo]
theorem spansTo_get {R : Rc} {n i : Nat} (h : i < n) : (R.spansTo n).getD i sp0 = ⟨R.at_ i, R.at_ (i + 1)⟩ := by
  simp [Rc.spansTo, List.getD, h]
theorem at_in {R : Rc} (h : 0 ≤ R.steps ∧ R.steps ≤ 1099511627776) : ∀ i : Nat, 0 ≤ R.at_ i ∧ R.at_ i ≤ ((i + 1 : Nat) : Int) * 1099511627776
  | 0 => by simp [Rc.at_]
  | i + 1 => by
    have ih := at_in h i
    have h2 := stepsP_in (u := (R.phases.getD i ph0).lenU) (n := (R.phases.getD i ph0).lenN) (of := R.steps) (ep := R.epoch)
    rw [show stepsP (R.phases.getD i ph0).lenU (R.phases.getD i ph0).lenN R.steps R.epoch = R.stepsOf (R.phases.getD i ph0) from rfl] at h2
    unfold Rc.at_
    split <;> omega
def rspansG : List AV → Mem → Option (AV × Mem)
  | [.agg cs], m =>
    match unRc cs with
    | some R => if R.may = true ∧ R.fit then some (.lst .no 2 (rowsSp R.spans), m) else none
    | none => none
  | _, _ => none
theorem rspansG_at {R : Rc} {m : Mem} (h : R.may = true) (h1 : R.fit) : rspansG [.agg R.row] m = some (.lst .no 2 (rowsSp R.spans), m) := by
  simp only [rspansG, unRc_row]
  rw [if_pos ⟨h, h1⟩]
def kpSpans22 : Nat → Option (List Nat) := fun
  | 0 => some [1]
  | 1 => some [1, 3]
  | 2 => some [1, 3, 4]
  | 3 => some [1, 3, 4, 5]
  | 4 => some [1, 3, 4, 5, 12]
  | 5 => some [1, 3, 4, 5]
  | 6 => some [1, 3, 4, 5, 6]
  | 7 => some [1, 3, 4, 5, 6, 26]
  | 8 => some [1, 3, 4, 5, 6]
  | 9 => some [1, 3, 4, 5, 6]
  | 10 => some [1, 3, 4, 5]
  | 11 => some [2]
  | _ => none
attribute [go_sem] kpSpans22
def tab_spans22_ok : List (FuncId × (List AV → Mem → Option (AV × Mem))) := [(49, rstepsG)]
theorem spans22_ok : FunOk Tryz.prog 19 rspansG := by
  have hC := table_ok (P := Tryz.prog) (l := tab_spans22_ok) (table_more rsteps_ok table_nil)
  have t1 := fun args mm => table_at (l := tab_spans22_ok) (f := 49) (args := args) (m := mm) rfl
  refine fun_ok mixed hC Tryz.func19 rfl kpSpans22 false rfl fun args m r h => ?_
  unfold rspansG at h
  split at h
  · rename_i cs
    split at h
    · rename_i R hR
      obtain rfl := unRc_some hR
      split at h
      · rename_i hyp
        obtain ⟨hmay, hfit⟩ := hyp
        simp only [Option.some.injEq] at h
        subst h
        refine ⟨Nat.le_of_ble_eq_true rfl, ?_⟩
        refine en ?_
        have hsm := Rc.may_small hmay
        have hP64 := hsm.2.2.1
        have hnum := Rc.may_num hmay
        have hlens := Rc.may_lens hmay
        have hG0 : GrowsA m .full (m.push R.row) := growsA_push growsA_full
        have hv : (m.push R.row).var m.vars.length = some R.row := push_var
        have nr := newRc (m := m) (x := R)
        generalize m.push R.row = m1 at hG0 hv nr
        refine go1 @nr ?_
        refine runs_loop (fun k e m' => ∃ (i : Nat) (gr : Grow), i ≤ R.phases.length ∧ GrowsA m gr m' ∧ m'.var m.vars.length = some R.row ∧ k = R.phases.length - i ∧
          e = [(1, AV.ptr m.vars.length 0), (3, .lst gr 2 (rowsSp (R.spansTo i))), (4, .v (.int .i64 (R.at_ i))), (5, .v (.int .i64 (i : Int)))]) (k := R.phases.length) ⟨0, _, Nat.zero_le _, hG0, hv, rfl, rfl⟩ ?_
        rintro k e m' ⟨i, gr, hi0, hG, hw, rfl, rfl⟩
        have l1 := lpRcPhases hw
        refine go1 @l1 ?_
        refine runs_cond rfl (fun hc => ?_) (fun hc => ?_)
        · have hi1 : i < R.phases.length := by have := of_decide_eq_true hc; omega
          have l0 := vrRc hw
          have l2 := lpRcSteps hw
          have f2 := atPh (g := .no) (kk := .i64) hi1
          have hin := at_in hnum.steps i
          have hin2 := at_in hnum.steps (i + 1)
          have hA : R.at_ (i + 1) = if (R.phases.getD i ph0).lenU = 3 then R.steps else R.at_ i + (R.stepsOf (R.phases.getD i ph0)).1 := rfl
          have hl := hlens.2.1 _ (phase_mem hi1)
          have hN := @spansTo_next R i
          have hlen := @spansTo_len R i
          have hst := hnum.steps
          have r1 : IntKind.i64.wrap (R.steps - R.at_ i) = R.steps - R.at_ i := i64_wrap (by omega) (by omega)
          have r6 := next_i64 (i := i) (by omega)
          generalize R.phases.getD i ph0 = p at f2 hA hl
          generalize R.spansTo i = acc at hG hN hlen
          obtain ⟨g2, m2, a1, hG2, hV2⟩ := app_sp (g2 := .full) hG acc (R.at_ i) (R.at_ (i + 1)) (by omega)
          rw [← hN] at a1
          cases h3 : (p.lenU == 3) with
          | true =>
            have h3' : p.lenU = 3 := by simpa using h3
            have h4 : (p.lenU != 3) = false := by simpa using h3
            rw [if_pos h3'] at hA
            have e1 : R.at_ i + (R.steps - R.at_ i) = R.at_ (i + 1) := by omega
            have r2 : IntKind.i64.wrap (R.at_ i + (R.steps - R.at_ i)) = R.at_ (i + 1) := by rw [e1]; exact i64_wrap (by omega) (by omega)
            refine go1 (jn @l2 (jn @r1 (jn @l1 (jn @f2 @h4)))) ?_
            refine runs_cond rfl (fun hc => by cases hc) (fun hc => ?_)
            refine go1 (jn @r2 (jn @a1 @r6)) ?_
            exact ⟨R.phases.length - (i + 1), by omega, i + 1, _, hi1, hG2, by rw [hV2]; exact hw, rfl, rfl⟩
          | false =>
            have h3' : ¬ p.lenU = 3 := by simpa using h3
            have h4 : (p.lenU != 3) = true := by simpa using h3
            rw [if_neg h3'] at hA
            have c1 := fun mm => rstepsG_at (R := R) (m := mm) hl hnum.steps.1 hnum.epoch.1
            rw [show stepsP p.lenU p.lenN R.steps R.epoch = R.stepsOf p from rfl] at c1
            have r2 : IntKind.i64.wrap (R.at_ i + (R.stepsOf p).1) = R.at_ (i + 1) := by rw [← hA]; exact i64_wrap (by omega) (by omega)
            generalize (R.stepsOf p).1 = s1 at c1 r2
            generalize (R.stepsOf p).2 = s2 at c1
            refine go1 (jn @l2 (jn @r1 (jn @l1 (jn @f2 @h4)))) ?_
            refine runs_cond rfl (fun hc => ?_) (fun hc => by cases hc)
            refine go0 ?_
            refine runs_ops_drawn_kept (by kernel_rfl) ?_
            refine go1 (jn @l0 (jn @l1 (jn @f2 (jn @t1 (jn @c1 (jn @r2 (jn @a1 @r6))))))) ?_
            exact ⟨R.phases.length - (i + 1), by omega, i + 1, _, hi1, hG2, by rw [hV2]; exact hw, rfl, rfl⟩
        · have hi1 : i = R.phases.length := by have := of_decide_eq_false hc; omega
          subst hi1
          refine go0 ?_
          exact leaves_lst rfl rfl (growsA_fin hG)
      · cases h
    · cases h
  · cases h
def spansG : List AV → Mem → Option (AV × Mem)
  | [.agg cs], m =>
    match unRc cs with
    | some R => if R.fit then some (.tup [.lst .no 2 (rowsSp (if R.sound = true then R.spans else [])), .v (.int .i64 (if R.sound then 0 else 1))], m) else none
    | none => none
  | _, _ => none
theorem spansG_at {R : Rc} {m : Mem} (h1 : R.fit) : spansG [.agg R.row] m = some (.tup [.lst .no 2 (rowsSp (if R.sound = true then R.spans else [])), .v (.int .i64 (if R.sound then 0 else 1))], m) := by
  simp only [spansG, unRc_row]
  rw [if_pos h1]
theorem sound_may {R : Rc} (h : R.sound = true) : R.may = true := by
  unfold Rc.sound at h
  exact (Bool.and_eq_true_iff.1 h).1
def kpSpansP : Nat → Option (List Nat) := fun
  | 0 => some [1]
  | 1 => some [1, 13]
  | 2 => some [2, 3]
  | 3 => some [1, 4]
  | 4 => some [1, 4, 5]
  | 5 => some [1, 4, 5, 15, 16, 17]
  | 6 => some [1, 4, 5, 15, 16, 17, 18]
  | 7 => some [1, 4, 5, 7, 15, 16, 17]
  | 8 => some [1, 4, 5, 7, 8, 15, 16, 17]
  | 9 => some [1, 4, 5, 7, 8, 15, 16, 17, 26]
  | 10 => some [1, 4, 5, 9, 15, 16, 17]
  | 11 => some [1, 4, 5, 8, 15, 16, 17]
  | 12 => some [1, 4, 8, 15, 16, 17]
  | 13 => some [1, 4, 5, 15, 16, 17]
  | 14 => some [1, 4, 5, 15, 16, 17]
  | 15 => some [2, 3]
  | _ => none
attribute [go_sem] kpSpansP
def tab_spansP_ok : List (FuncId × (List AV → Mem → Option (AV × Mem))) := [(12, soundG), (48, stepsLG)]
theorem spansP_ok : FunOk Tryz.prog 18 spansG := by
  have hC := table_ok (P := Tryz.prog) (l := tab_spansP_ok) (table_more sound_ok (table_more stepsL_ok table_nil))
  have t1 := fun args mm => table_at (l := tab_spansP_ok) (f := 12) (args := args) (m := mm) rfl
  have t2 := fun args mm => table_at (l := tab_spansP_ok) (f := 48) (args := args) (m := mm) rfl
  refine fun_ok mixed hC Tryz.func18 rfl kpSpansP false rfl fun args m r h => ?_
  unfold spansG at h
  split at h
  · rename_i cs
    split at h
    · rename_i R hR
      obtain rfl := unRc_some hR
      split at h
      · rename_i hfit
        simp only [Option.some.injEq] at h
        subst h
        refine ⟨Nat.le_of_ble_eq_true rfl, ?_⟩
        refine en ?_
        have hG0 : GrowsA m .full (m.push R.row) := growsA_push growsA_full
        have hv : (m.push R.row).var m.vars.length = some R.row := push_var
        have nr := newRc (m := m) (x := R)
        generalize m.push R.row = m1 at hG0 hv nr
        have l0 := vrRc hv
        have c1 := fun mm => soundG_at R mm hfit
        cases hs : R.sound with
        | false =>
          rw [hs] at c1
          refine go1 (jn @nr (jn @l0 (jn @t1 @c1))) ?_
          refine runs_cond rfl (fun hc => ?_) (fun hc => by cases hc)
          refine go0 ?_
          exact leaves_two rfl rfl rfl (growsA_fin hG0)
        | true =>
          rw [hs] at c1
          rw [if_pos rfl, if_pos rfl]
          have hmay := sound_may hs
          have hsm := Rc.may_small hmay
          have hP64 := hsm.2.2.1
          have hnum := Rc.may_num hmay
          have k0 := lpRcPhases hv
          refine go1 (jn @nr (jn @l0 (jn @t1 (jn @c1 @k0)))) ?_
          refine runs_cond rfl (fun hc => by cases hc) (fun hc => ?_)
          refine go1 @k0 ?_
          refine runs_loop (fun k e m' => ∃ (i : Nat) (gr : Grow), i ≤ R.phases.length ∧ GrowsA m gr m' ∧ m'.var m.vars.length = some R.row ∧ k = R.phases.length - i ∧
            e = [(1, AV.ptr m.vars.length 0), (4, .lst gr 2 (rowsSp (R.spansTo i))), (5, .v (.int .i64 (R.at_ i))), (15, .lst .no 5 (rowsPh R.phases)), (16, .v (.int .i64 (R.phases.length : Int))), (17, .v (.int .i64 (i : Int)))]) (k := R.phases.length) ⟨0, _, Nat.zero_le _, hG0, hv, rfl, rfl⟩ ?_
          rintro k e m' ⟨i, gr, hi0, hG, hw, rfl, rfl⟩
          refine go0 ?_
          refine runs_cond rfl (fun hc => ?_) (fun hc => ?_)
          · have hi1 : i < R.phases.length := by have := of_decide_eq_true hc; omega
            have f2 := atPh (g := .no) (kk := .i64) hi1
            have hin := at_in hnum.steps i
            have hin2 := at_in hnum.steps (i + 1)
            have hA : R.at_ (i + 1) = if (R.phases.getD i ph0).lenU = 3 then R.steps else R.at_ i + (R.stepsOf (R.phases.getD i ph0)).1 := rfl
            have hN := @spansTo_next R i
            have hlen := @spansTo_len R i
            have r6 := next_i64 (i := i) (by omega)
            generalize R.phases.getD i ph0 = p at f2 hA
            have z1 := zsPh (m := m') (x := p)
            have hG1 := growsA_push (cs := p.row) hG
            have hw1 := push_old (cs' := p.row) hw
            have hp1 : (m'.push p.row).var m'.vars.length = some p.row := push_var
            generalize m'.push p.row = m5 at z1 hG1 hw1 hp1
            generalize R.spansTo i = acc at hG1 hN hlen
            obtain ⟨g2, m2, a1, hG2, hV2⟩ := app_sp (g2 := .full) hG1 acc (R.at_ i) (R.at_ (i + 1)) (by omega)
            rw [← hN] at a1
            have l2 := lpRcSteps hw1
            have l3 := lpRcEpoch hw1
            have y1 := lpPhLenU hp1
            have y2 := lpPhLen hp1
            cases h3 : (p.lenU == 3) with
            | true =>
              have h3' : p.lenU = 3 := by simpa using h3
              have h4 : (p.lenU != 3) = false := by simpa using h3
              rw [if_pos h3'] at hA
              rw [hA] at a1
              refine go1 (jn @f2 (jn @znPh (jn @z1 (jn @l2 (jn @y1 @h4))))) ?_
              refine runs_cond rfl (fun hc => by cases hc) (fun hc => ?_)
              refine go1 (jn @a1 @r6) ?_
              exact ⟨R.phases.length - (i + 1), by omega, i + 1, _, hi1, hG2, by rw [hV2]; exact hw1, rfl, by rw [hA]⟩
            | false =>
              have h3' : ¬ p.lenU = 3 := by simpa using h3
              have h4 : (p.lenU != 3) = true := by simpa using h3
              rw [if_neg h3'] at hA
              have c2 := fun mm => stepsLG_eq (u := p.lenU) (n := p.lenN) (of := R.steps) (ep := R.epoch) (m := mm)
              rw [show stepsP p.lenU p.lenN R.steps R.epoch = R.stepsOf p from rfl] at c2
              have r2 : IntKind.i64.wrap (R.at_ i + (R.stepsOf p).1) = R.at_ (i + 1) := by rw [← hA]; exact i64_wrap (by omega) (by omega)
              generalize (R.stepsOf p).1 = s1 at c2 r2
              generalize (R.stepsOf p).2 = s2 at c2
              refine go1 (jn @f2 (jn @znPh (jn @z1 (jn @l2 (jn @y1 @h4))))) ?_
              refine runs_cond rfl (fun hc => ?_) (fun hc => by cases hc)
              refine go1 (jn @y2 (jn @l2 (jn @l3 (jn @t2 (jn @c2 (jn @r2 (jn @a1 @r6))))))) ?_
              exact ⟨R.phases.length - (i + 1), by omega, i + 1, _, hi1, hG2, by rw [hV2]; exact hw1, rfl, rfl⟩
          · have hi1 : i = R.phases.length := by have := of_decide_eq_false hc; omega
            subst hi1
            refine go0 ?_
            exact leaves_two rfl rfl rfl (growsA_fin hG)
      · cases h
    · cases h
  · cases h
/-! ### the phase of a step -/
def rspanAtG : List AV → Mem → Option (AV × Mem)
  | [.agg cs, .v (.int .i64 step)], m =>
    match unRc cs with
    | some R => if R.may = true ∧ R.fit then some (.v (.int .i64 (firstBy (spanHas step) R.spans 0)), m) else none
    | none => none
  | _, _ => none
theorem rspanAtG_at {R : Rc} {m : Mem} {step : Int} (h : R.may = true) (h1 : R.fit) : rspanAtG [.agg R.row, .v (.int .i64 step)] m = some (.v (.int .i64 (firstBy (spanHas step) R.spans 0)), m) := by
  simp only [rspanAtG, unRc_row]
  rw [if_pos ⟨h, h1⟩]
def kpAt22 : Nat → Option (List Nat) := fun
  | 0 => some [1, 2]
  | 1 => some [1, 5]
  | 2 => some [1, 5, 6]
  | 3 => some [1, 5, 6, 12]
  | 4 => some [1, 5, 6]
  | 5 => some [1, 5, 6, 30]
  | 6 => some [4]
  | 7 => some [4]
  | _ => none
attribute [go_sem] kpAt22
attribute [local go_sem] feSpFrom_ feSpTo_ leSpFrom_ leSpTo_
def tab_at22_ok : List (FuncId × (List AV → Mem → Option (AV × Mem))) := [(19, rspansG)]
theorem at22_ok : FunOk Tryz.prog 21 rspanAtG := by
  have hC := table_ok (P := Tryz.prog) (l := tab_at22_ok) (table_more spans22_ok table_nil)
  have t1 := fun args mm => table_at (l := tab_at22_ok) (f := 19) (args := args) (m := mm) rfl
  refine fun_ok mixed hC Tryz.func21 rfl kpAt22 false rfl fun args m r h => ?_
  unfold rspanAtG at h
  split at h
  · rename_i cs step
    split at h
    · rename_i R hR
      obtain rfl := unRc_some hR
      split at h
      · rename_i hyp
        obtain ⟨hmay, hfit⟩ := hyp
        simp only [Option.some.injEq] at h
        subst h
        refine ⟨Nat.le_of_ble_eq_true rfl, ?_⟩
        refine en ?_
        have hP64 := (Rc.may_small hmay).2.2.1
        have hA := above_push (cs := R.row) (above_self m)
        have hv : (m.push R.row).var m.vars.length = some R.row := push_var
        have nr := newRc (m := m) (x := R)
        generalize m.push R.row = m1 at hA hv nr
        have l0 := vrRc hv
        have c1 := fun mm => rspansG_at (m := mm) hmay hfit
        have hlen : R.spans.length = R.phases.length := spansTo_len
        generalize R.spans = l at c1 hlen
        refine go1 (jn @nr (jn @l0 (jn @t1 @c1))) ?_
        refine runs_loop (fun k e m' => ∃ (i : Nat), i ≤ l.length ∧ firstBy (spanHas step) (l.drop i) i = firstBy (spanHas step) l 0 ∧ m1 = m' ∧ k = l.length - i ∧
          e = [(1, AV.v (.int .i64 step)), (5, .lst .no 2 (rowsSp l)), (6, .v (.int .i64 (i : Int)))]) (k := l.length) ⟨0, Nat.zero_le _, rfl, rfl, rfl, rfl⟩ ?_
        rintro k e m' ⟨i, hi0, hf, rfl, rfl, rfl⟩
        refine go0 ?_
        refine runs_cond rfl (fun hc => ?_) (fun hc => ?_)
        · have hi1 : i < l.length := by have := of_decide_eq_true hc; omega
          have f2 := atSp (g := .no) (kk := .i64) hi1
          have hyes := fun hp => by_yes (d := sp0) hi1 hp hf
          have hno := fun hp => by_no (d := sp0) hi1 hp hf
          have r6 := next_i64 (i := i) (by omega)
          generalize l.getD i sp0 = s at f2 hyes hno
          have hsp : spanHas step s = (decide (step ≥ s.from_) && decide (step < s.to_)) := rfl
          cases q1 : decide (step ≥ s.from_) with
          | false =>
            have hn := hno (by rw [hsp, q1]; rfl)
            refine go1 (jn @f2 @q1) ?_
            refine runs_cond rfl (fun hc => by cases hc) (fun hc => ?_)
            refine go1 @r6 ?_
            exact ⟨l.length - (i + 1), by omega, i + 1, hi1, hn, rfl, rfl, rfl⟩
          | true =>
            cases q2 : decide (step < s.to_) with
            | false =>
              have hn := hno (by rw [hsp, q1, q2]; rfl)
              refine go1 (jn @f2 (jn @q1 @q2)) ?_
              refine runs_cond rfl (fun hc => by cases hc) (fun hc => ?_)
              refine go1 @r6 ?_
              exact ⟨l.length - (i + 1), by omega, i + 1, hi1, hn, rfl, rfl, rfl⟩
            | true =>
              have hy := hyes (by rw [hsp, q1, q2]; rfl)
              rw [hy]
              refine go1 (jn @f2 (jn @q1 @q2)) ?_
              refine runs_cond rfl (fun hc => ?_) (fun hc => by cases hc)
              refine go0 ?_
              exact leaves_fin rfl rfl (above_fin hA)
        · have hi1 : i = l.length := by have := of_decide_eq_false hc; omega
          subst hi1
          rw [by_end hf]
          refine go0 ?_
          exact leaves_fin rfl rfl (above_fin hA)
      · cases h
    · cases h
  · cases h
end
section
attribute [local irreducible] Next Inside Runs Ops table
theorem allKept_yes {R : Rc} : ∀ {n : Nat}, allKept R n = true → ∀ i : Nat, 1 ≤ i → i ≤ n → R.kept (i : Int) = true
  | 0, _, i, h1, h2 => by omega
  | n + 1, h, i, h1, h2 => by
    rw [allKept, Bool.and_eq_true] at h
    by_cases e : i = n + 1
    · subst e; exact h.1
    · exact allKept_yes h.2 i h1 (by omega)
theorem sound_brk {R : Rc} (h : R.sound = true) (i : Nat) (h1 : 1 ≤ i) (h2 : i ≤ 19) : brkL R (i : Int) = [] := by
  rw [sound_kept, Bool.and_eq_true] at h
  have := allKept_yes h.2 i h1 h2
  unfold Rc.kept at this
  simp only [beq_iff_eq] at this
  exact List.length_eq_zero_iff.1 (by omega)
theorem flawIf_nil {b : Bool} {r i k : Int} (h : flawIf b r i k = []) : b = false := by
  cases b with
  | false => rfl
  | true => cases h
theorem upto_all {f : Nat → List Fl} : ∀ {n : Nat}, upto n f = [] → ∀ i, i < n → f i = []
  | 0, _, i, hi => by omega
  | n + 1, h, i, hi => by
    rw [upto_next, List.append_eq_nil_iff] at h
    by_cases e : i = n
    · subst e; exact h.2
    · exact upto_all h.1 i (by omega)
theorem firstBy_skip {α : Type} {d : α} {p : α → Bool} {l : List α} : ∀ (i : Nat), i ≤ l.length → (∀ j, j < i → p (l.getD j d) = false) → firstBy p (l.drop i) i = firstBy p l 0
  | 0, _, _ => rfl
  | i + 1, hi, h => by_no (d := d) (by omega) (h i (by omega)) (firstBy_skip i (by omega) fun j hj => h j (by omega))
theorem firstBy_is {α : Type} {d : α} {p : α → Bool} {l : List α} {i : Nat} (hi : i < l.length) (hp : p (l.getD i d) = true) (h : ∀ j, j < i → p (l.getD j d) = false) : firstBy p l 0 = (i : Int) :=
  by_yes (d := d) hi hp (firstBy_skip i (by omega) h)
theorem firstBy_none {α : Type} {d : α} {p : α → Bool} {l : List α} (h : ∀ j, j < l.length → p (l.getD j d) = false) : firstBy p l 0 = -1 :=
  by_end (firstBy_skip (d := d) l.length (Nat.le_refl _) h)
structure Rc.Ok (R : Rc) : Prop where
  may : R.may = true
  steps : 1 ≤ R.steps ∧ R.steps ≤ 1000000
  some_ : 0 < R.phases.length
  grow : ∀ i, i < R.phases.length → R.at_ i < R.at_ (i + 1)
  last : R.at_ R.phases.length = R.steps
theorem sound_ok' {R : Rc} (h : R.sound = true) : R.Ok := by
  have hm := sound_may h
  have b1 : flawIf (!decide (1 ≤ R.steps ∧ R.steps ≤ 1000000)) 1 0 0 = [] := sound_brk h 1 (by decide) (by decide)
  have b6 : flawIf (((R.phases.length : Int) == 0)) 6 0 0 = [] := sound_brk h 6 (by decide) (by decide)
  have b8 : lastsL 8 R = [] := sound_brk h 8 (by decide) (by decide)
  have k1 : R.kept 1 = true := by unfold Rc.kept; rw [show brkL R 1 = [] from sound_brk h 1 (by decide) (by decide)]; rfl
  have k2 : R.kept 2 = true := by unfold Rc.kept; rw [show brkL R 2 = [] from sound_brk h 2 (by decide) (by decide)]; rfl
  have k8 : R.kept 8 = true := by unfold Rc.kept; rw [show brkL R 8 = [] from sound_brk h 8 (by decide) (by decide)]; rfl
  have b9 : sumL 9 R = [] := sound_brk h 9 (by decide) (by decide)
  rw [sum_flaw, k1, k2, k8] at b9
  have hs := flawIf_nil b9
  rw [Bool.and_self, Bool.and_self, Bool.true_and] at hs
  have h1 := flawIf_nil b1
  simp only [Bool.not_eq_false', decide_eq_true_eq] at h1
  have h6 := flawIf_nil b6
  simp only [beq_eq_false_iff_ne, ne_eq] at h6
  have hpos : 0 < R.phases.length := by omega
  have h8 : ∀ i, i < R.phases.length → R.lastBad i = false := fun i hi => flawIf_nil (upto_all b8 i hi)
  have rest : ∀ i, i + 1 < R.phases.length → ¬ (R.phases.getD i ph0).lenU = 3 := fun i hi h3 => by
    have := h8 i (by omega)
    unfold Rc.lastBad at this
    rw [if_pos h3, decide_eq_false_iff_not] at this
    omega
  have len : ∀ i, i < R.phases.length → ¬ (R.phases.getD i ph0).lenU = 3 → 0 < (R.stepsOf (R.phases.getD i ph0)).1 := fun i hi h3 => by
    have := h8 i hi
    unfold Rc.lastBad at this
    rw [if_neg h3, Bool.or_eq_false_iff] at this
    have h0 := this.2
    simp only [beq_eq_false_iff_ne, ne_eq] at h0
    have := stepsP_in (u := (R.phases.getD i ph0).lenU) (n := (R.phases.getD i ph0).lenN) (of := R.steps) (ep := R.epoch)
    rw [show stepsP (R.phases.getD i ph0).lenU (R.phases.getD i ph0).lenN R.steps R.epoch = R.stepsOf (R.phases.getD i ph0) from rfl] at this
    omega
  have acc : ∀ i, i + 1 ≤ R.phases.length → R.at_ i = accS R i := by
    intro i
    induction i with
    | zero => intro _; rfl
    | succ i ih =>
      intro hi
      show (if (R.phases.getD i ph0).lenU = 3 then R.steps else R.at_ i + (R.stepsOf (R.phases.getD i ph0)).1) = accS R i + (R.stepsOf (R.phases.getD i ph0)).1
      rw [if_neg (rest i (by omega)), ih (by omega)]
  obtain ⟨n, hn⟩ : ∃ n, R.phases.length = n + 1 := ⟨R.phases.length - 1, by omega⟩
  have hlast : R.at_ n < R.at_ (n + 1) ∧ R.at_ (n + 1) = R.steps := by
    have e : R.at_ (n + 1) = if (R.phases.getD n ph0).lenU = 3 then R.steps else R.at_ n + (R.stepsOf (R.phases.getD n ph0)).1 := rfl
    have ea := acc n (by omega)
    by_cases h3 : (R.phases.getD n ph0).lenU = 3
    · rw [if_pos h3] at e
      have hf : firstBy restP R.phases 0 = (n : Int) := firstBy_is (d := ph0) (by omega) (by unfold restP; simpa using h3) fun j hj => by have := rest j (by omega); unfold restP; simpa using this
      unfold Rc.sumBad at hs
      rw [hf, if_neg (by omega), Int.toNat_natCast, decide_eq_false_iff_not] at hs
      exact ⟨by rw [e, ea]; omega, e⟩
    · rw [if_neg h3] at e
      have hl := len n (by omega) h3
      have hf : firstBy restP R.phases 0 = -1 := firstBy_none (d := ph0) fun j hj => by
        unfold restP
        by_cases hj' : j = n
        · subst hj'; simpa using h3
        · have := rest j (by omega); simpa using this
      unfold Rc.sumBad at hs
      rw [hf, if_pos (by decide), bne_eq_false_iff_eq, hn] at hs
      have ea2 : accS R (n + 1) = accS R n + (R.stepsOf (R.phases.getD n ph0)).1 := rfl
      exact ⟨by omega, by omega⟩
  refine ⟨hm, h1, hpos, fun i hi => ?_, by rw [hn]; exact hlast.2⟩
  by_cases hi' : i = n
  · subst hi'; exact hlast.1
  · have e : R.at_ (i + 1) = if (R.phases.getD i ph0).lenU = 3 then R.steps else R.at_ i + (R.stepsOf (R.phases.getD i ph0)).1 := rfl
    have hr := rest i (by omega)
    rw [if_neg hr] at e
    have := len i hi hr
    omega
theorem at_mono {R : Rc} {n : Nat} (h : ∀ i, i < n → R.at_ i < R.at_ (i + 1)) : ∀ i, i ≤ n → 0 ≤ R.at_ i
  | 0, _ => Int.le_refl 0
  | i + 1, hi => by have := at_mono h i (by omega); have := h i (by omega); omega
theorem at_le {R : Rc} {n : Nat} (h : ∀ i, i < n → R.at_ i < R.at_ (i + 1)) : ∀ {j : Nat}, j ≤ n → ∀ i, i ≤ j → R.at_ i ≤ R.at_ j
  | 0, hj, i, hi => by rw [show i = 0 by omega]; exact Int.le_refl _
  | j + 1, hj, i, hi => by
    by_cases e : i = j + 1
    · rw [e]; exact Int.le_refl _
    · have := at_le h (j := j) (by omega) i (by omega); have := h j (by omega); omega
end
section
attribute [local irreducible] Next Inside Runs Ops table
def tabRow (R : Rc) (l : List Sp) (f : Int) : List AV := R.row ++ [.lst .no 2 (rowsSp l), .v (.int .i64 f)]
def unTab (cs : List AV) : Option (Rc × List Sp × Int) :=
  match unRc (cs.take 32), cs.drop 32 with
  | some R, [.lst .no 2 rows, .v (.int .i64 f)] => (unsSp rows).map fun l => (R, l, f)
  | _, _ => none
theorem unTab_row (R : Rc) (l : List Sp) (f : Int) : unTab (tabRow R l f) = some (R, l, f) := by
  unfold unTab
  rw [show (tabRow R l f).take 32 = R.row from rfl, show (tabRow R l f).drop 32 = [.lst .no 2 (rowsSp l), .v (.int .i64 f)] from rfl, unRc_row]
  simp only [unsSp_rowsSp, Option.map_some]
theorem unTab_some {cs : List AV} {R : Rc} {l : List Sp} {f : Int} (h : unTab cs = some (R, l, f)) : cs = tabRow R l f := by
  unfold unTab at h
  split at h
  · rename_i R' rows f' h1 h2
    simp only [Option.map_eq_some_iff, Prod.mk.injEq] at h
    obtain ⟨l', hl, rfl, rfl, rfl⟩ := h
    obtain rfl := unsSp_some hl
    have e := List.take_append_drop 32 cs
    rw [unRc_some h1, h2] at e
    exact e.symm
  · cases h
def zeroTab : List AV := zeroRc ++ [.lst .full 2 [], .v (.int .i64 0)]
theorem szTab : tSize Tryz.prog 90 = some 34 := by kernel_rfl
theorem agTab : tAgg Tryz.prog 90 = some true := by kernel_rfl
theorem mapTab {R : Rc} {l : List Sp} {f : Int} : List.map argCell (tabRow R l f) = tabRow R l f := rfl
theorem cellsTab {R : Rc} {l : List Sp} {f : Int} : cellsOf (.agg (tabRow R l f)) = some (tabRow R l f) := rfl
theorem newTb {m : Mem} {R : Rc} {l : List Sp} {f : Int} : newVar m m.vars.length (tabRow R l f) = some (m.push (tabRow R l f)) := newVar_push rfl
theorem zrTab : zeroCells Tryz.prog 90 = some zeroTab := by kernel_rfl
theorem zoTab : zeroTab.all okCell = true := rfl
theorem znTab {m : Mem} : newVar m m.vars.length zeroTab = some (m.push zeroTab) := newVar_push rfl
theorem zsTab {m : Mem} {R : Rc} {l : List Sp} {f : Int} : evStore Tryz.prog (m.push zeroTab) 90 (.ptr m.vars.length 0) (.agg (tabRow R l f)) = some (m.push (tabRow R l f)) := by
  rw [store_push (cs := tabRow R l f) rfl szTab (Nat.le_refl _) rfl]
  rfl
theorem mk0Tab : evBuild Tryz.prog 90 [] = some (.agg zeroTab) := by kernel_rfl
theorem mkTab {R : Rc} {l : List Sp} {f : Int} : evBuild Tryz.prog 90 [(0, .agg R.row), (1, .lst .no 2 (rowsSp l)), (2, .v (.int .i64 f))] = some (.agg (tabRow R l f)) := by kernel_rfl
theorem fpTabR {r : Nat} : evFieldAddr Tryz.prog 90 (.ptr r 0) 0 = some (.ptr r 0) := by kernel_rfl
theorem fpTabS {r : Nat} : evFieldAddr Tryz.prog 90 (.ptr r 0) 1 = some (.ptr r 32) := by kernel_rfl
theorem fpTabF {r : Nat} : evFieldAddr Tryz.prog 90 (.ptr r 0) 2 = some (.ptr r 33) := by kernel_rfl
section
variable {m : Mem} {r : Nat} {R : Rc} {l : List Sp} {f : Int}
theorem vrTab (hv : m.var r = some (tabRow R l f)) : evLoad Tryz.prog m 90 (.ptr r 0) = some (.agg (tabRow R l f)) := by
  unfold evLoad
  simp only [ptrCells, hv, Option.map_some, szTab, agTab]
  rfl
theorem lpTabR (hv : m.var r = some (tabRow R l f)) : evLoad Tryz.prog m 37 (.ptr r 0) = some (.agg R.row) := by
  unfold evLoad
  simp only [ptrCells, hv, Option.map_some, szRc, agRc]
  rfl
theorem lpTabS (hv : m.var r = some (tabRow R l f)) : evLoad Tryz.prog m 46 (.ptr r 32) = some (.lst .no 2 (rowsSp l)) := by
  unfold evLoad
  simp only [ptrCells, hv, Option.map_some, show tSize Tryz.prog 46 = some 1 by kernel_rfl, show tAgg Tryz.prog 46 = some false by kernel_rfl]
  rfl
theorem lpTabI (hv : m.var r = some (tabRow R l f)) (k : Nat) (v : Int) (h : ((tabRow R l f).drop k).head? = some (.v (.int .i64 v))) : evLoad Tryz.prog m 3 (.ptr r k) = some (.v (.int .i64 v)) := by
  unfold evLoad
  simp only [ptrCells, hv, Option.map_some, szInt, agInt]
  exact h
theorem lpTabOn (hv : m.var r = some (tabRow R l f)) : evLoad Tryz.prog m 4 (.ptr r 28) = some (.v (.bool R.swaOn)) := by
  unfold evLoad
  simp only [ptrCells, hv, Option.map_some, show tSize Tryz.prog 4 = some 1 by kernel_rfl, show tAgg Tryz.prog 4 = some false by kernel_rfl]
  rfl
theorem lpTabF (hv : m.var r = some (tabRow R l f)) : evLoad Tryz.prog m 3 (.ptr r 33) = some (.v (.int .i64 f)) := lpTabI hv 33 f rfl
theorem lpTabSteps (hv : m.var r = some (tabRow R l f)) : evLoad Tryz.prog m 3 (.ptr r 1) = some (.v (.int .i64 R.steps)) := lpTabI hv 1 _ rfl
theorem lpTabEvery (hv : m.var r = some (tabRow R l f)) : evLoad Tryz.prog m 3 (.ptr r 31) = some (.v (.int .i64 R.swaEvery)) := lpTabI hv 31 _ rfl
end
/-! ### times.of -/
attribute [local go_sem] szStr szInt Option.getD_some isNil evStr iv mapRc cellsRc newRc fpRcSteps fpRcEpoch fpRcSwa fpRcSwaFrom zrTab zoTab znTab mk0Tab mkTab cellsTab
def tab0 : List AV := tabRow rc0 [] 0
def ofG : List AV → Mem → Option (AV × Mem)
  | [.agg cs], m =>
    match unRc cs with
    | some R => if R.fit then some (if R.sound = true then (.tup [.agg (tabRow R R.spans R.swaSteps.1), .v (.int .i64 0)], m) else (.tup [.agg tab0, .v (.int .i64 1)], m)) else none
    | none => none
  | _, _ => none
theorem ofG_at {R : Rc} {m : Mem} (h : R.fit) (hs : R.sound = true) : ofG [.agg R.row] m = some (.tup [.agg (tabRow R R.spans R.swaSteps.1), .v (.int .i64 0)], m) := by
  simp only [ofG, unRc_row]
  rw [if_pos h, if_pos hs]
theorem ofG_no {R : Rc} {m : Mem} (h : R.fit) (hs : R.sound = false) : ofG [.agg R.row] m = some (.tup [.agg tab0, .v (.int .i64 1)], m) := by
  simp only [ofG, unRc_row]
  rw [if_pos h, hs, if_neg (by decide)]
theorem leaves_cell {P : Program} {fn : Func} {m m' : Mem} {e : Env} {a u : Tmp} {t : TypeId} {x0 x y : AV} (h : fn.results = #[.cell a t, .tmp u]) (hl : evLoad P m' t (Ev.get e a) = some x0) (hx : resAV m.vars.length m' x0 = some x) (hy : resAV m.vars.length m' (Ev.get e u) = some y) (hm : finMem m m' = m) :
    Leaves P false fn m (.tup [x, y], m) .ret e m' := by
  show evRet P false fn m e m' = _
  unfold evRet
  rw [h]
  simp [evResult, hl, hx, hy, hm]
theorem setv_push {m : Mem} {cs cs' : List AV} : (setv (m.push cs) m.vars.length cs') = m.push cs' := by
  unfold setv Mem.push
  simp
theorem storeTb {m : Mem} {q : Nat} {old cs : List AV} (h : m.var q = some old) (ho : old.length = 34) (hcl : cs.length = 34) (hcs : cellsOf (.agg cs) = some cs) (hrf : cs.all (refLe q) = true) : evStore Tryz.prog m 90 (.ptr q 0) (.agg cs) = some (setv m q cs) := by
  unfold evStore
  simp only [hcs, szTab, h]
  rw [if_pos ⟨hcl, by omega, hrf⟩]
  unfold splice setv
  rw [List.take_zero, List.nil_append, Nat.zero_add, hcl, List.drop_eq_nil_of_le (by omega), List.append_nil]
def kpOf : Nat → Option (List Nat) := fun
  | 0 => some [1, 2]
  | 1 => some [1, 2, 4, 5]
  | 2 => some [1, 2, 4, 5, 14]
  | 3 => some [2, 3]
  | 4 => some [1, 2, 4, 6]
  | 5 => some [2, 3]
  | _ => none
attribute [go_sem] kpOf
def tab_of_ok : List (FuncId × (List AV → Mem → Option (AV × Mem))) := [(18, spansG), (48, stepsLG)]
theorem of_ok : FunOk Tryz.prog 56 ofG := by
  have hC := table_ok (P := Tryz.prog) (l := tab_of_ok) (table_more spansP_ok (table_more stepsL_ok table_nil))
  have t1 := fun args mm => table_at (l := tab_of_ok) (f := 18) (args := args) (m := mm) rfl
  have t2 := fun args mm => table_at (l := tab_of_ok) (f := 48) (args := args) (m := mm) rfl
  refine fun_ok mixed hC Tryz.func56 rfl kpOf false rfl fun args m r h => ?_
  unfold ofG at h
  split at h
  · rename_i cs
    split at h
    · rename_i R hR
      obtain rfl := unRc_some hR
      split at h
      · rename_i hfit
        simp only [Option.some.injEq] at h
        subst h
        refine ⟨Nat.le_of_ble_eq_true rfl, ?_⟩
        refine en ?_
        have hv : (m.push R.row).var m.vars.length = some R.row := push_var
        have hA := above_push (cs := R.row) (above_self m)
        have nr := newRc (m := m) (x := R)
        generalize m.push R.row = m1 at hA hv nr
        have hA2 := above_push (cs := zeroTab) hA
        have hv2 := push_old (cs' := zeroTab) hv
        have hz : (m1.push zeroTab).var m1.vars.length = some zeroTab := push_var
        have hlt : m.vars.length < m1.vars.length := (var_lt hv).1
        have l0 := vrRc hv2
        have l1 := lpRcSwaFrom hv2
        have l2 := lpRcSteps hv2
        have l3 := lpRcEpoch hv2
        have c1 := fun mm => spansG_at (R := R) (m := mm) hfit
        have c2 := fun mm => stepsLG_eq (u := R.swaFromU) (n := R.swaFromN) (of := R.steps) (ep := R.epoch) (m := mm)
        rw [show stepsP R.swaFromU R.swaFromN R.steps R.epoch = R.swaSteps from rfl] at c2
        cases hs : R.sound with
        | false =>
          rw [hs, if_neg (by decide), if_neg (by decide)] at c1
          rw [if_neg (by decide)]
          have z0 : ((1 : Int) != 0) = true := rfl
          have st := storeTb (cs := zeroTab) hz rfl rfl rfl rfl
          rw [setv_push] at st
          refine go1 (jn @nr (jn @l0 (jn @t1 (jn @c1 @z0)))) ?_
          refine runs_cond rfl (fun hc => ?_) (fun hc => by cases hc)
          refine go1 @st ?_
          refine leaves_cell (x0 := .agg zeroTab) rfl ?_ rfl rfl (above_fin hA2)
          show evLoad _ _ _ (.ptr m1.vars.length 0) = _
          unfold evLoad
          simp only [ptrCells, hz, Option.map_some, szTab, agTab]
          rfl
        | true =>
          rw [hs, if_pos rfl, if_pos rfl] at c1
          rw [if_pos rfl]
          have z0 : ((0 : Int) != 0) = false := rfl
          have hA3 := above_push (cs := tabRow R R.spans R.swaSteps.1) hA
          have hw : (m1.push (tabRow R R.spans R.swaSteps.1)).var m1.vars.length = some (tabRow R R.spans R.swaSteps.1) := push_var
          generalize R.swaSteps.1 = s1 at c2 hA3 hw
          generalize R.swaSteps.2 = s2 at c2
          generalize R.spans = sp at c1 hA3 hw
          have st := storeTb (cs := tabRow R sp s1) hz rfl rfl rfl rfl
          rw [setv_push] at st
          refine go1 (jn @nr (jn @l0 (jn @t1 (jn @c1 @z0)))) ?_
          refine runs_cond rfl (fun hc => by cases hc) (fun hc => ?_)
          refine go1 (jn @l1 (jn @l2 (jn @l3 (jn @t2 (jn @c2 (jn @l0 @st)))))) ?_
          exact leaves_cell (x0 := .agg (tabRow R sp s1)) rfl (vrTab hw) rfl rfl (above_fin hA3)
      · cases h
    · cases h
  · cases h
end
section
attribute [local irreducible] Next Inside Runs Ops table
def bC (b : List Bool) : List AV := b.map fun x => .v (.bool x)
theorem bC_len (b : List Bool) : (bC b).length = b.length := List.length_map ..
theorem szBool : tSize Tryz.prog 4 = some 1 := by kernel_rfl
theorem elBools : tElem Tryz.prog 63 = some 4 := by kernel_rfl
theorem naBools : tArr Tryz.prog 63 = none := by kernel_rfl
theorem vsAtB {r n i : Nat} {kk : IntKind} (hi : i < n) : evIndexAddr Tryz.prog 63 (.vs r 0 1 n n) (.v (.int kk (i : Int))) = some (.ptr r i) := by
  unfold evIndexAddr
  simp only [naBools, elBools, szBool]
  rw [if_pos ⟨trivial, by omega, by omega⟩, Int.toNat_natCast]
  simp
def setB (m : Mem) (r : Nat) (b : List Bool) : Mem := { m with vars := m.vars.set r (some (bC b)) }
theorem splice_setB : ∀ (l : List Bool) (i : Nat) (v : Bool), i < l.length → splice (bC l) i [.v (.bool v)] = bC (l.set i v)
  | [], i, v, h => by simp at h
  | a :: l, 0, v, _ => by simp [splice, bC]
  | a :: l, i + 1, v, h => by
    have := splice_setB l i v (by simpa using h)
    simp only [splice, bC, List.map_cons, List.length_cons, List.length_nil, List.take_succ_cons, List.set_cons_succ] at this ⊢
    rw [show i + 1 + (0 + 1) = (i + (0 + 1)) + 1 by omega, List.drop_succ_cons]
    simpa using this
theorem storeB {m : Mem} {r i : Nat} {b : List Bool} {v : Bool} (hv : m.var r = some (bC b)) (hi : i < b.length) : evStore Tryz.prog m 4 (.ptr r i) (.v (.bool v)) = some (setB m r (b.set i v)) := by
  unfold evStore
  have h1 : cellsOf (.v (.bool v)) = some [.v (.bool v)] := by simp [cellsOf, flat, okCell, one]
  simp only [h1, szBool, hv]
  rw [if_pos ⟨rfl, by rw [bC_len]; exact hi, rfl⟩, splice_setB b i v hi]
  rfl
theorem setB_var {m : Mem} {r : Nat} {b : List Bool} (h : r < m.vars.length) : (setB m r b).var r = some (bC b) := var_of (by show (m.vars.set r _)[r]? = _; rw [List.getElem?_set_self h])
theorem setB_len {m : Mem} {r : Nat} {b : List Bool} : (setB m r b).vars.length = m.vars.length := by unfold setB; simp
def rowsBo (b : List Bool) : List (List AV) := b.map fun x => [.v (.bool x)]
theorem rowsBo_len (b : List Bool) : (rowsBo b).length = b.length := List.length_map ..
theorem rowsBo_get {l : List Bool} {i : Nat} (hi : i < l.length) : (rowsBo l)[i]? = some [.v (.bool (l.getD i false))] := by
  simp [rowsBo, List.getD, List.getElem?_eq_getElem hi]
theorem atBools {g : Grow} {kk : IntKind} {l : List Bool} {i : Nat} (hi : i < l.length) : evIndexAddr Tryz.prog 63 (.lst g 1 (rowsBo l)) (.v (.int kk (i : Int))) = some (.eptr [.v (.bool (l.getD i false))]) := at_list elBools naBools szBool (rowsBo_get hi)
theorem ldBool {m : Mem} {x : Bool} : evLoad Tryz.prog m 4 (.eptr [.v (.bool x)]) = some (.v (.bool x)) := by kernel_rfl
theorem makeBools {n : Nat} (h : n ≤ 4294967296) : evMakeSlice Tryz.prog 63 (.v (.int .i64 (n : Int))) (.v (.int .i64 (n : Int))) = some (bC (List.replicate n false), 1, n) := by
  have hb : tBytes Tryz.prog 4 = some 1 := by kernel_rfl
  have hz : zeroCells Tryz.prog 4 = some [.v (.bool false)] := by kernel_rfl
  unfold evMakeSlice
  simp only [elBools, szBool, hb, hz]
  rw [if_pos ⟨rfl, trivial, by omega, by omega, by omega⟩, Int.toNat_natCast]
  simp [bC]
theorem newBools {m : Mem} {l : List Bool} : newVar m m.vars.length (bC l) = some (m.push (bC l)) := newVar_push (by
  rw [List.all_eq_true]
  intro c hc
  obtain ⟨n, _, rfl⟩ := List.mem_map.1 hc
  rfl)
theorem cells_bC : ∀ b : List Bool, (bC b).mapM rowCell = some (bC b)
  | [] => rfl
  | x :: b => by
    have := cells_bC b
    unfold bC at this ⊢
    rw [List.map_cons, List.mapM_cons]
    simp only [show rowCell (AV.v (Value.bool x)) = some (AV.v (Value.bool x)) from rfl, this, Option.pure_def, Option.bind_eq_bind, Option.bind_some]
/-- A list of bools that was made within. -/
theorem leaves_boolsA {P : Program} {fn : Func} {m m' : Mem} {e : Env} {t : Tmp} {b : List Bool} {r n : Nat} (h : fn.results = #[.tmp t]) (hg : Ev.get e t = .vs r 0 1 n n) (hr : m.vars.length ≤ r) (hv : m'.var r = some (bC b)) (hn : n = b.length) (hm : finMem m m' = m) :
    Leaves P false fn m (.lst .no 1 (rowsBo b), m) .ret e m' := by
  show evRet P false fn m e m' = _
  unfold evRet
  rw [h]
  have hnr : ¬ r < m.vars.length := by omega
  simp only [evResult, hg, Option.bind_some, growRes, resAV, hnr, if_false, hv, hn, bC_len, and_self, if_true, cells_bC, Option.map_some, hm]
  simp [chunk1, bC, rowsBo]
end
section
attribute [local irreducible] Next Inside Runs Ops table
attribute [local go_sem] szStr szInt szBool Option.getD_some isNil evStr iv loadStr loadInt rowsS_len rowsPh_len rowsBo_len rowsI_len mapRc cellsRc newRc fpRcGroups fpRcPhases fePhFrozen lePhFrozen ldBool mkInts1
def frozenAt (R : Rc) (p : Int) : List Bool := if 0 ≤ p ∧ p < (R.phases.length : Int) then R.groups.map fun g => among (R.phases.getD p.toNat ph0).frozen g else []
def frozenPG : List AV → Mem → Option (AV × Mem)
  | [.agg cs, .v (.int .i64 p)], m =>
    match unRc cs with
    | some R => if R.small then some (.lst .no 1 (rowsBo (frozenAt R p)), m) else none
    | none => none
  | _, _ => none
theorem frozenPG_at {R : Rc} {p : Int} {m : Mem} (h : R.small) : frozenPG [.agg R.row, .v (.int .i64 p)] m = some (.lst .no 1 (rowsBo (frozenAt R p)), m) := by
  simp only [frozenPG, unRc_row]
  rw [if_pos h]
theorem setB_var_ne {m : Mem} {r q : Nat} {b : List Bool} {cs : List AV} (hq : q ≠ r) (hv : m.var q = some cs) : (setB m r b).var q = some cs := var_set_ne hq hv
theorem above_setB {m m' : Mem} {r : Nat} {b : List Bool} (h : Above m m') (hr : m.vars.length ≤ r) : Above m (setB m' r b) := by
  obtain ⟨L, rfl⟩ := h
  refine ⟨L.set (r - m.vars.length) (some (bC b)), ?_⟩
  unfold setB
  simp only [List.set_append]
  rw [if_neg (by omega)]
theorem set_fill {α : Type} {d x : α} {l : List α} {i : Nat} (hi : i < l.length) (hx : l.getD i d = x) (n : Nat) (hn : i < n) (z : α) : (l.take i ++ List.replicate (n - i) z).set i x = l.take (i + 1) ++ List.replicate (n - (i + 1)) z := by
  have hl : (l.take i).length = i := by rw [List.length_take]; omega
  obtain ⟨k, hk⟩ : ∃ k, n - i = k + 1 := ⟨n - i - 1, by omega⟩
  rw [List.set_append, if_neg (by omega), hl, Nat.sub_self, hk, List.replicate_succ, List.set_cons_zero, take_next (d := d) hi, hx, List.append_assoc]
  rw [show n - (i + 1) = k by omega]
  rfl
def kpFrozenP : Nat → Option (List Nat) := fun
  | 0 => some [1, 2]
  | 1 => some [1, 2, 16]
  | 2 => some [4]
  | 3 => some [1, 2, 5]
  | 4 => some [1, 2, 5, 22, 23, 24]
  | 5 => some [1, 2, 5, 22, 23, 24, 25]
  | 6 => some [1, 2, 5, 6, 7, 22, 23, 24]
  | 7 => some [1, 2, 5, 22, 23, 24]
  | 8 => some [1, 2, 5, 22, 23, 24]
  | 9 => some [4]
  | _ => none
attribute [go_sem] kpFrozenP
def tab_frozenP_ok : List (FuncId × (List AV → Mem → Option (AV × Mem))) := [(132, amongG)]
theorem frozenP_ok : FunOk Tryz.prog 103 frozenPG := by
  have hC := table_ok (P := Tryz.prog) (l := tab_frozenP_ok) (table_more among_ok table_nil)
  have t1 := fun args mm => table_at (l := tab_frozenP_ok) (f := 132) (args := args) (m := mm) rfl
  refine fun_ok mixed hC Tryz.func103 rfl kpFrozenP false rfl fun args m r h => ?_
  unfold frozenPG at h
  split at h
  · rename_i cs p
    split at h
    · rename_i R hR
      obtain rfl := unRc_some hR
      split at h
      · rename_i hsm
        simp only [Option.some.injEq] at h
        subst h
        refine ⟨Nat.le_of_ble_eq_true rfl, ?_⟩
        refine en ?_
        have hG64 := hsm.2.1
        have hA := above_push (cs := R.row) (above_self m)
        have hv : (m.push R.row).var m.vars.length = some R.row := push_var
        have nr := newRc (m := m) (x := R)
        have hlen : (m.push R.row).vars.length = m.vars.length + 1 := push_len
        generalize m.push R.row = m1 at hA hv nr hlen
        have l1 := lpRcPhases hv
        have l2 := lpRcGroups hv
        unfold frozenAt
        by_cases hp : 0 ≤ p ∧ p < (R.phases.length : Int)
        · rw [if_pos hp]
          obtain ⟨q, rfl⟩ := Int.eq_ofNat_of_zero_le hp.1
          rw [Int.toNat_natCast]
          have hq : q < R.phases.length := by omega
          have b0 : decide ((q : Int) < 0) = false := decide_eq_false (by omega)
          have b1 : decide ((q : Int) ≥ (R.phases.length : Int)) = false := decide_eq_false (by omega)
          have mk := makeBools (n := R.groups.length) (by omega)
          have nv := newBools (m := m1) (l := List.replicate R.groups.length false)
          have f1 := atPh (g := .no) (kk := .i64) hq
          have hfl := (hsm.phase q).1
          have hfz : ∀ (g : ByteArray) mm, amongG [.lst .no 1 (rowsS (R.phases.getD q ph0).frozen), .v (.string g)] mm = some (.v (.bool (among (R.phases.getD q ph0).frozen g)), mm) := fun g mm => amongG_eq (by omega)
          generalize R.phases.getD q ph0 = P at f1 hfz
          have hA2 := above_push (cs := bC (List.replicate R.groups.length false)) hA
          have hv2 := push_old (cs' := bC (List.replicate R.groups.length false)) hv
          have hb2 : (m1.push (bC (List.replicate R.groups.length false))).var m1.vars.length = some (bC (List.replicate R.groups.length false)) := push_var
          have hlt : m1.vars.length < (m1.push (bC (List.replicate R.groups.length false))).vars.length := by rw [push_len]; omega
          refine go1 (jn @nr (jn @b0 (jn @l1 @b1))) ?_
          refine runs_cond rfl (fun hc => by cases hc) (fun hc => ?_)
          refine go1 (jn @l2 (jn @mk @nv)) ?_
          have l3 := lpRcGroups hv2
          refine go1 @l3 ?_
          generalize m1.push (bC (List.replicate R.groups.length false)) = m2 at hA2 hv2 hb2 hlt
          have hne : m.vars.length ≠ m1.vars.length := by omega
          have hle : m.vars.length ≤ m1.vars.length := by omega
          generalize m1.vars.length = n2 at hb2 hlt hne hle ⊢
          refine runs_loop (fun k e m' => ∃ (i : Nat), i ≤ R.groups.length ∧ Above m m' ∧ n2 < m'.vars.length ∧ m'.var m.vars.length = some R.row ∧ m'.var n2 = some (bC ((R.groups.map fun g => among P.frozen g).take i ++ List.replicate (R.groups.length - i) false)) ∧ k = R.groups.length - i ∧
            e = [(1, AV.v (.int .i64 (q : Int))), (2, .ptr m.vars.length 0), (5, .vs n2 0 1 R.groups.length R.groups.length), (22, .lst .no 1 (rowsS R.groups)), (23, .v (.int .i64 (R.groups.length : Int))), (24, .v (.int .i64 (i : Int)))]) (k := R.groups.length) ⟨0, Nat.zero_le _, hA2, hlt, hv2, hb2, rfl, rfl⟩ ?_
          rintro k e m' ⟨i, hi0, hA3, hlt3, hv3, hb3, rfl, rfl⟩
          refine go0 ?_
          refine runs_cond rfl (fun hc => ?_) (fun hc => ?_)
          · have hi1 : i < R.groups.length := by have := of_decide_eq_true hc; omega
            have f2 := atStrs (g := .no) (kk := .i64) hi1
            have l4 := lpRcPhases hv3
            have c1 := fun mm => hfz (R.groups.getD i ⟨#[]⟩) mm
            have f3 := vsAtB (r := n2) (kk := .i64) hi1
            have hget : (R.groups.map fun g => among P.frozen g).getD i false = among P.frozen (R.groups.getD i ⟨#[]⟩) := by simp [List.getD, List.getElem?_eq_getElem hi1]
            have hfill := set_fill (d := false) (l := R.groups.map fun g => among P.frozen g) (i := i) (by rw [List.length_map]; exact hi1) hget R.groups.length hi1 false
            have r6 := next_i64 (i := i) (by omega)
            generalize R.groups.getD i ⟨#[]⟩ = g at f2 c1 hget hfill
            have st := storeB (v := among P.frozen g) hb3 (i := i) (by simp only [List.length_append, List.length_take, List.length_map, List.length_replicate]; omega)
            rw [hfill] at st
            have hv4 := setB_var_ne (b := (R.groups.map fun g => among P.frozen g).take (i + 1) ++ List.replicate (R.groups.length - (i + 1)) false) hne hv3
            have hb4 := setB_var (b := (R.groups.map fun g => among P.frozen g).take (i + 1) ++ List.replicate (R.groups.length - (i + 1)) false) hlt3
            have hA4 := above_setB (b := (R.groups.map fun g => among P.frozen g).take (i + 1) ++ List.replicate (R.groups.length - (i + 1)) false) hA3 hle
            have hlt4 : n2 < (setB m' n2 ((R.groups.map fun g => among P.frozen g).take (i + 1) ++ List.replicate (R.groups.length - (i + 1)) false)).vars.length := by rw [setB_len]; exact hlt3
            refine go1 (jn @f2 (jn @l4 (jn @f1 (jn @t1 (jn @c1 (jn @f3 (jn @st @r6))))))) ?_
            exact ⟨R.groups.length - (i + 1), by omega, i + 1, hi1, hA4, hlt4, hv4, hb4, rfl, rfl⟩
          · have hi1 : i = R.groups.length := by have := of_decide_eq_false hc; omega
            subst hi1
            rw [Nat.sub_self, List.replicate_zero, List.append_nil, List.take_of_length_le (by rw [List.length_map]; omega)] at hb3
            refine go0 ?_
            exact leaves_boolsA rfl rfl hle hb3 (List.length_map ..).symm (above_fin hA3)
        · rw [if_neg hp]
          by_cases h0 : p < 0
          · have b0 : decide (p < 0) = true := decide_eq_true h0
            refine go1 (jn @nr @b0) ?_
            refine runs_cond rfl (fun hc => ?_) (fun hc => by cases hc)
            refine go0 ?_
            exact leaves_lst rfl rfl (above_fin hA)
          · have b0 : decide (p < 0) = false := decide_eq_false h0
            have b1 : decide (p ≥ (R.phases.length : Int)) = true := decide_eq_true (by omega)
            refine go1 (jn @nr (jn @b0 (jn @l1 @b1))) ?_
            refine runs_cond rfl (fun hc => ?_) (fun hc => by cases hc)
            refine go0 ?_
            exact leaves_lst rfl rfl (above_fin hA)
      · cases h
    · cases h
  · cases h
/-! ### Turns -/
def turnB (R : Rc) (p : Int) (i : Nat) : Bool := (frozenAt R p).getD i false != (frozenAt R (p - 1)).getD i false
def turnsAt (R : Rc) (p : Int) : List Nat := (List.range (frozenAt R p).length).filter (turnB R p)
def natsI (l : List Nat) : List Int := l.map fun (i : Nat) => (i : Int)
theorem natsI_len (l : List Nat) : (natsI l).length = l.length := List.length_map ..
def turnsPG : List AV → Mem → Option (AV × Mem)
  | [.agg cs, .v (.int .i64 p)], m =>
    match unRc cs with
    | some R => if R.small ∧ -1000 ≤ p ∧ p ≤ 1000 then some (.lst .no 1 (rowsI (natsI (turnsAt R p))), m) else none
    | none => none
  | _, _ => none
theorem turnsPG_at {R : Rc} {p : Int} {m : Mem} (h : R.small) (h1 : -1000 ≤ p) (h2 : p ≤ 1000) : turnsPG [.agg R.row, .v (.int .i64 p)] m = some (.lst .no 1 (rowsI (natsI (turnsAt R p))), m) := by
  simp only [turnsPG, unRc_row]
  rw [if_pos ⟨h, h1, h2⟩]
theorem frozenAt_len {R : Rc} (h : R.small) (p : Int) : (frozenAt R p).length ≤ 64 := by
  unfold frozenAt
  split
  · rw [List.length_map]; exact h.2.1
  · simp
theorem app_intA {m m' : Mem} {g g2 : Grow} (hG : GrowsA m g m') (xs : List Int) (a : Int) (hl : xs.length ≤ 1000000) :
    ∃ g' m'', evAppend Tryz.prog 77 77 m' (.lst g 1 (rowsI xs)) (.lst g2 1 [[.v (.int .i64 a)]]) = some (.lst g' 1 (rowsI (xs ++ [a])), m'') ∧ GrowsA m g' m'' ∧ ∀ q, m''.var q = m'.var q := by
  have := app_growsV appInts hG (y := .lst g2 1 [[.v (.int .i64 a)]]) asList_lst (xs := rowsI xs) (by rw [rowsI_len]; unfold lim; simp; omega)
  rwa [show ([[.v (.int .i64 a)]] : List (List AV)) = rowsI [a] from rfl, rowsI_app] at this
theorem take_range (n i : Nat) (h : i < n) : (List.range n).take (i + 1) = (List.range n).take i ++ [i] := by
  rw [take_next (d := 0) (by rw [List.length_range]; exact h)]
  simp [List.getD, List.getElem?_range h]
def kpTurnsP : Nat → Option (List Nat) := fun
  | 0 => some [1, 2]
  | 1 => some [5, 6]
  | 2 => some [5, 6, 7]
  | 3 => some [6, 7, 17, 18, 19]
  | 4 => some [6, 7, 17, 18, 19, 20]
  | 5 => some [6, 7, 8, 9, 17, 18, 19]
  | 6 => some [6, 7, 8, 17, 18, 19, 35]
  | 7 => some [6, 7, 17, 18, 19]
  | 8 => some [6, 7, 17, 18, 19]
  | 9 => some [4]
  | _ => none
attribute [go_sem] kpTurnsP
def tab_turnsP_ok : List (FuncId × (List AV → Mem → Option (AV × Mem))) := [(103, frozenPG)]
theorem turnsP_ok : FunOk Tryz.prog 47 turnsPG := by
  have hC := table_ok (P := Tryz.prog) (l := tab_turnsP_ok) (table_more frozenP_ok table_nil)
  have t1 := fun args mm => table_at (l := tab_turnsP_ok) (f := 103) (args := args) (m := mm) rfl
  refine fun_ok mixed hC Tryz.func47 rfl kpTurnsP false rfl fun args m r h => ?_
  unfold turnsPG at h
  split at h
  · rename_i cs p
    split at h
    · rename_i R hR
      obtain rfl := unRc_some hR
      split at h
      · rename_i hyp
        obtain ⟨hsm, hp0, hp1⟩ := hyp
        simp only [Option.some.injEq] at h
        subst h
        refine ⟨Nat.le_of_ble_eq_true rfl, ?_⟩
        refine en ?_
        have hG0 : GrowsA m .full (m.push R.row) := growsA_push growsA_full
        have hv : (m.push R.row).var m.vars.length = some R.row := push_var
        have nr := newRc (m := m) (x := R)
        generalize m.push R.row = m1 at hG0 hv nr
        have l0 := vrRc hv
        have c1 := fun mm => frozenPG_at (R := R) (p := p) (m := mm) hsm
        have c2 := fun mm => frozenPG_at (R := R) (p := p - 1) (m := mm) hsm
        have w1 : IntKind.i64.wrap (p - 1) = p - 1 := i64_wrap (by omega) (by omega)
        have hl1 := frozenAt_len hsm p
        have hl2 := frozenAt_len hsm (p - 1)
        unfold turnsAt
        have htb : ∀ i, turnB R p i = ((frozenAt R p).getD i false != (frozenAt R (p - 1)).getD i false) := fun i => rfl
        generalize turnB R p = tb at htb
        generalize frozenAt R p = now at c1 hl1 htb
        generalize frozenAt R (p - 1) = was at c2 hl2 htb
        refine go1 @nr ?_
        refine runs_ops_drawn_kept (by kernel_rfl) ?_
        refine go1 (jn @l0 (jn @t1 (jn @c1 (jn @w1 @c2)))) ?_
        refine runs_loop (fun k e m' => ∃ (i : Nat) (gr : Grow), i ≤ now.length ∧ GrowsA m gr m' ∧ k = now.length - i ∧
          e = [(6, AV.lst .no 1 (rowsBo was)), (7, .lst gr 1 (rowsI (natsI (((List.range now.length).take i).filter tb)))), (17, .lst .no 1 (rowsBo now)), (18, .v (.int .i64 (now.length : Int))), (19, .v (.int .i64 (i : Int)))]) (k := now.length) ⟨0, _, Nat.zero_le _, hG0, rfl, rfl⟩ ?_
        rintro k e m' ⟨i, gr, hi0, hG, rfl, rfl⟩
        refine go0 ?_
        refine runs_cond rfl (fun hc => ?_) (fun hc => ?_)
        · have hi1 : i < now.length := by have := of_decide_eq_true hc; omega
          have f1 := atBools (g := .no) (kk := .i64) hi1
          have r6 := next_i64 (i := i) (by omega)
          have hN : natsI (((List.range now.length).take (i + 1)).filter tb) = natsI (((List.range now.length).take i).filter tb) ++ (if tb i = true then [(i : Int)] else []) := by
            rw [take_range _ _ hi1, List.filter_append, List.filter_cons, List.filter_nil]
            unfold natsI
            rw [List.map_append]
            split <;> rfl
          have hle : (natsI (((List.range now.length).take i).filter tb)).length ≤ 64 := by
            rw [natsI_len]
            have := List.length_filter_le tb ((List.range now.length).take i)
            rw [List.length_take, List.length_range] at this
            omega
          have htbi := htb i
          generalize natsI (((List.range now.length).take i).filter tb) = acc at hG hN hle
          generalize now.getD i false = x at f1 htbi
          obtain ⟨g2, m2, a1, hG2, hV2⟩ := app_intA (g2 := .full) hG acc i (by omega)
          by_cases hw : i < was.length
          · have b1 : decide ((i : Int) < (was.length : Int)) = true := decide_eq_true (by omega)
            have f2 := atBools (g := .no) (kk := .i64) hw
            generalize was.getD i false = y at f2 htbi
            cases hxy : (x != y) with
            | false =>
              rw [htbi, hxy, if_neg (by decide), List.append_nil] at hN
              refine go1 (jn @f1 (jn @b1 (jn @f2 @hxy))) ?_
              refine runs_cond rfl (fun hc => by cases hc) (fun hc => ?_)
              refine go1 @r6 ?_
              exact ⟨now.length - (i + 1), by omega, i + 1, _, hi1, hG, rfl, by rw [hN]⟩
            | true =>
              rw [htbi, hxy, if_pos rfl] at hN
              refine go1 (jn @f1 (jn @b1 (jn @f2 @hxy))) ?_
              refine runs_cond rfl (fun hc => ?_) (fun hc => by cases hc)
              refine go1 (jn @a1 @r6) ?_
              exact ⟨now.length - (i + 1), by omega, i + 1, _, hi1, hG2, rfl, by rw [hN]⟩
          · have b1 : decide ((i : Int) < (was.length : Int)) = false := decide_eq_false (by omega)
            have hy : was.getD i false = false := by simp [List.getD, List.getElem?_eq_none (Nat.le_of_not_lt hw)]
            rw [hy] at htbi
            cases hxy : (x != false) with
            | false =>
              rw [htbi, hxy, if_neg (by decide), List.append_nil] at hN
              refine go1 (jn @f1 (jn @b1 @hxy)) ?_
              refine runs_cond rfl (fun hc => by cases hc) (fun hc => ?_)
              refine go1 @r6 ?_
              exact ⟨now.length - (i + 1), by omega, i + 1, _, hi1, hG, rfl, by rw [hN]⟩
            | true =>
              rw [htbi, hxy, if_pos rfl] at hN
              refine go1 (jn @f1 (jn @b1 @hxy)) ?_
              refine runs_cond rfl (fun hc => ?_) (fun hc => by cases hc)
              refine go1 (jn @a1 @r6) ?_
              exact ⟨now.length - (i + 1), by omega, i + 1, _, hi1, hG2, rfl, by rw [hN]⟩
        · have hi1 : i = now.length := by have := of_decide_eq_false hc; omega
          subst hi1
          rw [List.take_of_length_le (by rw [List.length_range]; omega)]
          refine go0 ?_
          exact leaves_lst rfl rfl (growsA_fin hG)
      · cases h
    · cases h
  · cases h
end
section
attribute [local irreducible] Next Inside Runs Ops table
/-! ### api.Event -/
structure Evt where
  step : Int
  kind : Int
  item : Int
def evt0 : Evt := ⟨0, 0, 0⟩
def Evt.row (x : Evt) : List AV := [iv x.step, iv x.kind, iv x.item]
def unEvt : List AV → Option Evt
  | [.v (.int .i64 c0), .v (.int .i64 c1), .v (.int .i64 c2)] => some ⟨c0, c1, c2⟩
  | _ => none
theorem unEvt_some {cs : List AV} {x : Evt} (h : unEvt cs = some x) : cs = x.row := by
  unfold unEvt at h
  split at h
  · cases h; rfl
  · cases h
theorem unEvt_row (x : Evt) : unEvt x.row = some x := by
  rfl
def rowsEvt (l : List Evt) : List (List AV) := l.map Evt.row
theorem rowsEvt_len (l : List Evt) : (rowsEvt l).length = l.length := List.length_map ..
theorem rowsEvt_app (l l2 : List Evt) : rowsEvt l ++ rowsEvt l2 = rowsEvt (l ++ l2) := List.map_append.symm
theorem rowsEvt_get {l : List Evt} {i : Nat} (hi : i < l.length) : (rowsEvt l)[i]? = some (l.getD i evt0).row := by
  simp [rowsEvt, List.getD, List.getElem?_eq_getElem hi]
def unsEvt : List (List AV) → Option (List Evt)
  | [] => some []
  | row :: r =>
    match unEvt row, unsEvt r with
    | some x, some l => some (x :: l)
    | _, _ => none
theorem unsEvt_some : ∀ {rs : List (List AV)} {l : List Evt}, unsEvt rs = some l → rs = rowsEvt l
  | [], l, h => by simp only [unsEvt, Option.some.injEq] at h; subst h; rfl
  | row :: r, l, h => by
    unfold unsEvt at h
    split at h
    · rename_i x l' h1 h2
      cases h
      rw [unEvt_some h1, unsEvt_some h2]
      rfl
    · cases h
theorem unsEvt_rowsEvt : ∀ (l : List Evt), unsEvt (rowsEvt l) = some l
  | [] => rfl
  | x :: l => by
    have e : rowsEvt (x :: l) = x.row :: rowsEvt l := rfl
    rw [e, unsEvt, unEvt_row, unsEvt_rowsEvt l]
theorem elEvt : tElem Tryz.prog 55 = some 65 := by simp only [tElem, Tryz.underlying55]
theorem naEvt : tArr Tryz.prog 55 = none := by simp only [tArr, Tryz.underlying55]
theorem appEvt : appB Tryz.prog 55 55 3 = true := by kernel_rfl
theorem szEvt : tSize Tryz.prog 65 = some 3 := by kernel_rfl
theorem atEvt {g : Grow} {kk : IntKind} {l : List Evt} {i : Nat} (hi : i < l.length) : evIndexAddr Tryz.prog 55 (.lst g 3 (rowsEvt l)) (.v (.int kk (i : Int))) = some (.eptr (l.getD i evt0).row) := at_list elEvt naEvt szEvt (rowsEvt_get hi)
theorem ldEvt {m : Mem} {x : Evt} : evLoad Tryz.prog m 65 (.eptr x.row) = some (.agg x.row) := by kernel_rfl
theorem niEvt : noIface Tryz.prog 8 65 = true := by kernel_rfl
theorem eqEvt {x y : Evt} : eqTy Tryz.prog 8 65 (.agg x.row) (.agg y.row) = some ((x.step == y.step) && ((x.kind == y.kind) && ((x.item == y.item) && true))) := by kernel_rfl
theorem feEvtKind {x : Evt} : evFieldAddr Tryz.prog 65 (.eptr x.row) 1 = some (.eptr (x.row.drop 1)) := by kernel_rfl
theorem leEvtKind {m : Mem} {x : Evt} : evLoad Tryz.prog m 3 (.eptr (x.row.drop 1)) = some (iv x.kind) := by kernel_rfl
theorem feEvtItem {x : Evt} : evFieldAddr Tryz.prog 65 (.eptr x.row) 2 = some (.eptr (x.row.drop 2)) := by kernel_rfl
theorem leEvtItem {m : Mem} {x : Evt} : evLoad Tryz.prog m 3 (.eptr (x.row.drop 2)) = some (iv x.item) := by kernel_rfl
end
section
attribute [local irreducible] Next Inside Runs Ops table
attribute [local go_sem] szStr szInt Option.getD_some isNil evStr iv loadInt mapRc mapTab cellsTab newTb fpTabR fpTabS fpTabF fpRcSteps fpRcSwa fpRcSwaOn fpRcSwaEvery rowsEvt_len rowsBo_len rowsI_len rowsSp_len ldBool feSpFrom_ leSpFrom_ mkInts2
theorem mkEvt3 {a b c : Int} : evBuild Tryz.prog 65 [(0, .v (.int .i64 a)), (1, .v (.int .i64 b)), (2, .v (.int .i64 c))] = some (.agg [.v (.int .i64 a), .v (.int .i64 b), .v (.int .i64 c)]) := by kernel_rfl
attribute [local go_sem] mkEvt3
theorem mkEvt2 {a b : Int} : evBuild Tryz.prog 65 [(0, .v (.int .i64 a)), (1, .v (.int .i64 b))] = some (.agg [.v (.int .i64 a), .v (.int .i64 b), .v (.int .i64 0)]) := by kernel_rfl
attribute [local go_sem] mkEvt2
theorem mkEvts1 {a b c : Int} : evBuildSlice Tryz.prog 55 1 [(0, .agg [.v (.int .i64 a), .v (.int .i64 b), .v (.int .i64 c)])] = some (.lst .full 3 [[.v (.int .i64 a), .v (.int .i64 b), .v (.int .i64 c)]]) := build_rows appEvt rfl rfl (by decide)
attribute [local go_sem] mkEvts1
theorem app_evt {m m' : Mem} {g g2 : Grow} (hG : GrowsA m g m') (xs : List Evt) (a b c : Int) (hl : xs.length ≤ 1000000) :
    ∃ g' m'', evAppend Tryz.prog 55 55 m' (.lst g 3 (rowsEvt xs)) (.lst g2 3 [[.v (.int .i64 a), .v (.int .i64 b), .v (.int .i64 c)]]) = some (.lst g' 3 (rowsEvt (xs ++ [⟨a, b, c⟩])), m'') ∧ GrowsA m g' m'' ∧ ∀ q, m''.var q = m'.var q := by
  have := app_growsV appEvt hG (y := .lst g2 3 [[.v (.int .i64 a), .v (.int .i64 b), .v (.int .i64 c)]]) asList_lst (xs := rowsEvt xs) (by rw [rowsEvt_len]; unfold lim; simp; omega)
  rwa [show ([[.v (.int .i64 a), .v (.int .i64 b), .v (.int .i64 c)]] : List (List AV)) = rowsEvt [⟨a, b, c⟩] from rfl, rowsEvt_app] at this
/-! ### swa -/
def swaIs (R : Rc) (f step : Int) : Bool := R.swaOn && (decide (step ≥ f) && ((step - f).tmod R.swaEvery == 0))
def swaOf (R : Rc) (f step : Int) : Int × Bool := if swaIs R f step = true then ((step - f).tdiv R.swaEvery, true) else (0, false)
def stepIn (x : Int) : Prop := 0 ≤ x ∧ x ≤ 1099511627776
instance (x : Int) : Decidable (stepIn x) := by unfold stepIn; exact inferInstance
def swaTG : List AV → Mem → Option (AV × Mem)
  | [.agg cs, .v (.int .i64 step)], m =>
    match unTab cs with
    | some (R, l, f) => if (R.swaOn = true → 0 < R.swaEvery) ∧ stepIn step ∧ stepIn f then some (.tup [.v (.int .i64 (swaOf R f step).1), .v (.bool (swaOf R f step).2)], m) else none
    | none => none
  | _, _ => none
theorem swaTG_at {R : Rc} {l : List Sp} {f step : Int} {m : Mem} (h1 : R.swaOn = true → 0 < R.swaEvery) (h2 : stepIn step) (h3 : stepIn f) : swaTG [.agg (tabRow R l f), .v (.int .i64 step)] m = some (.tup [.v (.int .i64 (swaOf R f step).1), .v (.bool (swaOf R f step).2)], m) := by
  simp only [swaTG, unTab_row]
  rw [if_pos ⟨h1, h2, h3⟩]
def kpSwaT : Nat → Option (List Nat) := fun
  | 0 => some [1, 2]
  | 1 => some [1, 2, 28]
  | 2 => some [4, 5]
  | 3 => some [4, 5]
  | _ => none
attribute [go_sem] kpSwaT
theorem swaT_ok : FunOk Tryz.prog 54 swaTG := by
  have hC := table_ok (P := Tryz.prog) (l := []) table_nil
  refine fun_ok mixed hC Tryz.func54 rfl kpSwaT false rfl fun args m r h => ?_
  unfold swaTG at h
  split at h
  · rename_i cs step
    split at h
    · rename_i R l f hR
      obtain rfl := unTab_some hR
      split at h
      · rename_i hyp
        obtain ⟨hev, hst, hf⟩ := hyp
        simp only [Option.some.injEq] at h
        subst h
        refine ⟨Nat.le_of_ble_eq_true rfl, ?_⟩
        refine en ?_
        have hA := above_push (cs := tabRow R l f) (above_self m)
        have hv : (m.push (tabRow R l f)).var m.vars.length = some (tabRow R l f) := push_var
        have nr := newTb (m := m) (R := R) (l := l) (f := f)
        generalize m.push (tabRow R l f) = m1 at hA hv nr
        have l1 := lpTabOn hv
        have l2 := lpTabF hv
        have l3 := lpTabEvery hv
        unfold stepIn at hst hf
        have w1 : IntKind.i64.wrap (step - f) = step - f := i64_wrap (by omega) (by omega)
        have hS : swaIs R f step = (R.swaOn && (decide (step ≥ f) && ((step - f).tmod R.swaEvery == 0))) := rfl
        unfold swaOf
        cases q0 : R.swaOn with
        | false =>
          rw [q0] at hS
          rw [hS, Bool.false_and, if_neg (by decide)]
          have w2 : (!false) = true := rfl
          refine go1 (jn @nr (jn @l1 (jn @q0 @w2))) ?_
          refine runs_cond rfl (fun hc => ?_) (fun hc => by cases hc)
          refine go0 ?_
          exact leaves_two rfl rfl rfl (above_fin hA)
        | true =>
          rw [q0] at hS
          have w2 : (!true) = false := rfl
          have hne : R.swaEvery ≠ 0 := by have := hev q0; omega
          by_cases hge : step < f
          · have b0 : decide (step < f) = true := decide_eq_true hge
            rw [hS, decide_eq_false (by omega), Bool.false_and, Bool.and_false, if_neg (by decide)]
            refine go1 (jn @nr (jn @l1 (jn @q0 (jn @w2 (jn @l2 @b0))))) ?_
            refine runs_cond rfl (fun hc => ?_) (fun hc => by cases hc)
            refine go0 ?_
            exact leaves_two rfl rfl rfl (above_fin hA)
          · have b0 : decide (step < f) = false := decide_eq_false hge
            rw [decide_eq_true (by omega), Bool.true_and, Bool.true_and] at hS
            rw [hS]
            cases hz : ((step - f).tmod R.swaEvery == 0) with
            | false =>
              have b1 : ((step - f).tmod R.swaEvery != 0) = true := by rw [bne, hz]; rfl
              rw [if_neg (by decide)]
              refine go1 (jn @nr (jn @l1 (jn @q0 (jn @w2 (jn @l2 (jn @b0 (jn @w1 (jn @l3 (jn @hne @b1))))))))) ?_
              refine runs_cond rfl (fun hc => ?_) (fun hc => by cases hc)
              refine go0 ?_
              exact leaves_two rfl rfl rfl (above_fin hA)
            | true =>
              have b1 : ((step - f).tmod R.swaEvery != 0) = false := by rw [bne, hz]; rfl
              rw [if_pos rfl]
              have hpos := hev q0
              have hd0 : 0 ≤ (step - f).tdiv R.swaEvery := Int.tdiv_nonneg (by omega) (by omega)
              have hd1 : (step - f).tdiv R.swaEvery ≤ step - f := by
                rw [Int.tdiv_eq_ediv_of_nonneg (by omega)]
                exact Int.ediv_le_self _ (by omega)
              have w3 : IntKind.i64.wrap ((step - f).tdiv R.swaEvery) = (step - f).tdiv R.swaEvery := i64_wrap (by omega) (by omega)
              refine go1 (jn @nr (jn @l1 (jn @q0 (jn @w2 (jn @l2 (jn @b0 (jn @w1 (jn @l3 (jn @hne @b1))))))))) ?_
              refine runs_cond rfl (fun hc => by cases hc) (fun hc => ?_)
              refine go1 (jn @l2 (jn @w1 (jn @l3 (jn @hne @w3)))) ?_
              exact leaves_two rfl rfl rfl (above_fin hA)
      · cases h
    · cases h
  · cases h
end
section
attribute [local irreducible] Next Inside Runs Ops table
attribute [local go_sem] szStr szInt Option.getD_some isNil evStr iv loadInt mapRc mapTab cellsTab newTb fpTabR rowsEvt_len rowsBo_len rowsI_len mkEvt3 mkEvts1 ldBool
theorem mkTwo : evBuildSlice Tryz.prog 77 2 [(0, .v (.int .i64 2)), (1, .v (.int .i64 3))] = some (.lst .full 1 (rowsI [2, 3])) := build_rows appInts rfl rfl (by decide)
attribute [local go_sem] mkTwo
theorem two_len : ((([2, 3] : List Int).length : Nat) : Int) = 2 := rfl
attribute [local go_sem] two_len
theorem leaves_growA {P : Program} {fn : Func} {m m' : Mem} {e : Env} {t : Tmp} {k : Nat} {g : Grow} {rows : List (List AV)} (h : fn.results = #[.tmp t]) (hg : Ev.get e t = .lst g k rows) (hG : GrowsA m g m') : Leaves P true fn m (.lst (.tok m.toks.length 0) k rows, m.tk [0]) .ret e m' := by
  have hf := growsA_fin hG
  obtain ⟨m1, h1, L, rfl⟩ := hG
  rcases h1 with ⟨rfl, rfl⟩ | ⟨v, rfl, rfl⟩
  · exact leaves_grow_full h hg hf
  · exact leaves_grow h hg hf (by simp [Mem.tk]) (Nat.le_refl _)
def turnEv (R : Rc) (p step kind : Int) (g : Nat) : List Evt := if ((frozenAt R p).getD g false == (kind == 3)) = true then [⟨step, kind, g⟩] else []
def turnsEv (R : Rc) (p step kind : Int) : List Evt := (turnsAt R p).flatMap (turnEv R p step kind)
def beginsAt (R : Rc) (p step : Int) : List Evt := [⟨step, 1, p⟩] ++ (([2, 3] : List Int).flatMap (turnsEv R p step))
theorem turns_in {R : Rc} {p : Int} {g : Nat} (h : g ∈ turnsAt R p) : g < (frozenAt R p).length := by
  unfold turnsAt at h
  exact List.mem_range.1 (List.mem_filter.1 h).1
theorem turns_len {R : Rc} (h : R.small) (p : Int) : (turnsAt R p).length ≤ 64 := by
  have h1 := frozenAt_len h p
  have h2 := List.length_filter_le (turnB R p) (List.range (frozenAt R p).length)
  rw [List.length_range] at h2
  unfold turnsAt
  omega
theorem turnEv_len (R : Rc) (p step kind : Int) (g : Nat) : (turnEv R p step kind g).length ≤ 1 := by unfold turnEv; split <;> simp
theorem turnsEv_len {R : Rc} (h : R.small) (p step kind : Int) : (turnsEv R p step kind).length ≤ 64 := by
  have h1 := turns_len h p
  have h2 := flat_len (f := turnEv R p step kind) (c := 1) (turnsAt R p) fun g _ => turnEv_len R p step kind g
  unfold turnsEv
  omega
def kpBegins : Nat → Option (List Nat) := fun
  | 0 => some [1, 2, 3]
  | 1 => some [1, 2, 3, 7]
  | 2 => some [1, 2, 3, 7, 8]
  | 3 => some [1, 2, 3, 7, 8, 21, 22, 23]
  | 4 => some [1, 2, 3, 7, 8, 21, 22, 23, 24]
  | 5 => some [1, 2, 3, 7, 8, 10, 21, 22, 23]
  | 6 => some [1, 2, 3, 7, 8, 10, 21, 22, 23, 30, 31, 32]
  | 7 => some [1, 2, 3, 7, 8, 10, 21, 22, 23, 30, 31, 32, 33]
  | 8 => some [1, 2, 3, 7, 8, 10, 12, 21, 22, 23, 30, 31, 32]
  | 9 => some [1, 2, 3, 7, 8, 10, 12, 21, 22, 23, 30, 31, 32, 42]
  | 10 => some [1, 2, 3, 7, 8, 10, 21, 22, 23, 30, 31, 32]
  | 11 => some [1, 2, 3, 7, 8, 10, 21, 22, 23, 30, 31, 32]
  | 12 => some [1, 2, 3, 7, 8, 21, 22, 23]
  | 13 => some [6]
  | _ => none
attribute [go_sem] kpBegins
def tab_begins : List (FuncId × (List AV → Mem → Option (AV × Mem))) := [(103, frozenPG), (47, turnsPG)]
theorem begins_runs {R : Rc} {l : List Sp} {f p step : Int} {m : Mem} {c : Code} (hc : Tryz.f57.body = some c) (hsm : R.small) (hp0 : -1000 ≤ p) (hp1 : p ≤ 1000) :
    Runs Tryz.prog (table tab_begins) Tryz.f57.ntmps kpBegins c (entry [.agg (tabRow R l f), .v (.int .i64 p), .v (.int .i64 step)]) m fun x e m' => x = .ret ∧ ∃ g, Ev.get e 6 = .lst g 3 (rowsEvt (beginsAt R p step)) ∧ GrowsA m g m' := by
  have t1 := fun args mm => table_at (l := tab_begins) (f := 103) (args := args) (m := mm) rfl
  have t2 := fun args mm => table_at (l := tab_begins) (f := 47) (args := args) (m := mm) rfl
  cases hc
  refine en ?_
  have hG0 : GrowsA m .full (m.push (tabRow R l f)) := growsA_push growsA_full
  have hv : (m.push (tabRow R l f)).var m.vars.length = some (tabRow R l f) := push_var
  have nr := newTb (m := m) (R := R) (l := l) (f := f)
  generalize m.push (tabRow R l f) = m1 at hG0 hv nr
  have l1 := lpTabR hv
  have c1 := fun mm => frozenPG_at (R := R) (p := p) (m := mm) hsm
  have c2 := fun mm => turnsPG_at (R := R) (p := p) (m := mm) hsm hp0 hp1
  have hT := turns_len hsm p
  have hin := fun g => @turns_in R p g
  have hkl := fun kind => turnsEv_len hsm p step kind
  have hkd : ∀ kind, turnsEv R p step kind = (turnsAt R p).flatMap (turnEv R p step kind) := fun kind => rfl
  have hev : ∀ kind g, turnEv R p step kind g = if ((frozenAt R p).getD g false == (kind == 3)) = true then [⟨step, kind, g⟩] else [] := fun kind g => rfl
  have hbe : beginsAt R p step = [⟨step, 1, p⟩] ++ (([2, 3] : List Int).flatMap (turnsEv R p step)) := rfl
  rw [hbe]
  have hel := fun kind g => turnEv_len R p step kind g
  generalize turnsEv R p step = tv at hkl hkd
  generalize turnEv R p step = te at hkd hev hel
  generalize turnsAt R p = ts at c2 hT hin hkd
  generalize frozenAt R p = fz at c1 hin hev
  refine go1 (jn @nr (jn @l1 (jn @t1 @c1))) ?_
  refine runs_loop (fun k e m' => ∃ (i : Nat) (gr : Grow), i ≤ 2 ∧ GrowsA m gr m' ∧ m'.var m.vars.length = some (tabRow R l f) ∧ k = 2 - i ∧
    e = [(1, AV.v (.int .i64 p)), (2, .v (.int .i64 step)), (3, .ptr m.vars.length 0), (7, .lst gr 3 (rowsEvt ([⟨step, 1, p⟩] ++ (([2, 3] : List Int).take i).flatMap tv))), (8, .lst .no 1 (rowsBo fz)), (21, .lst .full 1 (rowsI [2, 3])), (22, .v (.int .i64 2)), (23, .v (.int .i64 (i : Int)))]) (k := 2) ⟨0, _, by decide, hG0, hv, rfl, rfl⟩ ?_
  rintro k e m' ⟨i, gr, hi0, hG, hw, rfl, rfl⟩
  refine go0 ?_
  refine runs_cond rfl (fun hc => ?_) (fun hc => ?_)
  · have hi1 : i < 2 := by have := of_decide_eq_true hc; omega
    have f1 := atInts (g := .full) (kk := .i64) (l := [2, 3]) (i := i) hi1
    have l2 := lpTabR hw
    have hN : (([2, 3] : List Int).take (i + 1)).flatMap tv = (([2, 3] : List Int).take i).flatMap tv ++ tv (([2, 3] : List Int).getD i 0) := by
      rw [take_next (d := 0) hi1, List.flatMap_append]
      simp
    have hB := take_len (f := tv) (l := ([2, 3] : List Int)) (fun kind _ => hkl kind) hi0
    have r6 := next_i64 (i := i) (by omega)
    generalize ([2, 3] : List Int).getD i 0 = kind at f1 hN
    have hk := hkd kind
    have hkl2 := hkl kind
    refine go1 (jn @f1 (jn @l2 (jn @t2 @c2))) ?_
    generalize (([2, 3] : List Int).take i).flatMap tv = acc at hG hN hB ⊢
    refine runs_loop (fun k e m' => ∃ (j : Nat) (gr : Grow), j ≤ ts.length ∧ GrowsA m gr m' ∧ m'.var m.vars.length = some (tabRow R l f) ∧ k = ts.length - j ∧
      e = [(1, AV.v (.int .i64 p)), (2, .v (.int .i64 step)), (3, .ptr m.vars.length 0), (7, .lst gr 3 (rowsEvt ([⟨step, 1, p⟩] ++ (acc ++ (ts.take j).flatMap (te kind))))), (8, .lst .no 1 (rowsBo fz)), (10, .v (.int .i64 kind)), (21, .lst .full 1 (rowsI [2, 3])), (22, .v (.int .i64 2)), (23, .v (.int .i64 (i : Int))), (30, .lst .no 1 (rowsI (natsI ts))), (31, .v (.int .i64 (ts.length : Int))), (32, .v (.int .i64 (j : Int)))]) (k := ts.length) ⟨0, _, Nat.zero_le _, hG, hw, rfl, by rw [List.take_zero, List.flatMap_nil, List.append_nil, natsI_len]; rfl⟩ ?_
    rintro k e m2 ⟨j, gr2, hj0, hG2, hw2, rfl, rfl⟩
    refine go0 ?_
    refine runs_cond rfl (fun hc => ?_) (fun hc => ?_)
    · have hj1 : j < ts.length := by have := of_decide_eq_true hc; omega
      have f2 := atInts (g := .no) (kk := .i64) (l := natsI ts) (i := j) (by rw [natsI_len]; exact hj1)
      have hge : (natsI ts).getD j 0 = ((ts.getD j 0 : Nat) : Int) := by simp [natsI, List.getD, List.getElem?_eq_getElem hj1]
      rw [hge] at f2
      have hg := hin (ts.getD j 0) (by rw [List.getD, List.getElem?_eq_getElem hj1]; exact List.getElem_mem _)
      have f3 := atBools (g := .no) (kk := .i64) hg
      have hN2 := flat_next (f := te kind) (d := 0) hj1
      have hB2 := take_len (f := te kind) (l := ts) (fun g _ => hel kind g) hj0
      have he := hev kind (ts.getD j 0)
      have r7 := next_i64 (i := j) (by omega)
      generalize ts.getD j 0 = g at f2 f3 hN2 he
      generalize fz.getD g false = x at f3 he
      generalize (ts.take j).flatMap (te kind) = acc2 at hG2 hN2 hB2 ⊢
      cases hq : (x == (kind == 3)) with
      | true =>
        rw [hq, if_pos rfl] at he
        rw [he] at hN2
        obtain ⟨g3, m3, a1, hG3, hV3⟩ := app_evt (g2 := .full) hG2 ([⟨step, 1, p⟩] ++ (acc ++ acc2)) step kind g (by simp only [List.length_append, List.length_cons, List.length_nil]; omega)
        refine go1 (jn @f2 (jn @f3 @hq)) ?_
        refine runs_cond rfl (fun hc => ?_) (fun hc => by cases hc)
        refine go1 (jn @a1 @r7) ?_
        exact ⟨ts.length - (j + 1), by omega, j + 1, _, hj1, hG3, by rw [hV3]; exact hw2, rfl, by rw [hN2]; simp only [List.append_assoc]⟩
      | false =>
        rw [hq, if_neg (by decide)] at he
        rw [he, List.append_nil] at hN2
        refine go1 (jn @f2 (jn @f3 @hq)) ?_
        refine runs_cond rfl (fun hc => by cases hc) (fun hc => ?_)
        refine go1 @r7 ?_
        exact ⟨ts.length - (j + 1), by omega, j + 1, _, hj1, hG2, hw2, rfl, by rw [hN2]⟩
    · have hj1 : j = ts.length := by have := of_decide_eq_false hc; omega
      subst hj1
      rw [List.take_length, ← hk, ← hN]
      refine go1 @r6 ?_
      exact ⟨2 - (i + 1), by omega, i + 1, _, hi1, hG2, hw2, rfl, rfl⟩
  · have hi1 : i = 2 := by have := of_decide_eq_false hc; omega
    subst hi1
    refine go0 ?_
    exact ⟨rfl, _, rfl, hG⟩
theorem tab_begins_ok : CallOk Tryz.prog (table tab_begins) := table_ok (P := Tryz.prog) (l := tab_begins) (table_more frozenP_ok (table_more turnsP_ok table_nil))
def beginsG (gr : Bool) : List AV → Mem → Option (AV × Mem)
  | [.agg cs, .v (.int .i64 p), .v (.int .i64 step)], m =>
    match unTab cs with
    | some (R, _, _) => if R.small ∧ -1000 ≤ p ∧ p ≤ 1000 then some (if gr = true then (.lst (.tok m.toks.length 0) 3 (rowsEvt (beginsAt R p step)), m.tk [0]) else (.lst .no 3 (rowsEvt (beginsAt R p step)), m)) else none
    | none => none
  | _, _ => none
theorem beginsG_at {R : Rc} {l : List Sp} {f p step : Int} {m : Mem} {gr : Bool} (h : R.small) (h1 : -1000 ≤ p) (h2 : p ≤ 1000) : beginsG gr [.agg (tabRow R l f), .v (.int .i64 p), .v (.int .i64 step)] m = some (if gr = true then (.lst (.tok m.toks.length 0) 3 (rowsEvt (beginsAt R p step)), m.tk [0]) else (.lst .no 3 (rowsEvt (beginsAt R p step)), m)) := by
  simp only [beginsG, unTab_row]
  rw [if_pos ⟨h, h1, h2⟩]
theorem begins_ok (gr : Bool) : FunOk Tryz.prog 57 (beginsG gr) := by
  refine fun_ok mixed tab_begins_ok Tryz.func57 rfl kpBegins gr rfl fun args m r h => ?_
  unfold beginsG at h
  split at h
  · rename_i cs p step
    split at h
    · rename_i R l f hR
      obtain rfl := unTab_some hR
      split at h
      · rename_i hyp
        obtain ⟨h1, h2, h3⟩ := hyp
        simp only [Option.some.injEq] at h
        subst h
        refine ⟨Nat.le_of_ble_eq_true rfl, runs_mono (begins_runs rfl h1 h2 h3) fun x e m' hx => ?_⟩
        obtain ⟨rfl, g, hg, hG⟩ := hx
        cases gr with
        | true => exact leaves_growA rfl hg hG
        | false => exact leaves_lst rfl hg (growsA_fin hG)
      · cases h
    · cases h
  · cases h
end
end Go.Proofs.YtojaokhkbmiidaaGreat.Ev

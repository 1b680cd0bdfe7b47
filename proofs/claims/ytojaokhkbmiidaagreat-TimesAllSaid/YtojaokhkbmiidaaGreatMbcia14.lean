/- The document's timetable: the events of a step. -/
import Derived.Test.YtojaokhkbmiidaaGreatMbcia13
import Derived.Test.YtojaokhkbmiidaaGreatMbcia3
import Derived.Test.YtojaokhkbmiidaaGreatMacia6
import Derived.Test.YtojaokhkbmiidaaGreatMbcia10
namespace Go.Proofs.YtojaokhkbmiidaaGreat.Ev
open Go Go.Proofs
set_option maxRecDepth 10000
set_option maxHeartbeats 8000000
set_option linter.unusedVariables false
set_option linter.unusedSimpArgs false
noncomputable section
attribute [local irreducible] Next Inside Runs Ops table
attribute [local go_sem] szStr szInt Option.getD_some isNil evStr iv loadInt mapRc cellsRc newRc rowsS_len rowsEvt_len rowsSp_len fpRcGroups fpRcSteps mkEvt3 mkEvt2 mkEvts1 mkEvt0 feSpFrom_ leSpFrom_
/-! ### how many steps of Swa are ahead -/
def cntSwa (R : Rc) (f : Int) : Nat → Nat
  | 0 => 0
  | n + 1 => cntSwa R f n + if swaIs R f (n : Int) = true then 1 else 0
theorem cntSwa_le (R : Rc) (f : Int) : ∀ n, cntSwa R f n ≤ n
  | 0 => Nat.le_refl _
  | n + 1 => by have := cntSwa_le R f n; rw [cntSwa]; split <;> omega
theorem cntSwa_is {R : Rc} {f e : Nat} (ho : R.swaOn = true) (he : R.swaEvery = (e : Int)) (h0 : 0 < e) : ∀ n, cntSwa R (f : Int) n = (n - f + (e - 1)) / e
  | 0 => by rw [Nat.zero_sub, Nat.zero_add, Nat.div_eq_of_lt (by omega)]; rfl
  | n + 1 => by
    rw [cntSwa, cntSwa_is ho he h0 n]
    by_cases hn : n < f
    · have hs : swaIs R (f : Int) (n : Int) = false := by
        unfold swaIs
        rw [decide_eq_false (by omega), Bool.false_and, Bool.and_false]
      rw [hs, if_neg (by decide), show n - f = 0 by omega, show n + 1 - f = 0 by omega]
      omega
    · have hs : swaIs R (f : Int) (n : Int) = decide (e ∣ (n - f)) := by
        unfold swaIs
        rw [ho, decide_eq_true (by omega), Bool.true_and, Bool.true_and, he, show (n : Int) - (f : Int) = ((n - f : Nat) : Int) by omega, tmod_nat, Bool.eq_iff_iff]
        simp only [beq_iff_eq, decide_eq_true_eq, Nat.dvd_iff_mod_eq_zero]
        omega
      rw [hs]
      have h1 : n + 1 - f + (e - 1) = (n - f + (e - 1)) + 1 := by omega
      have hsd : (n - f + (e - 1) + 1) / e = (n - f + (e - 1)) / e + if e ∣ (n - f + (e - 1)) + 1 then 1 else 0 := Nat.succ_div
      have hd : (e ∣ (n - f + (e - 1)) + 1) ↔ e ∣ (n - f) := by
        rw [show n - f + (e - 1) + 1 = n - f + e by omega]
        rw [Nat.dvd_iff_mod_eq_zero, Nat.dvd_iff_mod_eq_zero, Nat.add_mod_right]
      rw [h1, hsd]
      by_cases hdv : e ∣ (n - f)
      · rw [if_pos (hd.2 hdv), if_pos (decide_eq_true hdv)]
      · rw [if_neg (fun h => hdv (hd.1 h)), if_neg (by rw [decide_eq_false hdv]; decide)]
theorem cntSwa_at {R : Rc} {f : Int} {n : Nat} (hf : 0 ≤ f) (hev : R.swaOn = true → 0 < R.swaEvery) (h : swaIs R f (n : Int) = true) : ((cntSwa R f n : Nat) : Int) = ((n : Int) - f).tdiv R.swaEvery := by
  have h' := h
  unfold swaIs at h'
  simp only [Bool.and_eq_true, decide_eq_true_eq, beq_iff_eq] at h'
  obtain ⟨ho, hge, hz⟩ := h'
  obtain ⟨k, rfl⟩ := Int.eq_ofNat_of_zero_le hf
  obtain ⟨e, he⟩ := Int.eq_ofNat_of_zero_le (show 0 ≤ R.swaEvery by have := hev ho; omega)
  have h0 : 0 < e := by have := hev ho; omega
  rw [cntSwa_is ho he h0, he]
  rw [he, show (n : Int) - (k : Int) = ((n - k : Nat) : Int) by omega, tmod_nat] at hz
  rw [show (n : Int) - (k : Int) = ((n - k : Nat) : Int) by omega, Int.tdiv_eq_ediv_of_nonneg (by omega)]
  have hz' : (n - k) % e = 0 := by omega
  obtain ⟨q, hq⟩ := Nat.dvd_of_mod_eq_zero hz'
  rw [hq, Nat.mul_add_div h0, Nat.div_eq_of_lt (by omega), Nat.add_zero]
  rw [show (((e * q : Nat) : Int) / (e : Int)) = ((e * q / e : Nat) : Int) from rfl, Nat.mul_div_cancel_left q h0]
/-! ### the turns, group by group -/
theorem filter_flat {α β : Type} (b : α → Bool) (f : α → List β) : ∀ l : List α, (l.filter b).flatMap f = l.flatMap fun x => if b x = true then f x else []
  | [] => rfl
  | x :: l => by
    rw [List.filter_cons, List.flatMap_cons]
    split
    · rw [List.flatMap_cons, filter_flat b f l]
    · rw [filter_flat b f l, List.nil_append]
def rturnEv (R : Rc) (p step kind : Int) (g : Nat) : List Evt := if turnB R p g = true then turnEv R p step kind g else []
theorem rturns {R : Rc} {p step kind : Int} (hp : 0 ≤ p ∧ p < (R.phases.length : Int)) : turnsEv R p step kind = (List.range R.groups.length).flatMap (rturnEv R p step kind) := by
  unfold turnsEv turnsAt
  rw [filter_flat]
  have : (frozenAt R p).length = R.groups.length := by unfold frozenAt; rw [if_pos hp, List.length_map]
  rw [this]
  rfl
def revAtG : List AV → Mem → Option (AV × Mem)
  | [.agg cs, .v (.int .i64 step)], m =>
    match unRc cs with
    | some R => if R.sound = true ∧ R.fit ∧ 0 ≤ step ∧ step < R.steps then some (.lst .no 3 (rowsEvt (evAt R step)), m) else none
    | none => none
  | _, _ => none
theorem revAtG_at {R : Rc} {step : Int} {m : Mem} (h : R.sound = true) (hf : R.fit) (h1 : 0 ≤ step) (h2 : step < R.steps) : revAtG [.agg R.row, .v (.int .i64 step)] m = some (.lst .no 3 (rowsEvt (evAt R step)), m) := by
  simp only [revAtG, unRc_row]
  rw [if_pos ⟨h, hf, h1, h2⟩]
theorem range_next {β : Type} {f : Nat → List β} {n i : Nat} (h : i < n) : ((List.range n).take (i + 1)).flatMap f = ((List.range n).take i).flatMap f ++ f i := by
  rw [take_range n i h, List.flatMap_append]
  simp
def kpREvAt : Nat → Option (List Nat) := fun
  | 0 => some [1, 2]
  | 1 => some [1, 2, 5]
  | 2 => some [1, 2, 5, 6]
  | 3 => some [1, 2, 5, 6, 7]
  | 4 => some [1, 2, 5, 6, 7, 26]
  | 5 => some [1, 2, 5, 6, 7]
  | 6 => some [1, 2, 5, 6, 7, 8]
  | 7 => some [1, 2, 5, 6, 7, 8, 34]
  | 8 => some [1, 2, 5, 6, 7, 8]
  | 9 => some [1, 2, 5, 6, 7, 8, 9]
  | 10 => some [1, 2, 5, 6, 7, 8, 9, 44]
  | 11 => some [1, 2, 5, 6, 7, 8, 9]
  | 12 => some [1, 2, 5, 6, 7, 8, 9, 10, 11]
  | 13 => some [1, 2, 5, 6, 7, 8, 9, 64]
  | 14 => some [1, 2, 5, 6, 7, 8, 9]
  | 15 => some [1, 2, 5, 74]
  | 16 => some [1, 2, 5, 12]
  | 17 => some [1, 2, 5, 12, 13]
  | 18 => some [1, 2, 5, 12, 13, 77]
  | 19 => some [1, 2, 5, 12, 13]
  | 20 => some [1, 2, 5, 12, 13, 82]
  | 21 => some [1, 2, 5, 12, 13]
  | 22 => some [1, 2, 5]
  | 23 => some [1, 5, 95]
  | 24 => some [5]
  | 25 => some [4]
  | _ => none
attribute [go_sem] kpREvAt
def tab_revAt_ok : List (FuncId × (List AV → Mem → Option (AV × Mem))) := [(21, rspanAtG), (19, rspansG), (55, frozenRG), (29, rswaG)]
theorem revAt_ok : FunOk Tryz.prog 27 revAtG := by
  have hC := table_ok (P := Tryz.prog) (l := tab_revAt_ok) (table_more at22_ok (table_more spans22_ok (table_more frozenR_ok (table_more rswa_ok table_nil))))
  have t1 := fun args mm => table_at (l := tab_revAt_ok) (f := 21) (args := args) (m := mm) rfl
  have t2 := fun args mm => table_at (l := tab_revAt_ok) (f := 19) (args := args) (m := mm) rfl
  have t3 := fun args mm => table_at (l := tab_revAt_ok) (f := 55) (args := args) (m := mm) rfl
  have t4 := fun args mm => table_at (l := tab_revAt_ok) (f := 29) (args := args) (m := mm) rfl
  refine fun_ok mixed hC Tryz.func27 rfl kpREvAt false rfl fun args m r h => ?_
  unfold revAtG at h
  split at h
  · rename_i cs step
    split at h
    · rename_i R hR
      obtain rfl := unRc_some hR
      split at h
      · rename_i hyp
        obtain ⟨hs, hfit, h0, h1⟩ := hyp
        simp only [Option.some.injEq] at h
        subst h
        obtain ⟨n, rfl⟩ := Int.eq_ofNat_of_zero_le h0
        refine ⟨Nat.le_of_ble_eq_true rfl, ?_⟩
        refine en ?_
        have ok := sound_ok' hs
        have hsm := Rc.may_small ok.may
        have hP64 := hsm.2.2.1
        have hst := ok.steps
        obtain ⟨i, hi, hi1, hi2, hidx⟩ := span_at ok h0 h1
        have hbe : beginEv R (n : Int) = if ((R.spans.getD (spanIdx R (n : Int)).toNat sp0).from_ == (n : Int)) = true then beginsAt R (spanIdx R (n : Int)) (n : Int) else [] := rfl
        rw [hidx, Int.toNat_natCast, show R.spans.getD i sp0 = ⟨R.at_ i, R.at_ (i + 1)⟩ from spansTo_get hi] at hbe
        have hA := above_push (cs := R.row) (above_self m)
        have hv : (m.push R.row).var m.vars.length = some R.row := push_var
        have nr := newRc (m := m) (x := R)
        have hG0 : GrowsA m .full (m.push R.row) := growsA_push growsA_full
        generalize m.push R.row = m1 at hA hv nr hG0
        have l0 := vrRc hv
        have c1 := fun mm => rspanAtG_at (m := mm) (step := (n : Int)) ok.may hfit
        rw [show firstBy (spanHas (n : Int)) R.spans 0 = (i : Int) from hidx] at c1
        have c2 := fun mm => rspansG_at (m := mm) ok.may hfit
        have f1 := atSp (g := .no) (kk := .i64) (l := R.spans) (i := i) (by rw [show R.spans.length = R.phases.length from spansTo_len]; exact hi)
        rw [show R.spans.getD i sp0 = ⟨R.at_ i, R.at_ (i + 1)⟩ from spansTo_get hi] at f1
        have hbl := beginEv_len hsm (n : Int)
        have hkl := fun kind => turnsEv_len hsm (i : Int) (n : Int) kind
        have hkd := fun kind => @rturns R (i : Int) (n : Int) kind ⟨by omega, by omega⟩
        have c3 := fun (g : Nat) mm (hg : g < R.groups.length) => frozenRG_at (R := R) (p := (i : Int)) (g := g) (m := mm) hsm hg
        have c4 := fun (g : Nat) mm (hg : g < R.groups.length) => frozenRG_at (R := R) (p := (i : Int) - 1) (g := g) (m := mm) hsm hg
        have c5 := fun (s : Nat) mm (h : s ≤ n) => rswaG_at (R := R) (step := (s : Int)) (m := mm) hs ⟨by omega, by omega⟩
        have hsw : swaEv R (n : Int) = if swaIs R R.swaSteps.1 (n : Int) = true then [⟨(n : Int), 4, ((n : Int) - R.swaSteps.1).tdiv R.swaEvery⟩] else [] := rfl
        have hct := fun h => @cntSwa_at R R.swaSteps.1 n sound_from.1 (sound_every hs) h
        have hcl := cntSwa_le R R.swaSteps.1
        have hcn : ∀ s, cntSwa R R.swaSteps.1 (s + 1) = cntSwa R R.swaSteps.1 s + if swaIs R R.swaSteps.1 (s : Int) = true then 1 else 0 := fun s => rfl
        have hen : endEv R (n : Int) = if ((n : Int) == R.steps - 1) = true then [⟨(n : Int), 11, 0⟩] else [] := rfl
        have hw1 : IntKind.i64.wrap ((i : Int) - 1) = (i : Int) - 1 := i64_wrap (by omega) (by omega)
        unfold evAt
        have hc0 : cntSwa R R.swaSteps.1 0 = 0 := rfl
        generalize cntSwa R R.swaSteps.1 = cs at hct hcl hcn hc0
        generalize swaIs R R.swaSteps.1 = sis at c5 hsw hct hcn
        refine go1 (jn @nr (jn @l0 (jn @t1 (jn @c1 (jn @t2 (jn @c2 @f1)))))) ?_
        refine runs_icut (fun e2 m2 => ∃ gr2 E, GrowsA m gr2 m2 ∧ m2.var m.vars.length = some R.row ∧ e2 = (1, AV.v (.int .i64 (n : Int))) :: (2, .ptr m.vars.length 0) :: (5, .lst gr2 3 (rowsEvt (if (R.at_ i == (n : Int)) = true then [⟨(n : Int), 1, (i : Int)⟩] else []))) :: (6, .v (.int .i64 (i : Int))) :: (7, .v (.bool (R.at_ i == (n : Int)))) :: E) ?_ ?_
        · refine runs_cond rfl (fun hc => ?_) (fun hc => ?_)
          · obtain ⟨g3, m3, a1, hG3, hV3⟩ := app_evt (g2 := .full) hG0 [] (n : Int) 1 (i : Int) (by simp)
            rw [show rowsEvt [] = [] from rfl, List.nil_append] at a1
            rw [if_pos hc]
            refine go1 @a1 ?_
            exact ⟨rfl, _, _, hG3, by rw [hV3]; exact hv, rfl⟩
          · rw [if_neg (by rw [hc]; decide)]
            refine go0 ?_
            exact ⟨rfl, _, _, hG0, hv, rfl⟩
        rintro e2 m2 ⟨gr2, E, hG2, hv2, rfl⟩
        refine next_normal ?_
        have hbe2 : beginEv R (n : Int) = (if (R.at_ i == (n : Int)) = true then [⟨(n : Int), 1, (i : Int)⟩] else []) ++ ([2, 3] : List Int).flatMap (fun kind => if (R.at_ i == (n : Int)) = true then turnsEv R (i : Int) (n : Int) kind else []) := by
          rw [show beginEv R (n : Int) = if (R.at_ i == (n : Int)) = true then beginsAt R (i : Int) (n : Int) else [] from hbe]
          cases (R.at_ i == (n : Int)) with
          | true => rfl
          | false => rfl
        have hkl2 : ∀ kind, ((fun kind => if (R.at_ i == (n : Int)) = true then turnsEv R (i : Int) (n : Int) kind else []) kind).length ≤ 64 := fun kind => by
          show (if (R.at_ i == (n : Int)) = true then turnsEv R (i : Int) (n : Int) kind else []).length ≤ 64
          split
          · exact hkl kind
          · simp
        generalize (R.at_ i == (n : Int)) = bg at hbe2 hG2 hkl2 ⊢
        have hacc1 : (if bg = true then [(⟨(n : Int), 1, (i : Int)⟩ : Evt)] else []).length ≤ 1 := by split <;> simp
        generalize (if bg = true then [(⟨(n : Int), 1, (i : Int)⟩ : Evt)] else []) = acc0 at hbe2 hG2 hacc1 ⊢
        rw [hbe2]
        refine go0 ?_
        refine runs_xcut (.exit 0) (fun e2 m2 => ∃ gr2 E, GrowsA m gr2 m2 ∧ m2.var m.vars.length = some R.row ∧ e2 = (1, AV.v (.int .i64 (n : Int))) :: (2, .ptr m.vars.length 0) :: (5, .lst gr2 3 (rowsEvt (acc0 ++ ([2, 3] : List Int).flatMap (fun kind => if bg = true then turnsEv R (i : Int) (n : Int) kind else [])))) :: E) ?_ ?_
        · refine runs_loop (fun k e m' => ∃ (q : Nat) (gr : Grow), q ≤ 2 ∧ GrowsA m gr m' ∧ m'.var m.vars.length = some R.row ∧ k = 2 - q ∧
            e = [(1, AV.v (.int .i64 (n : Int))), (2, .ptr m.vars.length 0), (5, .lst gr 3 (rowsEvt (acc0 ++ (([2, 3] : List Int).take q).flatMap (fun kind => if bg = true then turnsEv R (i : Int) (n : Int) kind else [])))), (6, .v (.int .i64 (i : Int))), (7, .v (.bool bg)), (8, .v (.int .i64 ((q + 2 : Nat) : Int)))]) (k := 2) ⟨0, _, by decide, hG2, hv2, rfl, by rw [List.take_zero, List.flatMap_nil, List.append_nil]; rfl⟩ ?_
          rintro k e m' ⟨q, gr, hq0, hG, hw, rfl, rfl⟩
          refine go0 ?_
          refine runs_cond rfl (fun hc => ?_) (fun hc => ?_)
          · have hq1 : q < 2 := by have := of_decide_eq_true hc; omega
            have hkind : (([2, 3] : List Int).getD q 0) = ((q + 2 : Nat) : Int) := by
              match q, hq1 with
              | 0, _ => rfl
              | 1, _ => rfl
            have hN : (([2, 3] : List Int).take (q + 1)).flatMap (fun kind => if bg = true then turnsEv R (i : Int) (n : Int) kind else []) = (([2, 3] : List Int).take q).flatMap (fun kind => if bg = true then turnsEv R (i : Int) (n : Int) kind else []) ++ (if bg = true then turnsEv R (i : Int) (n : Int) ((q + 2 : Nat) : Int) else []) := by
              rw [take_next (d := 0) hq1, List.flatMap_append, hkind]
              simp
            have hB := take_len (f := fun kind => if bg = true then turnsEv R (i : Int) (n : Int) kind else []) (l := ([2, 3] : List Int)) (fun kind _ => hkl2 kind) hq0
            have r6 := next_i64 (i := q + 2) (by omega)
            have hk := hkd ((q + 2 : Nat) : Int)
            have hkl3 := hkl ((q + 2 : Nat) : Int)
            generalize (([2, 3] : List Int).take q).flatMap (fun kind => if bg = true then turnsEv R (i : Int) (n : Int) kind else []) = accq at hG hN hB ⊢
            refine go0 ?_
            cases bg with
            | false =>
              rw [if_neg (by decide), List.append_nil] at hN
              refine runs_loop (fun k e m2 => m' = m2 ∧ k = 0 ∧
                e = [(1, AV.v (.int .i64 (n : Int))), (2, .ptr m.vars.length 0), (5, .lst gr 3 (rowsEvt (acc0 ++ accq))), (6, .v (.int .i64 (i : Int))), (7, .v (.bool false)), (8, .v (.int .i64 ((q + 2 : Nat) : Int))), (9, .v (.int .i64 0))]) (k := 0) ⟨rfl, rfl, rfl⟩ ?_
              rintro k e m2' ⟨rfl, rfl, rfl⟩
              have y1 := lpRcGroups hw
              cases q1 : decide ((0 : Int) < (R.groups.length : Int)) with
              | true =>
                refine go1 (jn @y1 @q1) ?_
                refine runs_cond rfl (fun hc => by cases hc) (fun hc => ?_)
                refine go1 @r6 ?_
                exact ⟨2 - (q + 1), by omega, q + 1, _, hq1, hG, hw, rfl, by rw [hN]⟩
              | false =>
                refine go1 (jn @y1 @q1) ?_
                refine runs_cond rfl (fun hc => by cases hc) (fun hc => ?_)
                refine go1 @r6 ?_
                exact ⟨2 - (q + 1), by omega, q + 1, _, hq1, hG, hw, rfl, by rw [hN]⟩
            | true =>
              rw [if_pos rfl] at hN
              generalize ((q + 2 : Nat) : Int) = kind at hN hk hkl3 r6 ⊢
              refine runs_loop (fun k e m' => ∃ (g : Nat) (gr : Grow), g ≤ R.groups.length ∧ GrowsA m gr m' ∧ m'.var m.vars.length = some R.row ∧ k = R.groups.length - g ∧
                e = [(1, AV.v (.int .i64 (n : Int))), (2, .ptr m.vars.length 0), (5, .lst gr 3 (rowsEvt (acc0 ++ (accq ++ ((List.range R.groups.length).take g).flatMap (rturnEv R (i : Int) (n : Int) kind))))), (6, .v (.int .i64 (i : Int))), (7, .v (.bool true)), (8, .v (.int .i64 kind)), (9, .v (.int .i64 (g : Int)))]) (k := R.groups.length) ⟨0, _, Nat.zero_le _, hG, hw, rfl, by rw [List.take_zero, List.flatMap_nil, List.append_nil]; rfl⟩ ?_
              rintro k e m3 ⟨g, gr3, hg0, hG3, hw3, rfl, rfl⟩
              have y1 := lpRcGroups hw3
              have y0 := vrRc hw3
              by_cases hg1 : g < R.groups.length
              · have b0 : decide ((g : Int) < (R.groups.length : Int)) = true := decide_eq_true (by omega)
                have d1 := fun mm => c3 g mm hg1
                have d2 := fun mm => c4 g mm hg1
                have hN2 := range_next (f := rturnEv R (i : Int) (n : Int) kind) hg1
                have hev : rturnEv R (i : Int) (n : Int) kind g = if ((frozenAt R (i : Int)).getD g false != (frozenAt R ((i : Int) - 1)).getD g false) = true then (if ((frozenAt R (i : Int)).getD g false == (kind == 3)) = true then [⟨(n : Int), kind, (g : Int)⟩] else []) else [] := rfl
                have hB2 : (((List.range R.groups.length).take g).flatMap (rturnEv R (i : Int) (n : Int) kind)).length ≤ g * 1 := take_len (fun x _ => by unfold rturnEv; split; exact turnEv_len ..; simp) (by rw [List.length_range]; omega)
                have hG64 := hsm.2.1
                have r7 := next_i64 (i := g) (by omega)
                generalize ((List.range R.groups.length).take g).flatMap (rturnEv R (i : Int) (n : Int) kind) = acc2 at hG3 hN2 hB2 ⊢
                generalize (frozenAt R (i : Int)).getD g false = x at d1 hev
                generalize (frozenAt R ((i : Int) - 1)).getD g false = y at d2 hev
                refine go1 (jn @y1 @b0) ?_
                refine runs_cond rfl (fun hc => ?_) (fun hc => by cases hc)
                refine go0 ?_
                refine runs_ops_drawn_kept (by kernel_rfl) ?_
                refine go1 (jn @y0 (jn @t3 (jn @d1 (jn @hw1 @d2)))) ?_
                cases q1 : (x != y) with
                | false =>
                  rw [q1, if_neg (by decide)] at hev
                  rw [hev, List.append_nil] at hN2
                  refine go1 @q1 ?_
                  refine runs_cond rfl (fun hc => by cases hc) (fun hc => ?_)
                  refine go1 @r7 ?_
                  exact ⟨R.groups.length - (g + 1), by omega, g + 1, _, hg1, hG3, hw3, rfl, by rw [hN2]⟩
                | true =>
                  rw [q1, if_pos rfl] at hev
                  cases q2 : (x == (kind == 3)) with
                  | false =>
                    rw [q2, if_neg (by decide)] at hev
                    rw [hev, List.append_nil] at hN2
                    refine go1 (jn @q1 @q2) ?_
                    refine runs_cond rfl (fun hc => by cases hc) (fun hc => ?_)
                    refine go1 @r7 ?_
                    exact ⟨R.groups.length - (g + 1), by omega, g + 1, _, hg1, hG3, hw3, rfl, by rw [hN2]⟩
                  | true =>
                    rw [q2, if_pos rfl] at hev
                    rw [hev] at hN2
                    obtain ⟨g4, m4, a1, hG4, hV4⟩ := app_evt (g2 := .full) hG3 (acc0 ++ (accq ++ acc2)) (n : Int) kind (g : Int) (by simp only [List.length_append]; omega)
                    refine go1 (jn @q1 @q2) ?_
                    refine runs_cond rfl (fun hc => ?_) (fun hc => by cases hc)
                    refine go1 (jn @a1 @r7) ?_
                    exact ⟨R.groups.length - (g + 1), by omega, g + 1, _, hg1, hG4, by rw [hV4]; exact hw3, rfl, by rw [hN2]; simp only [List.append_assoc]⟩
              · have hg2 : g = R.groups.length := by omega
                subst hg2
                have b0 : decide ((R.groups.length : Int) < (R.groups.length : Int)) = false := decide_eq_false (by omega)
                rw [List.take_of_length_le (by rw [List.length_range]; omega), ← hk, ← hN]
                refine go1 (jn @y1 @b0) ?_
                refine runs_cond rfl (fun hc => by cases hc) (fun hc => ?_)
                refine go1 @r6 ?_
                exact ⟨2 - (q + 1), by omega, q + 1, _, hq1, hG3, hw3, rfl, rfl⟩
          · have hq1 : q = 2 := by have := of_decide_eq_false hc; omega
            subst hq1
            refine go0 ?_
            exact ⟨rfl, _, _, hG, hw, rfl⟩
        rintro e3 m3 ⟨gr3, E3, hG3, hv3, rfl⟩
        have hacc2 : (acc0 ++ ([2, 3] : List Int).flatMap (fun kind => if bg = true then turnsEv R (i : Int) (n : Int) kind else [])).length ≤ 200 := by rw [← hbe2]; exact hbl
        generalize acc0 ++ ([2, 3] : List Int).flatMap (fun kind => if bg = true then turnsEv R (i : Int) (n : Int) kind else []) = acc at hG3 hacc2 ⊢
        have l3 := vrRc hv3
        have c6 := fun mm => c5 n mm (Nat.le_refl _)
        refine go1 (jn @l3 (jn @t4 @c6)) ?_
        refine runs_icut (fun e2 m2 => ∃ gr2 E, GrowsA m gr2 m2 ∧ m2.var m.vars.length = some R.row ∧ e2 = (1, AV.v (.int .i64 (n : Int))) :: (2, .ptr m.vars.length 0) :: (5, .lst gr2 3 (rowsEvt (acc ++ swaEv R (n : Int)))) :: E) ?_ ?_
        · refine runs_cond rfl (fun hc => ?_) (fun hc => ?_)
          · refine go0 ?_
            refine runs_loop (fun k e m' => ∃ (s : Nat), s ≤ n ∧ m3 = m' ∧ k = n - s ∧
              e = [(1, AV.v (.int .i64 (n : Int))), (2, .ptr m.vars.length 0), (5, .lst gr3 3 (rowsEvt acc)), (12, .v (.int .i64 ((cs s : Nat) : Int))), (13, .v (.int .i64 (s : Int)))]) (k := n) ⟨0, Nat.zero_le _, rfl, rfl, by rw [hc0]; rfl⟩ ?_
            rintro k e m' ⟨s, hs0, rfl, rfl, rfl⟩
            refine go0 ?_
            refine runs_cond rfl (fun hc2 => ?_) (fun hc2 => ?_)
            · have hs1 : s < n := by have := of_decide_eq_true hc2; omega
              have c7 := fun mm => c5 s mm (by omega)
              have hN := hcn s
              have hle := hcl s
              have r6 := next_i64 (i := s) (by omega)
              have r7 := next_i64 (i := cs s) (by omega)
              cases hq : sis (s : Int) with
              | true =>
                rw [hq] at c7
                rw [hq, if_pos rfl] at hN
                refine go1 (jn @l3 (jn @t4 @c7)) ?_
                refine runs_cond rfl (fun hc => ?_) (fun hc => by cases hc)
                refine go1 (jn @r6 @r7) ?_
                exact ⟨n - (s + 1), by omega, s + 1, hs1, rfl, rfl, by rw [hN]⟩
              | false =>
                rw [hq] at c7
                rw [hq, if_neg (by decide), Nat.add_zero] at hN
                refine go1 (jn @l3 (jn @t4 @c7)) ?_
                refine runs_cond rfl (fun hc => by cases hc) (fun hc => ?_)
                refine go1 @r6 ?_
                exact ⟨n - (s + 1), by omega, s + 1, hs1, rfl, rfl, by rw [hN]; rfl⟩
            · have hs1 : s = n := by have := of_decide_eq_false hc2; omega
              subst hs1
              rw [hsw, if_pos hc, hct hc]
              obtain ⟨g4, m4, a1, hG4, hV4⟩ := app_evt (g2 := .full) hG3 acc (s : Int) 4 (((s : Int) - R.swaSteps.1).tdiv R.swaEvery) (by omega)
              refine go1 @a1 ?_
              exact ⟨rfl, _, _, hG4, by rw [hV4]; exact hv3, rfl⟩
          · rw [hsw, if_neg (by rw [hc]; decide), List.append_nil]
            refine go0 ?_
            exact ⟨rfl, _, _, hG3, hv3, rfl⟩
        rintro e4 m4 ⟨gr4, E4, hG4, hv4, rfl⟩
        have hl2 : (acc ++ swaEv R (n : Int)).length ≤ 201 := by
          have : (swaEv R (n : Int)).length ≤ 1 := by rw [hsw]; split <;> simp
          rw [List.length_append]
          omega
        generalize acc ++ swaEv R (n : Int) = acc2 at hG4 hl2 ⊢
        have l4 := lpRcSteps hv4
        have w3 : IntKind.i64.wrap ((n : Int) + 1) = (n : Int) + 1 := i64_wrap (by omega) (by omega)
        have heq : ((n : Int) + 1 == R.steps) = ((n : Int) == R.steps - 1) := by
          rw [Bool.eq_iff_iff]
          simp only [beq_iff_eq]
          omega
        refine next_normal ?_
        refine go1 (jn @w3 (jn @l4 @heq)) ?_
        refine runs_cond rfl (fun hc => ?_) (fun hc => ?_)
        · obtain ⟨g4, m5, a1, hG5, hV4⟩ := app_evt (g2 := .full) hG4 acc2 (n : Int) 11 0 (by omega)
          rw [hen, if_pos hc]
          refine go1 @a1 ?_
          exact leaves_lst rfl rfl (growsA_fin hG5)
        · rw [hen, if_neg (by rw [hc]; decide), List.append_nil]
          refine go0 ?_
          exact leaves_lst rfl rfl (growsA_fin hG4)
      · cases h
    · cases h
  · cases h
end
noncomputable section
attribute [local irreducible] Next Inside Runs Ops table
attribute [local go_sem] szStr szInt Option.getD_some isNil evStr iv loadInt mapRc mapSp mapTab cellsTab cellsRc newRc cellsSp newSp zrTab zoTab znTab zsTab zrSp zoSp znSp zsSp ldSp rowsEvt_len rowsSp_len fpSpFrom_ fpSpTo_ fpRcSteps fpRcSwa fpRcSwaOn fpRcSwaEvery fpTabS fpTabF
def evRange (R : Rc) (a n : Nat) : List Evt := (List.range n).flatMap fun k => evAt R ((a + k : Nat) : Int)
theorem evRange_next {R : Rc} {a n : Nat} : evRange R a (n + 1) = evRange R a n ++ evAt R ((a + n : Nat) : Int) := by
  unfold evRange
  rw [List.range_succ, List.flatMap_append]
  simp
theorem evRange_len {R : Rc} (h : R.small) (a : Nat) : ∀ n, (evRange R a n).length ≤ n * 300
  | 0 => by simp [evRange]
  | n + 1 => by
    have h1 := evRange_len h a n
    have h2 := evAt_len h ((a + n : Nat) : Int)
    rw [evRange_next, List.length_append]
    omega
def spanBad (R : Rc) (s : Sp) : Bool := decide (s.from_ < 0) || (decide (s.to_ < s.from_) || (decide (s.to_ > R.steps) || decide (s.to_ - s.from_ > 10000)))
def allEv (R : Rc) (s : Sp) : List Evt := evRange R s.from_.toNat (s.to_ - s.from_).toNat
def allG : List AV → Mem → Option (AV × Mem)
  | [.agg cs, .agg cs2], m =>
    match unRc cs, unSp cs2 with
    | some R, some s => if R.fit ∧ inI s.from_ ∧ inI s.to_ then some (if R.sound = true ∧ spanBad R s = false then (.tup [.lst .no 3 (rowsEvt (allEv R s)), .v (.int .i64 0)], m) else (.tup [.lst .no 3 (rowsEvt []), .v (.int .i64 1)], m)) else none
    | _, _ => none
  | _, _ => none
theorem allG_at {R : Rc} {s : Sp} {m : Mem} (h : R.fit) (h1 : inI s.from_) (h2 : inI s.to_) : allG [.agg R.row, .agg s.row] m = some (if R.sound = true ∧ spanBad R s = false then (.tup [.lst .no 3 (rowsEvt (allEv R s)), .v (.int .i64 0)], m) else (.tup [.lst .no 3 (rowsEvt []), .v (.int .i64 1)], m)) := by
  simp only [allG, unRc_row, unSp_row]
  rw [if_pos ⟨h, h1, h2⟩]
theorem app_evts {m m' : Mem} {g g2 : Grow} (hG : GrowsA m g m') (xs ys : List Evt) (hl : xs.length + ys.length ≤ 100000000) :
    ∃ g' m'', evAppend Tryz.prog 55 55 m' (.lst g 3 (rowsEvt xs)) (.lst g2 3 (rowsEvt ys)) = some (.lst g' 3 (rowsEvt (xs ++ ys)), m'') ∧ GrowsA m g' m'' ∧ ∀ q, m''.var q = m'.var q := by
  have := app_growsV appEvt hG (y := .lst g2 3 (rowsEvt ys)) asList_lst (xs := rowsEvt xs) (by rw [rowsEvt_len, rowsEvt_len]; unfold lim; omega)
  rwa [rowsEvt_app] at this
def kpAll : Nat → Option (List Nat) := fun
  | 0 => some [2, 3]
  | 1 => some [2, 3, 6, 7]
  | 2 => some [3, 6, 43]
  | 3 => some [4, 5]
  | 4 => some [3, 6, 8]
  | 5 => some [3, 6, 8, 9]
  | 6 => some [3, 6, 8, 9, 49]
  | 7 => some [3, 6, 8, 9]
  | 8 => some [3, 6, 8, 9]
  | 9 => some [4, 5]
  | _ => none
attribute [go_sem] kpAll
def tab_all_ok : List (FuncId × (List AV → Mem → Option (AV × Mem))) := [(56, ofG), (53, atTG)]
theorem all_ok : FunOk Tryz.prog 30 allG := by
  have hC := table_ok (P := Tryz.prog) (l := tab_all_ok) (table_more of_ok (table_more atT_ok table_nil))
  have t1 := fun args mm => table_at (l := tab_all_ok) (f := 56) (args := args) (m := mm) rfl
  have t2 := fun args mm => table_at (l := tab_all_ok) (f := 53) (args := args) (m := mm) rfl
  refine fun_ok mixed hC Tryz.func30 rfl kpAll false rfl fun args m r h => ?_
  unfold allG at h
  split at h
  · rename_i cs cs2
    split at h
    · rename_i R s hR hS
      obtain rfl := unRc_some hR
      obtain rfl := unSp_some hS
      split at h
      · rename_i hyp
        obtain ⟨hfit, hi1, hi2⟩ := hyp
        simp only [Option.some.injEq] at h
        subst h
        refine ⟨Nat.le_of_ble_eq_true rfl, ?_⟩
        refine en ?_
        have hG0 : GrowsA m .full ((m.push R.row).push s.row) := growsA_push (growsA_push growsA_full)
        have hA := above_push (cs := s.row) (above_push (cs := R.row) (above_self m))
        have hv : ((m.push R.row).push s.row).var m.vars.length = some R.row := push_old push_var
        have hw : ((m.push R.row).push s.row).var (m.push R.row).vars.length = some s.row := push_var
        refine go0 ?_
        generalize (m.push R.row).push s.row = m1 at hG0 hA hv hw ⊢
        generalize (m.push R.row).vars.length = q at hw ⊢
        have l0 := vrRc hv
        cases hs : R.sound with
        | false =>
          have c1 := fun mm => ofG_no (m := mm) hfit hs
          rw [show tab0 = tabRow rc0 [] 0 from rfl] at c1
          have hA2 := above_push (cs := tabRow rc0 [] 0) hA
          have z0 : ((1 : Int) != 0) = true := rfl
          rw [if_neg (fun h => by cases h.1)]
          refine go1 (jn @l0 (jn @t1 (jn @c1 @z0))) ?_
          refine runs_cond rfl (fun hc => ?_) (fun hc => by cases hc)
          refine go0 ?_
          exact leaves_two rfl rfl rfl (above_fin hA2)
        | true =>
          have c1 := fun mm => ofG_at (m := mm) hfit hs
          have hA2 := above_push (cs := tabRow R R.spans R.swaSteps.1) hA
          have hG2 := growsA_push (cs := tabRow R R.spans R.swaSteps.1) hG0
          have hv2 := push_old (cs' := tabRow R R.spans R.swaSteps.1) hv
          have hw2 := push_old (cs' := tabRow R R.spans R.swaSteps.1) hw
          have hT : (m1.push (tabRow R R.spans R.swaSteps.1)).var m1.vars.length = some (tabRow R R.spans R.swaSteps.1) := push_var
          have z0 : ((0 : Int) != 0) = false := rfl
          have y1 := lpSpFrom_ hw2
          have y2 := lpSpTo_ hw2
          have y3 := lpRcSteps hv2
          have hst := (sound_ok' hs).steps
          have hsm := Rc.may_small (sound_may hs)
          unfold inI at hi1 hi2
          have zs : evStore Tryz.prog (m1.push zeroTab) 90 (.ptr m1.vars.length 0) (.agg (tabRow R R.spans R.swaSteps.1)) = some (m1.push (tabRow R R.spans R.swaSteps.1)) := zsTab
          generalize m1.push (tabRow R R.spans R.swaSteps.1) = m2 at hA2 hG2 hv2 hw2 hT y1 y2 y3 zs
          refine go1 (jn @l0 (jn @t1 (jn @c1 (jn @zs @z0)))) ?_
          generalize m1.vars.length = n6 at hT ⊢
          have bad : ∀ e, spanBad R s = true → Leaves Tryz.prog false Tryz.f30 m (if true = true ∧ spanBad R s = false then (.tup [.lst .no 3 (rowsEvt (allEv R s)), .v (.int .i64 0)], m) else (.tup [.lst .no 3 (rowsEvt []), .v (.int .i64 1)], m)) .ret ((4, .lst .full 3 []) :: (5, .v (.int .i64 1)) :: e) m2 := fun e hb => by
            rw [if_neg (fun h => by rw [hb] at h; cases h.2)]
            exact leaves_two rfl rfl rfl (above_fin hA2)
          have hbd : spanBad R s = (decide (s.from_ < 0) || (decide (s.to_ < s.from_) || (decide (s.to_ > R.steps) || decide (s.to_ - s.from_ > 10000)))) := rfl
          cases q1 : decide (s.from_ < 0) with
          | true =>
            refine go1 (jn @y1 @q1) ?_
            refine runs_cond rfl (fun hc => ?_) (fun hc => by cases hc)
            refine go0 ?_
            exact bad _ (by rw [hbd, q1]; rfl)
          | false =>
            cases q2 : decide (s.to_ < s.from_) with
            | true =>
              refine go1 (jn @y1 (jn @q1 (jn @y2 @q2))) ?_
              refine runs_cond rfl (fun hc => ?_) (fun hc => by cases hc)
              refine go0 ?_
              exact bad _ (by rw [hbd, q1, q2]; rfl)
            | false =>
              cases q3 : decide (s.to_ > R.steps) with
              | true =>
                refine go1 (jn @y1 (jn @q1 (jn @y2 (jn @q2 (jn @y3 @q3))))) ?_
                refine runs_cond rfl (fun hc => ?_) (fun hc => by cases hc)
                refine go0 ?_
                exact bad _ (by rw [hbd, q1, q2, q3]; rfl)
              | false =>
                have g1 := of_decide_eq_false q1
                have g2 := of_decide_eq_false q2
                have g3 := of_decide_eq_false q3
                have w1 : IntKind.i64.wrap (s.to_ - s.from_) = s.to_ - s.from_ := i64_wrap (by omega) (by omega)
                cases q4 : decide (s.to_ - s.from_ > 10000) with
                | true =>
                  refine go1 (jn @y1 (jn @q1 (jn @y2 (jn @q2 (jn @y3 (jn @q3 (jn @w1 @q4))))))) ?_
                  refine runs_cond rfl (fun hc => ?_) (fun hc => by cases hc)
                  refine go0 ?_
                  exact bad _ (by rw [hbd, q1, q2, q3, q4]; rfl)
                | false =>
                  have g4 := of_decide_eq_false q4
                  rw [if_pos ⟨rfl, by rw [hbd, q1, q2, q3, q4]; rfl⟩]
                  unfold allEv
                  obtain ⟨a, ha⟩ := Int.eq_ofNat_of_zero_le (show 0 ≤ s.from_ by omega)
                  obtain ⟨n, hn⟩ := Int.eq_ofNat_of_zero_le (show 0 ≤ s.to_ - s.from_ by omega)
                  rw [ha] at y1
                  rw [ha, Int.toNat_natCast, ← ha, hn, Int.toNat_natCast]
                  rw [← ha] at y1
                  refine go1 (jn @y1 (jn @q1 (jn @y2 (jn @q2 (jn @y3 (jn @q3 (jn @w1 @q4))))))) ?_
                  refine runs_cond rfl (fun hc => by cases hc) (fun hc => ?_)
                  refine go1 @y1 ?_
                  refine runs_loop (fun k e m' => ∃ (i : Nat) (gr : Grow), i ≤ n ∧ GrowsA m gr m' ∧ m'.var q = some s.row ∧ m'.var n6 = some (tabRow R R.spans R.swaSteps.1) ∧ k = n - i ∧
                    e = [(3, AV.ptr q 0), (6, .ptr n6 0), (8, .lst gr 3 (rowsEvt (evRange R a i))), (9, .v (.int .i64 ((a + i : Nat) : Int)))]) (k := n) ⟨0, _, Nat.zero_le _, hG2, hw2, hT, rfl, by rw [ha]; rfl⟩ ?_
                  rintro k e m' ⟨i, gr, hi0, hG, hw3, hT3, rfl, rfl⟩
                  have x2 := lpSpTo_ hw3
                  refine go1 @x2 ?_
                  refine runs_cond rfl (fun hc => ?_) (fun hc => ?_)
                  · have hi1 : i < n := by have := of_decide_eq_true hc; omega
                    have x3 := vrTab hT3
                    have c2 := fun mm => atTG_at (R := R) (step := ((a + i : Nat) : Int)) (m := mm) hs (by omega) (by omega)
                    have hN := @evRange_next R a i
                    have hl1 := evRange_len hsm a i
                    have hl2 := evAt_len hsm ((a + i : Nat) : Int)
                    have r6 := next_i64 (i := a + i) (by omega)
                    generalize evRange R a i = acc at hG hN hl1
                    generalize evAt R ((a + i : Nat) : Int) = ev at c2 hN hl2
                    obtain ⟨g3, m3, a1, hG3, hV3⟩ := app_evts (g2 := .no) hG acc ev (by omega)
                    rw [← hN] at a1
                    refine go1 (jn @x3 (jn @t2 (jn @c2 (jn @a1 @r6)))) ?_
                    exact ⟨n - (i + 1), by omega, i + 1, _, hi1, hG3, by rw [hV3]; exact hw3, by rw [hV3]; exact hT3, rfl, rfl⟩
                  · have hi1 : i = n := by have := of_decide_eq_false hc; omega
                    subst hi1
                    refine go0 ?_
                    exact leaves_two rfl rfl rfl (growsA_fin hG)
      · cases h
    · cases h
  · cases h
end
noncomputable section
attribute [local irreducible] Next Inside Runs Ops table
attribute [local go_sem] szStr szInt Option.getD_some isNil evStr iv loadInt mapRc mapTab cellsTab cellsRc newRc cellsSp zrTab zoTab znTab zsTab zrSp zoSp znSp zsSp ldSp rowsEvt_len rowsSp_len fpSpFrom_ fpSpTo_ fpRcSteps fpRcSwa fpRcSwaOn fpRcSwaEvery fpTabS fpTabF
def cntPh (R : Rc) : Nat → Nat
  | 0 => 0
  | i + 1 => cntPh R i + (beginsAt R (i : Int) (R.at_ i)).length
theorem cntPh_le {R : Rc} (h : R.small) : ∀ i, cntPh R i ≤ i * 200
  | 0 => Nat.le_refl _
  | i + 1 => by
    have h1 := cntPh_le h i
    have h2 := beginsAt_len h (i : Int) (R.at_ i)
    rw [cntPh]
    omega
def cntSw (R : Rc) : Int := if (R.swaOn && decide (R.swaSteps.1 < R.steps)) = true then (R.steps - 1 - R.swaSteps.1).tdiv R.swaEvery + 1 else 0
def countEv (R : Rc) : Int := 1 + (cntPh R R.phases.length : Int) + cntSw R
def countG : List AV → Mem → Option (AV × Mem)
  | [.agg cs], m =>
    match unRc cs with
    | some R => if R.fit then some (if R.sound = true then (.tup [.v (.int .i64 (countEv R)), .v (.int .i64 0)], m) else (.tup [.v (.int .i64 0), .v (.int .i64 1)], m)) else none
    | none => none
  | _, _ => none
theorem countG_at {R : Rc} {m : Mem} (h : R.fit) : countG [.agg R.row] m = some (if R.sound = true then (.tup [.v (.int .i64 (countEv R)), .v (.int .i64 0)], m) else (.tup [.v (.int .i64 0), .v (.int .i64 1)], m)) := by
  simp only [countG, unRc_row]
  rw [if_pos h]
def kpCount : Nat → Option (List Nat) := fun
  | 0 => some [1]
  | 1 => some [1, 4, 5]
  | 2 => some [1, 4, 5, 15]
  | 3 => some [2, 3]
  | 4 => some [1, 4, 6]
  | 5 => some [1, 4, 6, 18, 19, 20]
  | 6 => some [1, 4, 6, 18, 19, 20, 21]
  | 7 => some [1, 4, 6, 7, 8, 18, 19, 20]
  | 8 => some [1, 4, 6, 18, 19, 20]
  | 9 => some [1, 4, 6, 18, 19, 20]
  | 10 => some [1, 4, 6, 43]
  | 11 => some [6]
  | 12 => some [2, 3]
  | _ => none
attribute [go_sem] kpCount
def tab_countT_ok : List (FuncId × (List AV → Mem → Option (AV × Mem))) := [(56, ofG), (57, (beginsG false))]
theorem countT_ok : FunOk Tryz.prog 31 countG := by
  have hC := table_ok (P := Tryz.prog) (l := tab_countT_ok) (table_more of_ok (table_more (begins_ok false) table_nil))
  have t1 := fun args mm => table_at (l := tab_countT_ok) (f := 56) (args := args) (m := mm) rfl
  have t2 := fun args mm => table_at (l := tab_countT_ok) (f := 57) (args := args) (m := mm) rfl
  refine fun_ok mixed hC Tryz.func31 rfl kpCount false rfl fun args m r h => ?_
  unfold countG at h
  split at h
  · rename_i cs
    split at h
    · rename_i R hR
      obtain rfl := unRc_some hR
      split at h
      · rename_i hfit
        simp only [Option.some.injEq] at h
        subst h
        refine ⟨Nat.le_of_ble_eq_true rfl, ?_⟩
        refine en ?_
        have hA := above_push (cs := R.row) (above_self m)
        have hv : (m.push R.row).var m.vars.length = some R.row := push_var
        refine go0 ?_
        generalize m.push R.row = m1 at hA hv ⊢
        have l0 := vrRc hv
        cases hs : R.sound with
        | false =>
          have c1 := fun mm => ofG_no (m := mm) hfit hs
          rw [show tab0 = tabRow rc0 [] 0 from rfl] at c1
          have hA2 := above_push (cs := tabRow rc0 [] 0) hA
          have z0 : ((1 : Int) != 0) = true := rfl
          rw [if_neg (by decide)]
          refine go1 (jn @l0 (jn @t1 (jn @c1 @z0))) ?_
          refine runs_cond rfl (fun hc => ?_) (fun hc => by cases hc)
          refine go0 ?_
          exact leaves_two rfl rfl rfl (above_fin hA2)
        | true =>
          have c1 := fun mm => ofG_at (m := mm) hfit hs
          have hA2 := above_push (cs := tabRow R R.spans R.swaSteps.1) hA
          have hv2 := push_old (cs' := tabRow R R.spans R.swaSteps.1) hv
          have hT : (m1.push (tabRow R R.spans R.swaSteps.1)).var m1.vars.length = some (tabRow R R.spans R.swaSteps.1) := push_var
          have z0 : ((0 : Int) != 0) = false := rfl
          have ok := sound_ok' hs
          have hst := ok.steps
          have hsm := Rc.may_small ok.may
          have hP64 := hsm.2.2.1
          have hnum := Rc.may_num ok.may
          have hev := sound_every hs
          have hsf := @sound_from R
          rw [if_pos rfl]
          have zs : evStore Tryz.prog (m1.push zeroTab) 90 (.ptr m1.vars.length 0) (.agg (tabRow R R.spans R.swaSteps.1)) = some (m1.push (tabRow R R.spans R.swaSteps.1)) := zsTab
          generalize m1.push (tabRow R R.spans R.swaSteps.1) = m2 at hA2 hv2 hT zs
          have x1 := lpTabS hT
          have hlen : R.spans.length = R.phases.length := spansTo_len
          refine go1 (jn @l0 (jn @t1 (jn @c1 (jn @zs @z0)))) ?_
          refine runs_cond rfl (fun hc => by cases hc) (fun hc => ?_)
          refine go1 @x1 ?_
          generalize m1.vars.length = n4 at hT ⊢
          refine runs_loop (fun k e m' => ∃ (i : Nat), i ≤ R.phases.length ∧ Above m m' ∧ m'.var m.vars.length = some R.row ∧ m'.var n4 = some (tabRow R R.spans R.swaSteps.1) ∧ k = R.phases.length - i ∧
            e = [(1, AV.ptr m.vars.length 0), (4, .ptr n4 0), (6, .v (.int .i64 ((1 + cntPh R i : Nat) : Int))), (18, .lst .no 2 (rowsSp R.spans)), (19, .v (.int .i64 (R.spans.length : Int))), (20, .v (.int .i64 (i : Int)))]) (k := R.phases.length) ⟨0, Nat.zero_le _, hA2, hv2, hT, rfl, rfl⟩ ?_
          rintro k e m' ⟨i, hi0, hA3, hv3, hT3, rfl, rfl⟩
          refine go0 ?_
          refine runs_cond rfl (fun hc => ?_) (fun hc => ?_)
          · have hi1 : i < R.phases.length := by have := of_decide_eq_true hc; omega
            have f1 := atSp (g := .no) (kk := .i64) (l := R.spans) (i := i) (by omega)
            rw [show R.spans.getD i sp0 = ⟨R.at_ i, R.at_ (i + 1)⟩ from spansTo_get hi1] at f1
            have hA4 := above_push (cs := (⟨R.at_ i, R.at_ (i + 1)⟩ : Sp).row) hA3
            have hv4 := push_old (cs' := (⟨R.at_ i, R.at_ (i + 1)⟩ : Sp).row) hv3
            have hT4 := push_old (cs' := (⟨R.at_ i, R.at_ (i + 1)⟩ : Sp).row) hT3
            have hs4 : (m'.push (⟨R.at_ i, R.at_ (i + 1)⟩ : Sp).row).var m'.vars.length = some (⟨R.at_ i, R.at_ (i + 1)⟩ : Sp).row := push_var
            have y1 := lpSpFrom_ hs4
            have y2 := vrTab hT4
            have c2 := fun mm => beginsG_at (R := R) (l := R.spans) (f := R.swaSteps.1) (p := (i : Int)) (step := R.at_ i) (m := mm) (gr := false) hsm (by omega) (by omega)
            have hN : cntPh R (i + 1) = cntPh R i + (beginsAt R (i : Int) (R.at_ i)).length := rfl
            have hle := cntPh_le hsm i
            have hbl := beginsAt_len hsm (i : Int) (R.at_ i)
            have r6 := next_i64 (i := i) (by omega)
            have e0 : (if false = true then (AV.lst (.tok m.toks.length 0) 3 (rowsEvt (beginsAt R (i : Int) (R.at_ i))), m) else (.lst .no 3 (rowsEvt (beginsAt R (i : Int) (R.at_ i))), m)) = (.lst .no 3 (rowsEvt (beginsAt R (i : Int) (R.at_ i))), m) := rfl
            have c2' : ∀ mm, beginsG false [.agg (tabRow R R.spans R.swaSteps.1), .v (.int .i64 (i : Int)), .v (.int .i64 (R.at_ i))] mm = some (.lst .no 3 (rowsEvt (beginsAt R (i : Int) (R.at_ i))), mm) := fun mm => c2 mm
            generalize beginsAt R (i : Int) (R.at_ i) = ev at c2' hN hbl
            have r7 : IntKind.i64.wrap (((1 + cntPh R i : Nat) : Int) + (ev.length : Int)) = ((1 + cntPh R (i + 1) : Nat) : Int) := by rw [hN, i64_wrap (by omega) (by omega)]; omega
            refine go1 (jn @f1 (jn @y1 (jn @y2 (jn @t2 (jn @c2' (jn @r7 @r6)))))) ?_
            exact ⟨R.phases.length - (i + 1), by omega, i + 1, hi1, hA4, hv4, hT4, rfl, rfl⟩
          · have hi1 : i = R.phases.length := by have := of_decide_eq_false hc; omega
            subst hi1
            have y1 := lpRcSwaOn hv3
            have y2 := lpTabF hT3
            have y3 := lpRcSteps hv3
            have y4 := lpRcSwaEvery hv3
            have hle := cntPh_le hsm R.phases.length
            have hcs : cntSw R = if (R.swaOn && decide (R.swaSteps.1 < R.steps)) = true then (R.steps - 1 - R.swaSteps.1).tdiv R.swaEvery + 1 else 0 := rfl
            unfold countEv
            have done : cntSw R = 0 → ∀ e, Ev.get e 2 = .v (.int .i64 ((1 + cntPh R R.phases.length : Nat) : Int)) → Ev.get e 3 = .v (.int .i64 0) → Leaves Tryz.prog false Tryz.f31 m (.tup [.v (.int .i64 (1 + (cntPh R R.phases.length : Int) + cntSw R)), .v (.int .i64 0)], m) .ret e m' := fun hz e h1 h2 => by
              rw [hz, show (1 + (cntPh R R.phases.length : Int) + 0) = ((1 + cntPh R R.phases.length : Nat) : Int) by omega]
              exact leaves_two rfl (by rw [h1]; rfl) (by rw [h2]; rfl) (above_fin hA3)
            refine go0 ?_
            cases q0 : R.swaOn with
            | false =>
              rw [q0, Bool.false_and, if_neg (by decide)] at hcs
              refine go1 (jn @y1 @q0) ?_
              refine runs_cond rfl (fun hc => by cases hc) (fun hc => ?_)
              refine go0 ?_
              exact done hcs _ rfl rfl
            | true =>
              rw [q0, Bool.true_and] at hcs
              cases q1 : decide (R.swaSteps.1 < R.steps) with
              | false =>
                rw [q1, if_neg (by decide)] at hcs
                refine go1 (jn @y1 (jn @q0 (jn @y2 (jn @y3 @q1)))) ?_
                refine runs_cond rfl (fun hc => by cases hc) (fun hc => ?_)
                refine go0 ?_
                exact done hcs _ rfl rfl
              | true =>
                rw [q1, if_pos rfl] at hcs
                have g1 := of_decide_eq_true q1
                have hpos := hev q0
                have hne : R.swaEvery ≠ 0 := by omega
                have w1 : IntKind.i64.wrap (R.steps - 1) = R.steps - 1 := i64_wrap (by omega) (by omega)
                have w2 : IntKind.i64.wrap (R.steps - 1 - R.swaSteps.1) = R.steps - 1 - R.swaSteps.1 := i64_wrap (by omega) (by omega)
                have hd0 : 0 ≤ (R.steps - 1 - R.swaSteps.1).tdiv R.swaEvery := Int.tdiv_nonneg (by omega) (by omega)
                have hd1 : (R.steps - 1 - R.swaSteps.1).tdiv R.swaEvery ≤ R.steps - 1 - R.swaSteps.1 := by
                  rw [Int.tdiv_eq_ediv_of_nonneg (by omega)]
                  exact Int.ediv_le_self _ (by omega)
                rw [hcs]
                have w3 : IntKind.i64.wrap ((R.steps - 1 - R.swaSteps.1).tdiv R.swaEvery) = (R.steps - 1 - R.swaSteps.1).tdiv R.swaEvery := i64_wrap (by omega) (by omega)
                have w4 : IntKind.i64.wrap ((R.steps - 1 - R.swaSteps.1).tdiv R.swaEvery + 1) = (R.steps - 1 - R.swaSteps.1).tdiv R.swaEvery + 1 := i64_wrap (by omega) (by omega)
                have w5 : IntKind.i64.wrap (((1 + cntPh R R.phases.length : Nat) : Int) + ((R.steps - 1 - R.swaSteps.1).tdiv R.swaEvery + 1)) = 1 + (cntPh R R.phases.length : Int) + ((R.steps - 1 - R.swaSteps.1).tdiv R.swaEvery + 1) := by rw [i64_wrap (by omega) (by omega)]; omega
                refine go1 (jn @y1 (jn @q0 (jn @y2 (jn @y3 @q1)))) ?_
                refine runs_cond rfl (fun hc => ?_) (fun hc => by cases hc)
                refine go1 (jn @y3 (jn @w1 (jn @y2 (jn @w2 (jn @y4 (jn @hne (jn @w3 (jn @w4 @w5)))))))) ?_
                exact leaves_two rfl rfl rfl (above_fin hA3)
      · cases h
    · cases h
  · cases h
end
section
attribute [local irreducible] Next Inside Runs Ops table
def sumE (f : Nat → List Evt) : Nat → Nat
  | 0 => 0
  | n + 1 => sumE f n + (f n).length
theorem sumE_add {f g : Nat → List Evt} : ∀ n, sumE (fun s => f s ++ g s) n = sumE f n + sumE g n
  | 0 => rfl
  | n + 1 => by
    show sumE (fun s => f s ++ g s) n + (f n ++ g n).length = (sumE f n + (f n).length) + (sumE g n + (g n).length)
    rw [sumE_add n, List.length_append]
    omega
theorem span_is {R : Rc} (ok : R.Ok) {k : Nat} {s : Int} (hk : k < R.phases.length) (h1 : R.at_ k ≤ s) (h2 : s < R.at_ (k + 1)) : spanIdx R s = (k : Int) := by
  have h0 := at_mono ok.grow k (by omega)
  have hl := at_le ok.grow (j := R.phases.length) (Nat.le_refl _) (k + 1) (by omega)
  rw [ok.last] at hl
  obtain ⟨i, hi, h3, h4, h5⟩ := span_at ok (step := s) (by omega) (by omega)
  by_cases hik : i < k
  · have := at_le ok.grow (j := k) (by omega) (i + 1) (by omega)
    omega
  · by_cases hki : k < i
    · have := at_le ok.grow (j := i) (by omega) (k + 1) (by omega)
      omega
    · rw [h5, show i = k by omega]
theorem beginEv_at {R : Rc} (ok : R.Ok) {k : Nat} {s : Int} (hk : k < R.phases.length) (h1 : R.at_ k ≤ s) (h2 : s < R.at_ (k + 1)) : beginEv R s = if (R.at_ k == s) = true then beginsAt R (k : Int) s else [] := by
  unfold beginEv
  rw [span_is ok hk h1 h2, Int.toNat_natCast, show R.spans.getD k sp0 = ⟨R.at_ k, R.at_ (k + 1)⟩ from spansTo_get hk]
def bSum (R : Rc) (n : Nat) : Nat := sumE (fun s => beginEv R (s : Int)) n
theorem bSum_in {R : Rc} (ok : R.Ok) {k a : Nat} (hk : k < R.phases.length) (ha : R.at_ k = (a : Int)) (h0 : bSum R a = cntPh R k) : ∀ d : Nat, ((a + d : Nat) : Int) ≤ R.at_ (k + 1) → bSum R (a + d) = cntPh R k + (if d = 0 then 0 else (beginsAt R (k : Int) (R.at_ k)).length)
  | 0, _ => by rw [Nat.add_zero, h0, if_pos rfl, Nat.add_zero]
  | d + 1, h => by
    have ih := bSum_in ok hk ha h0 d (by omega)
    have e : bSum R (a + (d + 1)) = bSum R (a + d) + (beginEv R ((a + d : Nat) : Int)).length := rfl
    rw [e, ih, beginEv_at ok hk (by omega) (by omega), if_neg (Nat.succ_ne_zero d)]
    by_cases hd : d = 0
    · subst hd
      show cntPh R k + 0 + (if (R.at_ k == (a : Int)) = true then beginsAt R (k : Int) (a : Int) else []).length = _
      rw [← ha, if_pos (by simp), Nat.add_zero]
    · rw [if_neg hd, if_neg (by rw [ha]; simp only [beq_iff_eq]; omega)]
      simp
theorem bSum_at {R : Rc} (ok : R.Ok) : ∀ k : Nat, k ≤ R.phases.length → bSum R (R.at_ k).toNat = cntPh R k
  | 0, _ => rfl
  | k + 1, hk => by
    have ih := bSum_at ok k (by omega)
    have h0 := at_mono ok.grow k (by omega)
    have hg := ok.grow k (by omega)
    obtain ⟨a, ha⟩ := Int.eq_ofNat_of_zero_le h0
    rw [ha, Int.toNat_natCast] at ih
    have := bSum_in ok (by omega) ha ih ((R.at_ (k + 1)).toNat - a) (by omega)
    rw [show a + ((R.at_ (k + 1)).toNat - a) = (R.at_ (k + 1)).toNat by omega, if_neg (by omega)] at this
    rw [this]
    rfl
theorem sSum {R : Rc} : ∀ n, sumE (fun s => swaEv R (s : Int)) n = cntSwa R R.swaSteps.1 n
  | 0 => rfl
  | n + 1 => by
    show sumE (fun s => swaEv R (s : Int)) n + (swaEv R (n : Int)).length = cntSwa R R.swaSteps.1 n + _
    rw [sSum n]
    unfold swaEv
    split <;> rfl
theorem sSum_all {R : Rc} (hs : R.sound = true) : ((cntSwa R R.swaSteps.1 R.steps.toNat : Nat) : Int) = cntSw R := by
  have hst := (sound_ok' hs).steps
  have hf := @sound_from R
  unfold cntSw
  cases ho : R.swaOn with
  | false =>
    rw [Bool.false_and, if_neg (by decide)]
    have : ∀ n, cntSwa R R.swaSteps.1 n = 0 := fun n => by
      induction n with
      | zero => rfl
      | succ n ih =>
        rw [cntSwa, ih, if_neg]
        unfold swaIs
        rw [ho, Bool.false_and]
        decide
    rw [this]
    rfl
  | true =>
    have hev := sound_every hs ho
    obtain ⟨f, hf'⟩ := Int.eq_ofNat_of_zero_le hf.1
    obtain ⟨e, he⟩ := Int.eq_ofNat_of_zero_le (show 0 ≤ R.swaEvery by omega)
    obtain ⟨n, hn⟩ := Int.eq_ofNat_of_zero_le (show 0 ≤ R.steps by omega)
    rw [hf', cntSwa_is ho he (by omega), Bool.true_and, he, hn, Int.toNat_natCast]
    by_cases hlt : f < n
    · rw [if_pos (decide_eq_true (by omega)), show ((n : Int) - 1 - (f : Int)) = ((n - 1 - f : Nat) : Int) by omega, Int.tdiv_eq_ediv_of_nonneg (by omega)]
      rw [show n - f + (e - 1) = (n - 1 - f) + e by omega, Nat.add_div_right _ (by omega)]
      rfl
    · rw [if_neg (by simp only [decide_eq_true_eq]; omega), show n - f = 0 by omega, Nat.zero_add, Nat.div_eq_of_lt (by omega)]
      rfl
theorem eSum {R : Rc} {n : Nat} (hn : R.steps = (n : Int)) : ∀ i, i ≤ n → sumE (fun s => endEv R (s : Int)) i = if i = n ∧ 0 < n then 1 else 0
  | 0, _ => by
    rw [if_neg (by omega)]
    rfl
  | i + 1, hi => by
    show sumE (fun s => endEv R (s : Int)) i + (endEv R (i : Int)).length = _
    rw [eSum hn i (by omega), if_neg (by omega)]
    unfold endEv
    by_cases h : i + 1 = n
    · rw [if_pos (by rw [hn]; simp only [beq_iff_eq]; omega), if_pos ⟨h, by omega⟩]
      rfl
    · rw [if_neg (by rw [hn]; simp only [beq_iff_eq]; omega), if_neg (by omega)]
      rfl
theorem count_sum {R : Rc} (hs : R.sound = true) : ((sumE (fun s => evAt R (s : Int)) R.steps.toNat : Nat) : Int) = countEv R := by
  have ok := sound_ok' hs
  have hst := ok.steps
  obtain ⟨n, hn⟩ := Int.eq_ofNat_of_zero_le (show 0 ≤ R.steps by omega)
  have e : (fun s : Nat => evAt R (s : Int)) = fun s : Nat => (beginEv R (s : Int) ++ swaEv R (s : Int)) ++ endEv R (s : Int) := rfl
  rw [e, sumE_add, sumE_add]
  have b := bSum_at ok R.phases.length (Nat.le_refl _)
  rw [ok.last] at b
  unfold bSum at b
  rw [b, sSum, eSum hn _ (by omega), if_pos (by omega)]
  have s := sSum_all hs
  unfold countEv
  rw [← s]
  omega
def wTo (R : Rc) (s : Sp) : Nat → List Evt
  | 0 => []
  | i + 1 => wTo R s i ++ (if (decide ((i : Int) ≥ s.from_) && decide ((i : Int) < s.to_)) = true then evAt R (i : Int) else [])
theorem wTo_is {R : Rc} {s : Sp} {a n : Nat} (ha : s.from_ = (a : Int)) (hn : s.to_ = ((a + n : Nat) : Int)) : ∀ i, wTo R s i = evRange R a (min i (a + n) - a)
  | 0 => by rw [Nat.zero_min, Nat.zero_sub]; rfl
  | i + 1 => by
    rw [wTo, wTo_is ha hn i]
    by_cases h : a ≤ i ∧ i < a + n
    · rw [if_pos (by rw [ha, hn, decide_eq_true (by omega), decide_eq_true (by omega)]; rfl), show min (i + 1) (a + n) - a = (min i (a + n) - a) + 1 by omega, evRange_next, show a + (min i (a + n) - a) = i by omega]
    · rw [if_neg (by rw [ha, hn]; simp only [Bool.and_eq_true, decide_eq_true_eq]; omega), List.append_nil, show min (i + 1) (a + n) - a = min i (a + n) - a by omega]
theorem wTo_len {R : Rc} (h : R.small) (s : Sp) : ∀ i, (wTo R s i).length ≤ i * 300
  | 0 => by simp [wTo]
  | i + 1 => by
    have h1 := wTo_len h s i
    have h2 := evAt_len h (i : Int)
    rw [wTo, List.length_append]
    split
    · omega
    · rw [List.length_nil]; omega
theorem sumE_le {f : Nat → List Evt} {c : Nat} (h : ∀ i, (f i).length ≤ c) : ∀ n, sumE f n ≤ n * c
  | 0 => by simp [sumE]
  | n + 1 => by
    have h1 := sumE_le h n
    have h2 := h n
    rw [sumE, Nat.add_mul]
    omega
end
section
attribute [local irreducible] Next Inside Runs Ops table
def extC : Ctx := ⟨fun _ _ => none, fun _ => false, fun f => if f = 122 then some isNameG else if f = 86 then some setsG else if f = 77 then some endsRG else none⟩
theorem extC_ok : ∀ f g, extC.ext f = some g → FunOk Tryz.prog f g := by
  intro f g h
  unfold extC at h
  simp only at h
  split at h
  · rename_i e
    cases h
    subst e
    exact is_ok
  · split at h
    · rename_i e
      cases h
      subst e
      exact sets_ok
    · split at h
      · rename_i e
        cases h
        subst e
        exact endsR_ok
      · cases h
end
section
attribute [local irreducible] Next Inside Runs Ops table
def thereN : List AV → Mem → Option (AV × Mem)
  | [.agg cs, .v (.int .i64 step)], m =>
    match unRc cs with
    | some R => if R.fit then some (if R.sound = true then (.tup [.agg (tabRow R R.spans R.swaSteps.1), .v (.bool (R.has step))], m) else (.tup [.agg (tabRow rc0 [] 0), .v (.bool false)], m)) else none
    | none => none
  | _, _ => none
theorem thereN_ok : FunOk Tryz.prog 52 thereN := by
  intro args m r m' h
  refine there_okG args m r m' ?_
  unfold thereN at h
  split at h
  · rename_i cs step
    split at h
    · rename_i R hR
      obtain rfl := unRc_some hR
      split at h
      · rename_i hfit
        simp only [Option.some.injEq] at h
        cases hs : R.sound with
        | true =>
          rw [if_pos hs] at h
          rw [thereG_at hfit hs, h]
        | false =>
          rw [if_neg (by rw [hs]; decide)] at h
          rw [thereG_no hfit hs, h]
      · cases h
    · cases h
  · cases h
def extD : Ctx := ⟨fun _ _ => none, fun _ => false, fun f => if f = 52 then some thereN else extC.ext f⟩
theorem extD_ok : ∀ f g, extD.ext f = some g → FunOk Tryz.prog f g := by
  intro f g h
  unfold extD at h
  simp only at h
  split at h
  · rename_i e
    cases h
    subst e
    exact thereN_ok
  · exact extC_ok f g h
theorem awakeD_of {f : FuncId} (hrun : runC Tryz.prog extD 60 f [] ⟨[], []⟩ = some (.v (.bool true), ⟨[], []⟩)) : FunOk Tryz.prog f yesG := by
  have h := wide_ok (P := Tryz.prog) (f := f) (x := .bool true) fun args m r m' hg => by
    dsimp only at hg
    split at hg
    · rename_i hc
      obtain ⟨rfl, h1, h2⟩ := hc
      obtain ⟨v, t⟩ := m
      simp only at h1 h2
      subst h1
      subst h2
      cases hg
      exact runC_ok mixed extD_ok 60 _ _ _ _ _ hrun
    · cases hg
  intro args m r m' hg
  refine h args m r m' ?_
  cases args with
  | nil => exact hg
  | cons a rest => cases hg
theorem awake27_ok : FunOk Tryz.prog 22 yesG := awakeD_of (by kernel_rfl)
end
section
attribute [local irreducible] Next Inside Runs Ops table
attribute [local go_sem] szStr szInt Option.getD_some isNil evStr iv loadStr loadInt rowsS_len rowsGs_len rowsPh_len rowsN_len mapRc mapPh mapGs cellsRc newRc cellsPh cellsGs ldPh ldGs zrPh zoPh znPh zsPh fpRcName fpRcMetrics fpRcGroups fpRcPhases fpRcStop fpRcStopMetric fpRcPlateau fpRcPlateauMetric fpRcKeep fpRcKeepMetric fpPhName fpPhFrozen fpPhSets feGsGroup leGsGroup feGsNodes leGsNodes
def bigS (n : Int) (s : ByteArray) : Bool := decide ((s.size : Int) > n)
def lightSets (n : Int) : List Gs → Option Int
  | [] => some n
  | s :: r => if n ≤ 60 then (if bigS 40 s.group || decide ((s.nodes.length : Int) > 60) then none else lightSets (n + (s.nodes.length : Int)) r) else some n
def lightHead (p : Ph) (n : Int) : Bool := bigS 40 p.name || (decide ((p.frozen.length : Int) > 12) || (decide ((p.sets.length : Int) > 30) || decide (n > 60)))
def lightPhases (n : Int) : List Ph → Option Int
  | [] => some n
  | p :: r => if lightHead p n then none else
    match lightSets n p.sets with
    | none => none
    | some n' => if p.frozen.any (bigS 40) then none else lightPhases n' r
def Rc.lightTop (R : Rc) : Bool := bigS 100 R.name || (decide ((R.metrics.length : Int) > 12) || (decide ((R.groups.length : Int) > 12) || (decide ((R.phases.length : Int) > 20) || decide (IntKind.i64.wrap (IntKind.i64.wrap ((R.stopMetric.size : Int) + (R.plateauMetric.size : Int)) + (R.keepMetric.size : Int)) > 100))))
def Rc.light (R : Rc) : Bool := !R.lightTop && (match lightPhases 0 R.phases with
  | none => false
  | some n => !((R.metrics ++ R.groups).any (bigS 40)) && decide (n ≤ 60))
theorem lightSets_mono : ∀ {l : List Gs} {n n' : Int}, lightSets n l = some n' → n ≤ n'
  | [], n, n', h => by simp only [lightSets, Option.some.injEq] at h; omega
  | s :: r, n, n', h => by
    unfold lightSets at h
    split at h
    · split at h
      · cases h
      · have := lightSets_mono h; omega
    · simp only [Option.some.injEq] at h; omega
theorem lightSets_all : ∀ {l : List Gs} {n n' : Int}, lightSets n l = some n' → n' ≤ 60 → ∀ s ∈ l, s.nodes.length ≤ 60
  | [], n, n', h, hn => fun s hs => by simp at hs
  | x :: r, n, n', h, hn => fun s hs => by
    unfold lightSets at h
    split at h
    · split at h
      · cases h
      · rename_i hb
        simp only [Bool.or_eq_true, decide_eq_true_eq, not_or] at hb
        rcases List.mem_cons.1 hs with rfl | hs
        · omega
        · exact lightSets_all h hn s hs
    · simp only [Option.some.injEq] at h; omega
theorem lightPhases_mono : ∀ {l : List Ph} {n n' : Int}, lightPhases n l = some n' → n ≤ n'
  | [], n, n', h => by simp only [lightPhases, Option.some.injEq] at h; omega
  | p :: r, n, n', h => by
    unfold lightPhases at h
    split at h
    · cases h
    · split at h
      · cases h
      · rename_i n1 h1
        split at h
        · cases h
        · have := lightSets_mono h1; have := lightPhases_mono h; omega
theorem lightPhases_all : ∀ {l : List Ph} {n n' : Int}, lightPhases n l = some n' → n' ≤ 60 → ∀ p ∈ l, p.frozen.length ≤ 12 ∧ p.sets.length ≤ 30 ∧ ∀ s ∈ p.sets, s.nodes.length ≤ 60
  | [], n, n', h, hn => fun s hs => by simp at hs
  | x :: r, n, n', h, hn => fun p hp => by
    unfold lightPhases at h
    split at h
    · cases h
    · rename_i hb
      split at h
      · cases h
      · rename_i n1 h1
        split at h
        · cases h
        · rcases List.mem_cons.1 hp with rfl | hp
          · have := lightPhases_mono h
            simp only [lightHead, Bool.or_eq_true, decide_eq_true_eq, not_or] at hb
            exact ⟨by omega, by omega, lightSets_all h1 (by omega)⟩
          · exact lightPhases_all h hn p hp
def Rc.wide (R : Rc) : Prop := okStr R.name ∧ (∀ s ∈ R.metrics, okStr s) ∧ (∀ s ∈ R.groups, okStr s) ∧ (∀ p ∈ R.phases, okStr p.name ∧ (∀ s ∈ p.frozen, okStr s) ∧ ∀ s ∈ p.sets, okStr s.group) ∧ okStr R.stopMetric ∧ okStr R.plateauMetric ∧ okStr R.keepMetric
instance (R : Rc) : Decidable R.wide := by unfold Rc.wide; exact inferInstance
structure Rc.Lit (R : Rc) : Prop where
  metrics : R.metrics.length ≤ 12
  groups : R.groups.length ≤ 12
  phases : R.phases.length ≤ 20
  each : ∀ p ∈ R.phases, p.frozen.length ≤ 12 ∧ p.sets.length ≤ 30 ∧ ∀ s ∈ p.sets, s.nodes.length ≤ 60
theorem light_lit {R : Rc} (h : R.light = true) : R.Lit := by
  unfold Rc.light Rc.lightTop at h
  simp only [Bool.and_eq_true, Bool.not_eq_true', Bool.or_eq_false_iff, decide_eq_false_iff_not] at h
  obtain ⟨⟨_, h1, h2, h3, _⟩, h4⟩ := h
  split at h4
  · cases h4
  · rename_i n hn
    simp only [Bool.and_eq_true, decide_eq_true_eq] at h4
    exact ⟨by omega, by omega, by omega, lightPhases_all hn h4.2⟩
theorem light_fit {R : Rc} (h : R.light = true) (hw : R.wide) : R.fit := by
  obtain ⟨h1, h2, h3, h4⟩ := light_lit h
  obtain ⟨w1, w2, w3, w4, w5⟩ := hw
  have b40 : (100 : Nat) ≤ big40 := by decide
  refine ⟨w1, ⟨by omega, w2⟩, ⟨by omega, w3⟩, ⟨by omega, fun p hp => ?_⟩, w5⟩
  obtain ⟨a1, a2, a3⟩ := h4 p hp
  obtain ⟨v1, v2, v3⟩ := w4 p hp
  exact ⟨v1, by omega, v2, by omega, fun s hs => ⟨v3 s hs, by have := a3 s hs; omega⟩⟩
def lightG : List AV → Mem → Option (AV × Mem)
  | [.agg cs], m =>
    match unRc cs with
    | some R => some (.v (.bool R.light), m)
    | none => none
  | _, _ => none
theorem lightG_at {R : Rc} {m : Mem} : lightG [.agg R.row] m = some (.v (.bool R.light), m) := by
  simp only [lightG, unRc_row]
def kpLight : Nat → Option (List Nat) := fun
  | 0 => some [1]
  | 1 => some [1, 47]
  | 2 => some [2]
  | 3 => some [1, 3]
  | 4 => some [1, 3, 4]
  | 5 => some [1, 3, 4, 52]
  | 6 => some [1, 3, 4]
  | 7 => some [1, 3, 4, 5]
  | 8 => some [1, 3, 4, 5, 79]
  | 9 => some [2]
  | 10 => some [1, 3, 4, 5, 6]
  | 11 => some [1, 3, 4, 5, 6, 88]
  | 12 => some [1, 3, 4, 5, 6]
  | 13 => some [1, 3, 4, 5, 6, 108]
  | 14 => some [2]
  | 15 => some [1, 3, 4, 5, 6]
  | 16 => some [1, 3, 4, 5, 7]
  | 17 => some [1, 3, 4, 5, 7, 122]
  | 18 => some [1, 3, 4, 5, 7]
  | 19 => some [1, 3, 4, 5, 7, 131]
  | 20 => some [2]
  | 21 => some [1, 3, 8]
  | 22 => some [1, 3, 8, 140]
  | 23 => some [1, 3, 8]
  | 24 => some [1, 3, 8, 176]
  | 25 => some [2]
  | 26 => some [2]
  | _ => none
attribute [go_sem] kpLight
theorem light_ok : FunOk Tryz.prog 9 lightG := by
  have hC := table_ok (P := Tryz.prog) (l := []) table_nil
  refine fun_ok mixed hC Tryz.func9 rfl kpLight false rfl fun args m r h => ?_
  unfold lightG at h
  split at h
  · rename_i cs
    split at h
    · rename_i R hR
      obtain rfl := unRc_some hR
      simp only [Option.some.injEq] at h
      subst h
      refine ⟨Nat.le_of_ble_eq_true rfl, ?_⟩
      refine en ?_
      have hA := above_push (cs := R.row) (above_self m)
      have hv : (m.push R.row).var m.vars.length = some R.row := push_var
      have nr := newRc (m := m) (x := R)
      generalize m.push R.row = m1 at hA hv nr
      have fin : ∀ (e : Env) (m' : Mem) (b : Bool), Above m m' → Ev.get e 2 = .v (.bool b) → R.light = b → Leaves Tryz.prog false Tryz.f9 m (.v (.bool R.light), m) .ret e m' := fun e m' b hA' h1 h2 => by rw [h2]; exact leaves_fin rfl h1 (above_fin hA')
      have a1 := lpRcName hv
      have a2 := lpRcMetrics hv
      have a3 := lpRcGroups hv
      have a4 := lpRcPhases hv
      have a5 := lpRcStopMetric hv
      have a6 := lpRcPlateauMetric hv
      have a7 := lpRcKeepMetric hv
      refine go1 @nr ?_
      refine ops_rcut [(1, .ptr m.vars.length 0), (47, .v (.bool R.lightTop))] m1 ?_ ?_
      · unfold Rc.lightTop bigS
        repeat' (first | refine gos1 (jn @a1 (jn @a2 (jn @a3 (jn @a4 (jn @a5 (jn @a6 @a7)))))) ?_ | (refine ops_here ?_; (fail_if_success (refine ops_case (B := true) rfl rfl rfl ?_ ?_)); (fail_if_success (refine ops_case (B := false) rfl rfl rfl ?_ ?_)); refine ops_case rfl rfl rfl (fun hB => ?_) (fun hB => ?_) <;> rw [hB]) | (refine runs_here ?_; refine runs_cond rfl (fun hc => ?_) (fun hc => ?_) <;> first | (cases hc; done) | skip))
        all_goals refine ⟨?_, rfl⟩
        all_goals first | rfl | (simp_all; done)
      repeat (first | refine next_normal ?_ | refine runs_seq ?_)
      refine runs_cond rfl (fun hc => ?_) (fun hc => ?_)
      · have e1 : R.light = false := by unfold Rc.light; rw [hc]; rfl
        refine go0 ?_
        exact fin _ _ _ hA rfl e1
      have hlt : R.metrics.length ≤ 12 ∧ R.groups.length ≤ 12 ∧ R.phases.length ≤ 20 := by
        unfold Rc.lightTop at hc
        simp only [Bool.or_eq_false_iff, decide_eq_false_iff_not] at hc
        omega
      have eL : R.light = (match lightPhases 0 R.phases with
        | none => false
        | some n => !((R.metrics ++ R.groups).any (bigS 40)) && decide (n ≤ 60)) := by unfold Rc.light; rw [hc]; rfl
      refine go0 ?_
      refine runs_loop (fun k e m' => ∃ (i : Nat) (n : Int), i ≤ R.phases.length ∧ 0 ≤ n ∧ n ≤ 120 ∧ lightPhases n (R.phases.drop i) = lightPhases 0 R.phases ∧ Above m m' ∧ m'.var m.vars.length = some R.row ∧ k = R.phases.length - i ∧
        e = [(1, AV.ptr m.vars.length 0), (3, .v (.int .i64 n)), (4, .v (.int .i64 (i : Int)))]) (k := R.phases.length) ⟨0, 0, Nat.zero_le _, by omega, by omega, rfl, hA, hv, rfl, rfl⟩ ?_
      rintro k e m2 ⟨i, n, hi0, hn0, hn1, hf, hA2, hv2, rfl, rfl⟩
      have l1 := lpRcPhases hv2
      refine go1 @l1 ?_
      refine runs_cond rfl (fun hc => ?_) (fun hc => ?_)
      · have hi1 : i < R.phases.length := by have := of_decide_eq_true hc; omega
        have f1 := atPh (g := .no) (kk := .i64) hi1
        rw [drop_next (d := ph0) hi1] at hf
        have r6 := next_i64 (i := i) (by omega)
        generalize R.phases.getD i ph0 = p at f1 hf
        have z1 := zsPh (m := m2) (x := p)
        have hA3 := above_push (cs := p.row) hA2
        have hv3 := push_old (cs' := p.row) hv2
        have hp3 : (m2.push p.row).var m2.vars.length = some p.row := push_var
        generalize m2.push p.row = m3 at z1 hA3 hv3 hp3
        have bad : ∀ e m', Above m m' → Ev.get e 2 = .v (.bool false) → lightPhases n (p :: R.phases.drop (i + 1)) = none → Leaves Tryz.prog false Tryz.f9 m (.v (.bool R.light), m) .ret e m' := fun e m' hA' hg hb => fin e m' false hA' hg (by rw [eL, ← hf, hb])
        refine go1 (jn @l1 (jn @f1 @z1)) ?_
        generalize m2.vars.length = n4 at hp3 ⊢
        have y1 := lpPhName hp3
        have y3 := lpPhFrozen hp3
        have y4 := lpPhSets hp3
        refine ops_rcut [(1, .ptr m.vars.length 0), (3, .v (.int .i64 n)), (4, .v (.int .i64 (i : Int))), (5, .ptr n4 0), (79, .v (.bool (lightHead p n)))] m3 ?_ ?_
        · unfold lightHead bigS
          repeat' (first | refine gos1 (jn @y1 (jn @y3 @y4)) ?_ | (refine ops_here ?_; (fail_if_success (refine ops_case (B := true) rfl rfl rfl ?_ ?_)); (fail_if_success (refine ops_case (B := false) rfl rfl rfl ?_ ?_)); refine ops_case rfl rfl rfl (fun hB => ?_) (fun hB => ?_) <;> rw [hB]) | (refine runs_here ?_; refine runs_cond rfl (fun hc => ?_) (fun hc => ?_) <;> first | (cases hc; done) | skip))
          all_goals refine ⟨?_, rfl⟩
          all_goals first | rfl | (simp_all; done)
        repeat (first | refine next_normal ?_ | refine runs_seq ?_)
        refine runs_cond rfl (fun hc => ?_) (fun hc => ?_)
        · refine go0 ?_
          exact bad _ _ hA3 rfl (by unfold lightPhases; rw [hc]; rfl)
        have zh := hc
        have hP : lightPhases n (p :: R.phases.drop (i + 1)) = match lightSets n p.sets with
          | none => none
          | some n' => if p.frozen.any (bigS 40) then none else lightPhases n' (R.phases.drop (i + 1)) := by conv => lhs; unfold lightPhases
                                                                                                             rw [zh]; rfl
        have hlen : p.frozen.length ≤ 12 ∧ p.sets.length ≤ 30 ∧ n ≤ 60 := by
          unfold lightHead at zh
          simp only [Bool.or_eq_false_iff, decide_eq_false_iff_not] at zh
          omega
        refine go0 ?_
        refine runs_loop (fun k e m' => ∃ (j : Nat) (n' : Int), j ≤ p.sets.length ∧ 0 ≤ n' ∧ n' ≤ 120 ∧ lightSets n' (p.sets.drop j) = lightSets n p.sets ∧ m3 = m' ∧ k = p.sets.length - j ∧
          e = [(1, AV.ptr m.vars.length 0), (3, .v (.int .i64 n')), (4, .v (.int .i64 (i : Int))), (5, .ptr n4 0), (6, .v (.int .i64 (j : Int)))]) (k := p.sets.length) ⟨0, n, Nat.zero_le _, hn0, hn1, rfl, rfl, rfl, rfl⟩ ?_
        rintro k e m5 ⟨j, n', hj0, hn3, hn4, hS, rfl, rfl, rfl⟩
        refine go0 ?_
        refine ops_rcut [(1, .ptr m.vars.length 0), (3, .v (.int .i64 n')), (4, .v (.int .i64 (i : Int))), (5, .ptr n4 0), (6, .v (.int .i64 (j : Int))), (88, .v (.bool (decide ((j : Int) < (p.sets.length : Int)) && decide (n' ≤ 60))))] m3 ?_ ?_
        · cases q1 : decide ((j : Int) < (p.sets.length : Int)) with
          | true =>
            refine go1 (jn @y4 @q1) ?_
            exact ⟨by rw [Bool.true_and], rfl⟩
          | false =>
            refine go1 (jn @y4 @q1) ?_
            exact ⟨rfl, rfl⟩
        repeat (first | refine next_normal ?_ | refine runs_seq ?_)
        refine runs_cond rfl (fun hc => ?_) (fun hc => ?_)
        · simp only [Bool.and_eq_true, decide_eq_true_eq] at hc
          have hj1 : j < p.sets.length := by omega
          have f2 := atGs (g := .no) (kk := .i64) hj1
          rw [drop_next (d := gs0) hj1] at hS
          generalize p.sets.getD j gs0 = s at f2 hS
          have r7 := next_i64 (i := j) (by omega)
          have hS2 : lightSets n' (s :: p.sets.drop (j + 1)) = if bigS 40 s.group || decide ((s.nodes.length : Int) > 60) then none else lightSets (n' + (s.nodes.length : Int)) (p.sets.drop (j + 1)) := by
            conv => lhs; unfold lightSets
            rw [if_pos hc.2]
          rw [hS2] at hS
          refine go1 (jn @y4 @f2) ?_
          refine ops_rcut [(1, .ptr m.vars.length 0), (3, .v (.int .i64 n')), (4, .v (.int .i64 (i : Int))), (5, .ptr n4 0), (6, .v (.int .i64 (j : Int))), (108, .v (.bool (bigS 40 s.group || decide ((s.nodes.length : Int) > 60))))] m3 ?_ ?_
          · unfold bigS
            cases q1 : decide ((s.group.size : Int) > 40) with
            | true =>
              refine go1 @q1 ?_
              exact ⟨rfl, rfl⟩
            | false =>
              refine go1 (jn @q1 (jn @y4 @f2)) ?_
              exact ⟨by rw [Bool.false_or], rfl⟩
          repeat (first | refine next_normal ?_ | refine runs_seq ?_)
          refine runs_cond rfl (fun hb => ?_) (fun hb => ?_)
          · refine go0 ?_
            rw [hb, if_pos rfl] at hS
            exact bad _ _ hA3 rfl (by rw [hP, ← hS])
          · rw [hb, if_neg (by decide)] at hS
            simp only [Bool.or_eq_false_iff, decide_eq_false_iff_not] at hb
            have r8 : IntKind.i64.wrap (n' + (s.nodes.length : Int)) = n' + (s.nodes.length : Int) := i64_wrap (by omega) (by omega)
            refine go1 (jn @y4 (jn @f2 (jn @r8 @r7))) ?_
            exact ⟨p.sets.length - (j + 1), by omega, j + 1, n' + (s.nodes.length : Int), hj1, by omega, by omega, hS, rfl, rfl, rfl⟩
        have hS3 : lightSets n p.sets = some n' := by
          rw [← hS]
          by_cases hj1 : j < p.sets.length
          · rw [drop_next (d := gs0) hj1]
            unfold lightSets
            rw [if_neg]
            intro h60
            rw [decide_eq_true (show (j : Int) < (p.sets.length : Int) by omega), decide_eq_true h60] at hc
            cases hc
          · rw [List.drop_eq_nil_of_le (by omega)]
            rfl
        rw [hS3] at hP
        simp only at hP
        refine go0 ?_
        refine runs_loop (fun k e m' => ∃ (j : Nat), j ≤ p.frozen.length ∧ firstBy (bigS 40) (p.frozen.drop j) j = firstBy (bigS 40) p.frozen 0 ∧ m3 = m' ∧ k = p.frozen.length - j ∧
          e = [(1, AV.ptr m.vars.length 0), (3, .v (.int .i64 n')), (4, .v (.int .i64 (i : Int))), (5, .ptr n4 0), (7, .v (.int .i64 (j : Int)))]) (k := p.frozen.length) ⟨0, Nat.zero_le _, rfl, rfl, rfl, rfl⟩ ?_
        rintro k e m6 ⟨j, hj0, hg, rfl, rfl, rfl⟩
        refine go1 @y3 ?_
        refine runs_cond rfl (fun hc => ?_) (fun hc => ?_)
        · have hj1 : j < p.frozen.length := by have := of_decide_eq_true hc; omega
          have f2 := atStrs (g := .no) (kk := .i64) hj1
          have syes := fun hp => firstBy_yes (d := (⟨#[]⟩ : ByteArray)) (p := bigS 40) hj1 hp
          have sno := fun hp => by_no (d := (⟨#[]⟩ : ByteArray)) hj1 hp hg
          have r7 := next_i64 (i := j) (by omega)
          generalize p.frozen.getD j ⟨#[]⟩ = s at f2 syes sno
          refine go1 (jn @y3 @f2) ?_
          refine runs_cond rfl (fun hc => ?_) (fun hc => ?_)
          · refine go0 ?_
            exact bad _ _ hA3 rfl (by rw [hP, syes hc]; rfl)
          · refine go1 @r7 ?_
            exact ⟨p.frozen.length - (j + 1), by omega, j + 1, hj1, sno hc, rfl, rfl, rfl⟩
        · have hj1 : j = p.frozen.length := by have := of_decide_eq_false hc; omega
          subst hj1
          rw [firstBy_no hg, if_neg (by decide)] at hP
          refine go1 @r6 ?_
          exact ⟨R.phases.length - (i + 1), by omega, i + 1, n', hi1, hn3, hn4, by rw [← hP, hf], hA3, hv3, rfl, rfl⟩
      · have hi1 : i = R.phases.length := by have := of_decide_eq_false hc; omega
        subst hi1
        rw [List.drop_length] at hf
        rw [← hf] at eL
        have eL' : R.light = (!((R.metrics ++ R.groups).any (bigS 40)) && decide (n ≤ 60)) := eL
        generalize hL : R.metrics ++ R.groups = L at eL'
        have hLl : L.length = R.metrics.length + R.groups.length := by rw [← hL, List.length_append]
        have w0 : IntKind.i64.wrap ((R.metrics.length : Int) + (R.groups.length : Int)) = (L.length : Int) := by rw [i64_wrap (by omega) (by omega)]; omega
        refine go0 ?_
        refine runs_loop (fun k e m' => ∃ (i : Nat), i ≤ L.length ∧ firstBy (bigS 40) (L.drop i) i = firstBy (bigS 40) L 0 ∧ m2 = m' ∧ k = L.length - i ∧
          e = [(1, AV.ptr m.vars.length 0), (3, .v (.int .i64 n)), (8, .v (.int .i64 (i : Int)))]) (k := L.length) ⟨0, Nat.zero_le _, rfl, rfl, rfl, rfl⟩ ?_
        rintro k e m7 ⟨i, hi0, hg, rfl, rfl, rfl⟩
        have y1 := lpRcMetrics hv2
        have y2 := lpRcGroups hv2
        refine go1 (jn @y1 (jn @y2 @w0)) ?_
        refine runs_cond rfl (fun hc => ?_) (fun hc => ?_)
        · have hi1 : i < L.length := by have := of_decide_eq_true hc; omega
          have syes := fun hp => firstBy_yes (d := (⟨#[]⟩ : ByteArray)) (p := bigS 40) hi1 hp
          have sno := fun hp => by_no (d := (⟨#[]⟩ : ByteArray)) hi1 hp hg
          have r7 := next_i64 (i := i) (by omega)
          refine go0 ?_
          refine ops_rcut [(1, .ptr m.vars.length 0), (3, .v (.int .i64 n)), (8, .v (.int .i64 (i : Int))), (176, .v (.bool (bigS 40 (L.getD i ⟨#[]⟩))))] m2 ?_ ?_
          · by_cases hm : i < R.metrics.length
            · have b0 : decide ((i : Int) < (R.metrics.length : Int)) = true := decide_eq_true (by omega)
              have b1 : decide ((i : Int) ≥ (R.metrics.length : Int)) = false := decide_eq_false (by omega)
              have f2 := atStrs (g := .no) (kk := .i64) hm
              have e0 : L.getD i ⟨#[]⟩ = R.metrics.getD i ⟨#[]⟩ := by rw [← hL]; simp [List.getD, List.getElem?_append_left hm]
              rw [e0]
              generalize R.metrics.getD i ⟨#[]⟩ = s at f2
              unfold bigS
              cases q1 : decide ((s.size : Int) > 40) with
              | true =>
                refine go1 (jn @y1 (jn @b0 (jn @f2 @q1))) ?_
                exact ⟨rfl, rfl⟩
              | false =>
                refine go1 (jn @y1 (jn @b0 (jn @f2 (jn @q1 @b1)))) ?_
                exact ⟨rfl, rfl⟩
            · have b0 : decide ((i : Int) < (R.metrics.length : Int)) = false := decide_eq_false (by omega)
              have b1 : decide ((i : Int) ≥ (R.metrics.length : Int)) = true := decide_eq_true (by omega)
              have hm2 : i - R.metrics.length < R.groups.length := by omega
              have f2 := atStrs (g := .no) (kk := .i64) hm2
              have r8 : IntKind.i64.wrap ((i : Int) - (R.metrics.length : Int)) = ((i - R.metrics.length : Nat) : Int) := by rw [i64_wrap (by omega) (by omega)]; omega
              have e0 : L.getD i ⟨#[]⟩ = R.groups.getD (i - R.metrics.length) ⟨#[]⟩ := by rw [← hL]; simp [List.getD, List.getElem?_append_right (Nat.le_of_not_lt hm)]
              rw [e0]
              generalize R.groups.getD (i - R.metrics.length) ⟨#[]⟩ = s at f2
              unfold bigS
              refine go1 (jn @y1 (jn @b0 (jn @b1 (jn @y2 (jn @r8 @f2))))) ?_
              exact ⟨rfl, rfl⟩
          repeat (first | refine next_normal ?_ | refine runs_seq ?_)
          refine runs_cond rfl (fun hb => ?_) (fun hb => ?_)
          · refine go0 ?_
            exact fin _ _ _ hA2 rfl (by rw [eL', syes hb]; rfl)
          · refine go1 @r7 ?_
            exact ⟨L.length - (i + 1), by omega, i + 1, hi1, sno hb, rfl, rfl, rfl⟩
        · have hi1 : i = L.length := by have := of_decide_eq_false hc; omega
          subst hi1
          rw [firstBy_no hg] at eL'
          refine go0 ?_
          exact fin _ _ _ hA2 rfl (eL'.trans (by rw [Bool.not_false, Bool.true_and]))
    · cases h
  · cases h
end
end Go.Proofs.YtojaokhkbmiidaaGreat.Ev

/- The law TimesAll. -/
import Derived.Test.YtojaokhkbmiidaaGreatMbcia14
import Derived.Test.YtojaokhkbmiidaaGreatMbcia15
import Derived.Test.YtojaokhkbmiidaaGreatRows
import Derived.KernelRfl
namespace Go.Proofs.YtojaokhkbmiidaaGreat.Ev
open Go Go.Proofs
set_option maxRecDepth 10000
set_option maxHeartbeats 8000000
set_option linter.unusedVariables false
set_option linter.unusedSimpArgs false
noncomputable section
attribute [local irreducible] Next Inside Runs Ops table
attribute [local go_sem] szStr szInt Option.getD_some isNil evStr iv mapRc mapSp cellsRc cellsSp newRc newSp rowsEvt_len fpRcSteps fpSpFrom_ fpSpTo_
def timesAllLawG : List AV → Mem → Option (AV × Mem)
  | [.agg cs, .agg cs2], m =>
    match unRc cs, unSp cs2 with
    | some R, some s => if R.wide ∧ inI s.from_ ∧ inI s.to_ then some (.v (.bool true), m) else none
    | _, _ => none
  | _, _ => none
def kpTimesAllLaw : Nat → Option (List Nat) := fun
  | 0 => some [2, 3]
  | 1 => some [2, 3, 15]
  | 2 => some [4]
  | 3 => some [2, 3, 5, 6]
  | 4 => some [2, 3, 5, 6, 7, 8]
  | 5 => some [2, 3, 5, 6, 7, 8, 30]
  | 6 => some [4]
  | 7 => some [2, 3, 5, 6, 7, 50]
  | 8 => some [4]
  | 9 => some [2, 3, 5, 6, 7, 75]
  | 10 => some [4]
  | 11 => some [2, 3, 5, 6, 7, 88]
  | 12 => some [4]
  | 13 => some [2, 3, 5, 6, 7, 9]
  | 14 => some [2, 3, 5, 6, 7, 9, 10]
  | 15 => some [2, 3, 5, 6, 7, 9, 10, 11]
  | 16 => some [2, 3, 5, 6, 7, 9, 10, 11, 98]
  | 17 => some [2, 3, 5, 6, 7, 9, 10, 11]
  | 18 => some [2, 3, 5, 6, 7, 9, 10, 11, 12]
  | 19 => some [2, 3, 5, 6, 7, 9, 10, 11, 12]
  | 20 => some [2, 3, 5, 6, 7, 9, 10, 11, 12, 117]
  | 21 => some [2, 3, 5, 6, 7, 9, 10, 11]
  | 22 => some [4]
  | _ => none
attribute [go_sem] kpTimesAllLaw
def tab_timesAllLaw_ok : List (FuncId × (List AV → Mem → Option (AV × Mem))) := [(9, lightG), (22, yesG), (30, allG), (31, countG), (13, rsoundG), (27, revAtG), (26, sameEG)]
theorem timesAllLaw_ok : FunOk Tryz.prog 6 timesAllLawG := by
  have hC := table_ok (P := Tryz.prog) (l := tab_timesAllLaw_ok) (table_more light_ok (table_more awake27_ok (table_more all_ok (table_more countT_ok (table_more sound21_ok (table_more revAt_ok (table_more sameE_ok table_nil)))))))
  have t1 := fun args mm => table_at (l := tab_timesAllLaw_ok) (f := 9) (args := args) (m := mm) rfl
  have t2 := fun args mm => table_at (l := tab_timesAllLaw_ok) (f := 22) (args := args) (m := mm) rfl
  have t3 := fun args mm => table_at (l := tab_timesAllLaw_ok) (f := 30) (args := args) (m := mm) rfl
  have t4 := fun args mm => table_at (l := tab_timesAllLaw_ok) (f := 31) (args := args) (m := mm) rfl
  have t5 := fun args mm => table_at (l := tab_timesAllLaw_ok) (f := 13) (args := args) (m := mm) rfl
  have t6 := fun args mm => table_at (l := tab_timesAllLaw_ok) (f := 27) (args := args) (m := mm) rfl
  have t7 := fun args mm => table_at (l := tab_timesAllLaw_ok) (f := 26) (args := args) (m := mm) rfl
  refine fun_ok mixed hC Tryz.func6 rfl kpTimesAllLaw false rfl fun args m r h => ?_
  unfold timesAllLawG at h
  split at h
  · rename_i cs cs2
    split at h
    · rename_i R s hR hS
      obtain rfl := unRc_some hR
      obtain rfl := unSp_some hS
      split at h
      · rename_i hyp
        obtain ⟨hw, hi1, hi2⟩ := hyp
        simp only [Option.some.injEq] at h
        subst h
        refine ⟨Nat.le_of_ble_eq_true rfl, ?_⟩
        refine en ?_
        have hG0 : GrowsA m .full ((m.push R.row).push s.row) := growsA_push (growsA_push growsA_full)
        have hA := above_push (cs := s.row) (above_push (cs := R.row) (above_self m))
        have hv : ((m.push R.row).push s.row).var m.vars.length = some R.row := push_old push_var
        have hv2 : ((m.push R.row).push s.row).var (m.push R.row).vars.length = some s.row := push_var
        have nr := newRc (m := m) (x := R)
        have ns := newSp (m := m.push R.row) (x := s)
        generalize (m.push R.row).push s.row = m1 at hG0 hA hv hv2 ns
        generalize m.push R.row = m0 at hv2 nr ns
        have l0 := vrRc hv
        have l1 := vrSp hv2
        have l2 := lpRcSteps hv
        have c1 := fun mm => lightG_at (R := R) (m := mm)
        have w1 : (!true) = false := rfl
        have w2 : (!false) = true := rfl
        cases hl : R.light with
        | false =>
          rw [hl] at c1
          refine go1 (jn @nr (jn @ns (jn @l0 (jn @t1 (jn @c1 @w2))))) ?_
          refine runs_cond rfl (fun hc => ?_) (fun hc => by cases hc)
          refine go1 (jn @t2 @yes_eq) ?_
          exact leaves_fin rfl rfl (above_fin hA)
        | true =>
          rw [hl] at c1
          have hfit := light_fit hl hw
          have hlite : R.lite := lit_lite hl hw
          have c3 := fun mm => allG_at (R := R) (s := s) (m := mm) hfit hi1 hi2
          have c4 := fun mm => countG_at (R := R) (m := mm) hfit
          have c5 := fun mm => rsoundG_at (m := mm) hlite
          have z0 : (((([] : List Evt).length : Nat) : Int) == 0) = true := rfl
          have z1 : ((1 : Int) == 1) = true := rfl
          have z2 : ((0 : Int) == 0) = true := rfl
          have z3 : ((0 : Int) != 0) = false := rfl
          cases hs : R.sound with
          | false =>
            rw [hs] at c5
            replace c4 : ∀ mm, countG [.agg R.row] mm = some (.tup [.v (.int .i64 0), .v (.int .i64 1)], mm) := fun mm => by rw [c4, hs]; rfl
            replace c3 : ∀ mm, allG [.agg R.row, .agg s.row] mm = some (.tup [.lst .no 3 (rowsEvt []), .v (.int .i64 1)], mm) := fun mm => by rw [c3, if_neg (fun h => by rw [hs] at h; cases h.1)]
            refine go1 (jn @nr (jn @ns (jn @l0 (jn @t1 (jn @c1 @w1))))) ?_
            refine runs_cond rfl (fun hc => by cases hc) (fun hc => ?_)
            refine go1 (jn @l0 (jn @l1 (jn @t3 (jn @c3 (jn @t4 (jn @c4 (jn @t5 (jn @c5 @w2)))))))) ?_
            refine runs_cond rfl (fun hc => ?_) (fun hc => by cases hc)
            refine go1 (jn @z0 (jn @z1 (jn @z2 (jn @t2 @yes_eq)))) ?_
            exact leaves_fin rfl rfl (above_fin hA)
          | true =>
            rw [hs] at c5
            replace c4 : ∀ mm, countG [.agg R.row] mm = some (.tup [.v (.int .i64 (countEv R)), .v (.int .i64 0)], mm) := fun mm => by rw [c4, hs]; rfl
            have hst := (sound_ok' hs).steps
            have hcs := count_sum hs
            have hsm := Rc.may_small (sound_may hs)
            have y1 := lpSpFrom_ hv2
            have y2 := lpSpTo_ hv2
            have hbd : spanBad R s = (decide (s.from_ < 0) || (decide (s.to_ < s.from_) || (decide (s.to_ > R.steps) || decide (s.to_ - s.from_ > 10000)))) := rfl
            refine go1 (jn @nr (jn @ns (jn @l0 (jn @t1 (jn @c1 @w1))))) ?_
            refine runs_cond rfl (fun hc => by cases hc) (fun hc => ?_)
            cases hb : spanBad R s with
            | true =>
              replace c3 : ∀ mm, allG [.agg R.row, .agg s.row] mm = some (.tup [.lst .no 3 (rowsEvt []), .v (.int .i64 1)], mm) := fun mm => by rw [c3, if_neg (fun h => by rw [hb] at h; cases h.2)]
              refine go1 (jn @l0 (jn @l1 (jn @t3 (jn @c3 (jn @t4 (jn @c4 (jn @t5 (jn @c5 @w1)))))))) ?_
              refine runs_cond rfl (fun hc => by cases hc) (fun hc => ?_)
              refine go1 @z3 ?_
              refine runs_cond rfl (fun hc => by cases hc) (fun hc => ?_)
              cases q1 : decide (s.from_ < 0) with
              | true =>
                refine go1 (jn @y1 @q1) ?_
                refine runs_cond rfl (fun hc => ?_) (fun hc => by cases hc)
                refine go1 (jn @z0 (jn @z1 (jn @t2 @yes_eq))) ?_
                exact leaves_fin rfl rfl (above_fin hA)
              | false =>
                cases q2 : decide (s.to_ < s.from_) with
                | true =>
                  refine go1 (jn @y1 (jn @q1 (jn @y2 @q2))) ?_
                  refine runs_cond rfl (fun hc => ?_) (fun hc => by cases hc)
                  refine go1 (jn @z0 (jn @z1 (jn @t2 @yes_eq))) ?_
                  exact leaves_fin rfl rfl (above_fin hA)
                | false =>
                  cases q3 : decide (s.to_ > R.steps) with
                  | true =>
                    refine go1 (jn @y1 (jn @q1 (jn @y2 (jn @q2 (jn @l2 @q3))))) ?_
                    refine runs_cond rfl (fun hc => ?_) (fun hc => by cases hc)
                    refine go1 (jn @z0 (jn @z1 (jn @t2 @yes_eq))) ?_
                    exact leaves_fin rfl rfl (above_fin hA)
                  | false =>
                    have g1 := of_decide_eq_false q1
                    have g2 := of_decide_eq_false q2
                    have g3 := of_decide_eq_false q3
                    have w3 : IntKind.i64.wrap (s.to_ - s.from_) = s.to_ - s.from_ := i64_wrap (by omega) (by omega)
                    have q4 : decide (s.to_ - s.from_ > 10000) = true := by rw [hbd, q1, q2, q3] at hb; exact hb
                    refine go1 (jn @y1 (jn @q1 (jn @y2 (jn @q2 (jn @l2 (jn @q3 (jn @w3 @q4))))))) ?_
                    refine runs_cond rfl (fun hc => ?_) (fun hc => by cases hc)
                    refine go1 (jn @z0 (jn @z1 (jn @t2 @yes_eq))) ?_
                    exact leaves_fin rfl rfl (above_fin hA)
            | false =>
              have hb0 := hb
              replace c3 : ∀ mm, allG [.agg R.row, .agg s.row] mm = some (.tup [.lst .no 3 (rowsEvt (allEv R s)), .v (.int .i64 0)], mm) := fun mm => by rw [c3, if_pos ⟨hs, hb0⟩]
              rw [hbd] at hb
              simp only [Bool.or_eq_false_iff] at hb
              obtain ⟨q1, q2, q3, q4⟩ := hb
              have g1 := of_decide_eq_false q1
              have g2 := of_decide_eq_false q2
              have g3 := of_decide_eq_false q3
              have g4 := of_decide_eq_false q4
              have w3 : IntKind.i64.wrap (s.to_ - s.from_) = s.to_ - s.from_ := i64_wrap (by omega) (by omega)
              have hal : (allEv R s).length ≤ 3000000 := by
                have := evRange_len hsm s.from_.toNat (s.to_ - s.from_).toNat
                unfold allEv
                omega
              refine go1 (jn @l0 (jn @l1 (jn @t3 (jn @c3 (jn @t4 (jn @c4 (jn @t5 (jn @c5 @w1)))))))) ?_
              refine runs_cond rfl (fun hc => by cases hc) (fun hc => ?_)
              refine go1 @z3 ?_
              refine runs_cond rfl (fun hc => by cases hc) (fun hc => ?_)
              refine go1 (jn @y1 (jn @q1 (jn @y2 (jn @q2 (jn @l2 (jn @q3 (jn @w3 @q4))))))) ?_
              refine runs_cond rfl (fun hc => by cases hc) (fun hc => ?_)
              cases q5 : decide (R.steps > 100) with
              | true =>
                refine go1 (jn @l2 @q5) ?_
                refine runs_cond rfl (fun hc => ?_) (fun hc => by cases hc)
                refine go1 (jn @z2 (jn @t2 @yes_eq)) ?_
                exact leaves_fin rfl rfl (above_fin hA)
              | false =>
                have g5 := of_decide_eq_false q5
                obtain ⟨n, hn⟩ := Int.eq_ofNat_of_zero_le (show 0 ≤ R.steps by omega)
                obtain ⟨a, ha⟩ := Int.eq_ofNat_of_zero_le (show 0 ≤ s.from_ by omega)
                obtain ⟨d, hd⟩ := Int.eq_ofNat_of_zero_le (show 0 ≤ s.to_ - s.from_ by omega)
                have hto : s.to_ = ((a + d : Nat) : Int) := by omega
                have hall : allEv R s = wTo R s n := by
                  rw [wTo_is ha hto n, show min n (a + d) - a = d by omega]
                  unfold allEv
                  rw [ha, Int.toNat_natCast, ← ha, hd, Int.toNat_natCast]
                rw [hn, Int.toNat_natCast] at hcs
                refine go1 (jn @l2 @q5) ?_
                refine runs_cond rfl (fun hc => by cases hc) (fun hc => ?_)
                refine go0 ?_
                generalize m0.vars.length = q at hv2 ⊢
                generalize m.vars.length = r at hv ⊢
                refine runs_loop (fun k e m' => ∃ (i : Nat) (gr : Grow), i ≤ n ∧ GrowsA m gr m' ∧ m'.var r = some R.row ∧ m'.var q = some s.row ∧ k = n - i ∧
                  e = [(2, AV.ptr r 0), (3, .ptr q 0), (5, .lst .no 3 (rowsEvt (allEv R s))), (6, .v (.int .i64 0)), (7, .v (.int .i64 (countEv R))), (9, .lst gr 3 (rowsEvt (wTo R s i))), (10, .v (.int .i64 ((sumE (fun s => evAt R (s : Int)) i : Nat) : Int))), (11, .v (.int .i64 (i : Int)))]) (k := n) ⟨0, _, Nat.zero_le _, hG0, hv, hv2, rfl, rfl⟩ ?_
                rintro k e m' ⟨i, gr, hi0, hG, hv3, hw3, rfl, rfl⟩
                have x2 := lpRcSteps hv3
                refine go1 @x2 ?_
                refine runs_cond rfl (fun hc => ?_) (fun hc => ?_)
                · have hi1 : i < n := by have := of_decide_eq_true hc; omega
                  have x3 := vrRc hv3
                  have x4 := lpSpFrom_ hw3
                  have x5 := lpSpTo_ hw3
                  have c7 := fun mm => revAtG_at (step := (i : Int)) (m := mm) hs hfit (by omega) (by omega)
                  have hS : sumE (fun s => evAt R (s : Int)) (i + 1) = sumE (fun s => evAt R (s : Int)) i + (evAt R (i : Int)).length := rfl
                  have hN : wTo R s (i + 1) = wTo R s i ++ (if (decide ((i : Int) ≥ s.from_) && decide ((i : Int) < s.to_)) = true then evAt R (i : Int) else []) := rfl
                  have hl1 := wTo_len hsm s i
                  have hl2 := evAt_len hsm (i : Int)
                  have hl3 := sumE_le (fun i => evAt_len hsm ((i : Nat) : Int)) i
                  have r6 := next_i64 (i := i) (by omega)
                  generalize evAt R (i : Int) = ev at c7 hS hN hl2
                  have r7 : IntKind.i64.wrap (((sumE (fun s => evAt R (s : Int)) i : Nat) : Int) + (ev.length : Int)) = ((sumE (fun s => evAt R (s : Int)) (i + 1) : Nat) : Int) := by rw [hS, i64_wrap (by omega) (by omega)]; omega
                  generalize sumE (fun s => evAt R (s : Int)) i = sm at r7
                  generalize hsm2 : sumE (fun s => evAt R (s : Int)) (i + 1) = sm2 at r7
                  have skip : (decide ((i : Int) ≥ s.from_) && decide ((i : Int) < s.to_)) = false → wTo R s (i + 1) = wTo R s i := fun h => by rw [hN, h, if_neg (by decide), List.append_nil]
                  cases p1 : decide ((i : Int) ≥ s.from_) with
                  | false =>
                    have hk := skip (by rw [p1]; rfl)
                    refine go1 (jn @x3 (jn @t6 (jn @c7 (jn @r7 (jn @x4 @p1))))) ?_
                    refine runs_cond rfl (fun hc => by cases hc) (fun hc => ?_)
                    refine go1 @r6 ?_
                    exact ⟨n - (i + 1), by omega, i + 1, gr, hi1, hG, hv3, hw3, rfl, by rw [hk, hsm2]⟩
                  | true =>
                    cases p2 : decide ((i : Int) < s.to_) with
                    | false =>
                      have hk := skip (by rw [p1, p2]; rfl)
                      refine go1 (jn @x3 (jn @t6 (jn @c7 (jn @r7 (jn @x4 (jn @p1 (jn @x5 @p2))))))) ?_
                      refine runs_cond rfl (fun hc => by cases hc) (fun hc => ?_)
                      refine go1 @r6 ?_
                      exact ⟨n - (i + 1), by omega, i + 1, gr, hi1, hG, hv3, hw3, rfl, by rw [hk, hsm2]⟩
                    | true =>
                      rw [p1, p2, Bool.true_and, if_pos rfl] at hN
                      generalize wTo R s i = acc at hG hN hl1
                      obtain ⟨g3, m3, a1, hG3, hV3⟩ := app_evts (g2 := .no) hG acc ev (by omega)
                      rw [← hN] at a1
                      refine go1 (jn @x3 (jn @t6 (jn @c7 (jn @r7 (jn @x4 (jn @p1 (jn @x5 @p2))))))) ?_
                      refine runs_cond rfl (fun hc => ?_) (fun hc => by cases hc)
                      refine go1 (jn @a1 @r6) ?_
                      exact ⟨n - (i + 1), by omega, i + 1, _, hi1, hG3, by rw [hV3]; exact hv3, by rw [hV3]; exact hw3, rfl, by rw [hsm2]⟩
                · have hi1 : i = n := by have := of_decide_eq_false hc; omega
                  subst hi1
                  rw [← hall]
                  rw [hcs]
                  have c8 := fun mm => sameEG_at (m := mm) (g := .no) (g2 := .no) (l := allEv R s) (by omega)
                  have e1 : (countEv R == countEv R) = true := beq_self_eq_true _
                  refine go1 (jn @z2 (jn @t7 (jn @c8 (jn @e1 (jn @t2 @yes_eq))))) ?_
                  exact leaves_fin rfl rfl (growsA_fin hG)
      · cases h
    · cases h
  · cases h
end
end Go.Proofs.YtojaokhkbmiidaaGreat.Ev
namespace Go.Proofs.YtojaokhkbmiidaaGreat.timesAll
open Go Go.Proofs Go.ChangeShapes Go.WideShapes Go.ChangeAt Go.RowKit
set_option linter.unusedVariables false
theorem own : ownKnob Tryz.prog.godebug = none := by kernel_rfl
theorem laid : laidOutB Tryz.prog = true := by kernel_rfl
theorem same_left {H : Type} : ∀ ds : List (DataW H), ds.length = 2 → Rows.timesAllSpec.fn H ds = { results := [.lit (.bool true)], args := ds }
  | [d0, d1], _ => rfl
set_option maxRecDepth 100000 in
theorem holds_at : ∀ vs, Ev.TypedAll Tryz.prog 12 [37, 51] vs → ∃ m', Ev.timesAllLawG vs ⟨[], []⟩ = some (.v (.bool true), m') := by
  rintro (_ | ⟨a, _ | ⟨b, _ | ⟨x, r⟩⟩⟩) h
  · exact h.elim
  · exact h.2.elim
  · obtain ⟨h0, h1, _⟩ := h
    obtain ⟨R, hw, _, rfl⟩ := Ev.arg_rc h0
    obtain ⟨s, s0, s1, rfl⟩ := Ev.arg_sp h1
    refine ⟨⟨[], []⟩, ?_⟩
    simp only [Ev.timesAllLawG, Ev.unRc_row, Ev.unSp_row]
    exact if_pos ⟨hw, s0, s1⟩
  · exact h.2.2.elim
set_option maxRecDepth 100000 in
theorem lifted (os : Os) (started : os.Started) (H : Type) (enc : TypeId × Value → H) :
    ReturnsInHanded {} Tryz.checked os 6 .any (Rows.timesAllSpec.pre6 enc Tryz.prog Tryz.f6 Rows.timesAllRow.domain false) (Rows.timesAllSpec.post enc Tryz.prog Tryz.f6 false true false false) :=
  Ev.law_lifted (C := Tryz.checked) own started (by kernel_rfl) Tryz.func6
    (ChangeSpec.witness6 (enc := enc) (C := Tryz.checked) false ⟨#[], #[.agg #[.string ⟨#[]⟩, .int .i64 0, .int .i64 0, .int .i64 0, .slice none 0 0, .slice none 0 0, .int .i64 0, .slice none 0 0, .bool false, .string ⟨#[]⟩, .bool false, .int .i64 0, .int .i64 0, .bool false, .bool false, .string ⟨#[]⟩, .bool false, .int .i64 0, .int .i64 0, .int .i64 0, .int .i64 0, .int .i64 0, .bool false, .string ⟨#[]⟩, .bool false, .int .i64 0, .bool false, .int .i64 0, .bool false, .int .i64 0, .int .i64 0, .int .i64 0], .agg #[.int .i64 0, .int .i64 0]], []⟩ 8 (by kernel_rfl) (by kernel_rfl) (by kernel_rfl) (by kernel_rfl))
    laid rfl [37, 51] Tryz.params6 12 (by kernel_rfl) (tb := 4) rfl Tryz.underlying4 same_left Ev.timesAllLaw_ok holds_at
theorem over : Rows.timesAllRow.holds Tryz.pinned (OpenSpec.ofChange Rows.timesAllSpec) :=
  OpenClaim.holds_of_wide 6 Tryz.f6 rfl rfl rfl rfl rfl rfl rfl ⟨rfl, rfl, rfl, rfl, rfl⟩ rfl rfl rfl rfl rfl (by kernel_rfl) Tryz.func6 (by kernel_rfl)
    (of_decide_eq_true (by kernel_rfl)) (by unfold Func.isWrapper; first | (rw [if_pos (by decide +kernel)]; kernel_rfl) | (rw [if_neg (by decide +kernel)]; exact ⟨rfl, rfl⟩))
    (fun os started H enc _ => lifted os started H enc)
theorem proved : Rows.TimesAllSaid := over
end Go.Proofs.YtojaokhkbmiidaaGreat.timesAll
namespace Go.Proofs.YtojaokhkbmiidaaGreat
/-- The row, under a short name, for the claim. -/
theorem timesAll_holds : Rows.TimesAllSaid := timesAll.proved
end Go.Proofs.YtojaokhkbmiidaaGreat

/- The document's rules: the walk of whole. -/
import Derived.Test.YtojaokhkbmiidaaGreatMbcln3
import Derived.Test.YtojaokhkbmiidaaGreatMbcln1
import Derived.Test.YtojaokhkbmiidaaGreatMbcln2
namespace Go.Proofs.YtojaokhkbmiidaaGreat.Ev
open Go Go.Proofs
set_option maxRecDepth 10000
set_option maxHeartbeats 8000000
set_option linter.unusedVariables false
set_option linter.unusedSimpArgs false
attribute [local irreducible] Next Inside Runs Ops table
attribute [local go_sem] szStr szInt Option.getD_some isNil evStr iv loadStr loadInt mapRc cellsRc newRc rowsPh_len rowsLn_len fpRcSteps fpRcEpoch fpRcWeights fpRcPhases fpRcEval fpRcStop fpRcStopOn fpRcStopMetric fpRcStopPatience fpRcPlateau fpRcPlateauOn fpRcPlateauMetric fpRcPlateauPatience fpRcPlateauFactor fpRcKeep fpRcKeepOn fpRcKeepMetric fpRcKeepCount fpRcEma fpRcEmaOn fpRcEmaDecay fpRcSwa fpRcSwaOn fpRcSwaFrom fpRcSwaEvery
def kpWhole20 : Nat → Option (List Nat) := fun
  | 0 => some [1, 2]
  | 1 => some [2, 9]
  | 2 => some [2, 9, 10]
  | 3 => some [4]
  | 4 => some [2, 9, 20]
  | 5 => some [2, 5]
  | 6 => some [2, 5, 6]
  | 7 => some [2, 5, 6, 27]
  | 8 => some [2, 5, 6]
  | 9 => some [2, 5, 6, 40]
  | 10 => some [4]
  | 11 => some [4]
  | 12 => some [2, 9, 44]
  | 13 => some [4]
  | 14 => some [2, 9, 49]
  | 15 => some [4]
  | 16 => some [2, 9, 55]
  | 17 => some [4]
  | 18 => some [2, 9, 74]
  | 19 => some [4]
  | 20 => some [2, 9, 93]
  | 21 => some [4]
  | 22 => some [2, 9, 118]
  | 23 => some [4]
  | 24 => some [2, 9, 143]
  | 25 => some [4]
  | 26 => some [2, 9, 155]
  | 27 => some [2, 7, 8]
  | 28 => some [4]
  | 29 => some [2, 185]
  | 30 => some [4]
  | 31 => some [4]
  | _ => none
attribute [go_sem] kpWhole20
def tab_whole20 (G : List AV → Mem → Option (AV × Mem)) : List (FuncId × (List AV → Mem → Option (AV × Mem))) := [(138, lensG), (39, G), (139, rsumG), (140, seenG), (49, rstepsG)]
theorem whole20_ok (b : Bool) (G : List AV → Mem → Option (AV × Mem)) (hG : FunOk Tryz.prog 39 G)
    (hK : b = true → ∀ (R : Rc) (mm : Mem) (rule : Int), R.may = true → R.fit → (rule = 1 ∨ rule = 2 ∨ rule = 8) → G [.agg R.row, .v (.int .i64 rule)] mm = some (.v (.bool (R.kept rule)), mm)) : FunOk Tryz.prog 102 (wholeRG b) := by
  have hC := table_ok (P := Tryz.prog) (l := tab_whole20 G) (table_more lens_ok (table_more hG (table_more rsum_ok (table_more seen20_ok (table_more rsteps_ok table_nil)))))
  have t1 := fun args mm => table_at (l := tab_whole20 G) (f := 138) (args := args) (m := mm) rfl
  have t2 := fun args mm => table_at (l := tab_whole20 G) (f := 39) (args := args) (m := mm) rfl
  have t3 := fun args mm => table_at (l := tab_whole20 G) (f := 139) (args := args) (m := mm) rfl
  have t4 := fun args mm => table_at (l := tab_whole20 G) (f := 140) (args := args) (m := mm) rfl
  have t5 := fun args mm => table_at (l := tab_whole20 G) (f := 49) (args := args) (m := mm) rfl
  refine fun_ok mixed hC Tryz.func102 rfl kpWhole20 false rfl fun args m r h => ?_
  unfold wholeRG at h
  split at h
  · rename_i cs rule
    split at h
    · rename_i R hR
      obtain rfl := unRc_some hR
      split at h
      · rename_i hyp
        obtain ⟨hmay, hfit, hrule, hb⟩ := hyp
        simp only [Option.some.injEq] at h
        subst h
        refine ⟨Nat.le_of_ble_eq_true rfl, ?_⟩
        simp only [entry, List.length_cons, List.length_nil, List.range, List.range.loop, List.zip_cons_cons, List.zip_nil_right]
        have hn := Rc.may_num hmay
        have hsm := Rc.may_small hmay
        have hM64 := hsm.1
        have hA := above_push (cs := R.row) (above_self m)
        have hv : (m.push R.row).var m.vars.length = some R.row := push_var
        have nr := newRc (m := m) (x := R)
        generalize m.push R.row = m1 at hA hv nr
        have l0 := vrRc hv
        have l1 := lpRcSteps hv
        have l2 := lpRcEpoch hv
        have fin : ∀ (e : Env) (b' : Bool), Ev.get e 4 = .v (.bool b') → (!R.wholeBad rule) = b' → Leaves Tryz.prog false Tryz.f102 m (.v (.bool (!R.wholeBad rule)), m) .ret e m1 := fun e b' h1 h2 => by
          rw [h2]
          exact leaves_fin rfl h1 (above_fin hA)
        have w1 : (!true) = false := rfl
        have w2 : (!false) = true := rfl
        have c4 := fun (s : ByteArray) mm => seenG_at (R := R) (s := s) (m := mm) hM64
        have no : R.wholeBad rule = false → ∀ e, Ev.get e 4 = .v (.bool true) → Leaves Tryz.prog false Tryz.f102 m (.v (.bool (!R.wholeBad rule)), m) .ret e m1 := fun h0 e h1 => fin e true h1 (by rw [h0]; rfl)
        unfold isRule at hrule
        rcases hrule with rfl | rfl | rfl | rfl | rfl | rfl | rfl | rfl | rfl | rfl | rfl | rfl | rfl | rfl | rfl | rfl | rfl | rfl | rfl
        · have e := whole_1 (R := R)
          cases q0 : decide (R.steps ≥ 1) with
          | true =>
            rw [q0] at e
            repeat' (first | refine gos1 (jn @nr (jn @l1 @q0)) ?_ | (refine ops_here ?_; (fail_if_success (refine ops_case (B := true) rfl rfl rfl ?_ ?_)); (fail_if_success (refine ops_case (B := false) rfl rfl rfl ?_ ?_)); refine ops_case rfl rfl rfl (fun hB => ?_) (fun hB => ?_) <;> rw [hB]) | (refine runs_here ?_; refine runs_cond rfl (fun hc => ?_) (fun hc => ?_) <;> first | (cases hc; done) | skip))
            exact fin _ _ rfl e
          | false =>
            rw [q0] at e
            repeat' (first | refine gos1 (jn @nr (jn @l1 @q0)) ?_ | (refine ops_here ?_; (fail_if_success (refine ops_case (B := true) rfl rfl rfl ?_ ?_)); (fail_if_success (refine ops_case (B := false) rfl rfl rfl ?_ ?_)); refine ops_case rfl rfl rfl (fun hB => ?_) (fun hB => ?_) <;> rw [hB]) | (refine runs_here ?_; refine runs_cond rfl (fun hc => ?_) (fun hc => ?_) <;> first | (cases hc; done) | skip))
            exact fin _ _ rfl e
        · have e := whole_2 (R := R)
          have c1 := fun mm => lensG_at R mm hsm
          repeat' (first | refine gos1 (jn @nr (jn @l0 (jn @t1 @c1))) ?_ | (refine ops_here ?_; (fail_if_success (refine ops_case (B := true) rfl rfl rfl ?_ ?_)); (fail_if_success (refine ops_case (B := false) rfl rfl rfl ?_ ?_)); refine ops_case rfl rfl rfl (fun hB => ?_) (fun hB => ?_) <;> rw [hB]) | (refine runs_here ?_; refine runs_cond rfl (fun hc => ?_) (fun hc => ?_) <;> first | (cases hc; done) | skip))
          have hlen : R.lens.length ≤ 1000000 := by
            have hB := flat_len R.phases (phLens_len hsm)
            have := hsm.2.2.1
            unfold Rc.lens
            rw [List.length_append]
            split <;> simp only [List.length_cons, List.length_nil] <;> omega
          generalize R.lens = L at e hlen
          refine runs_loop (fun k e m' => ∃ (i : Nat), i ≤ L.length ∧ (R.epoch = 0 → firstBy u1 (L.drop i) i = firstBy u1 L 0) ∧ m1 = m' ∧ k = L.length - i ∧
            e = [(2, AV.ptr m.vars.length 0), (5, .lst .no 2 (rowsLn L)), (6, .v (.int .i64 (i : Int)))]) (k := L.length) ⟨0, Nat.zero_le _, fun _ => rfl, rfl, rfl, rfl⟩ ?_
          rintro k e2 m' ⟨i, hi0, hf, rfl, rfl, rfl⟩
          refine go0 ?_
          refine runs_cond rfl (fun hc => ?_) (fun hc => ?_)
          · have hi1 : i < L.length := by have := of_decide_eq_true hc; omega
            have f2 := atLn (g := .no) (kk := .i64) hi1
            have hyes := fun hp => firstBy_yes (d := ln0) (p := u1) hi1 hp
            have hno := fun hp hz => by_no (d := ln0) hi1 hp (hf hz)
            have r6 := next_i64 (i := i) (by omega)
            generalize L.getD i ln0 = x at f2 hyes hno
            have hu : u1 x = (x.U == 1) := rfl
            rw [hu] at hyes hno
            cases q0 : (x.U == 1) with
            | false =>
              have hn0 := hno q0
              refine go1 (jn @f2 (jn @feLnU (jn @leLnU @q0))) ?_
              refine runs_cond rfl (fun hc => by cases hc) (fun hc => ?_)
              refine go1 @r6 ?_
              exact ⟨L.length - (i + 1), by omega, i + 1, hi1, hn0, rfl, rfl, rfl⟩
            | true =>
              have hy := hyes q0
              cases q1 : (R.epoch == 0) with
              | false =>
                refine go1 (jn @f2 (jn @feLnU (jn @leLnU (jn @q0 (jn @l2 @q1))))) ?_
                refine runs_cond rfl (fun hc => by cases hc) (fun hc => ?_)
                refine go1 @r6 ?_
                exact ⟨L.length - (i + 1), by omega, i + 1, hi1, (fun hz => by rw [hz] at q1; cases q1), rfl, rfl, rfl⟩
              | true =>
                rw [hy, q1] at e
                refine go1 (jn @f2 (jn @feLnU (jn @leLnU (jn @q0 (jn @l2 @q1))))) ?_
                refine runs_cond rfl (fun hc => ?_) (fun hc => by cases hc)
                refine go0 ?_
                exact fin _ _ rfl e
          · have hi1 : i = L.length := by have := of_decide_eq_false hc; omega
            subst hi1
            have hz : (L.any u1 && (R.epoch == 0)) = false := by
              cases q1 : (R.epoch == 0) with
              | false => exact Bool.and_false _
              | true => rw [firstBy_no (hf (by simpa using q1))]; rfl
            rw [hz] at e
            refine go1 @l2 ?_
            exact fin _ _ rfl (e.trans (Bool.true_and _))
        · have e := whole_3 (R := R)
          have y1 := lpRcWeights hv
          repeat' (first | refine gos1 (jn @nr @y1) ?_ | (refine ops_here ?_; (fail_if_success (refine ops_case (B := true) rfl rfl rfl ?_ ?_)); (fail_if_success (refine ops_case (B := false) rfl rfl rfl ?_ ?_)); refine ops_case rfl rfl rfl (fun hB => ?_) (fun hB => ?_) <;> rw [hB]) | (refine runs_here ?_; refine runs_cond rfl (fun hc => ?_) (fun hc => ?_) <;> first | (cases hc; done) | skip))
          exact fin _ _ rfl e
        · repeat' (first | refine gos1 @nr ?_ | (refine ops_here ?_; (fail_if_success (refine ops_case (B := true) rfl rfl rfl ?_ ?_)); (fail_if_success (refine ops_case (B := false) rfl rfl rfl ?_ ?_)); refine ops_case rfl rfl rfl (fun hB => ?_) (fun hB => ?_) <;> rw [hB]) | (refine runs_here ?_; refine runs_cond rfl (fun hc => ?_) (fun hc => ?_) <;> first | (cases hc; done) | skip))
          exact no rfl _ rfl
        · repeat' (first | refine gos1 @nr ?_ | (refine ops_here ?_; (fail_if_success (refine ops_case (B := true) rfl rfl rfl ?_ ?_)); (fail_if_success (refine ops_case (B := false) rfl rfl rfl ?_ ?_)); refine ops_case rfl rfl rfl (fun hB => ?_) (fun hB => ?_) <;> rw [hB]) | (refine runs_here ?_; refine runs_cond rfl (fun hc => ?_) (fun hc => ?_) <;> first | (cases hc; done) | skip))
          exact no rfl _ rfl
        · have e := whole_6 (R := R)
          have y1 := lpRcPhases hv
          repeat' (first | refine gos1 (jn @nr @y1) ?_ | (refine ops_here ?_; (fail_if_success (refine ops_case (B := true) rfl rfl rfl ?_ ?_)); (fail_if_success (refine ops_case (B := false) rfl rfl rfl ?_ ?_)); refine ops_case rfl rfl rfl (fun hB => ?_) (fun hB => ?_) <;> rw [hB]) | (refine runs_here ?_; refine runs_cond rfl (fun hc => ?_) (fun hc => ?_) <;> first | (cases hc; done) | skip))
          exact fin _ _ rfl e
        · repeat' (first | refine gos1 @nr ?_ | (refine ops_here ?_; (fail_if_success (refine ops_case (B := true) rfl rfl rfl ?_ ?_)); (fail_if_success (refine ops_case (B := false) rfl rfl rfl ?_ ?_)); refine ops_case rfl rfl rfl (fun hB => ?_) (fun hB => ?_) <;> rw [hB]) | (refine runs_here ?_; refine runs_cond rfl (fun hc => ?_) (fun hc => ?_) <;> first | (cases hc; done) | skip))
          exact no rfl _ rfl
        · repeat' (first | refine gos1 @nr ?_ | (refine ops_here ?_; (fail_if_success (refine ops_case (B := true) rfl rfl rfl ?_ ?_)); (fail_if_success (refine ops_case (B := false) rfl rfl rfl ?_ ?_)); refine ops_case rfl rfl rfl (fun hB => ?_) (fun hB => ?_) <;> rw [hB]) | (refine runs_here ?_; refine runs_cond rfl (fun hc => ?_) (fun hc => ?_) <;> first | (cases hc; done) | skip))
          exact no rfl _ rfl
        · have e := whole_9 (R := R)
          have hb' : b = true := by rcases hb with h | h; exact h; exact absurd rfl h
          have k1 := fun mm => hK hb' R mm 1 hmay hfit (.inl rfl)
          have k2 := fun mm => hK hb' R mm 2 hmay hfit (.inr (.inl rfl))
          have k8 := fun mm => hK hb' R mm 8 hmay hfit (.inr (.inr rfl))
          have c3 := fun mm => rsumG_at R mm (Rc.may_lens hmay)
          cases q1 : R.kept 1 with
          | false =>
            rw [q1] at e k1
            repeat' (first | refine gos1 (jn @nr (jn @l0 (jn @t2 (jn @k1 (jn @w1 @w2))))) ?_ | (refine ops_here ?_; (fail_if_success (refine ops_case (B := true) rfl rfl rfl ?_ ?_)); (fail_if_success (refine ops_case (B := false) rfl rfl rfl ?_ ?_)); refine ops_case rfl rfl rfl (fun hB => ?_) (fun hB => ?_) <;> rw [hB]) | (refine runs_here ?_; refine runs_cond rfl (fun hc => ?_) (fun hc => ?_) <;> first | (cases hc; done) | skip))
            exact fin _ _ rfl e
          | true =>
            rw [q1] at e k1
            cases q2 : R.kept 2 with
            | false =>
              rw [q2] at e k2
              repeat' (first | refine gos1 (jn @nr (jn @l0 (jn @t2 (jn @k1 (jn @k2 (jn @w1 @w2)))))) ?_ | (refine ops_here ?_; (fail_if_success (refine ops_case (B := true) rfl rfl rfl ?_ ?_)); (fail_if_success (refine ops_case (B := false) rfl rfl rfl ?_ ?_)); refine ops_case rfl rfl rfl (fun hB => ?_) (fun hB => ?_) <;> rw [hB]) | (refine runs_here ?_; refine runs_cond rfl (fun hc => ?_) (fun hc => ?_) <;> first | (cases hc; done) | skip))
              exact fin _ _ rfl e
            | true =>
              rw [q2] at e k2
              cases q8 : R.kept 8 with
              | false =>
                rw [q8] at e k8
                repeat' (first | refine gos1 (jn @nr (jn @l0 (jn @t2 (jn @k1 (jn @k2 (jn @k8 (jn @w1 @w2))))))) ?_ | (refine ops_here ?_; (fail_if_success (refine ops_case (B := true) rfl rfl rfl ?_ ?_)); (fail_if_success (refine ops_case (B := false) rfl rfl rfl ?_ ?_)); refine ops_case rfl rfl rfl (fun hB => ?_) (fun hB => ?_) <;> rw [hB]) | (refine runs_here ?_; refine runs_cond rfl (fun hc => ?_) (fun hc => ?_) <;> first | (cases hc; done) | skip))
                exact fin _ _ rfl e
              | true =>
                rw [q8] at e k8
                repeat' (first | refine gos1 (jn @nr (jn @l0 (jn @t2 (jn @k1 (jn @k2 (jn @k8 (jn @w1 (jn @w2 (jn @t3 @c3))))))))) ?_ | (refine ops_here ?_; (fail_if_success (refine ops_case (B := true) rfl rfl rfl ?_ ?_)); (fail_if_success (refine ops_case (B := false) rfl rfl rfl ?_ ?_)); refine ops_case rfl rfl rfl (fun hB => ?_) (fun hB => ?_) <;> rw [hB]) | (refine runs_here ?_; refine runs_cond rfl (fun hc => ?_) (fun hc => ?_) <;> first | (cases hc; done) | skip))
                exact fin _ _ rfl e
        · repeat' (first | refine gos1 @nr ?_ | (refine ops_here ?_; (fail_if_success (refine ops_case (B := true) rfl rfl rfl ?_ ?_)); (fail_if_success (refine ops_case (B := false) rfl rfl rfl ?_ ?_)); refine ops_case rfl rfl rfl (fun hB => ?_) (fun hB => ?_) <;> rw [hB]) | (refine runs_here ?_; refine runs_cond rfl (fun hc => ?_) (fun hc => ?_) <;> first | (cases hc; done) | skip))
          exact no rfl _ rfl
        · repeat' (first | refine gos1 @nr ?_ | (refine ops_here ?_; (fail_if_success (refine ops_case (B := true) rfl rfl rfl ?_ ?_)); (fail_if_success (refine ops_case (B := false) rfl rfl rfl ?_ ?_)); refine ops_case rfl rfl rfl (fun hB => ?_) (fun hB => ?_) <;> rw [hB]) | (refine runs_here ?_; refine runs_cond rfl (fun hc => ?_) (fun hc => ?_) <;> first | (cases hc; done) | skip))
          exact no rfl _ rfl
        · repeat' (first | refine gos1 @nr ?_ | (refine ops_here ?_; (fail_if_success (refine ops_case (B := true) rfl rfl rfl ?_ ?_)); (fail_if_success (refine ops_case (B := false) rfl rfl rfl ?_ ?_)); refine ops_case rfl rfl rfl (fun hB => ?_) (fun hB => ?_) <;> rw [hB]) | (refine runs_here ?_; refine runs_cond rfl (fun hc => ?_) (fun hc => ?_) <;> first | (cases hc; done) | skip))
          exact no rfl _ rfl
        · repeat' (first | refine gos1 @nr ?_ | (refine ops_here ?_; (fail_if_success (refine ops_case (B := true) rfl rfl rfl ?_ ?_)); (fail_if_success (refine ops_case (B := false) rfl rfl rfl ?_ ?_)); refine ops_case rfl rfl rfl (fun hB => ?_) (fun hB => ?_) <;> rw [hB]) | (refine runs_here ?_; refine runs_cond rfl (fun hc => ?_) (fun hc => ?_) <;> first | (cases hc; done) | skip))
          exact no rfl _ rfl
        · have e := whole_14 hn
          have y1 := lpRcStopOn hv
          have y2 := lpRcStopMetric hv
          have y3 := lpRcStopPatience hv
          cases q0 : R.stopOn with
          | false =>
            rw [q0] at e
            repeat' (first | refine gos1 (jn @nr (jn @y1 (jn @q0 @w2))) ?_ | (refine ops_here ?_; (fail_if_success (refine ops_case (B := true) rfl rfl rfl ?_ ?_)); (fail_if_success (refine ops_case (B := false) rfl rfl rfl ?_ ?_)); refine ops_case rfl rfl rfl (fun hB => ?_) (fun hB => ?_) <;> rw [hB]) | (refine runs_here ?_; refine runs_cond rfl (fun hc => ?_) (fun hc => ?_) <;> first | (cases hc; done) | skip))
            exact fin _ _ rfl e
          | true =>
            rw [q0] at e
            cases q1 : R.seen R.stopMetric with
            | false =>
              rw [q1] at e
              repeat' (first | refine gos1 (jn @nr (jn @y1 (jn @q0 (jn @w1 (jn @l0 (jn @y2 (jn @t4 (jn @c4 @q1)))))))) ?_ | (refine ops_here ?_; (fail_if_success (refine ops_case (B := true) rfl rfl rfl ?_ ?_)); (fail_if_success (refine ops_case (B := false) rfl rfl rfl ?_ ?_)); refine ops_case rfl rfl rfl (fun hB => ?_) (fun hB => ?_) <;> rw [hB]) | (refine runs_here ?_; refine runs_cond rfl (fun hc => ?_) (fun hc => ?_) <;> first | (cases hc; done) | skip))
              exact fin _ _ rfl e
            | true =>
              rw [q1] at e
              repeat' (first | refine gos1 (jn @nr (jn @y1 (jn @q0 (jn @w1 (jn @l0 (jn @y2 (jn @t4 (jn @c4 (jn @q1 @y3))))))))) ?_ | (refine ops_here ?_; (fail_if_success (refine ops_case (B := true) rfl rfl rfl ?_ ?_)); (fail_if_success (refine ops_case (B := false) rfl rfl rfl ?_ ?_)); refine ops_case rfl rfl rfl (fun hB => ?_) (fun hB => ?_) <;> rw [hB]) | (refine runs_here ?_; refine runs_cond rfl (fun hc => ?_) (fun hc => ?_) <;> first | (cases hc; done) | skip))
              exact fin _ _ rfl (e.trans (by simp only [Bool.not_true, Bool.false_or, Bool.true_and]))
        · have e := whole_15 hn
          have y1 := lpRcPlateauOn hv
          have y2 := lpRcPlateauMetric hv
          have y3 := lpRcPlateauPatience hv
          have y4 := lpRcPlateauFactor hv
          cases q0 : R.plateauOn with
          | false =>
            rw [q0] at e
            repeat' (first | refine gos1 (jn @nr (jn @y1 (jn @q0 @w2))) ?_ | (refine ops_here ?_; (fail_if_success (refine ops_case (B := true) rfl rfl rfl ?_ ?_)); (fail_if_success (refine ops_case (B := false) rfl rfl rfl ?_ ?_)); refine ops_case rfl rfl rfl (fun hB => ?_) (fun hB => ?_) <;> rw [hB]) | (refine runs_here ?_; refine runs_cond rfl (fun hc => ?_) (fun hc => ?_) <;> first | (cases hc; done) | skip))
            exact fin _ _ rfl e
          | true =>
            rw [q0] at e
            cases q1 : R.seen R.plateauMetric with
            | false =>
              rw [q1] at e
              repeat' (first | refine gos1 (jn @nr (jn @y1 (jn @q0 (jn @w1 (jn @l0 (jn @y2 (jn @t4 (jn @c4 @q1)))))))) ?_ | (refine ops_here ?_; (fail_if_success (refine ops_case (B := true) rfl rfl rfl ?_ ?_)); (fail_if_success (refine ops_case (B := false) rfl rfl rfl ?_ ?_)); refine ops_case rfl rfl rfl (fun hB => ?_) (fun hB => ?_) <;> rw [hB]) | (refine runs_here ?_; refine runs_cond rfl (fun hc => ?_) (fun hc => ?_) <;> first | (cases hc; done) | skip))
              exact fin _ _ rfl e
            | true =>
              rw [q1] at e
              cases q2 : decide (R.plateauPatience > 0) with
              | false =>
                rw [q2] at e
                repeat' (first | refine gos1 (jn @nr (jn @y1 (jn @q0 (jn @w1 (jn @l0 (jn @y2 (jn @t4 (jn @c4 (jn @q1 (jn @y3 @q2)))))))))) ?_ | (refine ops_here ?_; (fail_if_success (refine ops_case (B := true) rfl rfl rfl ?_ ?_)); (fail_if_success (refine ops_case (B := false) rfl rfl rfl ?_ ?_)); refine ops_case rfl rfl rfl (fun hB => ?_) (fun hB => ?_) <;> rw [hB]) | (refine runs_here ?_; refine runs_cond rfl (fun hc => ?_) (fun hc => ?_) <;> first | (cases hc; done) | skip))
                exact fin _ _ rfl e
              | true =>
                rw [q2] at e
                repeat' (first | refine gos1 (jn @nr (jn @y1 (jn @q0 (jn @w1 (jn @l0 (jn @y2 (jn @t4 (jn @c4 (jn @q1 (jn @y3 (jn @q2 @y4))))))))))) ?_ | (refine ops_here ?_; (fail_if_success (refine ops_case (B := true) rfl rfl rfl ?_ ?_)); (fail_if_success (refine ops_case (B := false) rfl rfl rfl ?_ ?_)); refine ops_case rfl rfl rfl (fun hB => ?_) (fun hB => ?_) <;> rw [hB]) | (refine runs_here ?_; refine runs_cond rfl (fun hc => ?_) (fun hc => ?_) <;> first | (cases hc; done) | skip))
                exact fin _ _ rfl (e.trans (by simp only [Bool.not_true, Bool.false_or, Bool.true_and]))
        · have e := whole_16 hn
          have y1 := lpRcKeepOn hv
          have y2 := lpRcKeepMetric hv
          have y3 := lpRcKeepCount hv
          cases q0 : R.keepOn with
          | false =>
            rw [q0] at e
            repeat' (first | refine gos1 (jn @nr (jn @y1 (jn @q0 @w2))) ?_ | (refine ops_here ?_; (fail_if_success (refine ops_case (B := true) rfl rfl rfl ?_ ?_)); (fail_if_success (refine ops_case (B := false) rfl rfl rfl ?_ ?_)); refine ops_case rfl rfl rfl (fun hB => ?_) (fun hB => ?_) <;> rw [hB]) | (refine runs_here ?_; refine runs_cond rfl (fun hc => ?_) (fun hc => ?_) <;> first | (cases hc; done) | skip))
            exact fin _ _ rfl e
          | true =>
            rw [q0] at e
            cases q1 : R.seen R.keepMetric with
            | false =>
              rw [q1] at e
              repeat' (first | refine gos1 (jn @nr (jn @y1 (jn @q0 (jn @w1 (jn @l0 (jn @y2 (jn @t4 (jn @c4 @q1)))))))) ?_ | (refine ops_here ?_; (fail_if_success (refine ops_case (B := true) rfl rfl rfl ?_ ?_)); (fail_if_success (refine ops_case (B := false) rfl rfl rfl ?_ ?_)); refine ops_case rfl rfl rfl (fun hB => ?_) (fun hB => ?_) <;> rw [hB]) | (refine runs_here ?_; refine runs_cond rfl (fun hc => ?_) (fun hc => ?_) <;> first | (cases hc; done) | skip))
              exact fin _ _ rfl e
            | true =>
              rw [q1] at e
              cases q2 : decide (R.keepCount ≥ 1) with
              | false =>
                rw [q2] at e
                repeat' (first | refine gos1 (jn @nr (jn @y1 (jn @q0 (jn @w1 (jn @l0 (jn @y2 (jn @t4 (jn @c4 (jn @q1 (jn @y3 @q2)))))))))) ?_ | (refine ops_here ?_; (fail_if_success (refine ops_case (B := true) rfl rfl rfl ?_ ?_)); (fail_if_success (refine ops_case (B := false) rfl rfl rfl ?_ ?_)); refine ops_case rfl rfl rfl (fun hB => ?_) (fun hB => ?_) <;> rw [hB]) | (refine runs_here ?_; refine runs_cond rfl (fun hc => ?_) (fun hc => ?_) <;> first | (cases hc; done) | skip))
                exact fin _ _ rfl e
              | true =>
                rw [q2] at e
                repeat' (first | refine gos1 (jn @nr (jn @y1 (jn @q0 (jn @w1 (jn @l0 (jn @y2 (jn @t4 (jn @c4 (jn @q1 (jn @y3 @q2)))))))))) ?_ | (refine ops_here ?_; (fail_if_success (refine ops_case (B := true) rfl rfl rfl ?_ ?_)); (fail_if_success (refine ops_case (B := false) rfl rfl rfl ?_ ?_)); refine ops_case rfl rfl rfl (fun hB => ?_) (fun hB => ?_) <;> rw [hB]) | (refine runs_here ?_; refine runs_cond rfl (fun hc => ?_) (fun hc => ?_) <;> first | (cases hc; done) | skip))
                exact fin _ _ rfl (e.trans (by simp only [Bool.not_true, Bool.false_or, Bool.true_and]))
        · have e := whole_17 (R := R)
          have y1 := lpRcEmaOn hv
          have y2 := lpRcEmaDecay hv
          cases q0 : R.emaOn with
          | false =>
            rw [q0] at e
            repeat' (first | refine gos1 (jn @nr (jn @y1 (jn @q0 @w2))) ?_ | (refine ops_here ?_; (fail_if_success (refine ops_case (B := true) rfl rfl rfl ?_ ?_)); (fail_if_success (refine ops_case (B := false) rfl rfl rfl ?_ ?_)); refine ops_case rfl rfl rfl (fun hB => ?_) (fun hB => ?_) <;> rw [hB]) | (refine runs_here ?_; refine runs_cond rfl (fun hc => ?_) (fun hc => ?_) <;> first | (cases hc; done) | skip))
            exact fin _ _ rfl e
          | true =>
            rw [q0] at e
            repeat' (first | refine gos1 (jn @nr (jn @y1 (jn @q0 (jn @w1 @y2)))) ?_ | (refine ops_here ?_; (fail_if_success (refine ops_case (B := true) rfl rfl rfl ?_ ?_)); (fail_if_success (refine ops_case (B := false) rfl rfl rfl ?_ ?_)); refine ops_case rfl rfl rfl (fun hB => ?_) (fun hB => ?_) <;> rw [hB]) | (refine runs_here ?_; refine runs_cond rfl (fun hc => ?_) (fun hc => ?_) <;> first | (cases hc; done) | skip))
            exact fin _ _ rfl (e.trans (by simp only [Bool.not_true, Bool.false_or, Bool.true_and]))
        · have e := whole_18 hn
          have y1 := lpRcSwaOn hv
          have y2 := lpRcSwaFrom hv
          have y3 := lpRcSwaEvery hv
          have c5 := fun mm => rstepsG_at (R := R) (m := mm) hn.from_ hn.steps.1 hn.epoch.1
          rw [show stepsP R.swaFromU R.swaFromN R.steps R.epoch = R.swaSteps from rfl] at c5
          generalize R.swaSteps = S at e c5
          cases q0 : R.swaOn with
          | false =>
            rw [q0] at e
            repeat' (first | refine gos1 (jn @nr (jn @l0 (jn @y1 (jn @y2 (jn @t5 (jn @c5 (jn @q0 @w2))))))) ?_ | (refine ops_here ?_; (fail_if_success (refine ops_case (B := true) rfl rfl rfl ?_ ?_)); (fail_if_success (refine ops_case (B := false) rfl rfl rfl ?_ ?_)); refine ops_case rfl rfl rfl (fun hB => ?_) (fun hB => ?_) <;> rw [hB]) | (refine runs_here ?_; refine runs_cond rfl (fun hc => ?_) (fun hc => ?_) <;> first | (cases hc; done) | skip))
            exact fin _ _ rfl e
          | true =>
            rw [q0] at e
            cases q1 : decide (R.swaEvery > 0) with
            | false =>
              rw [q1] at e
              repeat' (first | refine gos1 (jn @nr (jn @l0 (jn @y1 (jn @y2 (jn @t5 (jn @c5 (jn @q0 (jn @w1 (jn @y3 @q1))))))))) ?_ | (refine ops_here ?_; (fail_if_success (refine ops_case (B := true) rfl rfl rfl ?_ ?_)); (fail_if_success (refine ops_case (B := false) rfl rfl rfl ?_ ?_)); refine ops_case rfl rfl rfl (fun hB => ?_) (fun hB => ?_) <;> rw [hB]) | (refine runs_here ?_; refine runs_cond rfl (fun hc => ?_) (fun hc => ?_) <;> first | (cases hc; done) | skip))
              exact fin _ _ rfl e
            | true =>
              rw [q1] at e
              cases q2 : (S.2 == 0) with
              | false =>
                rw [q2] at e
                repeat' (first | refine gos1 (jn @nr (jn @l0 (jn @y1 (jn @y2 (jn @t5 (jn @c5 (jn @q0 (jn @w1 (jn @y3 (jn @q1 @q2)))))))))) ?_ | (refine ops_here ?_; (fail_if_success (refine ops_case (B := true) rfl rfl rfl ?_ ?_)); (fail_if_success (refine ops_case (B := false) rfl rfl rfl ?_ ?_)); refine ops_case rfl rfl rfl (fun hB => ?_) (fun hB => ?_) <;> rw [hB]) | (refine runs_here ?_; refine runs_cond rfl (fun hc => ?_) (fun hc => ?_) <;> first | (cases hc; done) | skip))
                exact fin _ _ rfl e
              | true =>
                rw [q2] at e
                repeat' (first | refine gos1 (jn @nr (jn @l0 (jn @y1 (jn @y2 (jn @t5 (jn @c5 (jn @q0 (jn @w1 (jn @y3 (jn @q1 (jn @q2 @l1))))))))))) ?_ | (refine ops_here ?_; (fail_if_success (refine ops_case (B := true) rfl rfl rfl ?_ ?_)); (fail_if_success (refine ops_case (B := false) rfl rfl rfl ?_ ?_)); refine ops_case rfl rfl rfl (fun hB => ?_) (fun hB => ?_) <;> rw [hB]) | (refine runs_here ?_; refine runs_cond rfl (fun hc => ?_) (fun hc => ?_) <;> first | (cases hc; done) | skip))
                exact fin _ _ rfl (e.trans (by simp only [Bool.not_true, Bool.false_or, Bool.true_and]))
        · have e := whole_19 (R := R)
          have y1 := lpRcEval hv
          repeat' (first | refine gos1 (jn @nr (jn @l1 @y1)) ?_ | (refine ops_here ?_; (fail_if_success (refine ops_case (B := true) rfl rfl rfl ?_ ?_)); (fail_if_success (refine ops_case (B := false) rfl rfl rfl ?_ ?_)); refine ops_case rfl rfl rfl (fun hB => ?_) (fun hB => ?_) <;> rw [hB]) | (refine runs_here ?_; refine runs_cond rfl (fun hc => ?_) (fun hc => ?_) <;> first | (cases hc; done) | skip))
          exact fin _ _ rfl e
      · cases h
    · cases h
  · cases h
end Go.Proofs.YtojaokhkbmiidaaGreat.Ev

namespace Go.Proofs.YtojaokhkbmiidaaGreat.Ev
open Go Go.Proofs
set_option maxRecDepth 10000
set_option maxHeartbeats 8000000
set_option linter.unusedVariables false
set_option linter.unusedSimpArgs false
attribute [local irreducible] Next Inside Runs Ops table
attribute [local go_sem] szStr szInt Option.getD_some isNil evStr iv loadStr loadInt mapRc cellsRc newRc rowsPh_len rowsS_len rowsGs_len rowsFl_len mkFl mkFls1 zrPh zoPh ldPh cellsPh mapPh fpRcMetrics fpRcGroups fpRcPhases fpPhName fpPhFrozen fpPhSets fePhName lePhName feFlItem leFlItem Bool.not_not
theorem mkFl2 {a b : Int} : evBuild Tryz.prog 83 [(0, .v (.int .i64 a)), (1, .v (.int .i64 b))] = some (.agg [.v (.int .i64 a), .v (.int .i64 b), .v (.int .i64 0)]) := by kernel_rfl
attribute [local go_sem] mkFl2
theorem mkFl1 {a : Int} : evBuild Tryz.prog 83 [(0, .v (.int .i64 a))] = some (.agg [.v (.int .i64 a), .v (.int .i64 0), .v (.int .i64 0)]) := by kernel_rfl
attribute [local go_sem] mkFl1
theorem mkFl0 : evBuildSlice Tryz.prog 40 0 [] = some (.lst .full 3 []) := build_nil appFl
attribute [local go_sem] mkFl0
theorem app_fl {m m' : Mem} {g g2 : Grow} (hG : GrowsA m g m') (xs : List Fl) (a b c : Int) (hl : xs.length ≤ 1000000) :
    ∃ g' m'', evAppend Tryz.prog 40 40 m' (.lst g 3 (rowsFl xs)) (.lst g2 3 [[.v (.int .i64 a), .v (.int .i64 b), .v (.int .i64 c)]]) = some (.lst g' 3 (rowsFl (xs ++ [⟨a, b, c⟩])), m'') ∧ GrowsA m g' m'' ∧ ∀ q, m''.var q = m'.var q := by
  have := app_growsV appFl hG (y := .lst g2 3 [[.v (.int .i64 a), .v (.int .i64 b), .v (.int .i64 c)]]) asList_lst (xs := rowsFl xs) (by rw [rowsFl_len]; unfold lim; simp; omega)
  rwa [show ([[.v (.int .i64 a), .v (.int .i64 b), .v (.int .i64 c)]] : List (List AV)) = rowsFl [⟨a, b, c⟩] from rfl, rowsFl_app] at this
/-! ### what the phases have -/
def nameDup (R : Rc) (i : Nat) : Bool := decide (placeOf (R.phases.map Ph.name) ((R.phases.map Ph.name).getD i ⟨#[]⟩) < (i : Int))
def fl7 (R : Rc) (rule : Int) (i : Nat) : List Fl := if rule = 7 then flawIf (nameDup R i) 7 i 0 else []
def fl8 (R : Rc) (rule : Int) (i : Nat) : List Fl := if rule = 8 then flawIf (R.lastBad i) 8 i 0 else []
def fl10 (R : Rc) (rule : Int) (i : Nat) : List Fl := if rule = 10 then upto (R.phases.getD i ph0).frozen.length fun k => flawIf (R.frozenBad (R.phases.getD i ph0) k) 10 i k else []
def fl11 (R : Rc) (rule : Int) (i : Nat) : List Fl := if 11 ≤ rule ∧ rule ≤ 13 then upto (R.phases.getD i ph0).sets.length fun k => flawIf (!R.setOk rule i k) rule i k else []
def phFl (R : Rc) (rule : Int) (i : Nat) : List Fl := fl7 R rule i ++ fl8 R rule i ++ fl10 R rule i ++ fl11 R rule i
theorem upto_nil {f : Nat → List Fl} : ∀ {n : Nat}, (∀ i, i < n → f i = []) → upto n f = []
  | 0, _ => rfl
  | n + 1, h => by rw [upto_next, upto_nil fun i hi => h i (by omega), h n (by omega)]; rfl
theorem upto_eq {f g : Nat → List Fl} : ∀ {n : Nat}, (∀ i, i < n → f i = g i) → upto n f = upto n g
  | 0, _ => rfl
  | n + 1, h => by rw [upto_next, upto_next, upto_eq fun i hi => h i (by omega), h n (by omega)]
theorem ph_none {R : Rc} {rule : Int} (h7 : rule ≠ 7) (h8 : rule ≠ 8) (h10 : rule ≠ 10) (h11 : ¬ (11 ≤ rule ∧ rule ≤ 13)) : upto R.phases.length (phFl R rule) = [] :=
  upto_nil fun i _ => by unfold phFl fl7 fl8 fl10 fl11; rw [if_neg h7, if_neg h8, if_neg h10, if_neg h11]; rfl
theorem brk_whole {R : Rc} {rule : Int} (h7 : rule ≠ 7) (h8 : rule ≠ 8) (h10 : rule ≠ 10) (h11 : ¬ (11 ≤ rule ∧ rule ≤ 13)) (h : brkL R rule = flawIf (R.wholeBad rule) rule 0 0) : brkL R rule = upto R.phases.length (phFl R rule) ++ flawIf (R.wholeBad rule) rule 0 0 := by
  rw [ph_none h7 h8 h10 h11, h]
  rfl
theorem brk_ph {R : Rc} {rule : Int} (hw : R.wholeBad rule = false) (h : brkL R rule = upto R.phases.length (phFl R rule)) : brkL R rule = upto R.phases.length (phFl R rule) ++ flawIf (R.wholeBad rule) rule 0 0 := by
  rw [hw, h]
  exact (List.append_nil _).symm
theorem sum_flaw (R : Rc) : sumL 9 R = flawIf ((R.kept 1 && (R.kept 2 && R.kept 8)) && R.sumBad) 9 0 0 := by
  have e : sumL 9 R = if R.kept 1 && (R.kept 2 && R.kept 8) then flawIf R.sumBad 9 0 0 else [] := rfl
  rw [e]
  cases R.kept 1 && (R.kept 2 && R.kept 8) <;> rfl
theorem phase_mem {R : Rc} {i : Nat} (hi : i < R.phases.length) : R.phases.getD i ph0 ∈ R.phases := by
  rw [List.getD, List.getElem?_eq_getElem hi]
  exact List.getElem_mem _
theorem set_mem {p : Ph} {i : Nat} (hi : i < p.sets.length) : p.sets.getD i gs0 ∈ p.sets := by
  rw [List.getD, List.getElem?_eq_getElem hi]
  exact List.getElem_mem _
theorem brk_is {R : Rc} {rule : Int} (hm : R.may = true) (h : isRule rule) (h4 : rule ≠ 4) (h5 : rule ≠ 5) : brkL R rule = upto R.phases.length (phFl R rule) ++ flawIf (R.wholeBad rule) rule 0 0 := by
  have ht := (may_parts hm).2.1
  unfold isRule at h
  rcases h with rfl | rfl | rfl | rfl | rfl | rfl | rfl | rfl | rfl | rfl | rfl | rfl | rfl | rfl | rfl | rfl | rfl | rfl | rfl
  · exact brk_whole (by decide) (by decide) (by decide) (by decide) rfl
  · exact brk_whole (by decide) (by decide) (by decide) (by decide) rfl
  · exact brk_whole (by decide) (by decide) (by decide) (by decide) rfl
  · exact absurd rfl h4
  · exact absurd rfl h5
  · exact brk_whole (by decide) (by decide) (by decide) (by decide) rfl
  · refine brk_ph rfl ?_
    show upto (R.phases.map Ph.name).length _ = _
    rw [List.length_map]
    exact upto_eq fun i _ => by unfold phFl fl7 fl8 fl10 fl11; rw [if_pos rfl, if_neg (by decide), if_neg (by decide), if_neg (by decide), List.append_nil, List.append_nil, List.append_nil]; rfl
  · refine brk_ph rfl ?_
    show upto R.phases.length _ = _
    exact upto_eq fun i _ => by unfold phFl fl7 fl8 fl10 fl11; rw [if_neg (by decide), if_pos rfl, if_neg (by decide), if_neg (by decide), List.append_nil, List.append_nil, List.nil_append]
  · exact brk_whole (by decide) (by decide) (by decide) (by decide) (sum_flaw R)
  · refine brk_ph rfl ?_
    show upto R.phases.length _ = _
    exact upto_eq fun i _ => by unfold phFl fl7 fl8 fl10 fl11; rw [if_neg (by decide), if_neg (by decide), if_pos rfl, if_neg (by decide), List.append_nil, List.nil_append, List.nil_append]
  · refine brk_ph rfl ?_
    show upto R.phases.length _ = _
    refine upto_eq fun i _ => ?_
    unfold phFl fl7 fl8 fl10 fl11
    rw [if_neg (by decide), if_neg (by decide), if_neg (by decide), if_pos (by decide), List.nil_append, List.nil_append, List.nil_append]
    exact upto_eq fun k _ => by show _ = flawIf (!(!setBad R (R.phases.getD i ph0) k)) 11 i k; rw [Bool.not_not]
  · refine brk_ph rfl ?_
    show upto R.phases.length _ = _
    refine upto_eq fun i _ => ?_
    unfold phFl fl7 fl8 fl10 fl11
    rw [if_neg (by decide), if_neg (by decide), if_neg (by decide), if_pos (by decide), List.nil_append, List.nil_append, List.nil_append]
    exact upto_eq fun k _ => by show _ = flawIf (!(!bentS ((R.phases.getD i ph0).sets.getD k gs0))) 12 i k; rw [Bool.not_not]
  · refine brk_ph rfl ?_
    show upto R.phases.length _ = _
    refine upto_eq fun i hi => ?_
    unfold phFl fl7 fl8 fl10 fl11
    rw [if_neg (by decide), if_neg (by decide), if_neg (by decide), if_pos (by decide), List.nil_append, List.nil_append, List.nil_append]
    exact upto_eq fun k hk => by
      show flawIf (highS _) 13 i k = flawIf (!(!((((R.phases.getD i ph0).sets.getD k gs0).param != 0) && bigN ((R.phases.getD i ph0).sets.getD k gs0).nodes))) 13 i k
      rw [Bool.not_not, highS_big ((ht _ (phase_mem hi)).2 _ (set_mem hk))]
  · exact brk_whole (by decide) (by decide) (by decide) (by decide) rfl
  · exact brk_whole (by decide) (by decide) (by decide) (by decide) rfl
  · exact brk_whole (by decide) (by decide) (by decide) (by decide) rfl
  · exact brk_whole (by decide) (by decide) (by decide) (by decide) rfl
  · exact brk_whole (by decide) (by decide) (by decide) (by decide) rfl
  · exact brk_whole (by decide) (by decide) (by decide) (by decide) rfl
theorem phFl_len {R : Rc} (h : R.small) (rule : Int) (i : Nat) : (phFl R rule i).length ≤ 130 := by
  have hp := h.phase i
  have a1 : (fl7 R rule i).length ≤ 1 := by unfold fl7; split; exact flawIf_len ..; simp
  have a2 : (fl8 R rule i).length ≤ 1 := by unfold fl8; split; exact flawIf_len ..; simp
  have a3 : (fl10 R rule i).length ≤ 64 := by unfold fl10; split; exact upto_le1 hp.1; simp
  have a4 : (fl11 R rule i).length ≤ 64 := by unfold fl11; split; exact upto_le1 hp.2.1; simp
  unfold phFl
  simp only [List.length_append]
  omega
theorem fl7_item {R : Rc} {n : Nat} : ∀ x ∈ upto n (phFl R 7), x.item < (n : Int) := by
  induction n with
  | zero => intro x hx; simp [upto_zero] at hx
  | succ n ih =>
    intro x hx
    rw [upto_next, List.mem_append] at hx
    rcases hx with hx | hx
    · have := ih x hx; omega
    · unfold phFl fl7 fl8 fl10 fl11 at hx
      rw [if_pos rfl, if_neg (by decide), if_neg (by decide), if_neg (by decide), List.append_nil, List.append_nil, List.append_nil] at hx
      unfold flawIf at hx
      split at hx
      · simp only [List.mem_singleton] at hx
        rw [hx]
        simp only
        omega
      · simp at hx
theorem last_item {acc : List Fl} {i : Int} (h : ∀ x ∈ acc, x.item < i) (h0 : acc.length ≠ 0) : ((acc.getD (acc.length - 1) fl0).item != i) = true := by
  have hm : acc.getD (acc.length - 1) fl0 ∈ acc := by
    rw [List.getD, List.getElem?_eq_getElem (by omega)]
    exact List.getElem_mem _
  have := h _ hm
  simp only [bne_iff_ne, ne_eq]
  omega
theorem last_app {acc : List Fl} {x : Fl} : (acc ++ [x]).getD ((acc ++ [x]).length - 1) fl0 = x := by
  simp [List.getD]
def brokenRG (b : Bool) : List AV → Mem → Option (AV × Mem)
  | [.agg cs, .v (.int .i64 rule)], m =>
    match unRc cs with
    | some R => if R.may = true ∧ R.fit ∧ isRule rule ∧ (b = true ∨ rule ≠ 9) then some (.lst .no 3 (rowsFl (brkL R rule)), m) else none
    | none => none
  | _, _ => none
theorem brokenRG_at {R : Rc} {m : Mem} {b : Bool} {rule : Int} (h : R.may = true) (h1 : R.fit) (h2 : isRule rule) (h3 : b = true ∨ rule ≠ 9) : brokenRG b [.agg R.row, .v (.int .i64 rule)] m = some (.lst .no 3 (rowsFl (brkL R rule)), m) := by
  simp only [brokenRG, unRc_row]
  rw [if_pos ⟨h, h1, h2, h3⟩]
def kpBroken20 : Nat → Option (List Nat) := fun
  | 0 => some [1, 2]
  | 1 => some [1, 2, 5]
  | 2 => some [1, 2, 5, 19]
  | 3 => some [1, 2, 5, 6]
  | 4 => some [1, 2, 5, 6, 23]
  | 5 => some [1, 5, 6]
  | 6 => some [1, 5, 6, 7]
  | 7 => some [1, 5, 6, 7, 29]
  | 8 => some [1, 5, 6, 7]
  | 9 => some [1, 5, 6, 7, 35]
  | 10 => some [1, 5, 6, 7]
  | 11 => some [4]
  | 12 => some [1, 2, 5, 8]
  | 13 => some [1, 2, 5, 8, 47]
  | 14 => some [1, 2, 5, 8]
  | 15 => some [1, 2, 5, 8, 9]
  | 16 => some [1, 2, 5, 8, 9, 56]
  | 17 => some [1, 2, 5, 8, 9, 10]
  | 18 => some [1, 2, 5, 8, 9, 10, 59]
  | 19 => some [1, 2, 5, 8, 9, 10]
  | 20 => some [1, 2, 5, 8, 9, 10, 86]
  | 21 => some [1, 2, 5, 8, 9, 10]
  | 22 => some [1, 2, 5, 8, 9, 100]
  | 23 => some [1, 2, 5, 8, 9]
  | 24 => some [1, 2, 5, 8, 9, 11]
  | 25 => some [1, 2, 5, 8, 9, 11, 115]
  | 26 => some [1, 2, 5, 8, 9, 11]
  | 27 => some [1, 2, 5, 8, 9, 11, 133]
  | 28 => some [1, 2, 5, 8, 9, 11]
  | 29 => some [1, 2, 5, 8, 9, 12]
  | 30 => some [1, 2, 5, 8, 9, 12, 153]
  | 31 => some [1, 2, 5, 8, 9, 12]
  | 32 => some [1, 2, 5, 8, 9, 12, 161]
  | 33 => some [1, 2, 5, 8, 9, 12]
  | 34 => some [1, 5, 172]
  | 35 => some [5]
  | 36 => some [4]
  | _ => none
attribute [go_sem] kpBroken20
def tab_broken20 (b : Bool) : List (FuncId × (List AV → Mem → Option (AV × Mem))) := [(99, firstG), (100, rlastG), (93, placeG), (101, setOkG), (102, wholeRG b)]
theorem broken20_ok (b : Bool) (hW : FunOk Tryz.prog 102 (wholeRG b)) : FunOk Tryz.prog 46 (brokenRG b) := by
  have hC := table_ok (P := Tryz.prog) (l := tab_broken20 b) (table_more first20_ok (table_more rlast_ok (table_more refPlace_ok (table_more set20_ok (table_more hW table_nil)))))
  have t1 := fun args mm => table_at (l := tab_broken20 b) (f := 99) (args := args) (m := mm) rfl
  have t2 := fun args mm => table_at (l := tab_broken20 b) (f := 100) (args := args) (m := mm) rfl
  have t3 := fun args mm => table_at (l := tab_broken20 b) (f := 93) (args := args) (m := mm) rfl
  have t4 := fun args mm => table_at (l := tab_broken20 b) (f := 101) (args := args) (m := mm) rfl
  have t5 := fun args mm => table_at (l := tab_broken20 b) (f := 102) (args := args) (m := mm) rfl
  refine fun_ok mixed hC Tryz.func46 rfl kpBroken20 false rfl fun args m r h => ?_
  unfold brokenRG at h
  split at h
  · rename_i cs rule
    split at h
    · rename_i R hR
      obtain rfl := unRc_some hR
      split at h
      · rename_i hyp
        obtain ⟨hmay, hfit, hrule, hb⟩ := hyp
        simp only [Option.some.injEq] at h
        subst h
        refine ⟨Nat.le_of_ble_eq_true rfl, ?_⟩
        simp only [entry, List.length_cons, List.length_nil, List.range, List.range.loop, List.zip_cons_cons, List.zip_nil_right]
        have hn := Rc.may_num hmay
        have hsm := Rc.may_small hmay
        have hP64 := hsm.2.2.1
        have hG0 : GrowsA m .full (m.push R.row) := growsA_push growsA_full
        have hv : (m.push R.row).var m.vars.length = some R.row := push_var
        have nr := newRc (m := m) (x := R)
        generalize m.push R.row = m1 at hG0 hv nr
        by_cases h45 : rule = 4 ∨ rule = 5
        · rcases h45 with rfl | rfl
          · -- rule 4
            have hbrk : brkL R 4 = twinsL 4 R.metrics := rfl
            have hl64 := hsm.1
            have y1 := lpRcMetrics hv
            have y0 := lpRcMetrics hv
            rw [hbrk]
            refine go1 @nr ?_
            refine runs_cond rfl (fun hc => ?_) (fun hc => by cases hc)
            refine go1 @y1 ?_
            refine runs_cond rfl (fun hc => by cases hc) (fun hc => ?_)
            refine go1 @y1 ?_
            generalize R.metrics = l at hl64
            refine runs_loop (fun k e m' => ∃ (i : Nat) (gr : Grow), i ≤ l.length ∧ GrowsA m gr m' ∧ k = l.length - i ∧
              e = [(1, AV.v (.int .i64 4)), (5, .lst gr 3 (rowsFl (upto i fun i => flawIf (decide (placeOf l (l.getD i ⟨#[]⟩) < (i : Int))) 4 i 0))), (6, .lst .no 1 (rowsS l)), (7, .v (.int .i64 (i : Int)))]) (k := l.length) ⟨0, _, Nat.zero_le _, hG0, rfl, rfl⟩ ?_
            rintro k e m' ⟨i, gr, hi0, hG, rfl, rfl⟩
            refine go0 ?_
            refine runs_cond rfl (fun hc => ?_) (fun hc => ?_)
            · have hi1 : i < l.length := by have := of_decide_eq_true hc; omega
              have c1 := fun mm => firstG_at (m := mm) (g := .no) (l := l) (i := i) (by omega) hi1
              have d1 := place_self hi1
              have hN := @upto_next i (fun i => flawIf (decide (placeOf l (l.getD i ⟨#[]⟩) < (i : Int))) 4 i 0)
              have hB := @upto_len (fun i => flawIf (decide (placeOf l (l.getD i ⟨#[]⟩) < (i : Int))) 4 i 0) 1 i fun k _ => flawIf_len ..
              generalize (upto i fun i => flawIf (decide (placeOf l (l.getD i ⟨#[]⟩) < (i : Int))) 4 i 0) = acc at hG hN hB
              generalize (placeOf l (l.getD i ⟨#[]⟩) == (i : Int)) = qb at c1 d1
              rw [← d1] at hN
              have r6 := next_i64 (i := i) (by omega)
              refine go1 (jn @t1 @c1) ?_
              refine runs_cond rfl (fun hc => ?_) (fun hc => ?_)
              · obtain ⟨g2, m2, a1, hG2, hV2⟩ := app_fl (g2 := .full) hG acc 4 i 0 (by omega)
                rw [show flawIf (!qb) 4 i 0 = [⟨4, i, 0⟩] from if_pos hc] at hN
                refine go1 (jn @a1 @r6) ?_
                exact ⟨l.length - (i + 1), by omega, i + 1, _, hi1, hG2, rfl, by rw [hN]⟩
              · rw [show flawIf (!qb) 4 i 0 = [] from if_neg (by rw [hc]; decide), List.append_nil] at hN
                refine go1 @r6 ?_
                exact ⟨l.length - (i + 1), by omega, i + 1, _, hi1, hG, rfl, by rw [hN]⟩
            · have hi1 : i = l.length := by have := of_decide_eq_false hc; omega
              subst hi1
              refine go0 ?_
              exact leaves_lst rfl rfl (growsA_fin hG)
          · -- rule 5
            have hbrk : brkL R 5 = twinsL 5 R.groups := rfl
            have hl64 := hsm.2.1
            have y1 := lpRcGroups hv
            have y0 := lpRcMetrics hv
            rw [hbrk]
            refine go1 @nr ?_
            refine runs_cond rfl (fun hc => ?_) (fun hc => by cases hc)
            refine go1 @y0 ?_
            refine runs_cond rfl (fun hc => ?_) (fun hc => by cases hc)
            refine go1 @y1 ?_
            generalize R.groups = l at hl64
            refine runs_loop (fun k e m' => ∃ (i : Nat) (gr : Grow), i ≤ l.length ∧ GrowsA m gr m' ∧ k = l.length - i ∧
              e = [(1, AV.v (.int .i64 5)), (5, .lst gr 3 (rowsFl (upto i fun i => flawIf (decide (placeOf l (l.getD i ⟨#[]⟩) < (i : Int))) 5 i 0))), (6, .lst .no 1 (rowsS l)), (7, .v (.int .i64 (i : Int)))]) (k := l.length) ⟨0, _, Nat.zero_le _, hG0, rfl, rfl⟩ ?_
            rintro k e m' ⟨i, gr, hi0, hG, rfl, rfl⟩
            refine go0 ?_
            refine runs_cond rfl (fun hc => ?_) (fun hc => ?_)
            · have hi1 : i < l.length := by have := of_decide_eq_true hc; omega
              have c1 := fun mm => firstG_at (m := mm) (g := .no) (l := l) (i := i) (by omega) hi1
              have d1 := place_self hi1
              have hN := @upto_next i (fun i => flawIf (decide (placeOf l (l.getD i ⟨#[]⟩) < (i : Int))) 5 i 0)
              have hB := @upto_len (fun i => flawIf (decide (placeOf l (l.getD i ⟨#[]⟩) < (i : Int))) 5 i 0) 1 i fun k _ => flawIf_len ..
              generalize (upto i fun i => flawIf (decide (placeOf l (l.getD i ⟨#[]⟩) < (i : Int))) 5 i 0) = acc at hG hN hB
              generalize (placeOf l (l.getD i ⟨#[]⟩) == (i : Int)) = qb at c1 d1
              rw [← d1] at hN
              have r6 := next_i64 (i := i) (by omega)
              refine go1 (jn @t1 @c1) ?_
              refine runs_cond rfl (fun hc => ?_) (fun hc => ?_)
              · obtain ⟨g2, m2, a1, hG2, hV2⟩ := app_fl (g2 := .full) hG acc 5 i 0 (by omega)
                rw [show flawIf (!qb) 5 i 0 = [⟨5, i, 0⟩] from if_pos hc] at hN
                refine go1 (jn @a1 @r6) ?_
                exact ⟨l.length - (i + 1), by omega, i + 1, _, hi1, hG2, rfl, by rw [hN]⟩
              · rw [show flawIf (!qb) 5 i 0 = [] from if_neg (by rw [hc]; decide), List.append_nil] at hN
                refine go1 @r6 ?_
                exact ⟨l.length - (i + 1), by omega, i + 1, _, hi1, hG, rfl, by rw [hN]⟩
            · have hi1 : i = l.length := by have := of_decide_eq_false hc; omega
              subst hi1
              refine go0 ?_
              exact leaves_lst rfl rfl (growsA_fin hG)
        · have hbrk := brk_is hmay hrule (fun h => h45 (.inl h)) (fun h => h45 (.inr h))
          rw [hbrk]
          have q4 : (rule == 4) = false := by simpa using fun h => h45 (.inl h)
          have q5 : (rule == 5) = false := by simpa using fun h => h45 (.inr h)
          refine go1 (jn @nr (jn @q4 @q5)) ?_
          refine runs_cond rfl (fun hc => by cases hc) (fun hc => ?_)
          refine go0 ?_
          refine runs_loop (fun k e m' => ∃ (i : Nat) (gr : Grow), i ≤ R.phases.length ∧ GrowsA m gr m' ∧ m'.var m.vars.length = some R.row ∧ k = R.phases.length - i ∧
            e = [(1, AV.v (.int .i64 rule)), (2, .ptr m.vars.length 0), (5, .lst gr 3 (rowsFl (upto i (phFl R rule)))), (8, .v (.int .i64 (i : Int)))]) (k := R.phases.length) ⟨0, _, Nat.zero_le _, hG0, hv, rfl, rfl⟩ ?_
          rintro k e m' ⟨i, gr, hi0, hG, hw, rfl, rfl⟩
          have l1 := lpRcPhases hw
          refine go1 @l1 ?_
          refine runs_cond rfl (fun hc => ?_) (fun hc => ?_)
          · have hi1 : i < R.phases.length := by have := of_decide_eq_true hc; omega
            have f2 := atPh (g := .no) (kk := .i64) hi1
            have hp := hsm.phase i
            have hlen := phFl_len hsm rule
            have hN := @upto_next i (phFl R rule)
            have hB := @upto_len (phFl R rule) 130 i fun k _ => hlen k
            have hit := @fl7_item R i
            have hdup : (nameDup R i) = ((R.phases.map Ph.name).take i).any fun y => decide (y = (R.phases.getD i ph0).name) := by
              unfold nameDup
              rw [← place_any (by rw [List.length_map]; exact hi1)]
              have : (R.phases.map Ph.name).getD i ⟨#[]⟩ = (R.phases.getD i ph0).name := by simp [List.getD, List.getElem?_eq_getElem hi1]
              rw [this]
            have hmay2 := (may_parts hmay).2.1 _ (phase_mem hi1)
            have e10 : fl10 R rule i = if rule = 10 then upto (R.phases.getD i ph0).frozen.length fun k => flawIf (R.frozenBad (R.phases.getD i ph0) k) 10 i k else [] := rfl
            have e11 : fl11 R rule i = if 11 ≤ rule ∧ rule ≤ 13 then upto (R.phases.getD i ph0).sets.length fun k => flawIf (!R.setOk rule i k) rule i k else [] := rfl
            have hset : ∀ (k : Nat) mm, (rule = 11 ∨ rule = 12 ∨ rule = 13) → k < (R.phases.getD i ph0).sets.length → setOkG [.agg R.row, .v (.int .i64 rule), .v (.int .i64 (i : Int)), .v (.int .i64 (k : Int))] mm = some (.v (.bool (R.setOk rule i k)), mm) := fun k mm h1 h2 => setOkG_at hsm h1 hi1 h2
            have hl8 := fun mm => rlastG_at (R := R) (i := i) (m := mm) hP64 hi1 hmay2.1 hn.steps.1 hn.epoch.1
            generalize R.phases.getD i ph0 = p at f2 hp hdup e10 e11 hset
            have z1 := zsPh (m := m') (x := p)
            have z2 := znPh (m := m')
            have hG1 := growsA_push (cs := p.row) hG
            have hw1 := push_old (cs' := p.row) hw
            have hp1 : (m'.push p.row).var m'.vars.length = some p.row := push_var
            generalize m'.push p.row = m5 at z1 hG1 hw1 hp1
            have hphi : phFl R rule i = fl7 R rule i ++ fl8 R rule i ++ fl10 R rule i ++ fl11 R rule i := rfl
            have hlen7 : (fl7 R rule i).length ≤ 1 := by unfold fl7; split; exact flawIf_len ..; simp
            have hlen8 : (fl8 R rule i).length ≤ 1 := by unfold fl8; split; exact flawIf_len ..; simp
            have hlen10 : (fl10 R rule i).length ≤ 64 := by rw [e10]; split; exact upto_le1 hp.1; simp
            generalize hacc : upto i (phFl R rule) = acc at hG1 hN hB
            refine go1 (jn @l1 (jn @f2 (jn @z2 @z1))) ?_
            generalize m'.vars.length = n5 at hp1 ⊢
            -- the names
            refine runs_icut (fun e2 m2 => ∃ gr2 E, GrowsA m gr2 m2 ∧ m2.var m.vars.length = some R.row ∧ m2.var n5 = some p.row ∧ e2 = (1, AV.v (.int .i64 rule)) :: (2, .ptr m.vars.length 0) :: (5, .lst gr2 3 (rowsFl (acc ++ fl7 R rule i))) :: (8, .v (.int .i64 (i : Int))) :: (9, .ptr n5 0) :: E) ?_ ?_
            · refine runs_cond rfl (fun hc => ?_) (fun hc => ?_)
              · have h7 : rule = 7 := by simpa using hc
                subst h7
                rw [show fl7 R 7 i = flawIf (nameDup R i) 7 i 0 from if_pos rfl, hdup]
                rw [hacc] at hit
                refine go0 ?_
                refine runs_loop (fun k e m' => ∃ (j : Nat) (gr : Grow), j ≤ i ∧ GrowsA m gr m' ∧ m'.var m.vars.length = some R.row ∧ m'.var n5 = some p.row ∧ k = i - j ∧
                  e = [(1, AV.v (.int .i64 7)), (2, .ptr m.vars.length 0), (5, .lst gr 3 (rowsFl (acc ++ flawIf (((R.phases.map Ph.name).take j).any fun y => decide (y = p.name)) 7 i 0))), (8, .v (.int .i64 (i : Int))), (9, .ptr n5 0), (10, .v (.int .i64 (j : Int)))]) (k := i) ⟨0, _, Nat.zero_le _, hG1, hw1, hp1, rfl, by rw [List.take_zero]; show _ = [_, _, (5, AV.lst gr 3 (rowsFl (acc ++ []))), _, _, _]; rw [List.append_nil]; rfl⟩ ?_
                rintro k e m' ⟨j, gr, hj0, hG, hw, hpv, rfl, rfl⟩
                refine go0 ?_
                refine runs_cond rfl (fun hc => ?_) (fun hc => ?_)
                · have hj1 : j < i := by have := of_decide_eq_true hc; omega
                  have hj2 : j < R.phases.length := by omega
                  have f3 := atPh (g := .no) (kk := .i64) hj2
                  have hNx : ((R.phases.map Ph.name).take (j + 1)).any (fun y => decide (y = p.name)) = (((R.phases.map Ph.name).take j).any (fun y => decide (y = p.name)) || decide ((R.phases.getD j ph0).name = p.name)) := by
                    rw [take_next (d := ⟨#[]⟩) (by rw [List.length_map]; exact hj2), List.any_append]
                    have : (R.phases.map Ph.name).getD j ⟨#[]⟩ = (R.phases.getD j ph0).name := by simp [List.getD, List.getElem?_eq_getElem hj2]
                    rw [this]
                    simp
                  have l3 := lpRcPhases hw
                  have l4 := lpPhName hpv
                  have r6 := next_i64 (i := j) (by omega)
                  generalize R.phases.getD j ph0 = x at f3 hNx
                  generalize hbn : ((R.phases.map Ph.name).take (j + 1)).any (fun y => decide (y = p.name)) = bn at hNx
                  generalize ((R.phases.map Ph.name).take j).any (fun y => decide (y = p.name)) = bj at hNx hG
                  rw [← bytes_dec] at hNx
                  refine go0 ?_
                  refine runs_ops_drawn_kept (by kernel_rfl) ?_
                  cases q0 : (x.name == p.name) with
                  | false =>
                    rw [q0, Bool.or_false] at hNx
                    subst hNx
                    refine go1 (jn @l3 (jn @f3 (jn @l4 @q0))) ?_
                    refine runs_cond rfl (fun hc => by cases hc) (fun hc => ?_)
                    refine go1 @r6 ?_
                    exact ⟨i - (j + 1), by omega, j + 1, _, hj1, hG, hw, hpv, rfl, by rw [hbn]⟩
                  | true =>
                    rw [q0, Bool.or_true] at hNx
                    subst hNx
                    cases bj with
                    | true =>
                      rw [show flawIf true 7 i 0 = [⟨7, i, 0⟩] from rfl] at *
                      have hla : ((acc ++ [(⟨7, i, 0⟩ : Fl)]).getD ((acc ++ [(⟨7, i, 0⟩ : Fl)]).length - 1) fl0).item = i := by rw [last_app]
                      have hz : (acc ++ [(⟨7, i, 0⟩ : Fl)]).length = acc.length + 1 := by simp
                      generalize hL : acc ++ [(⟨7, i, 0⟩ : Fl)] = L at hla hz
                      have z0 : (((L.length : Nat) : Int) == 0) = false := by simp only [beq_eq_false_iff_ne]; omega
                      have r1 : IntKind.i64.wrap (((L.length : Nat) : Int) - 1) = ((L.length - 1 : Nat) : Int) := by rw [i64_wrap (by omega) (by omega)]; omega
                      have f4 := atFl (g := gr) (kk := .i64) (l := L) (i := L.length - 1) (by omega)
                      generalize L.getD (L.length - 1) fl0 = y at f4 hla
                      have q9 : (y.item != (i : Int)) = false := by rw [hla]; simp
                      refine go1 (jn @l3 (jn @f3 (jn @l4 (jn @q0 (jn @z0 (jn @r1 (jn @f4 @q9))))))) ?_
                      refine runs_cond rfl (fun hc => by cases hc) (fun hc => ?_)
                      refine go1 @r6 ?_
                      exact ⟨i - (j + 1), by omega, j + 1, _, hj1, hG, hw, hpv, rfl, by rw [hbn, ← hL]; rfl⟩
                    | false =>
                      rw [show flawIf false 7 i 0 = [] from rfl, List.append_nil] at *
                      obtain ⟨g2, m2, a1, hG2, hV2⟩ := app_fl (g2 := .full) hG acc 7 i 0 (by omega)
                      by_cases hz : acc.length = 0
                      · have z0 : (((acc.length : Nat) : Int) == 0) = true := by simp only [beq_iff_eq]; omega
                        refine go1 (jn @l3 (jn @f3 (jn @l4 (jn @q0 @z0)))) ?_
                        refine runs_cond rfl (fun hc => ?_) (fun hc => by cases hc)
                        refine go1 (jn @a1 @r6) ?_
                        exact ⟨i - (j + 1), by omega, j + 1, _, hj1, hG2, by rw [hV2]; exact hw, by rw [hV2]; exact hpv, rfl, by rw [hbn]; rfl⟩
                      · have z0 : (((acc.length : Nat) : Int) == 0) = false := by simp only [beq_eq_false_iff_ne]; omega
                        have r1 : IntKind.i64.wrap (((acc.length : Nat) : Int) - 1) = ((acc.length - 1 : Nat) : Int) := by rw [i64_wrap (by omega) (by omega)]; omega
                        have f4 := atFl (g := gr) (kk := .i64) (l := acc) (i := acc.length - 1) (by omega)
                        have q9 := last_item hit hz
                        generalize acc.getD (acc.length - 1) fl0 = y at f4 q9
                        refine go1 (jn @l3 (jn @f3 (jn @l4 (jn @q0 (jn @z0 (jn @r1 (jn @f4 @q9))))))) ?_
                        refine runs_cond rfl (fun hc => ?_) (fun hc => by cases hc)
                        refine go1 (jn @a1 @r6) ?_
                        exact ⟨i - (j + 1), by omega, j + 1, _, hj1, hG2, by rw [hV2]; exact hw, by rw [hV2]; exact hpv, rfl, by rw [hbn]; rfl⟩
                · have hj1 : j = i := by have := of_decide_eq_false hc; omega
                  subst hj1
                  refine go0 ?_
                  exact ⟨rfl, _, _, hG, hw, hpv, rfl⟩
              · have h7 : rule ≠ 7 := by simpa using hc
                rw [show fl7 R rule i = [] from if_neg h7, List.append_nil]
                refine go0 ?_
                exact ⟨rfl, _, _, hG1, hw1, hp1, rfl⟩
            rintro e2 m2 ⟨gr2, E, hG2, hw2, hp2, rfl⟩
            refine next_normal ?_
            -- the lengths
            have l0 := vrRc hw2
            generalize hacc2 : acc ++ fl7 R rule i = acc2 at hG2
            have hlen2 : acc2.length ≤ acc.length + 1 := by rw [← hacc2, List.length_append]; omega
            have hR22 : ∀ (bb : Bool), bb = ((rule == 8) && R.lastBad i) → fl8 R rule i = if bb then [⟨rule, i, 0⟩] else [] := fun bb h => by
              unfold fl8 flawIf
              rw [h]
              by_cases h8 : rule = 8
              · subst h8; rfl
              · rw [if_neg h8, show (rule == 8) = false by simpa using h8, Bool.false_and]; rfl
            repeat (refine runs_seq ?_)
            refine runs_ops_kept ?_
            refine ops_rcut ((1, AV.v (.int .i64 rule)) :: (2, .ptr m.vars.length 0) :: (5, .lst gr2 3 (rowsFl acc2)) :: (8, .v (.int .i64 (i : Int))) :: (9, .ptr n5 0) :: [(100, .v (.bool ((rule == 8) && R.lastBad i)))]) m2 ?_ ?_
            · cases q8 : (rule == 8) with
              | true =>
                refine go1 (jn @q8 (jn @l0 (jn @t2 @hl8))) ?_
                exact ⟨rfl, rfl⟩
              | false =>
                refine go1 @q8 ?_
                exact ⟨rfl, rfl⟩
            repeat (first | refine next_normal ?_ | refine runs_seq ?_)
            refine runs_icut (fun e2 m2 => ∃ gr2 E, GrowsA m gr2 m2 ∧ m2.var m.vars.length = some R.row ∧ m2.var n5 = some p.row ∧ e2 = (1, AV.v (.int .i64 rule)) :: (2, .ptr m.vars.length 0) :: (5, .lst gr2 3 (rowsFl (acc2 ++ fl8 R rule i))) :: (8, .v (.int .i64 (i : Int))) :: (9, .ptr n5 0) :: E) ?_ ?_
            · refine runs_cond rfl (fun hc => ?_) (fun hc => ?_)
              · rw [hR22 true hc.symm]
                obtain ⟨g3, m3, a1, hG3, hV3⟩ := app_fl (g2 := .full) hG2 acc2 rule i 0 (by omega)
                refine go1 @a1 ?_
                exact ⟨rfl, _, _, hG3, by rw [hV3]; exact hw2, by rw [hV3]; exact hp2, rfl⟩
              · rw [hR22 false hc.symm, if_neg (by decide), List.append_nil]
                refine go0 ?_
                exact ⟨rfl, _, _, hG2, hw2, hp2, rfl⟩
            rintro e3 m3 ⟨gr3, E3, hG3, hw3, hp3, rfl⟩
            refine next_normal ?_
            -- the frozen ones
            generalize hacc3 : acc2 ++ fl8 R rule i = acc3 at hG3
            have hlen3 : acc3.length ≤ acc2.length + 1 := by rw [← hacc3, List.length_append]; omega
            refine go0 ?_
            refine runs_xcut (.exit 6) (fun e2 m2 => ∃ gr2 E, GrowsA m gr2 m2 ∧ m2.var m.vars.length = some R.row ∧ m2.var n5 = some p.row ∧ e2 = (1, AV.v (.int .i64 rule)) :: (2, .ptr m.vars.length 0) :: (5, .lst gr2 3 (rowsFl (acc3 ++ fl10 R rule i))) :: (8, .v (.int .i64 (i : Int))) :: (9, .ptr n5 0) :: E) ?_ ?_
            · by_cases h10 : rule = 10
              · subst h10
                have b10 : ((10 : Int) == 10) = true := rfl
                rw [e10, if_pos rfl]
                refine go0 ?_
                refine runs_loop (fun k e m' => ∃ (j : Nat) (gr : Grow), j ≤ p.frozen.length ∧ GrowsA m gr m' ∧ m'.var m.vars.length = some R.row ∧ m'.var n5 = some p.row ∧ k = p.frozen.length - j ∧
                  e = [(1, AV.v (.int .i64 10)), (2, .ptr m.vars.length 0), (5, .lst gr 3 (rowsFl (acc3 ++ upto j fun k => flawIf (R.frozenBad p k) 10 i k))), (8, .v (.int .i64 (i : Int))), (9, .ptr n5 0), (11, .v (.int .i64 (j : Int)))]) (k := p.frozen.length) ⟨0, _, Nat.zero_le _, hG3, hw3, hp3, rfl, by rw [upto_zero, List.append_nil]; rfl⟩ ?_
                rintro k e m' ⟨j, gr, hj0, hG, hw, hpv, rfl, rfl⟩
                have y1 := lpPhFrozen hpv
                have y2 := lpRcGroups hw
                by_cases hj1 : j < p.frozen.length
                · have bj : decide ((j : Int) < (p.frozen.length : Int)) = true := decide_eq_true (by omega)
                  refine go1 (jn @y1 (jn @bj @b10)) ?_
                  refine runs_cond rfl (fun hc => ?_) (fun hc => by cases hc)
                  have hpf := hp.1
                  have c1 := fun mm => firstG_at (m := mm) (g := .no) (l := p.frozen) (i := j) (by omega) hj1
                  have d1 := place_self hj1
                  have hN5 := @upto_next j (fun k => flawIf (R.frozenBad p k) 10 i k)
                  have hB5 := @upto_len (fun k => flawIf (R.frozenBad p k) 10 i k) 1 j fun k _ => flawIf_len ..
                  have hbad : R.frozenBad p j = (!among R.groups (p.frozen.getD j ⟨#[]⟩) || decide (placeOf p.frozen (p.frozen.getD j ⟨#[]⟩) < (j : Int))) := rfl
                  have f4 := atStrs (g := .no) (kk := .i64) hj1
                  have hg64 := hsm.2.1
                  have c2 := fun mm => placeG_eq (m := mm) (g := .no) (s := p.frozen.getD j ⟨#[]⟩) (show R.groups.length ≤ 9223372036854775807 by omega)
                  have d2 := place_neg R.groups (p.frozen.getD j ⟨#[]⟩)
                  have r6 := next_i64 (i := j) (by omega)
                  generalize (placeOf p.frozen (p.frozen.getD j ⟨#[]⟩) == (j : Int)) = qb at c1 d1
                  generalize decide (placeOf p.frozen (p.frozen.getD j ⟨#[]⟩) < (j : Int)) = qc at d1 hbad
                  generalize p.frozen.getD j ⟨#[]⟩ = s at f4 c2 d2 hbad
                  generalize placeOf R.groups s = q2 at c2 d2
                  generalize (upto j fun k => flawIf (R.frozenBad p k) 10 i k) = fl5 at hG hN5 hB5
                  generalize R.frozenBad p j = bad at hN5 hbad
                  refine go0 ?_
                  refine runs_ops_drawn_kept (by kernel_rfl) ?_
                  refine ops_rcut ((1, AV.v (.int .i64 10)) :: (2, .ptr m.vars.length 0) :: (5, .lst gr 3 (rowsFl (acc3 ++ fl5))) :: (8, .v (.int .i64 (i : Int))) :: (9, .ptr n5 0) :: (11, .v (.int .i64 (j : Int))) :: [(133, .v (.bool bad))]) m' ?_ ?_
                  · subst hbad
                    cases qc with
                    | true =>
                      refine go1 (jn @y1 (jn @t1 (jn @c1 @d1))) ?_
                      exact ⟨by rw [Bool.or_true], rfl⟩
                    | false =>
                      rw [Bool.or_false]
                      refine go1 (jn @y1 (jn @t1 (jn @c1 (jn @d1 (jn @y2 (jn @f4 (jn @t3 (jn @c2 @d2)))))))) ?_
                      exact ⟨rfl, rfl⟩
                  repeat (first | refine next_normal ?_ | refine runs_seq ?_)
                  refine runs_icut (fun e2 m2 => ∃ gr2 E, GrowsA m gr2 m2 ∧ m2.var m.vars.length = some R.row ∧ m2.var n5 = some p.row ∧ e2 = (1, AV.v (.int .i64 10)) :: (2, .ptr m.vars.length 0) :: (5, .lst gr2 3 (rowsFl (acc3 ++ (fl5 ++ flawIf bad 10 i j)))) :: (8, .v (.int .i64 (i : Int))) :: (9, .ptr n5 0) :: (11, .v (.int .i64 (j : Int))) :: E) ?_ ?_
                  · refine runs_cond rfl (fun hc => ?_) (fun hc => ?_)
                    · rw [hc, show flawIf true 10 i j = [⟨10, i, j⟩] from rfl, ← List.append_assoc]
                      obtain ⟨g4, m4, a1, hG4, hV4⟩ := app_fl (g2 := .full) hG (acc3 ++ fl5) 10 i j (by rw [List.length_append]; omega)
                      refine go1 @a1 ?_
                      exact ⟨rfl, _, _, hG4, by rw [hV4]; exact hw, by rw [hV4]; exact hpv, rfl⟩
                    · rw [hc, show flawIf false 10 i j = [] from rfl, List.append_nil]
                      refine go0 ?_
                      exact ⟨rfl, _, _, hG, hw, hpv, rfl⟩
                  rintro e6 m6 ⟨gr6, E6, hG6, hw6, hp6, rfl⟩
                  refine go1 @r6 ?_
                  exact ⟨p.frozen.length - (j + 1), by omega, j + 1, _, hj1, hG6, hw6, hp6, rfl, by rw [hN5]⟩
                · have hj2 : j = p.frozen.length := by omega
                  subst hj2
                  have bj : decide ((p.frozen.length : Int) < (p.frozen.length : Int)) = false := decide_eq_false (by omega)
                  refine go1 (jn @y1 @bj) ?_
                  refine runs_cond rfl (fun hc => by cases hc) (fun hc => ?_)
                  refine go0 ?_
                  exact ⟨rfl, _, _, hG, hw, hpv, rfl⟩
              · have b10 : (rule == 10) = false := by simpa using h10
                rw [e10, if_neg h10, List.append_nil]
                have y1 := lpPhFrozen hp3
                refine go0 ?_
                refine runs_loop (fun k e m' => m3 = m' ∧ k = 0 ∧
                  e = [(1, AV.v (.int .i64 rule)), (2, .ptr m.vars.length 0), (5, .lst gr3 3 (rowsFl acc3)), (8, .v (.int .i64 (i : Int))), (9, .ptr n5 0), (11, .v (.int .i64 0))]) (k := 0) ⟨rfl, rfl, rfl⟩ ?_
                rintro k e m' ⟨rfl, rfl, rfl⟩
                cases bj : decide ((0 : Int) < (p.frozen.length : Int)) with
                | true =>
                  refine go1 (jn @y1 (jn @bj @b10)) ?_
                  refine runs_cond rfl (fun hc => by cases hc) (fun hc => ?_)
                  refine go0 ?_
                  exact ⟨rfl, _, _, hG3, hw3, hp3, rfl⟩
                | false =>
                  refine go1 (jn @y1 @bj) ?_
                  refine runs_cond rfl (fun hc => by cases hc) (fun hc => ?_)
                  refine go0 ?_
                  exact ⟨rfl, _, _, hG3, hw3, hp3, rfl⟩
            rintro e4 m4 ⟨gr4, E4, hG4, hw4, hp4, rfl⟩
            -- the sets
            generalize hacc4 : acc3 ++ fl10 R rule i = acc4 at hG4
            have hlen4 : acc4.length ≤ acc3.length + 64 := by rw [← hacc4, List.length_append]; omega
            have hround : upto (i + 1) (phFl R rule) = acc4 ++ fl11 R rule i := by
              rw [hN, hphi, ← hacc4, ← hacc3, ← hacc2]
              simp only [List.append_assoc]
            have r6 := next_i64 (i := i) (by omega)
            refine go0 ?_
            by_cases h11 : 11 ≤ rule ∧ rule ≤ 13
            · rw [e11, if_pos h11] at hround
              have b11 : decide (rule ≥ 11) = true := decide_eq_true h11.1
              have b13 : decide (rule ≤ 13) = true := decide_eq_true h11.2
              have h123 : rule = 11 ∨ rule = 12 ∨ rule = 13 := by omega
              refine runs_loop (fun k e m' => ∃ (j : Nat) (gr : Grow), j ≤ p.sets.length ∧ GrowsA m gr m' ∧ m'.var m.vars.length = some R.row ∧ m'.var n5 = some p.row ∧ k = p.sets.length - j ∧
                e = [(1, AV.v (.int .i64 rule)), (2, .ptr m.vars.length 0), (5, .lst gr 3 (rowsFl (acc4 ++ upto j fun k => flawIf (!R.setOk rule i k) rule i k))), (8, .v (.int .i64 (i : Int))), (9, .ptr n5 0), (12, .v (.int .i64 (j : Int)))]) (k := p.sets.length) ⟨0, _, Nat.zero_le _, hG4, hw4, hp4, rfl, by rw [upto_zero, List.append_nil]; rfl⟩ ?_
              rintro k e m' ⟨j, gr, hj0, hG, hw, hpv, rfl, rfl⟩
              have y1 := lpPhSets hpv
              have y2 := vrRc hw
              by_cases hj1 : j < p.sets.length
              · have bj : decide ((j : Int) < (p.sets.length : Int)) = true := decide_eq_true (by omega)
                have c1 := fun mm => hset j mm h123 hj1
                have hN5 := @upto_next j (fun k => flawIf (!R.setOk rule i k) rule i k)
                have hB5 := @upto_len (fun k => flawIf (!R.setOk rule i k) rule i k) 1 j fun k _ => flawIf_len ..
                have hps := hp.2.1
                have r7 := next_i64 (i := j) (by omega)
                generalize (upto j fun k => flawIf (!R.setOk rule i k) rule i k) = fl5 at hG hN5 hB5
                generalize R.setOk rule i j = ok at hN5 c1
                refine go1 (jn @y1 (jn @bj (jn @b11 @b13))) ?_
                refine runs_cond rfl (fun hc => ?_) (fun hc => by cases hc)
                refine go1 (jn @y2 (jn @t4 @c1)) ?_
                refine runs_cond rfl (fun hc => ?_) (fun hc => ?_)
                · rw [show flawIf (!ok) rule i j = [⟨rule, i, j⟩] from if_pos hc] at hN5
                  obtain ⟨g4, m4, a1, hG4, hV4⟩ := app_fl (g2 := .full) hG (acc4 ++ fl5) rule i j (by rw [List.length_append]; omega)
                  refine go1 (jn @a1 @r7) ?_
                  exact ⟨p.sets.length - (j + 1), by omega, j + 1, _, hj1, hG4, by rw [hV4]; exact hw, by rw [hV4]; exact hpv, rfl, by rw [hN5, List.append_assoc]⟩
                · rw [show flawIf (!ok) rule i j = [] from if_neg (by rw [hc]; decide), List.append_nil] at hN5
                  refine go1 @r7 ?_
                  exact ⟨p.sets.length - (j + 1), by omega, j + 1, _, hj1, hG, hw, hpv, rfl, by rw [hN5]⟩
              · have hj2 : j = p.sets.length := by omega
                subst hj2
                have bj : decide ((p.sets.length : Int) < (p.sets.length : Int)) = false := decide_eq_false (by omega)
                refine go1 (jn @y1 @bj) ?_
                refine runs_cond rfl (fun hc => by cases hc) (fun hc => ?_)
                refine go1 @r6 ?_
                exact ⟨R.phases.length - (i + 1), by omega, i + 1, _, hi1, hG, hw, rfl, by rw [hround]⟩
            · rw [e11, if_neg h11, List.append_nil] at hround
              have y1 := lpPhSets hp4
              have h13 : ¬ (rule ≥ 11) ∨ ¬ (rule ≤ 13) := by omega
              refine runs_loop (fun k e m' => m4 = m' ∧ k = 0 ∧
                e = [(1, AV.v (.int .i64 rule)), (2, .ptr m.vars.length 0), (5, .lst gr4 3 (rowsFl acc4)), (8, .v (.int .i64 (i : Int))), (9, .ptr n5 0), (12, .v (.int .i64 0))]) (k := 0) ⟨rfl, rfl, rfl⟩ ?_
              rintro k e m' ⟨rfl, rfl, rfl⟩
              cases bj : decide ((0 : Int) < (p.sets.length : Int)) with
              | true =>
                cases b11 : decide (rule ≥ 11) with
                | true =>
                  have b13 : decide (rule ≤ 13) = false := decide_eq_false (by have := of_decide_eq_true b11; omega)
                  refine go1 (jn @y1 (jn @bj (jn @b11 @b13))) ?_
                  refine runs_cond rfl (fun hc => by cases hc) (fun hc => ?_)
                  refine go1 @r6 ?_
                  exact ⟨R.phases.length - (i + 1), by omega, i + 1, _, hi1, hG4, hw4, rfl, by rw [hround]⟩
                | false =>
                  refine go1 (jn @y1 (jn @bj @b11)) ?_
                  refine runs_cond rfl (fun hc => by cases hc) (fun hc => ?_)
                  refine go1 @r6 ?_
                  exact ⟨R.phases.length - (i + 1), by omega, i + 1, _, hi1, hG4, hw4, rfl, by rw [hround]⟩
              | false =>
                refine go1 (jn @y1 @bj) ?_
                refine runs_cond rfl (fun hc => by cases hc) (fun hc => ?_)
                refine go1 @r6 ?_
                exact ⟨R.phases.length - (i + 1), by omega, i + 1, _, hi1, hG4, hw4, rfl, by rw [hround]⟩
          · have hi1 : i = R.phases.length := by have := of_decide_eq_false hc; omega
            subst hi1
            have l0 := vrRc hw
            have c5 := fun mm => wholeRG_at (m := mm) hmay hfit hrule hb
            have hB := @upto_len (phFl R rule) 130 R.phases.length fun k _ => phFl_len hsm rule k
            generalize upto R.phases.length (phFl R rule) = acc at hG hB
            generalize R.wholeBad rule = wb at c5
            refine go1 (jn @l0 (jn @t5 @c5)) ?_
            refine runs_cond rfl (fun hc => ?_) (fun hc => ?_)
            · obtain ⟨g2, m2, a1, hG2, hV2⟩ := app_fl (g2 := .full) hG acc rule 0 0 (by omega)
              rw [show flawIf wb rule 0 0 = [⟨rule, 0, 0⟩] from if_pos hc]
              refine go1 @a1 ?_
              exact leaves_lst rfl rfl (growsA_fin hG2)
            · rw [show flawIf wb rule 0 0 = [] from if_neg (by rw [hc]; decide), List.append_nil]
              refine go0 ?_
              exact leaves_lst rfl rfl (growsA_fin hG)
      · cases h
    · cases h
  · cases h
def keptRG (b : Bool) : List AV → Mem → Option (AV × Mem)
  | [.agg cs, .v (.int .i64 rule)], m =>
    match unRc cs with
    | some R => if R.may = true ∧ R.fit ∧ isRule rule ∧ (b = true ∨ rule ≠ 9) then some (.v (.bool (R.kept rule)), m) else none
    | none => none
  | _, _ => none
theorem keptRG_at {R : Rc} {m : Mem} {b : Bool} {rule : Int} (h : R.may = true) (h1 : R.fit) (h2 : isRule rule) (h3 : b = true ∨ rule ≠ 9) : keptRG b [.agg R.row, .v (.int .i64 rule)] m = some (.v (.bool (R.kept rule)), m) := by
  simp only [keptRG, unRc_row]
  rw [if_pos ⟨h, h1, h2, h3⟩]
def kpKept20 : Nat → Option (List Nat) := fun
  | 0 => some [1, 2]
  | 1 => some [4]
  | _ => none
attribute [go_sem] kpKept20
def tab_kept20 (b : Bool) : List (FuncId × (List AV → Mem → Option (AV × Mem))) := [(46, brokenRG b)]
theorem kept20_ok (b : Bool) (hB : FunOk Tryz.prog 46 (brokenRG b)) : FunOk Tryz.prog 39 (keptRG b) := by
  have hC := table_ok (P := Tryz.prog) (l := tab_kept20 b) (table_more hB table_nil)
  have t1 := fun args mm => table_at (l := tab_kept20 b) (f := 46) (args := args) (m := mm) rfl
  refine fun_ok mixed hC Tryz.func39 rfl kpKept20 false rfl fun args m r h => ?_
  unfold keptRG at h
  split at h
  · rename_i cs rule
    split at h
    · rename_i R hR
      obtain rfl := unRc_some hR
      split at h
      · rename_i hyp
        obtain ⟨hmay, hfit, hrule, hb⟩ := hyp
        simp only [Option.some.injEq] at h
        subst h
        refine ⟨Nat.le_of_ble_eq_true rfl, ?_⟩
        simp only [entry, List.length_cons, List.length_nil, List.range, List.range.loop, List.zip_cons_cons, List.zip_nil_right]
        have hA := above_push (cs := R.row) (above_self m)
        have hv : (m.push R.row).var m.vars.length = some R.row := push_var
        have nr := newRc (m := m) (x := R)
        generalize m.push R.row = m1 at hA hv nr
        have l0 := vrRc hv
        have c1 := fun mm => brokenRG_at (m := mm) hmay hfit hrule hb
        unfold Rc.kept
        refine go1 (jn @nr (jn @l0 (jn @t1 @c1))) ?_
        exact leaves_fin rfl rfl (above_fin hA)
      · cases h
    · cases h
  · cases h
/-- The rules in their order: the ninth asks for three others. -/
theorem noneG_ok {P : Program} {f : FuncId} : FunOk P f fun _ _ => none := fun args m r m' h => by cases h
theorem whole20_0 : FunOk Tryz.prog 102 (wholeRG false) := whole20_ok false _ noneG_ok fun h => by cases h
theorem broken20_0 : FunOk Tryz.prog 46 (brokenRG false) := broken20_ok false whole20_0
theorem kept20_0 : FunOk Tryz.prog 39 (keptRG false) := kept20_ok false broken20_0
theorem whole20_1 : FunOk Tryz.prog 102 (wholeRG true) := whole20_ok true _ kept20_0 fun _ R mm rule h1 h2 h3 => keptRG_at h1 h2 (by unfold isRule; omega) (.inr (by omega))
theorem broken20_1 : FunOk Tryz.prog 46 (brokenRG true) := broken20_ok true whole20_1
theorem kept20_1 : FunOk Tryz.prog 39 (keptRG true) := kept20_ok true broken20_1
end Go.Proofs.YtojaokhkbmiidaaGreat.Ev

namespace Go.Proofs.YtojaokhkbmiidaaGreat.Ev
open Go Go.Proofs
set_option maxRecDepth 10000
set_option linter.unusedVariables false
set_option linter.unusedSimpArgs false
attribute [local irreducible] Next Inside Runs Ops table
attribute [local go_sem] szStr szInt Option.getD_some isNil loadStr loadInt mkInts0 mkInts1 mkStrs0 mkStrs1 rowsS_len rowsI_len evStr
def lowB (c : Nat) : Bool := decide (97 ≤ c) && decide (c ≤ 122)
def otherB (c : Nat) : Bool := (decide (48 ≤ c) && decide (c ≤ 57)) || decide (c = 95)
theorem letter_parts (c : Nat) (f : Bool) : letterB (c : Int) f = (lowB c || (!f && otherB c)) := by
  unfold letterB lowB otherB
  have e1 : decide (97 ≤ (c : Int)) = decide (97 ≤ c) := by congr 1; simp; omega
  have e2 : decide ((c : Int) ≤ 122) = decide (c ≤ 122) := by congr 1; simp; omega
  have e3 : decide (48 ≤ (c : Int)) = decide (48 ≤ c) := by congr 1; simp; omega
  have e4 : decide ((c : Int) ≤ 57) = decide (c ≤ 57) := by congr 1; simp; omega
  have e5 : decide ((c : Int) = 95) = decide (c = 95) := by congr 1; simp; omega
  rw [e1, e2, e3, e4, e5]
def kpRefIs : Nat → Option (List Nat) := fun _ => some [0, 2, 3, 4, 5, 9, 47]
attribute [go_sem] kpRefIs
def tabRefIs : List (FuncId × (List AV → Mem → Option (AV × Mem))) := [(94, keywordsG), (93, placeG)]
theorem refIs_ok : FunOk Tryz.prog 42 isNameG := by
  have hC := table_ok (P := Tryz.prog) (l := tabRefIs) (table_more keywords_ok (table_more refPlace_ok table_nil))
  have t1 := fun args mm => table_at (l := tabRefIs) (f := 94) (args := args) (m := mm) rfl
  have t2 := fun args mm => table_at (l := tabRefIs) (f := 93) (args := args) (m := mm) rfl
  refine fun_ok mixed hC Tryz.func42 rfl kpRefIs false rfl fun args m r h => ?_
  unfold isNameG at h
  split at h
  · rename_i s
    split at h
    · rename_i hlen
      simp only [Option.some.injEq] at h
      subst h
      refine ⟨Nat.le_of_ble_eq_true rfl, ?_⟩
      simp only [entry, List.length_cons, List.length_nil, List.range, List.range.loop, List.zip_cons_cons, List.zip_nil_right]
      refine go0 ?_
      refine runs_loop (fun k e m' => ∃ (i : Nat) (x4 x5 x9 x47 : AV), i ≤ s.size ∧ lettersTo s i = true ∧ m = m' ∧ k = s.size - i ∧
        e = [(0, AV.v (.string s)), (2, .v (.bool false)), (3, .v (.int .i64 (i : Int))), (4, x4), (5, x5), (9, x9), (47, x47)]) (k := s.size) ⟨0, _, _, _, _, Nat.zero_le _, rfl, rfl, rfl, rfl⟩ ?_
      rintro k e m' ⟨i, x4, x5, x9, x47, hi, hok, rfl, rfl, rfl⟩
      refine go0 ?_
      refine runs_cond rfl (fun hc => ?_) (fun hc => ?_)
      · have hi1 : i < s.size := by have := of_decide_eq_true hc; omega
        have fi := index_str (P := Tryz.prog) (k := .i64) strS hi1
        have hl := fun n => lettersTo.eq_2 s n
        have hname := name_no hi1
        have hnext : letterB ((s.get! i).toNat : Nat) (i == 0) = true → lettersTo s (i + 1) = true := fun h => by rw [lettersTo, hok, h]; rfl
        rw [letter_parts] at hname hnext
        generalize (s.get! i).toNat = c at fi hname hnext
        refine go1 @fi ?_
        refine ops_cut (K' := fun e' m' => restr (kpRefIs 4) e' = [(0, AV.v (.string s)), (2, .v (.bool false)), (3, .v (.int .i64 (i : Int))), (4, .v (.bool (lowB c))), (5, x5), (9, .v (.bool (decide ((i : Int) < (s.size : Int))))), (47, x47)] ∧ m = m') ?_ ?_
        · by_cases h1 : 97 ≤ c
          · have b1 : decide ((c : Int) ≥ 97) = true := decide_eq_true (by omega)
            have e1 : decide ((c : Int) ≤ 122) = lowB c := by simp [lowB, h1]; omega
            refine go1 (jn @fi (jn @b1 @e1)) ?_
            exact ops_nil ⟨by simp only [restr, kpRefIs, List.map_cons, List.map_nil, Ev.get, reduceIte, Nat.reduceEqDiff], rfl⟩
          · have b1 : decide ((c : Int) ≥ 97) = false := decide_eq_false (by omega)
            have e1 : lowB c = false := by simp [lowB, h1]
            rw [e1]
            refine go1 (jn @fi @b1) ?_
            exact ops_nil ⟨by simp only [restr, kpRefIs, List.map_cons, List.map_nil, Ev.get, reduceIte, Nat.reduceEqDiff], rfl⟩
        · rintro e' m' ⟨he, rfl⟩ e2 h2
          rw [he] at h2
          subst h2
          refine go1 @fi ?_
          refine ops_cut (K' := fun e' m' => restr (kpRefIs 5) e' = [(0, AV.v (.string s)), (2, .v (.bool false)), (3, .v (.int .i64 (i : Int))), (4, .v (.bool (lowB c))), (5, .v (.bool (otherB c))), (9, .v (.bool (decide ((i : Int) < (s.size : Int))))), (47, x47)] ∧ m = m') ?_ ?_
          · by_cases h1 : 48 ≤ c
            · have b1 : decide ((c : Int) ≥ 48) = true := decide_eq_true (by omega)
              by_cases h2 : c ≤ 57
              · have b2 : decide ((c : Int) ≤ 57) = true := decide_eq_true (by omega)
                have e1 : otherB c = true := by simp [otherB, h1, h2]
                rw [e1]
                refine go1 (jn @fi (jn @b1 @b2)) ?_
                exact ops_nil ⟨by simp only [restr, kpRefIs, List.map_cons, List.map_nil, Ev.get, reduceIte, Nat.reduceEqDiff], rfl⟩
              · have b2 : decide ((c : Int) ≤ 57) = false := decide_eq_false (by omega)
                have e1 : ((c : Int) == 95) = otherB c := by
                  by_cases h3 : c = 95
                  · subst h3; rfl
                  · rw [beq_eq_false_iff_ne.2 (by omega : (c : Int) ≠ 95)]; simp [otherB, h2, h3]
                refine go1 (jn @fi (jn @b1 (jn @b2 @e1))) ?_
                exact ops_nil ⟨by simp only [restr, kpRefIs, List.map_cons, List.map_nil, Ev.get, reduceIte, Nat.reduceEqDiff], rfl⟩
            · have b1 : decide ((c : Int) ≥ 48) = false := decide_eq_false (by omega)
              have e1 : ((c : Int) == 95) = otherB c := by
                rw [beq_eq_false_iff_ne.2 (by omega : (c : Int) ≠ 95)]; simp [otherB, h1]; omega
              refine go1 (jn @fi (jn @b1 @e1)) ?_
              exact ops_nil ⟨by simp only [restr, kpRefIs, List.map_cons, List.map_nil, Ev.get, reduceIte, Nat.reduceEqDiff], rfl⟩
          · rintro e' m' ⟨he, rfl⟩ e2 h2
            rw [he] at h2
            subst h2
            have hz : ((i : Int) == 0) = (i == 0) := by cases i <;> rfl
            refine go0 ?_
            refine ops_cut (K' := fun e' m' => restr (kpRefIs 6) e' = [(0, AV.v (.string s)), (2, .v (.bool false)), (3, .v (.int .i64 (i : Int))), (4, .v (.bool (lowB c))), (5, .v (.bool (otherB c))), (9, .v (.bool (decide ((i : Int) < (s.size : Int))))), (47, .v (.bool (!(lowB c || (!(i == 0) && otherB c)))))] ∧ m = m') ?_ ?_
            · cases h1 : lowB c with
              | true =>
                have b1 : (!true) = false := rfl
                refine go1 @b1 ?_
                exact ops_nil ⟨by simp only [restr, kpRefIs, List.map_cons, List.map_nil, Ev.get, reduceIte, Nat.reduceEqDiff]; rfl, rfl⟩
              | false =>
                have b1 : (!false) = true := rfl
                cases h2 : (i == 0) with
                | true =>
                  refine go1 (jn @b1 (jn @hz @h2)) ?_
                  exact ops_nil ⟨by simp only [restr, kpRefIs, List.map_cons, List.map_nil, Ev.get, reduceIte, Nat.reduceEqDiff]; rfl, rfl⟩
                | false =>
                  refine go1 (jn @b1 (jn @hz @h2)) ?_
                  exact ops_nil ⟨by simp only [restr, kpRefIs, List.map_cons, List.map_nil, Ev.get, reduceIte, Nat.reduceEqDiff]; cases otherB c <;> rfl, rfl⟩
            · rintro e' m' ⟨he, rfl⟩ e2 h2
              rw [he] at h2
              subst h2
              refine next_normal ?_
              refine runs_cond rfl (fun hc => ?_) (fun hc => ?_)
              · rw [hname (by rw [Bool.not_eq_true'] at hc; exact hc)]
                refine go0 ?_
                exact leaves_v rfl rfl
              · have r6 := next_i64 (i := i) (by omega)
                refine go1 @r6 ?_
                exact ⟨s.size - (i + 1), by omega, i + 1, _, _, _, _, hi1, hnext (by rw [Bool.not_eq_false'] at hc; exact hc), rfl, rfl, rfl⟩
      · have hi1 : i = s.size := by have := of_decide_eq_false hc; omega
        subst hi1
        refine go0 ?_
        have fk : ∀ mm, keywordsG [] mm = some (.lst .no 1 (rowsS kwRef), mm) := fun _ => rfl
        have fp := fun mm => placeG_eq (m := mm) (g := .no) (l := kwRef) (s := s) (by decide)
        have kp := kw_place s
        have e3 : decide (placeOf kwRef s < 0) = !keyword s := by
          rw [← kp]
          by_cases h : 0 ≤ placeOf kwRef s
          · rw [decide_eq_true h, decide_eq_false (by omega)]; rfl
          · rw [decide_eq_false h, decide_eq_true (by omega)]; rfl
        by_cases h1 : 1 ≤ s.size
        · have b1 : decide ((s.size : Int) ≥ 1) = true := decide_eq_true (by omega)
          by_cases h2 : s.size ≤ 16
          · have b2 : decide ((s.size : Int) ≤ 16) = true := decide_eq_true (by omega)
            refine go1 (jn @b1 (jn @b2 (jn @t1 (jn @fk (jn @t2 (jn @fp @e3)))))) ?_
            exact leaves_v rfl (by simp [isName, hok, h1, h2]; rfl)
          · have b2 : decide ((s.size : Int) ≤ 16) = false := decide_eq_false (by omega)
            refine go1 (jn @b1 (jn @b2 (jn @t1 (jn @fk (jn @t2 (jn @fp @e3)))))) ?_
            exact leaves_v rfl (by simp [isName, h2]; rfl)
        · have b1 : decide ((s.size : Int) ≥ 1) = false := decide_eq_false (by omega)
          refine go1 (jn @b1 (jn @t1 (jn @fk (jn @t2 (jn @fp @e3))))) ?_
          exact leaves_v rfl (by simp [isName, h1]; rfl)
    · cases h
  · cases h
end Go.Proofs.YtojaokhkbmiidaaGreat.Ev

namespace Go.Proofs.YtojaokhkbmiidaaGreat.Ev
open Go Go.Proofs
set_option maxRecDepth 10000
set_option maxHeartbeats 8000000
set_option linter.unusedVariables false
set_option linter.unusedSimpArgs false
attribute [local irreducible] Next Inside Runs Ops table
attribute [local go_sem] szStr szInt Option.getD_some isNil evStr loadStr loadInt rowsI_len rowsS_len
def unJ : List (List AV) → Option (List Int)
  | [] => some []
  | [.v (.int .i64 b)] :: r => (unJ r).map fun l => b :: l
  | _ => none
theorem unJ_some : ∀ {rows : List (List AV)} {l : List Int}, unJ rows = some l → rows = rowsI l
  | [], l, h => by simp only [unJ, Option.some.injEq] at h; subst h; rfl
  | row :: r, l, h => by
    unfold unJ at h
    split at h
    · rename_i heq; cases heq
    · rename_i b r' heq
      cases heq
      cases hr : unJ r with
      | none => simp [hr] at h
      | some l' =>
        simp only [hr, Option.map_some, Option.some.injEq] at h
        subst h
        rw [unJ_some hr]
        rfl
    · cases h
theorem unJ_rowsI : ∀ (l : List Int), unJ (rowsI l) = some l
  | [] => rfl
  | s :: l => by
    have e : rowsI (s :: l) = [.v (.int .i64 s)] :: rowsI l := rfl
    rw [e, unJ, unJ_rowsI l]
    rfl
def rcountsNot (x : Int) : Bool := !countB x
def rcountsG : List AV → Mem → Option (AV × Mem)
  | [.lst _ 1 rows], m =>
    match unJ rows with
    | some l => if l.length ≤ 100 then some (.v (.bool (!(l.any rcountsNot))), m) else none
    | none => none
  | _, _ => none
theorem rcountsG_at {m : Mem} {g : Grow} {l : List Int} (h : l.length ≤ 100) : rcountsG [.lst g 1 (rowsI l)] m = some (.v (.bool (!(l.any rcountsNot))), m) := by
  simp only [rcountsG, unJ_rowsI]
  rw [if_pos h]
def kp_rcounts : Nat → Option (List Nat) := fun
  | 0 => some [0]
  | 1 => some [0, 3]
  | 2 => some [0, 3, 7]
  | 3 => some [0, 3]
  | 4 => some [0, 3, 21]
  | 5 => some [2]
  | 6 => some [2]
  | _ => none
attribute [go_sem] kp_rcounts
theorem rcounts_ok : FunOk Tryz.prog 40 rcountsG := by
  have hC := table_ok (P := Tryz.prog) (l := []) table_nil
  refine fun_ok mixed hC Tryz.func40 rfl kp_rcounts false rfl fun args m r h => ?_
  unfold rcountsG at h
  split at h
  · rename_i g rows
    split at h
    · rename_i l hl
      obtain rfl := unJ_some hl
      split at h
      · rename_i hlen
        simp only [Option.some.injEq] at h
        subst h
        refine ⟨Nat.le_of_ble_eq_true rfl, ?_⟩
        simp only [entry, List.length_cons, List.length_nil, List.range, List.range.loop, List.zip_cons_cons, List.zip_nil_right]
        have hany := firstBy_any rcountsNot l 0
        refine go0 ?_
        refine runs_loop (fun k e m' => ∃ (i : Nat), i ≤ l.length ∧ firstBy rcountsNot (l.drop i) i = firstBy rcountsNot l 0 ∧ m = m' ∧ k = l.length - i ∧
          e = [(0, AV.lst g 1 (rowsI l)), (3, .v (.int .i64 (i : Int)))]) (k := l.length) ⟨0, Nat.zero_le _, rfl, rfl, rfl, rfl⟩ ?_
        rintro k e m' ⟨i, hi, hf, rfl, rfl, rfl⟩
        refine go0 ?_
        refine runs_cond rfl (fun hc => ?_) (fun hc => ?_)
        · have hi1 : i < l.length := by have := of_decide_eq_true hc; omega
          have f1 := atInts (g := g) (kk := .i64) hi1
          have hyes := fun hp => by_yes (d := (0 : Int)) hi1 hp hf
          have hno := fun hp => by_no (d := (0 : Int)) hi1 hp hf
          have r6 := next_i64 (i := i) (by omega)
          generalize l.getD i 0 = x at f1 hyes hno
          have hx : rcountsNot x = !decide (0 ≤ x ∧ x ≤ 1099511627776) := rfl
          by_cases h0 : x < 0
          · have b0 : decide (x < 0) = true := decide_eq_true h0
            have hy := hyes (by rw [hx, decide_eq_false (by omega)]; rfl)
            rw [hy, decide_eq_true (by omega)] at hany
            rw [← hany]
            repeat' (first | refine gos1 (jn @f1 @b0) ?_ | (refine ops_here ?_; (fail_if_success (refine ops_case (B := true) rfl rfl rfl ?_ ?_)); (fail_if_success (refine ops_case (B := false) rfl rfl rfl ?_ ?_)); refine ops_case rfl rfl rfl (fun hB => ?_) (fun hB => ?_) <;> rw [hB]) | (refine runs_here ?_; refine runs_cond rfl (fun hc => ?_) (fun hc => ?_) <;> first | (cases hc; done) | skip))
            all_goals exact leaves_v rfl rfl
          · have b0 : decide (x < 0) = false := decide_eq_false h0
            by_cases h1 : x > 1099511627776
            · have b1 : decide (x > 1099511627776) = true := decide_eq_true h1
              have hy := hyes (by rw [hx, decide_eq_false (by omega)]; rfl)
              rw [hy, decide_eq_true (by omega)] at hany
              rw [← hany]
              repeat' (first | refine gos1 (jn @f1 (jn @b0 @b1)) ?_ | (refine ops_here ?_; (fail_if_success (refine ops_case (B := true) rfl rfl rfl ?_ ?_)); (fail_if_success (refine ops_case (B := false) rfl rfl rfl ?_ ?_)); refine ops_case rfl rfl rfl (fun hB => ?_) (fun hB => ?_) <;> rw [hB]) | (refine runs_here ?_; refine runs_cond rfl (fun hc => ?_) (fun hc => ?_) <;> first | (cases hc; done) | skip))
              all_goals exact leaves_v rfl rfl
            · have b1 : decide (x > 1099511627776) = false := decide_eq_false h1
              have hn := hno (by rw [hx, decide_eq_true (by omega)]; rfl)
              refine go1 (jn @f1 (jn @b0 @b1)) ?_
              refine runs_cond rfl (fun hc => by cases hc) (fun hc => ?_)
              refine go1 @r6 ?_
              exact ⟨l.length - (i + 1), by omega, i + 1, hi1, hn, rfl, rfl, rfl⟩
        · have hi1 : i = l.length := by have := of_decide_eq_false hc; omega
          subst hi1
          rw [by_end hf] at hany
          rw [← hany]
          refine go0 ?_
          exact leaves_v rfl rfl
      · cases h
    · cases h
  · cases h
def rvaluesNot (x : Int) : Bool := !valueB x
def rvaluesG : List AV → Mem → Option (AV × Mem)
  | [.lst _ 1 rows], m =>
    match unJ rows with
    | some l => if l.length ≤ 100 then some (.v (.bool (!(l.any rvaluesNot))), m) else none
    | none => none
  | _, _ => none
theorem rvaluesG_at {m : Mem} {g : Grow} {l : List Int} (h : l.length ≤ 100) : rvaluesG [.lst g 1 (rowsI l)] m = some (.v (.bool (!(l.any rvaluesNot))), m) := by
  simp only [rvaluesG, unJ_rowsI]
  rw [if_pos h]
def kp_rvalues : Nat → Option (List Nat) := fun
  | 0 => some [0]
  | 1 => some [0, 3]
  | 2 => some [0, 3, 7]
  | 3 => some [0, 3]
  | 4 => some [0, 3, 21]
  | 5 => some [2]
  | 6 => some [2]
  | _ => none
attribute [go_sem] kp_rvalues
theorem rvalues_ok : FunOk Tryz.prog 98 rvaluesG := by
  have hC := table_ok (P := Tryz.prog) (l := []) table_nil
  refine fun_ok mixed hC Tryz.func98 rfl kp_rvalues false rfl fun args m r h => ?_
  unfold rvaluesG at h
  split at h
  · rename_i g rows
    split at h
    · rename_i l hl
      obtain rfl := unJ_some hl
      split at h
      · rename_i hlen
        simp only [Option.some.injEq] at h
        subst h
        refine ⟨Nat.le_of_ble_eq_true rfl, ?_⟩
        simp only [entry, List.length_cons, List.length_nil, List.range, List.range.loop, List.zip_cons_cons, List.zip_nil_right]
        have hany := firstBy_any rvaluesNot l 0
        refine go0 ?_
        refine runs_loop (fun k e m' => ∃ (i : Nat), i ≤ l.length ∧ firstBy rvaluesNot (l.drop i) i = firstBy rvaluesNot l 0 ∧ m = m' ∧ k = l.length - i ∧
          e = [(0, AV.lst g 1 (rowsI l)), (3, .v (.int .i64 (i : Int)))]) (k := l.length) ⟨0, Nat.zero_le _, rfl, rfl, rfl, rfl⟩ ?_
        rintro k e m' ⟨i, hi, hf, rfl, rfl, rfl⟩
        refine go0 ?_
        refine runs_cond rfl (fun hc => ?_) (fun hc => ?_)
        · have hi1 : i < l.length := by have := of_decide_eq_true hc; omega
          have f1 := atInts (g := g) (kk := .i64) hi1
          have hyes := fun hp => by_yes (d := (0 : Int)) hi1 hp hf
          have hno := fun hp => by_no (d := (0 : Int)) hi1 hp hf
          have r6 := next_i64 (i := i) (by omega)
          generalize l.getD i 0 = x at f1 hyes hno
          have hx : rvaluesNot x = !decide (0 ≤ x ∧ x ≤ 4503599627370496) := rfl
          by_cases h0 : x < 0
          · have b0 : decide (x < 0) = true := decide_eq_true h0
            have hy := hyes (by rw [hx, decide_eq_false (by omega)]; rfl)
            rw [hy, decide_eq_true (by omega)] at hany
            rw [← hany]
            repeat' (first | refine gos1 (jn @f1 @b0) ?_ | (refine ops_here ?_; (fail_if_success (refine ops_case (B := true) rfl rfl rfl ?_ ?_)); (fail_if_success (refine ops_case (B := false) rfl rfl rfl ?_ ?_)); refine ops_case rfl rfl rfl (fun hB => ?_) (fun hB => ?_) <;> rw [hB]) | (refine runs_here ?_; refine runs_cond rfl (fun hc => ?_) (fun hc => ?_) <;> first | (cases hc; done) | skip))
            all_goals exact leaves_v rfl rfl
          · have b0 : decide (x < 0) = false := decide_eq_false h0
            by_cases h1 : x > 4503599627370496
            · have b1 : decide (x > 4503599627370496) = true := decide_eq_true h1
              have hy := hyes (by rw [hx, decide_eq_false (by omega)]; rfl)
              rw [hy, decide_eq_true (by omega)] at hany
              rw [← hany]
              repeat' (first | refine gos1 (jn @f1 (jn @b0 @b1)) ?_ | (refine ops_here ?_; (fail_if_success (refine ops_case (B := true) rfl rfl rfl ?_ ?_)); (fail_if_success (refine ops_case (B := false) rfl rfl rfl ?_ ?_)); refine ops_case rfl rfl rfl (fun hB => ?_) (fun hB => ?_) <;> rw [hB]) | (refine runs_here ?_; refine runs_cond rfl (fun hc => ?_) (fun hc => ?_) <;> first | (cases hc; done) | skip))
              all_goals exact leaves_v rfl rfl
            · have b1 : decide (x > 4503599627370496) = false := decide_eq_false h1
              have hn := hno (by rw [hx, decide_eq_true (by omega)]; rfl)
              refine go1 (jn @f1 (jn @b0 @b1)) ?_
              refine runs_cond rfl (fun hc => by cases hc) (fun hc => ?_)
              refine go1 @r6 ?_
              exact ⟨l.length - (i + 1), by omega, i + 1, hi1, hn, rfl, rfl, rfl⟩
        · have hi1 : i = l.length := by have := of_decide_eq_false hc; omega
          subst hi1
          rw [by_end hf] at hany
          rw [← hany]
          refine go0 ?_
          exact leaves_v rfl rfl
      · cases h
    · cases h
  · cases h
def rnamedG : List AV → Mem → Option (AV × Mem)
  | [.lst _ 1 rows, .v (.int .i64 n)], m =>
    match unS rows with
    | some l => if l.length ≤ 1000 ∧ ∀ x ∈ l, okStr x then some (.v (.bool (namedB l n)), m) else none
    | none => none
  | _, _ => none
theorem rnamedG_at {m : Mem} {g : Grow} {l : List ByteArray} {n : Int} (h : l.length ≤ 1000 ∧ ∀ x ∈ l, okStr x) : rnamedG [.lst g 1 (rowsS l), .v (.int .i64 n)] m = some (.v (.bool (namedB l n)), m) := by
  simp only [rnamedG, unS_rowsS]
  rw [if_pos h]
def kp_rnamed : Nat → Option (List Nat) := fun
  | 0 => some [0, 1]
  | 1 => some [0, 1, 5]
  | 2 => some [0, 1, 5, 9]
  | 3 => some [0, 1, 5]
  | 4 => some [0, 1, 5, 17]
  | 5 => some [4]
  | 6 => some [4]
  | _ => none
attribute [go_sem] kp_rnamed
def tab_rnamed_ok : List (FuncId × (List AV → Mem → Option (AV × Mem))) := [(42, isNameG)]
theorem rnamed_ok : FunOk Tryz.prog 41 rnamedG := by
  have hC := table_ok (P := Tryz.prog) (l := tab_rnamed_ok) (table_more refIs_ok table_nil)
  have t1 := fun args mm => table_at (l := tab_rnamed_ok) (f := 42) (args := args) (m := mm) rfl
  refine fun_ok mixed hC Tryz.func41 rfl kp_rnamed false rfl fun args m r h => ?_
  unfold rnamedG at h
  split at h
  · rename_i g rows n
    split at h
    · rename_i l hl
      obtain rfl := unS_some hl
      split at h
      · rename_i hyp
        obtain ⟨hlen, hb⟩ := hyp
        simp only [Option.some.injEq] at h
        subst h
        refine ⟨Nat.le_of_ble_eq_true rfl, ?_⟩
        simp only [entry, List.length_cons, List.length_nil, List.range, List.range.loop, List.zip_cons_cons, List.zip_nil_right]
        have hany := firstBy_any notName l 0
        unfold namedB
        refine go0 ?_
        refine runs_loop (fun k e m' => ∃ (i : Nat), i ≤ l.length ∧ firstBy notName (l.drop i) i = firstBy notName l 0 ∧ m = m' ∧ k = l.length - i ∧
          e = [(0, AV.lst g 1 (rowsS l)), (1, .v (.int .i64 n)), (5, .v (.int .i64 (i : Int)))]) (k := l.length) ⟨0, Nat.zero_le _, rfl, rfl, rfl, rfl⟩ ?_
        rintro k e m' ⟨i, hi, hf, rfl, rfl, rfl⟩
        refine go0 ?_
        refine runs_cond rfl (fun hc => ?_) (fun hc => ?_)
        · have hi1 : i < l.length := by have := of_decide_eq_true hc; omega
          have f1 := atStrs (g := g) (kk := .i64) hi1
          have f2 := fun mm => isNameG_eq (m := mm) (hb (l.getD i ⟨#[]⟩) (by rw [List.getD, List.getElem?_eq_getElem hi1]; exact List.getElem_mem _))
          have hyes := fun hp => by_yes (d := (⟨#[]⟩ : ByteArray)) hi1 hp hf
          have hno := fun hp => by_no (d := (⟨#[]⟩ : ByteArray)) hi1 hp hf
          have r6 := next_i64 (i := i) (by omega)
          generalize l.getD i ⟨#[]⟩ = s at f1 f2 hyes hno
          have w1 : (!true) = false := rfl
          have w2 : (!false) = true := rfl
          cases hs : isName s with
          | false =>
            rw [hs] at f2
            have hy := hyes (by unfold notName; rw [hs]; rfl)
            rw [hy, decide_eq_true (by omega)] at hany
            rw [← hany, show (decide ((l.length : Int) ≤ n) && !true) = false from by simp]
            repeat' (first | refine gos1 (jn @f1 (jn @t1 (jn @f2 @w2))) ?_ | (refine ops_here ?_; (fail_if_success (refine ops_case (B := true) rfl rfl rfl ?_ ?_)); (fail_if_success (refine ops_case (B := false) rfl rfl rfl ?_ ?_)); refine ops_case rfl rfl rfl (fun hB => ?_) (fun hB => ?_) <;> rw [hB]) | (refine runs_here ?_; refine runs_cond rfl (fun hc => ?_) (fun hc => ?_) <;> first | (cases hc; done) | skip))
            all_goals exact leaves_v rfl rfl
          | true =>
            rw [hs] at f2
            have hn := hno (by unfold notName; rw [hs]; rfl)
            refine go1 (jn @f1 (jn @t1 (jn @f2 @w1))) ?_
            refine runs_cond rfl (fun hc => by cases hc) (fun hc => ?_)
            refine go1 @r6 ?_
            exact ⟨l.length - (i + 1), by omega, i + 1, hi1, hn, rfl, rfl, rfl⟩
        · have hi1 : i = l.length := by have := of_decide_eq_false hc; omega
          subst hi1
          rw [by_end hf] at hany
          rw [← hany, show (decide ((l.length : Int) ≤ n) && !(decide ((0 : Int) ≤ -1))) = decide ((l.length : Int) ≤ n) from by simp]
          refine go0 ?_
          exact leaves_v rfl rfl
      · cases h
    · cases h
  · cases h
end Go.Proofs.YtojaokhkbmiidaaGreat.Ev

namespace Go.Proofs.YtojaokhkbmiidaaGreat.Ev
open Go Go.Proofs
set_option maxRecDepth 10000
set_option maxHeartbeats 16000000
set_option linter.unusedVariables false
set_option linter.unusedSimpArgs false
attribute [local irreducible] Next Inside Runs Ops table nrow
attribute [local go_sem] szStr szInt Option.getD_some isNil evStr loadOne newNode cellsNode nf0 nf1 nf2 nf3 nf4 nf5 lf0 nh0 nh1 nh2 nh3 nh4 nh5 loadNodeLen zeroLen niLen eqLen Nat.zero_add
theorem refMay_low : FunOk Tryz.prog 96 (mayAt fun op => decide (op < 1)) := by
  have hC := table_ok (P := Tryz.prog) (l := tabRefMay) (table_more refQ_ok (table_more refLenMay_ok table_nil))
  have t1 := fun args mm => table_at (l := tabRefMay) (f := 136) (args := args) (m := mm) rfl
  have t2 := fun args mm => table_at (l := tabRefMay) (f := 43) (args := args) (m := mm) rfl
  refine fun_ok mixed hC Tryz.func96 rfl kpRefMay false rfl fun args m r h => ?_
  unfold mayAt at h
  split at h
  · rename_i cs
    split at h
    · rename_i x hx
      split at h
      · rename_i hop
        obtain rfl := unNd_row hx
        obtain ⟨op, a, b, c, k, u, n⟩ := x
        have hop := of_decide_eq_true hop
        simp only at hop
        simp only [Option.some.injEq] at h
        subst h
        refine ⟨Nat.le_of_ble_eq_true rfl, ?_⟩
        simp only [entry, List.length_cons, List.length_nil, List.range, List.range.loop, List.zip_cons_cons, List.zip_nil_right]
        have fin : ∀ (e : Env) (m' : Mem) (z : Bool), Ev.get e 2 = .v (.bool z) → finMem m m' = m → (z = true ↔ mayN ⟨op, a, b, c, k, u, n⟩) → Leaves Tryz.prog false Tryz.f96 m (.v (.bool (decide (mayN ⟨op, a, b, c, k, u, n⟩))), m) .ret e m' := fun e m' z h1 h2 h3 => by
          have : z = decide (mayN ⟨op, a, b, c, k, u, n⟩) := by rw [Bool.eq_iff_iff, decide_eq_true_eq]; exact h3
          rw [← this]
          exact leaves_fin rfl h1 h2
        have z0 : (decide (op < 1)) = true := decide_eq_true (by omega)
        have z1 : (decide (op ≥ 2)) = false := decide_eq_false (by omega)
        have z2 : (decide (op ≥ 7)) = false := decide_eq_false (by omega)
        have z3 : (op == 3) = false := beq_eq_false_iff_ne.2 (by omega)
        have z4 : (op == 4) = false := beq_eq_false_iff_ne.2 (by omega)
        have z5 : (op == 6) = false := beq_eq_false_iff_ne.2 (by omega)
        have z6 : (op == 7) = false := beq_eq_false_iff_ne.2 (by omega)
        have z7 : (op == 9) = false := beq_eq_false_iff_ne.2 (by omega)
        repeat' (first | refine gos1 (jn @t1 (jn @q_eq (jn @t2 (jn @lm_eq (jn @z0 (jn @z1 (jn @z2 (jn @z3 (jn @z4 (jn @z5 (jn @z6 @z7))))))))))) ?_ | (refine ops_here ?_; (fail_if_success (refine ops_case (B := true) rfl rfl rfl ?_ ?_)); (fail_if_success (refine ops_case (B := false) rfl rfl rfl ?_ ?_)); refine ops_case rfl rfl rfl (fun hB => ?_) (fun hB => ?_) <;> rw [hB]) | (refine runs_here ?_; refine runs_cond rfl (fun hc => ?_) (fun hc => ?_) <;> first | (cases hc; done) | skip))
        all_goals exact fin _ _ _ rfl fin_push (by clear fin hx t1 t2 hC; simp only [Bool.not_eq_true', Bool.not_eq_false', Bool.not_true, Bool.not_false, Bool.and_true, Bool.and_eq_true, Bool.and_eq_false_iff, decide_eq_true_eq, decide_eq_false_iff_not, Bool.false_eq_true, reduceCtorEq, false_iff, true_iff, beq_iff_eq, bne_iff_ne, beq_eq_false_iff_ne, bne_eq_false_iff_eq, ne_eq, not_false_eq_true, not_true_eq_false, true_or, or_true, true_implies, false_implies, implies_true, and_self, true_and, false_and, or_false, false_or, and_true, and_false] at *; simp only [mayN, inQ, lenMay, not_false_eq_true, not_true_eq_false, true_or, or_true, true_implies, false_implies, implies_true, and_self, true_and, false_and, or_false, false_or, and_true, and_false] at *; omega)
      · cases h
    · cases h
  · cases h
theorem refMay_high : FunOk Tryz.prog 96 (mayAt fun op => decide (9 < op)) := by
  have hC := table_ok (P := Tryz.prog) (l := tabRefMay) (table_more refQ_ok (table_more refLenMay_ok table_nil))
  have t1 := fun args mm => table_at (l := tabRefMay) (f := 136) (args := args) (m := mm) rfl
  have t2 := fun args mm => table_at (l := tabRefMay) (f := 43) (args := args) (m := mm) rfl
  refine fun_ok mixed hC Tryz.func96 rfl kpRefMay false rfl fun args m r h => ?_
  unfold mayAt at h
  split at h
  · rename_i cs
    split at h
    · rename_i x hx
      split at h
      · rename_i hop
        obtain rfl := unNd_row hx
        obtain ⟨op, a, b, c, k, u, n⟩ := x
        have hop := of_decide_eq_true hop
        simp only at hop
        simp only [Option.some.injEq] at h
        subst h
        refine ⟨Nat.le_of_ble_eq_true rfl, ?_⟩
        simp only [entry, List.length_cons, List.length_nil, List.range, List.range.loop, List.zip_cons_cons, List.zip_nil_right]
        have fin : ∀ (e : Env) (m' : Mem) (z : Bool), Ev.get e 2 = .v (.bool z) → finMem m m' = m → (z = true ↔ mayN ⟨op, a, b, c, k, u, n⟩) → Leaves Tryz.prog false Tryz.f96 m (.v (.bool (decide (mayN ⟨op, a, b, c, k, u, n⟩))), m) .ret e m' := fun e m' z h1 h2 h3 => by
          have : z = decide (mayN ⟨op, a, b, c, k, u, n⟩) := by rw [Bool.eq_iff_iff, decide_eq_true_eq]; exact h3
          rw [← this]
          exact leaves_fin rfl h1 h2
        have z0 : (decide (op < 1)) = false := decide_eq_false (by omega)
        have z1 : (decide (op > 9)) = true := decide_eq_true (by omega)
        have z2 : (decide (op ≥ 2)) = true := decide_eq_true (by omega)
        have z3 : (decide (op ≤ 7)) = false := decide_eq_false (by omega)
        have z4 : (decide (op ≥ 7)) = true := decide_eq_true (by omega)
        have z5 : (op == 3) = false := beq_eq_false_iff_ne.2 (by omega)
        have z6 : (op == 4) = false := beq_eq_false_iff_ne.2 (by omega)
        have z7 : (op == 6) = false := beq_eq_false_iff_ne.2 (by omega)
        have z8 : (op == 7) = false := beq_eq_false_iff_ne.2 (by omega)
        have z9 : (op == 9) = false := beq_eq_false_iff_ne.2 (by omega)
        repeat' (first | refine gos1 (jn @t1 (jn @q_eq (jn @t2 (jn @lm_eq (jn @z0 (jn @z1 (jn @z2 (jn @z3 (jn @z4 (jn @z5 (jn @z6 (jn @z7 (jn @z8 @z9))))))))))))) ?_ | (refine ops_here ?_; (fail_if_success (refine ops_case (B := true) rfl rfl rfl ?_ ?_)); (fail_if_success (refine ops_case (B := false) rfl rfl rfl ?_ ?_)); refine ops_case rfl rfl rfl (fun hB => ?_) (fun hB => ?_) <;> rw [hB]) | (refine runs_here ?_; refine runs_cond rfl (fun hc => ?_) (fun hc => ?_) <;> first | (cases hc; done) | skip))
        all_goals exact fin _ _ _ rfl fin_push (by clear fin hx t1 t2 hC; simp only [Bool.not_eq_true', Bool.not_eq_false', Bool.not_true, Bool.not_false, Bool.and_true, Bool.and_eq_true, Bool.and_eq_false_iff, decide_eq_true_eq, decide_eq_false_iff_not, Bool.false_eq_true, reduceCtorEq, false_iff, true_iff, beq_iff_eq, bne_iff_ne, beq_eq_false_iff_ne, bne_eq_false_iff_eq, ne_eq, not_false_eq_true, not_true_eq_false, true_or, or_true, true_implies, false_implies, implies_true, and_self, true_and, false_and, or_false, false_or, and_true, and_false] at *; simp only [mayN, inQ, lenMay, not_false_eq_true, not_true_eq_false, true_or, or_true, true_implies, false_implies, implies_true, and_self, true_and, false_and, or_false, false_or, and_true, and_false] at *; omega)
      · cases h
    · cases h
  · cases h
theorem refMay_at1 : FunOk Tryz.prog 96 (mayAt fun op => decide (op = 1)) := by
  have hC := table_ok (P := Tryz.prog) (l := tabRefMay) (table_more refQ_ok (table_more refLenMay_ok table_nil))
  have t1 := fun args mm => table_at (l := tabRefMay) (f := 136) (args := args) (m := mm) rfl
  have t2 := fun args mm => table_at (l := tabRefMay) (f := 43) (args := args) (m := mm) rfl
  refine fun_ok mixed hC Tryz.func96 rfl kpRefMay false rfl fun args m r h => ?_
  unfold mayAt at h
  split at h
  · rename_i cs
    split at h
    · rename_i x hx
      split at h
      · rename_i hop
        obtain rfl := unNd_row hx
        obtain ⟨op, a, b, c, k, u, n⟩ := x
        have hop := of_decide_eq_true hop
        simp only at hop
        simp only [Option.some.injEq] at h
        subst h
        refine ⟨Nat.le_of_ble_eq_true rfl, ?_⟩
        simp only [entry, List.length_cons, List.length_nil, List.range, List.range.loop, List.zip_cons_cons, List.zip_nil_right]
        have fin : ∀ (e : Env) (m' : Mem) (z : Bool), Ev.get e 2 = .v (.bool z) → finMem m m' = m → (z = true ↔ mayN ⟨op, a, b, c, k, u, n⟩) → Leaves Tryz.prog false Tryz.f96 m (.v (.bool (decide (mayN ⟨op, a, b, c, k, u, n⟩))), m) .ret e m' := fun e m' z h1 h2 h3 => by
          have : z = decide (mayN ⟨op, a, b, c, k, u, n⟩) := by rw [Bool.eq_iff_iff, decide_eq_true_eq]; exact h3
          rw [← this]
          exact leaves_fin rfl h1 h2
        subst hop
        repeat' (first | refine gos1 (jn @t1 (jn @q_eq (jn @t2 @lm_eq))) ?_ | (refine ops_here ?_; (fail_if_success (refine ops_case (B := true) rfl rfl rfl ?_ ?_)); (fail_if_success (refine ops_case (B := false) rfl rfl rfl ?_ ?_)); refine ops_case rfl rfl rfl (fun hB => ?_) (fun hB => ?_) <;> rw [hB]) | (refine runs_here ?_; refine runs_cond rfl (fun hc => ?_) (fun hc => ?_) <;> first | (cases hc; done) | skip))
        all_goals exact fin _ _ _ rfl fin_push (by clear fin hx t1 t2 hC; simp only [Bool.not_eq_true', Bool.not_eq_false', Bool.not_true, Bool.not_false, Bool.and_true, Bool.and_eq_true, Bool.and_eq_false_iff, decide_eq_true_eq, decide_eq_false_iff_not, Bool.false_eq_true, reduceCtorEq, false_iff, true_iff, beq_iff_eq, bne_iff_ne, beq_eq_false_iff_ne, bne_eq_false_iff_eq, ne_eq, not_false_eq_true, not_true_eq_false, true_or, or_true, true_implies, false_implies, implies_true, and_self, true_and, false_and, or_false, false_or, and_true, and_false] at *; simp only [mayN, inQ, lenMay, not_false_eq_true, not_true_eq_false, true_or, or_true, true_implies, false_implies, implies_true, and_self, true_and, false_and, or_false, false_or, and_true, and_false] at *; omega)
      · cases h
    · cases h
  · cases h
end Go.Proofs.YtojaokhkbmiidaaGreat.Ev

namespace Go.Proofs.YtojaokhkbmiidaaGreat.Ev
open Go Go.Proofs
set_option maxRecDepth 10000
set_option maxHeartbeats 16000000
set_option linter.unusedVariables false
set_option linter.unusedSimpArgs false
attribute [local irreducible] Next Inside Runs Ops table nrow
attribute [local go_sem] szStr szInt Option.getD_some isNil evStr loadOne newNode cellsNode nf0 nf1 nf2 nf3 nf4 nf5 lf0 nh0 nh1 nh2 nh3 nh4 nh5 loadNodeLen zeroLen niLen eqLen Nat.zero_add
theorem refMay_at2 : FunOk Tryz.prog 96 (mayAt fun op => decide (op = 2)) := by
  have hC := table_ok (P := Tryz.prog) (l := tabRefMay) (table_more refQ_ok (table_more refLenMay_ok table_nil))
  have t1 := fun args mm => table_at (l := tabRefMay) (f := 136) (args := args) (m := mm) rfl
  have t2 := fun args mm => table_at (l := tabRefMay) (f := 43) (args := args) (m := mm) rfl
  refine fun_ok mixed hC Tryz.func96 rfl kpRefMay false rfl fun args m r h => ?_
  unfold mayAt at h
  split at h
  · rename_i cs
    split at h
    · rename_i x hx
      split at h
      · rename_i hop
        obtain rfl := unNd_row hx
        obtain ⟨op, a, b, c, k, u, n⟩ := x
        have hop := of_decide_eq_true hop
        simp only at hop
        simp only [Option.some.injEq] at h
        subst h
        refine ⟨Nat.le_of_ble_eq_true rfl, ?_⟩
        simp only [entry, List.length_cons, List.length_nil, List.range, List.range.loop, List.zip_cons_cons, List.zip_nil_right]
        have fin : ∀ (e : Env) (m' : Mem) (z : Bool), Ev.get e 2 = .v (.bool z) → finMem m m' = m → (z = true ↔ mayN ⟨op, a, b, c, k, u, n⟩) → Leaves Tryz.prog false Tryz.f96 m (.v (.bool (decide (mayN ⟨op, a, b, c, k, u, n⟩))), m) .ret e m' := fun e m' z h1 h2 h3 => by
          have : z = decide (mayN ⟨op, a, b, c, k, u, n⟩) := by rw [Bool.eq_iff_iff, decide_eq_true_eq]; exact h3
          rw [← this]
          exact leaves_fin rfl h1 h2
        subst hop
        repeat' (first | refine gos1 (jn @t1 (jn @q_eq (jn @t2 @lm_eq))) ?_ | (refine ops_here ?_; (fail_if_success (refine ops_case (B := true) rfl rfl rfl ?_ ?_)); (fail_if_success (refine ops_case (B := false) rfl rfl rfl ?_ ?_)); refine ops_case rfl rfl rfl (fun hB => ?_) (fun hB => ?_) <;> rw [hB]) | (refine runs_here ?_; refine runs_cond rfl (fun hc => ?_) (fun hc => ?_) <;> first | (cases hc; done) | skip))
        all_goals exact fin _ _ _ rfl fin_push (by clear fin hx t1 t2 hC; simp only [Bool.not_eq_true', Bool.not_eq_false', Bool.not_true, Bool.not_false, Bool.and_true, Bool.and_eq_true, Bool.and_eq_false_iff, decide_eq_true_eq, decide_eq_false_iff_not, Bool.false_eq_true, reduceCtorEq, false_iff, true_iff, beq_iff_eq, bne_iff_ne, beq_eq_false_iff_ne, bne_eq_false_iff_eq, ne_eq, not_false_eq_true, not_true_eq_false, true_or, or_true, true_implies, false_implies, implies_true, and_self, true_and, false_and, or_false, false_or, and_true, and_false] at *; simp only [mayN, inQ, lenMay, not_false_eq_true, not_true_eq_false, true_or, or_true, true_implies, false_implies, implies_true, and_self, true_and, false_and, or_false, false_or, and_true, and_false] at *; omega)
      · cases h
    · cases h
  · cases h
theorem refMay_at3 : FunOk Tryz.prog 96 (mayAt fun op => decide (op = 3)) := by
  have hC := table_ok (P := Tryz.prog) (l := tabRefMay) (table_more refQ_ok (table_more refLenMay_ok table_nil))
  have t1 := fun args mm => table_at (l := tabRefMay) (f := 136) (args := args) (m := mm) rfl
  have t2 := fun args mm => table_at (l := tabRefMay) (f := 43) (args := args) (m := mm) rfl
  refine fun_ok mixed hC Tryz.func96 rfl kpRefMay false rfl fun args m r h => ?_
  unfold mayAt at h
  split at h
  · rename_i cs
    split at h
    · rename_i x hx
      split at h
      · rename_i hop
        obtain rfl := unNd_row hx
        obtain ⟨op, a, b, c, k, u, n⟩ := x
        have hop := of_decide_eq_true hop
        simp only at hop
        simp only [Option.some.injEq] at h
        subst h
        refine ⟨Nat.le_of_ble_eq_true rfl, ?_⟩
        simp only [entry, List.length_cons, List.length_nil, List.range, List.range.loop, List.zip_cons_cons, List.zip_nil_right]
        have fin : ∀ (e : Env) (m' : Mem) (z : Bool), Ev.get e 2 = .v (.bool z) → finMem m m' = m → (z = true ↔ mayN ⟨op, a, b, c, k, u, n⟩) → Leaves Tryz.prog false Tryz.f96 m (.v (.bool (decide (mayN ⟨op, a, b, c, k, u, n⟩))), m) .ret e m' := fun e m' z h1 h2 h3 => by
          have : z = decide (mayN ⟨op, a, b, c, k, u, n⟩) := by rw [Bool.eq_iff_iff, decide_eq_true_eq]; exact h3
          rw [← this]
          exact leaves_fin rfl h1 h2
        subst hop
        repeat' (first | refine gos1 (jn @t1 (jn @q_eq (jn @t2 @lm_eq))) ?_ | (refine ops_here ?_; (fail_if_success (refine ops_case (B := true) rfl rfl rfl ?_ ?_)); (fail_if_success (refine ops_case (B := false) rfl rfl rfl ?_ ?_)); refine ops_case rfl rfl rfl (fun hB => ?_) (fun hB => ?_) <;> rw [hB]) | (refine runs_here ?_; refine runs_cond rfl (fun hc => ?_) (fun hc => ?_) <;> first | (cases hc; done) | skip))
        all_goals exact fin _ _ _ rfl fin_push (by clear fin hx t1 t2 hC; simp only [Bool.not_eq_true', Bool.not_eq_false', Bool.not_true, Bool.not_false, Bool.and_true, Bool.and_eq_true, Bool.and_eq_false_iff, decide_eq_true_eq, decide_eq_false_iff_not, Bool.false_eq_true, reduceCtorEq, false_iff, true_iff, beq_iff_eq, bne_iff_ne, beq_eq_false_iff_ne, bne_eq_false_iff_eq, ne_eq, not_false_eq_true, not_true_eq_false, true_or, or_true, true_implies, false_implies, implies_true, and_self, true_and, false_and, or_false, false_or, and_true, and_false] at *; simp only [mayN, inQ, lenMay, not_false_eq_true, not_true_eq_false, true_or, or_true, true_implies, false_implies, implies_true, and_self, true_and, false_and, or_false, false_or, and_true, and_false] at *; omega)
      · cases h
    · cases h
  · cases h
theorem refMay_at4 : FunOk Tryz.prog 96 (mayAt fun op => decide (op = 4)) := by
  have hC := table_ok (P := Tryz.prog) (l := tabRefMay) (table_more refQ_ok (table_more refLenMay_ok table_nil))
  have t1 := fun args mm => table_at (l := tabRefMay) (f := 136) (args := args) (m := mm) rfl
  have t2 := fun args mm => table_at (l := tabRefMay) (f := 43) (args := args) (m := mm) rfl
  refine fun_ok mixed hC Tryz.func96 rfl kpRefMay false rfl fun args m r h => ?_
  unfold mayAt at h
  split at h
  · rename_i cs
    split at h
    · rename_i x hx
      split at h
      · rename_i hop
        obtain rfl := unNd_row hx
        obtain ⟨op, a, b, c, k, u, n⟩ := x
        have hop := of_decide_eq_true hop
        simp only at hop
        simp only [Option.some.injEq] at h
        subst h
        refine ⟨Nat.le_of_ble_eq_true rfl, ?_⟩
        simp only [entry, List.length_cons, List.length_nil, List.range, List.range.loop, List.zip_cons_cons, List.zip_nil_right]
        have fin : ∀ (e : Env) (m' : Mem) (z : Bool), Ev.get e 2 = .v (.bool z) → finMem m m' = m → (z = true ↔ mayN ⟨op, a, b, c, k, u, n⟩) → Leaves Tryz.prog false Tryz.f96 m (.v (.bool (decide (mayN ⟨op, a, b, c, k, u, n⟩))), m) .ret e m' := fun e m' z h1 h2 h3 => by
          have : z = decide (mayN ⟨op, a, b, c, k, u, n⟩) := by rw [Bool.eq_iff_iff, decide_eq_true_eq]; exact h3
          rw [← this]
          exact leaves_fin rfl h1 h2
        subst hop
        repeat' (first | refine gos1 (jn @t1 (jn @q_eq (jn @t2 @lm_eq))) ?_ | (refine ops_here ?_; (fail_if_success (refine ops_case (B := true) rfl rfl rfl ?_ ?_)); (fail_if_success (refine ops_case (B := false) rfl rfl rfl ?_ ?_)); refine ops_case rfl rfl rfl (fun hB => ?_) (fun hB => ?_) <;> rw [hB]) | (refine runs_here ?_; refine runs_cond rfl (fun hc => ?_) (fun hc => ?_) <;> first | (cases hc; done) | skip))
        all_goals exact fin _ _ _ rfl fin_push (by clear fin hx t1 t2 hC; simp only [Bool.not_eq_true', Bool.not_eq_false', Bool.not_true, Bool.not_false, Bool.and_true, Bool.and_eq_true, Bool.and_eq_false_iff, decide_eq_true_eq, decide_eq_false_iff_not, Bool.false_eq_true, reduceCtorEq, false_iff, true_iff, beq_iff_eq, bne_iff_ne, beq_eq_false_iff_ne, bne_eq_false_iff_eq, ne_eq, not_false_eq_true, not_true_eq_false, true_or, or_true, true_implies, false_implies, implies_true, and_self, true_and, false_and, or_false, false_or, and_true, and_false] at *; simp only [mayN, inQ, lenMay, not_false_eq_true, not_true_eq_false, true_or, or_true, true_implies, false_implies, implies_true, and_self, true_and, false_and, or_false, false_or, and_true, and_false] at *; omega)
      · cases h
    · cases h
  · cases h
end Go.Proofs.YtojaokhkbmiidaaGreat.Ev

namespace Go.Proofs.YtojaokhkbmiidaaGreat.Ev
open Go Go.Proofs
set_option maxRecDepth 10000
set_option maxHeartbeats 16000000
set_option linter.unusedVariables false
set_option linter.unusedSimpArgs false
attribute [local irreducible] Next Inside Runs Ops table nrow
attribute [local go_sem] szStr szInt Option.getD_some isNil evStr loadOne newNode cellsNode nf0 nf1 nf2 nf3 nf4 nf5 lf0 nh0 nh1 nh2 nh3 nh4 nh5 loadNodeLen zeroLen niLen eqLen Nat.zero_add
theorem refMay_at5 : FunOk Tryz.prog 96 (mayAt fun op => decide (op = 5)) := by
  have hC := table_ok (P := Tryz.prog) (l := tabRefMay) (table_more refQ_ok (table_more refLenMay_ok table_nil))
  have t1 := fun args mm => table_at (l := tabRefMay) (f := 136) (args := args) (m := mm) rfl
  have t2 := fun args mm => table_at (l := tabRefMay) (f := 43) (args := args) (m := mm) rfl
  refine fun_ok mixed hC Tryz.func96 rfl kpRefMay false rfl fun args m r h => ?_
  unfold mayAt at h
  split at h
  · rename_i cs
    split at h
    · rename_i x hx
      split at h
      · rename_i hop
        obtain rfl := unNd_row hx
        obtain ⟨op, a, b, c, k, u, n⟩ := x
        have hop := of_decide_eq_true hop
        simp only at hop
        simp only [Option.some.injEq] at h
        subst h
        refine ⟨Nat.le_of_ble_eq_true rfl, ?_⟩
        simp only [entry, List.length_cons, List.length_nil, List.range, List.range.loop, List.zip_cons_cons, List.zip_nil_right]
        have fin : ∀ (e : Env) (m' : Mem) (z : Bool), Ev.get e 2 = .v (.bool z) → finMem m m' = m → (z = true ↔ mayN ⟨op, a, b, c, k, u, n⟩) → Leaves Tryz.prog false Tryz.f96 m (.v (.bool (decide (mayN ⟨op, a, b, c, k, u, n⟩))), m) .ret e m' := fun e m' z h1 h2 h3 => by
          have : z = decide (mayN ⟨op, a, b, c, k, u, n⟩) := by rw [Bool.eq_iff_iff, decide_eq_true_eq]; exact h3
          rw [← this]
          exact leaves_fin rfl h1 h2
        subst hop
        repeat' (first | refine gos1 (jn @t1 (jn @q_eq (jn @t2 @lm_eq))) ?_ | (refine ops_here ?_; (fail_if_success (refine ops_case (B := true) rfl rfl rfl ?_ ?_)); (fail_if_success (refine ops_case (B := false) rfl rfl rfl ?_ ?_)); refine ops_case rfl rfl rfl (fun hB => ?_) (fun hB => ?_) <;> rw [hB]) | (refine runs_here ?_; refine runs_cond rfl (fun hc => ?_) (fun hc => ?_) <;> first | (cases hc; done) | skip))
        all_goals exact fin _ _ _ rfl fin_push (by clear fin hx t1 t2 hC; simp only [Bool.not_eq_true', Bool.not_eq_false', Bool.not_true, Bool.not_false, Bool.and_true, Bool.and_eq_true, Bool.and_eq_false_iff, decide_eq_true_eq, decide_eq_false_iff_not, Bool.false_eq_true, reduceCtorEq, false_iff, true_iff, beq_iff_eq, bne_iff_ne, beq_eq_false_iff_ne, bne_eq_false_iff_eq, ne_eq, not_false_eq_true, not_true_eq_false, true_or, or_true, true_implies, false_implies, implies_true, and_self, true_and, false_and, or_false, false_or, and_true, and_false] at *; simp only [mayN, inQ, lenMay, not_false_eq_true, not_true_eq_false, true_or, or_true, true_implies, false_implies, implies_true, and_self, true_and, false_and, or_false, false_or, and_true, and_false] at *; omega)
      · cases h
    · cases h
  · cases h
theorem refMay_at6 : FunOk Tryz.prog 96 (mayAt fun op => decide (op = 6)) := by
  have hC := table_ok (P := Tryz.prog) (l := tabRefMay) (table_more refQ_ok (table_more refLenMay_ok table_nil))
  have t1 := fun args mm => table_at (l := tabRefMay) (f := 136) (args := args) (m := mm) rfl
  have t2 := fun args mm => table_at (l := tabRefMay) (f := 43) (args := args) (m := mm) rfl
  refine fun_ok mixed hC Tryz.func96 rfl kpRefMay false rfl fun args m r h => ?_
  unfold mayAt at h
  split at h
  · rename_i cs
    split at h
    · rename_i x hx
      split at h
      · rename_i hop
        obtain rfl := unNd_row hx
        obtain ⟨op, a, b, c, k, u, n⟩ := x
        have hop := of_decide_eq_true hop
        simp only at hop
        simp only [Option.some.injEq] at h
        subst h
        refine ⟨Nat.le_of_ble_eq_true rfl, ?_⟩
        simp only [entry, List.length_cons, List.length_nil, List.range, List.range.loop, List.zip_cons_cons, List.zip_nil_right]
        have fin : ∀ (e : Env) (m' : Mem) (z : Bool), Ev.get e 2 = .v (.bool z) → finMem m m' = m → (z = true ↔ mayN ⟨op, a, b, c, k, u, n⟩) → Leaves Tryz.prog false Tryz.f96 m (.v (.bool (decide (mayN ⟨op, a, b, c, k, u, n⟩))), m) .ret e m' := fun e m' z h1 h2 h3 => by
          have : z = decide (mayN ⟨op, a, b, c, k, u, n⟩) := by rw [Bool.eq_iff_iff, decide_eq_true_eq]; exact h3
          rw [← this]
          exact leaves_fin rfl h1 h2
        subst hop
        repeat' (first | refine gos1 (jn @t1 (jn @q_eq (jn @t2 @lm_eq))) ?_ | (refine ops_here ?_; (fail_if_success (refine ops_case (B := true) rfl rfl rfl ?_ ?_)); (fail_if_success (refine ops_case (B := false) rfl rfl rfl ?_ ?_)); refine ops_case rfl rfl rfl (fun hB => ?_) (fun hB => ?_) <;> rw [hB]) | (refine runs_here ?_; refine runs_cond rfl (fun hc => ?_) (fun hc => ?_) <;> first | (cases hc; done) | skip))
        all_goals exact fin _ _ _ rfl fin_push (by clear fin hx t1 t2 hC; simp only [Bool.not_eq_true', Bool.not_eq_false', Bool.not_true, Bool.not_false, Bool.and_true, Bool.and_eq_true, Bool.and_eq_false_iff, decide_eq_true_eq, decide_eq_false_iff_not, Bool.false_eq_true, reduceCtorEq, false_iff, true_iff, beq_iff_eq, bne_iff_ne, beq_eq_false_iff_ne, bne_eq_false_iff_eq, ne_eq, not_false_eq_true, not_true_eq_false, true_or, or_true, true_implies, false_implies, implies_true, and_self, true_and, false_and, or_false, false_or, and_true, and_false] at *; simp only [mayN, inQ, lenMay, not_false_eq_true, not_true_eq_false, true_or, or_true, true_implies, false_implies, implies_true, and_self, true_and, false_and, or_false, false_or, and_true, and_false] at *; omega)
      · cases h
    · cases h
  · cases h
end Go.Proofs.YtojaokhkbmiidaaGreat.Ev

namespace Go.Proofs.YtojaokhkbmiidaaGreat.Ev
open Go Go.Proofs
set_option maxRecDepth 10000
set_option maxHeartbeats 16000000
set_option linter.unusedVariables false
set_option linter.unusedSimpArgs false
attribute [local irreducible] Next Inside Runs Ops table nrow
attribute [local go_sem] szStr szInt Option.getD_some isNil evStr loadOne newNode cellsNode nf0 nf1 nf2 nf3 nf4 nf5 lf0 nh0 nh1 nh2 nh3 nh4 nh5 loadNodeLen zeroLen niLen eqLen Nat.zero_add
theorem refMay_at7 : FunOk Tryz.prog 96 (mayAt fun op => decide (op = 7)) := by
  have hC := table_ok (P := Tryz.prog) (l := tabRefMay) (table_more refQ_ok (table_more refLenMay_ok table_nil))
  have t1 := fun args mm => table_at (l := tabRefMay) (f := 136) (args := args) (m := mm) rfl
  have t2 := fun args mm => table_at (l := tabRefMay) (f := 43) (args := args) (m := mm) rfl
  refine fun_ok mixed hC Tryz.func96 rfl kpRefMay false rfl fun args m r h => ?_
  unfold mayAt at h
  split at h
  · rename_i cs
    split at h
    · rename_i x hx
      split at h
      · rename_i hop
        obtain rfl := unNd_row hx
        obtain ⟨op, a, b, c, k, u, n⟩ := x
        have hop := of_decide_eq_true hop
        simp only at hop
        simp only [Option.some.injEq] at h
        subst h
        refine ⟨Nat.le_of_ble_eq_true rfl, ?_⟩
        simp only [entry, List.length_cons, List.length_nil, List.range, List.range.loop, List.zip_cons_cons, List.zip_nil_right]
        have fin : ∀ (e : Env) (m' : Mem) (z : Bool), Ev.get e 2 = .v (.bool z) → finMem m m' = m → (z = true ↔ mayN ⟨op, a, b, c, k, u, n⟩) → Leaves Tryz.prog false Tryz.f96 m (.v (.bool (decide (mayN ⟨op, a, b, c, k, u, n⟩))), m) .ret e m' := fun e m' z h1 h2 h3 => by
          have : z = decide (mayN ⟨op, a, b, c, k, u, n⟩) := by rw [Bool.eq_iff_iff, decide_eq_true_eq]; exact h3
          rw [← this]
          exact leaves_fin rfl h1 h2
        subst hop
        repeat' (first | refine gos1 (jn @t1 (jn @q_eq (jn @t2 @lm_eq))) ?_ | (refine ops_here ?_; (fail_if_success (refine ops_case (B := true) rfl rfl rfl ?_ ?_)); (fail_if_success (refine ops_case (B := false) rfl rfl rfl ?_ ?_)); refine ops_case rfl rfl rfl (fun hB => ?_) (fun hB => ?_) <;> rw [hB]) | (refine runs_here ?_; refine runs_cond rfl (fun hc => ?_) (fun hc => ?_) <;> first | (cases hc; done) | skip))
        all_goals exact fin _ _ _ rfl fin_push (by clear fin hx t1 t2 hC; simp only [Bool.not_eq_true', Bool.not_eq_false', Bool.not_true, Bool.not_false, Bool.and_true, Bool.and_eq_true, Bool.and_eq_false_iff, decide_eq_true_eq, decide_eq_false_iff_not, Bool.false_eq_true, reduceCtorEq, false_iff, true_iff, beq_iff_eq, bne_iff_ne, beq_eq_false_iff_ne, bne_eq_false_iff_eq, ne_eq, not_false_eq_true, not_true_eq_false, true_or, or_true, true_implies, false_implies, implies_true, and_self, true_and, false_and, or_false, false_or, and_true, and_false] at *; simp only [mayN, inQ, lenMay, not_false_eq_true, not_true_eq_false, true_or, or_true, true_implies, false_implies, implies_true, and_self, true_and, false_and, or_false, false_or, and_true, and_false] at *; omega)
      · cases h
    · cases h
  · cases h
theorem refMay_at8 : FunOk Tryz.prog 96 (mayAt fun op => decide (op = 8)) := by
  have hC := table_ok (P := Tryz.prog) (l := tabRefMay) (table_more refQ_ok (table_more refLenMay_ok table_nil))
  have t1 := fun args mm => table_at (l := tabRefMay) (f := 136) (args := args) (m := mm) rfl
  have t2 := fun args mm => table_at (l := tabRefMay) (f := 43) (args := args) (m := mm) rfl
  refine fun_ok mixed hC Tryz.func96 rfl kpRefMay false rfl fun args m r h => ?_
  unfold mayAt at h
  split at h
  · rename_i cs
    split at h
    · rename_i x hx
      split at h
      · rename_i hop
        obtain rfl := unNd_row hx
        obtain ⟨op, a, b, c, k, u, n⟩ := x
        have hop := of_decide_eq_true hop
        simp only at hop
        simp only [Option.some.injEq] at h
        subst h
        refine ⟨Nat.le_of_ble_eq_true rfl, ?_⟩
        simp only [entry, List.length_cons, List.length_nil, List.range, List.range.loop, List.zip_cons_cons, List.zip_nil_right]
        have fin : ∀ (e : Env) (m' : Mem) (z : Bool), Ev.get e 2 = .v (.bool z) → finMem m m' = m → (z = true ↔ mayN ⟨op, a, b, c, k, u, n⟩) → Leaves Tryz.prog false Tryz.f96 m (.v (.bool (decide (mayN ⟨op, a, b, c, k, u, n⟩))), m) .ret e m' := fun e m' z h1 h2 h3 => by
          have : z = decide (mayN ⟨op, a, b, c, k, u, n⟩) := by rw [Bool.eq_iff_iff, decide_eq_true_eq]; exact h3
          rw [← this]
          exact leaves_fin rfl h1 h2
        subst hop
        repeat' (first | refine gos1 (jn @t1 (jn @q_eq (jn @t2 @lm_eq))) ?_ | (refine ops_here ?_; (fail_if_success (refine ops_case (B := true) rfl rfl rfl ?_ ?_)); (fail_if_success (refine ops_case (B := false) rfl rfl rfl ?_ ?_)); refine ops_case rfl rfl rfl (fun hB => ?_) (fun hB => ?_) <;> rw [hB]) | (refine runs_here ?_; refine runs_cond rfl (fun hc => ?_) (fun hc => ?_) <;> first | (cases hc; done) | skip))
        all_goals exact fin _ _ _ rfl fin_push (by clear fin hx t1 t2 hC; simp only [Bool.not_eq_true', Bool.not_eq_false', Bool.not_true, Bool.not_false, Bool.and_true, Bool.and_eq_true, Bool.and_eq_false_iff, decide_eq_true_eq, decide_eq_false_iff_not, Bool.false_eq_true, reduceCtorEq, false_iff, true_iff, beq_iff_eq, bne_iff_ne, beq_eq_false_iff_ne, bne_eq_false_iff_eq, ne_eq, not_false_eq_true, not_true_eq_false, true_or, or_true, true_implies, false_implies, implies_true, and_self, true_and, false_and, or_false, false_or, and_true, and_false] at *; simp only [mayN, inQ, lenMay, not_false_eq_true, not_true_eq_false, true_or, or_true, true_implies, false_implies, implies_true, and_self, true_and, false_and, or_false, false_or, and_true, and_false] at *; omega)
      · cases h
    · cases h
  · cases h
theorem refMay_at9 : FunOk Tryz.prog 96 (mayAt fun op => decide (op = 9)) := by
  have hC := table_ok (P := Tryz.prog) (l := tabRefMay) (table_more refQ_ok (table_more refLenMay_ok table_nil))
  have t1 := fun args mm => table_at (l := tabRefMay) (f := 136) (args := args) (m := mm) rfl
  have t2 := fun args mm => table_at (l := tabRefMay) (f := 43) (args := args) (m := mm) rfl
  refine fun_ok mixed hC Tryz.func96 rfl kpRefMay false rfl fun args m r h => ?_
  unfold mayAt at h
  split at h
  · rename_i cs
    split at h
    · rename_i x hx
      split at h
      · rename_i hop
        obtain rfl := unNd_row hx
        obtain ⟨op, a, b, c, k, u, n⟩ := x
        have hop := of_decide_eq_true hop
        simp only at hop
        simp only [Option.some.injEq] at h
        subst h
        refine ⟨Nat.le_of_ble_eq_true rfl, ?_⟩
        simp only [entry, List.length_cons, List.length_nil, List.range, List.range.loop, List.zip_cons_cons, List.zip_nil_right]
        have fin : ∀ (e : Env) (m' : Mem) (z : Bool), Ev.get e 2 = .v (.bool z) → finMem m m' = m → (z = true ↔ mayN ⟨op, a, b, c, k, u, n⟩) → Leaves Tryz.prog false Tryz.f96 m (.v (.bool (decide (mayN ⟨op, a, b, c, k, u, n⟩))), m) .ret e m' := fun e m' z h1 h2 h3 => by
          have : z = decide (mayN ⟨op, a, b, c, k, u, n⟩) := by rw [Bool.eq_iff_iff, decide_eq_true_eq]; exact h3
          rw [← this]
          exact leaves_fin rfl h1 h2
        subst hop
        repeat' (first | refine gos1 (jn @t1 (jn @q_eq (jn @t2 @lm_eq))) ?_ | (refine ops_here ?_; (fail_if_success (refine ops_case (B := true) rfl rfl rfl ?_ ?_)); (fail_if_success (refine ops_case (B := false) rfl rfl rfl ?_ ?_)); refine ops_case rfl rfl rfl (fun hB => ?_) (fun hB => ?_) <;> rw [hB]) | (refine runs_here ?_; refine runs_cond rfl (fun hc => ?_) (fun hc => ?_) <;> first | (cases hc; done) | skip))
        all_goals exact fin _ _ _ rfl fin_push (by clear fin hx t1 t2 hC; simp only [Bool.not_eq_true', Bool.not_eq_false', Bool.not_true, Bool.not_false, Bool.and_true, Bool.and_eq_true, Bool.and_eq_false_iff, decide_eq_true_eq, decide_eq_false_iff_not, Bool.false_eq_true, reduceCtorEq, false_iff, true_iff, beq_iff_eq, bne_iff_ne, beq_eq_false_iff_ne, bne_eq_false_iff_eq, ne_eq, not_false_eq_true, not_true_eq_false, true_or, or_true, true_implies, false_implies, implies_true, and_self, true_and, false_and, or_false, false_or, and_true, and_false] at *; simp only [mayN, inQ, lenMay, not_false_eq_true, not_true_eq_false, true_or, or_true, true_implies, false_implies, implies_true, and_self, true_and, false_and, or_false, false_or, and_true, and_false] at *; omega)
      · cases h
    · cases h
  · cases h
end Go.Proofs.YtojaokhkbmiidaaGreat.Ev

namespace Go.Proofs.YtojaokhkbmiidaaGreat.Ev
open Go Go.Proofs
theorem refMay_ok : FunOk Tryz.prog 96 mayG := may_all fun op => by
  rcases (by omega : op < 1 ∨ 9 < op ∨ op = 1 ∨ op = 2 ∨ op = 3 ∨ op = 4 ∨ op = 5 ∨ op = 6 ∨ op = 7 ∨ op = 8 ∨ op = 9) with h | h | h | h | h | h | h | h | h | h | h
  · exact ⟨_, decide_eq_true h, refMay_low⟩
  · exact ⟨_, decide_eq_true h, refMay_high⟩
  · exact ⟨_, decide_eq_true h, refMay_at1⟩
  · exact ⟨_, decide_eq_true h, refMay_at2⟩
  · exact ⟨_, decide_eq_true h, refMay_at3⟩
  · exact ⟨_, decide_eq_true h, refMay_at4⟩
  · exact ⟨_, decide_eq_true h, refMay_at5⟩
  · exact ⟨_, decide_eq_true h, refMay_at6⟩
  · exact ⟨_, decide_eq_true h, refMay_at7⟩
  · exact ⟨_, decide_eq_true h, refMay_at8⟩
  · exact ⟨_, decide_eq_true h, refMay_at9⟩
end Go.Proofs.YtojaokhkbmiidaaGreat.Ev

namespace Go.Proofs.YtojaokhkbmiidaaGreat.Ev
open Go Go.Proofs
set_option maxRecDepth 10000
set_option maxHeartbeats 8000000
set_option linter.unusedVariables false
set_option linter.unusedSimpArgs false
attribute [local irreducible] Next Inside Runs Ops table
attribute [local go_sem] szStr szInt Option.getD_some isNil loadStr loadInt rowsS_len rowsI_len rowsN_len evStr fldOp ldOp ldNode
theorem anyN_no {p : Nd → Bool} {l : List Nd} {i : Nat} (hi : i < l.length) (h : (l.take i).any p = false) (hp : p (l.getD i nd0) = false) : (l.take (i + 1)).any p = false := by
  rw [take_next (d := nd0) hi, List.any_append, h, List.any_cons, hp]
  rfl
theorem anyN_yes {p : Nd → Bool} {l : List Nd} {i : Nat} (hi : i < l.length) (hp : p (l.getD i nd0) = true) : l.any p = true :=
  List.any_eq_true.2 ⟨_, by simp [List.getD, List.getElem?_eq_getElem hi], hp⟩
def kpRefCheckT : Nat → Option (List Nat) := fun _ => some [0, 2, 3, 6, 9, 13, 21, 24]
attribute [go_sem] kpRefCheckT
def tabRefCheckT : List (FuncId × (List AV → Mem → Option (AV × Mem))) := [(95, wholeG), (96, mayG), (97, refDepthG)]
theorem refCheckT_ok : FunOk Tryz.prog 44 checkTG := by
  have hC := table_ok (P := Tryz.prog) (l := tabRefCheckT) (table_more refWhole_ok (table_more refMay_ok (table_more refDepth_ok table_nil)))
  have t1 := fun args mm => table_at (l := tabRefCheckT) (f := 95) (args := args) (m := mm) rfl
  have t2 := fun args mm => table_at (l := tabRefCheckT) (f := 96) (args := args) (m := mm) rfl
  have t3 := fun args mm => table_at (l := tabRefCheckT) (f := 97) (args := args) (m := mm) rfl
  refine fun_ok mixed hC Tryz.func44 rfl kpRefCheckT false rfl fun args m r h => ?_
  unfold checkTG at h
  split at h
  · rename_i g rows
    split at h
    · rename_i l hl0
      obtain rfl := unN_some hl0
      split at h
      · rename_i hlen
        simp only [Option.some.injEq] at h
        subst h
        refine ⟨Nat.le_of_ble_eq_true rfl, ?_⟩
        simp only [entry, List.length_cons, List.length_nil, List.range, List.range.loop, List.zip_cons_cons, List.zip_nil_right]
        have f1 := fun mm => wholeG_eq (m := mm) (g := .no) hlen
        refine go0 ?_
        refine runs_cond rfl (fun hc => ?_) (fun hc => ?_)
        · have := of_decide_eq_true hc
          rw [show checkT l = 9 from if_pos (by omega)]
          refine go0 ?_
          exact leaves_v rfl rfl
        · have h64 := of_decide_eq_false hc
          have e : checkT l = if wholeB l = false ∨ l.any badN = true then 1 else if 32 < depthOf l then 7 else 0 := if_neg (by omega)
          cases hw : wholeB l with
          | false =>
            rw [hw] at f1
            have b1 : (!false) = true := rfl
            rw [e, if_pos (.inl hw)]
            refine go1 (jn @t1 (jn @f1 @b1)) ?_
            refine runs_cond rfl (fun hc => ?_) (fun hc => by cases hc)
            refine go0 ?_
            exact leaves_v rfl rfl
          | true =>
            rw [hw] at f1
            have b1 : (!true) = false := rfl
            refine go1 (jn @t1 (jn @f1 @b1)) ?_
            refine runs_cond rfl (fun hc => by cases hc) (fun hc => ?_)
            refine go0 ?_
            refine runs_loop (fun k e m' => ∃ (i : Nat) (x13 x21 : AV), i ≤ l.length ∧ (l.take i).any badN = false ∧ m = m' ∧ k = l.length - i ∧
              e = [(0, AV.lst g 7 (rowsN l)), (2, .v (.int .i64 0)), (3, .v (.int .i64 (i : Int))), (6, .v (.bool (decide ((l.length : Int) > 64)))), (9, .v (.bool false)), (13, x13), (21, x21), (24, .junk)])
              (k := l.length) ⟨0, _, _, Nat.zero_le _, rfl, rfl, rfl, rfl⟩ ?_
            rintro k e m' ⟨i, x13, x21, hi, hno, rfl, rfl, rfl⟩
            refine go0 ?_
            refine runs_cond rfl (fun hc => ?_) (fun hc => ?_)
            · have hi1 : i < l.length := by have := of_decide_eq_true hc; omega
              have f2 := atNodes (g := g) (kk := .i64) hi1
              have f3 := mayG_eq (l.getD i nd0)
              refine go1 (jn @f2 (jn @t2 @f3)) ?_
              refine runs_cond rfl (fun hc => ?_) (fun hc => ?_)
              · rw [e, if_pos (.inr (anyN_yes (p := badN) hi1 hc))]
                refine go0 ?_
                exact leaves_v rfl rfl
              · have r6 := next_i64 (i := i) (by omega)
                refine go1 @r6 ?_
                exact ⟨l.length - (i + 1), by omega, i + 1, _, _, hi1, anyN_no (p := badN) hi1 hno hc, rfl, rfl, rfl⟩
            · have hi1 : i = l.length := by have := of_decide_eq_false hc; omega
              subst hi1
              rw [List.take_length] at hno
              have hn : ¬ (wholeB l = false ∨ l.any badN = true) := by rw [hw, hno]; simp
              rw [e, if_neg hn]
              have hd : depthOf l = depthD l 0 := by unfold depthOf; rw [hw]; rfl
              unfold wholeB at hw
              simp only [Bool.and_eq_true, decide_eq_true_eq] at hw
              have f4 := fun mm => refDepthG_eq (m := mm) (g := .no) (at_ := 0) hlen (Int.le_refl _) (by omega)
              rw [hd]
              refine go1 (jn @t3 @f4) ?_
              refine runs_cond rfl (fun hc => ?_) (fun hc => ?_)
              · have := of_decide_eq_true hc
                rw [if_pos (by omega)]
                refine go0 ?_
                exact leaves_v rfl rfl
              · have := of_decide_eq_false hc
                rw [if_neg (by omega)]
                refine go0 ?_
                exact leaves_v rfl rfl
      · cases h
    · cases h
  · cases h
end Go.Proofs.YtojaokhkbmiidaaGreat.Ev

namespace Go.Proofs.YtojaokhkbmiidaaGreat.Ev
open Go Go.Proofs
set_option maxRecDepth 10000
set_option maxHeartbeats 8000000
set_option linter.unusedVariables false
set_option linter.unusedSimpArgs false
attribute [local irreducible] Next Inside Runs Ops table
attribute [local go_sem] szStr szInt Option.getD_some isNil evStr iv loadStr loadInt rowsS_len rowsGs_len rowsPh_len mapRc cellsRc newRc mkInts1 mkInts2 mkInts3 fpRcStop fpRcStopOn fpRcStopMetric fpRcStopPatience fpRcStopDelta fpRcPlateau fpRcPlateauOn fpRcPlateauMetric fpRcPlateauFactor fpRcPlateauPatience fpRcPlateauCooldown fpRcPlateauFloor fpRcPlateauDelta fpRcKeep fpRcKeepOn fpRcKeepMetric fpRcKeepCount fpRcEma fpRcEmaOn fpRcEmaDecay fpRcSwa fpRcSwaOn fpRcSwaFrom fpRcSwaFromU fpRcSwaEvery mk0Tp niTp eqTp' mk0Pt niPt eqPt' mk0Kp niKp eqKp' mk0Em niEm eqEm' mk0Sw niSw eqSw'
theorem mkInts4 {a b c d : Int} : evBuildSlice Tryz.prog 77 4 [(0, .v (.int .i64 a)), (1, .v (.int .i64 b)), (2, .v (.int .i64 c)), (3, .v (.int .i64 d))] = some (.lst .full 1 [[.v (.int .i64 a)], [.v (.int .i64 b)], [.v (.int .i64 c)], [.v (.int .i64 d)]]) := build_rows appInts rfl rfl (by decide)
attribute [local go_sem] mkInts4
theorem notnot (a : Bool) : (!(!a || false)) = a := by cases a <;> rfl
theorem counts1 (a : Int) (m : Mem) : rcountsG [.lst .no 1 [[.v (.int .i64 a)]]] m = some (.v (.bool (countB a)), m) := by
  have := rcountsG_at (m := m) (g := .no) (l := [a]) (Nat.le_of_ble_eq_true rfl)
  rw [show (!([a].any rcountsNot)) = countB a from notnot _] at this
  exact this
theorem values1 (a : Int) (m : Mem) : rvaluesG [.lst .no 1 [[.v (.int .i64 a)]]] m = some (.v (.bool (valueB a)), m) := by
  have := rvaluesG_at (m := m) (g := .no) (l := [a]) (Nat.le_of_ble_eq_true rfl)
  rw [show (!([a].any rvaluesNot)) = valueB a from notnot _] at this
  exact this
theorem counts2 (a b : Int) (m : Mem) : rcountsG [.lst .no 1 [[.v (.int .i64 a)], [.v (.int .i64 b)]]] m = some (.v (.bool (countB a && countB b)), m) := by
  have := rcountsG_at (m := m) (g := .no) (l := [a, b]) (Nat.le_of_ble_eq_true rfl)
  rw [show (!([a, b].any rcountsNot)) = (countB a && countB b) from by show (!(!countB a || (!countB b || false))) = _; cases countB a <;> cases countB b <;> rfl] at this
  exact this
theorem values3 (a b c : Int) (m : Mem) : rvaluesG [.lst .no 1 [[.v (.int .i64 a)], [.v (.int .i64 b)], [.v (.int .i64 c)]]] m = some (.v (.bool (valueB a && (valueB b && valueB c))), m) := by
  have := rvaluesG_at (m := m) (g := .no) (l := [a, b, c]) (Nat.le_of_ble_eq_true rfl)
  rw [show (!([a, b, c].any rvaluesNot)) = (valueB a && (valueB b && valueB c)) from by show (!(!valueB a || (!valueB b || (!valueB c || false)))) = _; cases valueB a <;> cases valueB b <;> cases valueB c <;> rfl] at this
  exact this
theorem counts4 (a b c d : Int) (m : Mem) : rcountsG [.lst .no 1 [[.v (.int .i64 a)], [.v (.int .i64 b)], [.v (.int .i64 c)], [.v (.int .i64 d)]]] m = some (.v (.bool (countB a && (countB b && (countB c && countB d)))), m) := by
  have := rcountsG_at (m := m) (g := .no) (l := [a, b, c, d]) (Nat.le_of_ble_eq_true rfl)
  rw [show (!([a, b, c, d].any rcountsNot)) = (countB a && (countB b && (countB c && countB d))) from by show (!(!countB a || (!countB b || (!countB c || (!countB d || false))))) = _; cases countB a <;> cases countB b <;> cases countB c <;> cases countB d <;> rfl] at this
  exact this
def rendsG : List AV → Mem → Option (AV × Mem)
  | [.agg cs], m =>
    match unRc cs with
    | some R => if R.fit then some (.v (.bool R.endsMay), m) else none
    | none => none
  | _, _ => none
theorem rendsG_at {R : Rc} {m : Mem} (h : R.fit) : rendsG [.agg R.row] m = some (.v (.bool R.endsMay), m) := by
  simp only [rendsG, unRc_row]
  rw [if_pos h]
def kpEnds18 : Nat → Option (List Nat) := fun
  | 0 => some [1]
  | 1 => some [1, 28]
  | 2 => some [2]
  | 3 => some [1, 63]
  | 4 => some [2]
  | 5 => some [1, 81]
  | 6 => some [2]
  | 7 => some [1, 119]
  | 8 => some [2]
  | 9 => some [2]
  | _ => none
attribute [go_sem] kpEnds18
def tab_ends18_ok : List (FuncId × (List AV → Mem → Option (AV × Mem))) := [(42, isNameG), (40, rcountsG), (98, rvaluesG), (43, lenMayG)]
theorem ends18_ok : FunOk Tryz.prog 45 rendsG := by
  have hC := table_ok (P := Tryz.prog) (l := tab_ends18_ok) (table_more refIs_ok (table_more rcounts_ok (table_more rvalues_ok (table_more refLenMay_ok table_nil))))
  have t1 := fun args mm => table_at (l := tab_ends18_ok) (f := 42) (args := args) (m := mm) rfl
  have t2 := fun args mm => table_at (l := tab_ends18_ok) (f := 40) (args := args) (m := mm) rfl
  have t3 := fun args mm => table_at (l := tab_ends18_ok) (f := 98) (args := args) (m := mm) rfl
  have t4 := fun args mm => table_at (l := tab_ends18_ok) (f := 43) (args := args) (m := mm) rfl
  refine fun_ok mixed hC Tryz.func45 rfl kpEnds18 false rfl fun args m r h => ?_
  unfold rendsG at h
  split at h
  · rename_i cs
    split at h
    · rename_i R hR
      obtain rfl := unRc_some hR
      split at h
      · rename_i hfit
        simp only [Option.some.injEq] at h
        subst h
        refine ⟨Nat.le_of_ble_eq_true rfl, ?_⟩
        simp only [entry, List.length_cons, List.length_nil, List.range, List.range.loop, List.zip_cons_cons, List.zip_nil_right]
        obtain ⟨_, _, _, _, hs1, hs2, hs3⟩ := hfit
        have hA := above_push (cs := R.row) (above_self m)
        have hv : (m.push R.row).var m.vars.length = some R.row := push_var
        have nr := newRc (m := m) (x := R)
        generalize m.push R.row = m1 at hA hv nr
        have fin : ∀ (e : Env) (b : Bool), Ev.get e 2 = .v (.bool b) → R.endsMay = b → Leaves Tryz.prog false Tryz.f45 m (.v (.bool R.endsMay), m) .ret e m1 := fun e b h1 h2 => by rw [h2]; exact leaves_fin rfl h1 (above_fin hA)
        have lc : ∀ u n mm, lenMayG [.agg [.v (.int .i64 u), .v (.int .i64 n)]] mm = some (.v (.bool (decide (lenMay u n))), mm) := fun _ _ _ => rfl
        have i1 := fun mm => isNameG_eq (s := R.stopMetric) (m := mm) hs1
        have i2 := fun mm => isNameG_eq (s := R.plateauMetric) (m := mm) hs2
        have i3 := fun mm => isNameG_eq (s := R.keepMetric) (m := mm) hs3
        have a1 := lpRcStopOn hv
        have a2 := lpRcStopMetric hv
        have a3 := lpRcStopPatience hv
        have a4 := lpRcStopDelta hv
        have a5 : evLoad Tryz.prog m1 25 (.ptr m.vars.length 8) = some (.agg R.tp.row) := lpRcStop hv
        have b1 := lpRcPlateauOn hv
        have b2 := lpRcPlateauMetric hv
        have b3 := lpRcPlateauFactor hv
        have b4 := lpRcPlateauPatience hv
        have b5 := lpRcPlateauCooldown hv
        have b6 := lpRcPlateauFloor hv
        have b7 := lpRcPlateauDelta hv
        have b8 : evLoad Tryz.prog m1 27 (.ptr m.vars.length 14) = some (.agg R.pt.row) := lpRcPlateau hv
        have c1 := lpRcKeepOn hv
        have c2 := lpRcKeepMetric hv
        have c3 := lpRcKeepCount hv
        have c4 : evLoad Tryz.prog m1 29 (.ptr m.vars.length 22) = some (.agg R.kp.row) := lpRcKeep hv
        have d1 := lpRcEmaOn hv
        have d2 := lpRcEmaDecay hv
        have d3 : evLoad Tryz.prog m1 31 (.ptr m.vars.length 26) = some (.agg R.em.row) := lpRcEma hv
        have f1 := lpRcSwaOn hv
        have f2 := lpRcSwaFrom hv
        have f3 := lpRcSwaFromU hv
        have f4 := lpRcSwaEvery hv
        have f5 : evLoad Tryz.prog m1 35 (.ptr m.vars.length 28) = some (.agg R.sw.row) := lpRcSwa hv
        refine go1 @nr ?_
        refine ops_rcut [(1, .ptr m.vars.length 0), (28, .v (.bool R.tp.bad))] m1 ?_ ?_
        · repeat' (first | refine gos1 (jn @a1 (jn @a2 (jn @a3 (jn @a4 (jn @t1 (jn @t2 (jn @t3 (jn @i1 (jn @counts1 @values1))))))))) ?_ | (refine ops_here ?_; (fail_if_success (refine ops_case (B := true) rfl rfl rfl ?_ ?_)); (fail_if_success (refine ops_case (B := false) rfl rfl rfl ?_ ?_)); refine ops_case rfl rfl rfl (fun hB => ?_) (fun hB => ?_) <;> rw [hB]) | (refine runs_here ?_; refine runs_cond rfl (fun hc => ?_) (fun hc => ?_) <;> first | (cases hc; done) | skip))
          all_goals refine ⟨?_, rfl⟩
          all_goals simp_all [Tp.bad, Rc.tp]
        repeat (first | refine next_normal ?_ | refine runs_seq ?_)
        refine runs_cond rfl (fun hc => ?_) (fun hc => ?_)
        · have e1 : R.endsMay = false := by simp [Rc.endsMay, Tp.may, hc]
          refine go0 ?_
          exact fin _ _ rfl e1
        have z1 := hc
        refine go0 ?_
        refine ops_rcut [(1, .ptr m.vars.length 0), (63, .v (.bool R.pt.bad))] m1 ?_ ?_
        · repeat' (first | refine gos1 (jn @b1 (jn @b2 (jn @b3 (jn @b4 (jn @b5 (jn @b6 (jn @b7 (jn @t1 (jn @t2 (jn @t3 (jn @i2 (jn @counts2 @values3)))))))))))) ?_ | (refine ops_here ?_; (fail_if_success (refine ops_case (B := true) rfl rfl rfl ?_ ?_)); (fail_if_success (refine ops_case (B := false) rfl rfl rfl ?_ ?_)); refine ops_case rfl rfl rfl (fun hB => ?_) (fun hB => ?_) <;> rw [hB]) | (refine runs_here ?_; refine runs_cond rfl (fun hc => ?_) (fun hc => ?_) <;> first | (cases hc; done) | skip))
          all_goals refine ⟨?_, rfl⟩
          all_goals simp_all [Pt.bad, Rc.pt]
          all_goals (generalize countB R.plateauPatience = x1 at *; generalize countB R.plateauCooldown = x2 at *; generalize valueB R.plateauFactor = x3 at *; generalize valueB R.plateauFloor = x4 at *; generalize valueB R.plateauDelta = x5 at *; revert x1 x2 x3 x4 x5; decide)
        repeat (first | refine next_normal ?_ | refine runs_seq ?_)
        refine runs_cond rfl (fun hc => ?_) (fun hc => ?_)
        · have e1 : R.endsMay = false := by simp [Rc.endsMay, Pt.may, hc]
          refine go0 ?_
          exact fin _ _ rfl e1
        have z2 := hc
        refine go0 ?_
        refine ops_rcut [(1, .ptr m.vars.length 0), (81, .v (.bool R.kp.bad))] m1 ?_ ?_
        · repeat' (first | refine gos1 (jn @c1 (jn @c2 (jn @c3 (jn @t1 (jn @t2 (jn @t3 (jn @i3 @counts1))))))) ?_ | (refine ops_here ?_; (fail_if_success (refine ops_case (B := true) rfl rfl rfl ?_ ?_)); (fail_if_success (refine ops_case (B := false) rfl rfl rfl ?_ ?_)); refine ops_case rfl rfl rfl (fun hB => ?_) (fun hB => ?_) <;> rw [hB]) | (refine runs_here ?_; refine runs_cond rfl (fun hc => ?_) (fun hc => ?_) <;> first | (cases hc; done) | skip))
          all_goals refine ⟨?_, rfl⟩
          all_goals simp_all [Kp.bad, Rc.kp]
        repeat (first | refine next_normal ?_ | refine runs_seq ?_)
        refine runs_cond rfl (fun hc => ?_) (fun hc => ?_)
        · have e1 : R.endsMay = false := by simp [Rc.endsMay, Kp.may, hc]
          refine go0 ?_
          exact fin _ _ rfl e1
        have z3 := hc
        refine go0 ?_
        refine ops_rcut [(1, .ptr m.vars.length 0), (119, .v (.bool (R.em.bad || R.sw.bad)))] m1 ?_ ?_
        · repeat' (first | refine gos1 (jn @d1 (jn @d2 (jn @t1 (jn @t2 (jn @t3 (jn @t4 (jn @counts1 (jn @values1 (jn @f1 (jn @f2 (jn @f3 (jn @f4 @lc)))))))))))) ?_ | (refine ops_here ?_; (fail_if_success (refine ops_case (B := true) rfl rfl rfl ?_ ?_)); (fail_if_success (refine ops_case (B := false) rfl rfl rfl ?_ ?_)); refine ops_case rfl rfl rfl (fun hB => ?_) (fun hB => ?_) <;> rw [hB]) | (refine runs_here ?_; refine runs_cond rfl (fun hc => ?_) (fun hc => ?_) <;> first | (cases hc; done) | skip))
          all_goals refine ⟨?_, rfl⟩
          all_goals simp_all [Em.bad, Rc.em, Sw.bad, Rc.sw]
        repeat (first | refine next_normal ?_ | refine runs_seq ?_)
        refine runs_cond rfl (fun hc => ?_) (fun hc => ?_)
        · have e1 : R.endsMay = false := by
            simp only [Rc.endsMay, Em.may, Sw.may]
            revert hc
            cases R.em.bad <;> cases R.sw.bad <;> simp
          refine go0 ?_
          exact fin _ _ rfl e1
        have z4 := hc
        obtain ⟨z4, z5⟩ := Bool.or_eq_false_iff.1 z4
        have eE : R.endsMay = ((R.stopOn || tpEq R.tp tp0) && ((R.plateauOn || ptEq R.pt pt0) && ((R.keepOn || kpEq R.kp kp0) && ((R.emaOn || emEq R.em em0) && (R.swaOn || swEq R.sw sw0))))) := by
          unfold Rc.endsMay Tp.may Pt.may Kp.may Em.may Sw.may
          rw [z1, z2, z3, z4, z5]
          rfl
        repeat' (first | refine gos1 (jn @a1 (jn @a5 (jn @b1 (jn @b8 (jn @c1 (jn @c4 (jn @d1 (jn @d3 (jn @f1 @f5))))))))) ?_ | (refine ops_here ?_; (fail_if_success (refine ops_case (B := true) rfl rfl rfl ?_ ?_)); (fail_if_success (refine ops_case (B := false) rfl rfl rfl ?_ ?_)); refine ops_case rfl rfl rfl (fun hB => ?_) (fun hB => ?_) <;> rw [hB]) | (refine runs_here ?_; refine runs_cond rfl (fun hc => ?_) (fun hc => ?_) <;> first | (cases hc; done) | skip))
        all_goals refine fin _ _ rfl (eE.trans ?_)
        all_goals simp_all
      · cases h
    · cases h
  · cases h
end Go.Proofs.YtojaokhkbmiidaaGreat.Ev

namespace Go.Proofs.YtojaokhkbmiidaaGreat.Ev
open Go Go.Proofs
set_option maxRecDepth 10000
set_option maxHeartbeats 8000000
set_option linter.unusedVariables false
set_option linter.unusedSimpArgs false
attribute [local irreducible] Next Inside Runs Ops table
attribute [local go_sem] szStr szInt Option.getD_some isNil evStr iv loadStr loadInt rowsS_len rowsGs_len rowsPh_len rowsN_len mapRc mapPh mapGs cellsRc newRc cellsPh cellsGs ldPh ldGs zrPh zoPh znPh zsPh zrGs zoGs znGs zsGs mkInts4 fpRcName fpRcSteps fpRcEpoch fpRcWeights fpRcEval fpRcMetrics fpRcGroups fpRcPhases fpPhName fpPhLen fpPhFrozen fpPhSets fpGsGroup fpGsParam fpGsNodes
def Rc.lite (R : Rc) : Prop := R.fit ∧ R.metrics.length ≤ 1000 ∧ R.groups.length ≤ 1000 ∧ R.phases.length ≤ 1000 ∧ ∀ p ∈ R.phases, p.frozen.length ≤ 1000 ∧ p.sets.length ≤ 1000
instance (R : Rc) : Decidable R.lite := by unfold Rc.lite; exact inferInstance
def mayBG : List AV → Mem → Option (AV × Mem)
  | [.agg cs], m =>
    match unRc cs with
    | some R => if R.lite then some (.v (.bool R.may), m) else none
    | none => none
  | _, _ => none
theorem mayBG_at {R : Rc} {m : Mem} (h : R.lite) : mayBG [.agg R.row] m = some (.v (.bool R.may), m) := by
  simp only [mayBG, unRc_row]
  rw [if_pos h]
def phHead (p : Ph) : Bool := !isName p.name || (!decide (lenMay p.lenU p.lenN) || (!namedB p.frozen 8 || decide ((p.sets.length : Int) > 24)))
theorem phNot_head (p : Ph) : phNot p = (phHead p || p.sets.any setNot) := by
  unfold phNot phMay phHead
  rw [show decide ((p.sets.length : Int) > 24) = !decide ((p.sets.length : Int) ≤ 24) from by rw [Bool.eq_iff_iff]; simp]
  cases isName p.name <;> cases decide (lenMay p.lenU p.lenN) <;> cases namedB p.frozen 8 <;> cases decide ((p.sets.length : Int) ≤ 24) <;> cases p.sets.any setNot <;> rfl
theorem setNot_ops (s : Gs) : setNot s = (!isName s.group || (decide (s.param < 0) || (decide (s.param > 2) || (checkT s.nodes != 0)))) := by
  unfold setNot setMay
  rw [show decide (s.param < 0) = !decide (0 ≤ s.param) from by rw [Bool.eq_iff_iff]; simp]
  rw [show decide (s.param > 2) = !decide (s.param < 3) from by rw [Bool.eq_iff_iff]; simp only [decide_eq_true_eq, Bool.not_eq_true', decide_eq_false_iff_not]; omega]
  rw [show (checkT s.nodes != 0) = !(checkT s.nodes == 0) from rfl]
  cases isName s.group <;> cases decide (0 ≤ s.param) <;> cases decide (s.param < 3) <;> cases (checkT s.nodes == 0) <;> rfl
theorem may_head {R : Rc} : R.may = (!(R.headBad || (R.listBad || decide ((R.phases.length : Int) > 16))) && (!(R.phases.any phNot) && R.endsMay)) := by
  unfold Rc.may Rc.phBad
  cases R.headBad <;> cases R.listBad <;> cases decide ((R.phases.length : Int) > 16) <;> cases R.phases.any phNot <;> cases R.endsMay <;> rfl
def kpMay18 : Nat → Option (List Nat) := fun
  | 0 => some [1]
  | 1 => some [1, 47]
  | 2 => some [2]
  | 3 => some [1, 3]
  | 4 => some [1, 3, 52]
  | 5 => some [1, 3]
  | 6 => some [1, 3, 4]
  | 7 => some [1, 3, 4, 81]
  | 8 => some [2]
  | 9 => some [1, 3, 4, 5]
  | 10 => some [1, 3, 4, 5, 86]
  | 11 => some [1, 3, 4, 5]
  | 12 => some [1, 3, 4, 5, 6]
  | 13 => some [1, 3, 4, 5, 113]
  | 14 => some [2]
  | 15 => some [2]
  | _ => none
attribute [go_sem] kpMay18
def tab_may18_ok : List (FuncId × (List AV → Mem → Option (AV × Mem))) := [(40, rcountsG), (41, rnamedG), (42, isNameG), (43, lenMayG), (44, checkTG), (45, rendsG)]
theorem may18_ok : FunOk Tryz.prog 14 mayBG := by
  have hC := table_ok (P := Tryz.prog) (l := tab_may18_ok) (table_more rcounts_ok (table_more rnamed_ok (table_more refIs_ok (table_more refLenMay_ok (table_more refCheckT_ok (table_more ends18_ok table_nil))))))
  have t1 := fun args mm => table_at (l := tab_may18_ok) (f := 40) (args := args) (m := mm) rfl
  have t2 := fun args mm => table_at (l := tab_may18_ok) (f := 41) (args := args) (m := mm) rfl
  have t3 := fun args mm => table_at (l := tab_may18_ok) (f := 42) (args := args) (m := mm) rfl
  have t4 := fun args mm => table_at (l := tab_may18_ok) (f := 43) (args := args) (m := mm) rfl
  have t5 := fun args mm => table_at (l := tab_may18_ok) (f := 44) (args := args) (m := mm) rfl
  have t6 := fun args mm => table_at (l := tab_may18_ok) (f := 45) (args := args) (m := mm) rfl
  refine fun_ok mixed hC Tryz.func14 rfl kpMay18 false rfl fun args m r h => ?_
  unfold mayBG at h
  split at h
  · rename_i cs
    split at h
    · rename_i R hR
      obtain rfl := unRc_some hR
      split at h
      · rename_i hl
        simp only [Option.some.injEq] at h
        subst h
        refine ⟨Nat.le_of_ble_eq_true rfl, ?_⟩
        simp only [entry, List.length_cons, List.length_nil, List.range, List.range.loop, List.zip_cons_cons, List.zip_nil_right]
        obtain ⟨hfit, hM, hG, hP, hph⟩ := hl
        have hA := above_push (cs := R.row) (above_self m)
        have hv : (m.push R.row).var m.vars.length = some R.row := push_var
        have nr := newRc (m := m) (x := R)
        generalize m.push R.row = m1 at hA hv nr
        have fin : ∀ (e : Env) (m' : Mem) (b : Bool), Above m m' → Ev.get e 2 = .v (.bool b) → R.may = b → Leaves Tryz.prog false Tryz.f14 m (.v (.bool R.may), m) .ret e m' := fun e m' b hA' h1 h2 => by rw [h2]; exact leaves_fin rfl h1 (above_fin hA')
        have lc : ∀ u n mm, lenMayG [.agg [.v (.int .i64 u), .v (.int .i64 n)]] mm = some (.v (.bool (decide (lenMay u n))), mm) := fun _ _ _ => rfl
        have n1 := fun mm => rnamedG_at (m := mm) (g := .no) (l := R.metrics) (n := 4) ⟨hM, hfit.2.1.2⟩
        have n2 := fun mm => rnamedG_at (m := mm) (g := .no) (l := R.groups) (n := 8) ⟨hG, hfit.2.2.1.2⟩
        have a1 := lpRcName hv
        have a2 := lpRcSteps hv
        have a3 := lpRcEpoch hv
        have a4 := lpRcWeights hv
        have a5 := lpRcEval hv
        have a6 := lpRcMetrics hv
        have a7 := lpRcGroups hv
        have a8 := lpRcPhases hv
        have d0 : decide ((R.groups.length : Int) < 1) = decide (R.groups.length = 0) := by rw [Bool.eq_iff_iff]; simp only [decide_eq_true_eq]; omega
        refine go1 @nr ?_
        refine ops_rcut [(1, .ptr m.vars.length 0), (47, .v (.bool (R.headBad || (R.listBad || decide ((R.phases.length : Int) > 16)))))] m1 ?_ ?_
        · unfold Rc.headBad Rc.listBad
          generalize namedB R.metrics 4 = q1 at n1
          generalize namedB R.groups 8 = q2 at n2
          have c4 := counts4 R.steps R.epoch R.weights R.eval
          rw [show (!countB R.steps || (!countB R.epoch || (!countB R.weights || !countB R.eval))) = !(countB R.steps && (countB R.epoch && (countB R.weights && countB R.eval))) from by cases countB R.steps <;> cases countB R.epoch <;> cases countB R.weights <;> cases countB R.eval <;> rfl]
          generalize (countB R.steps && (countB R.epoch && (countB R.weights && countB R.eval))) = q3 at c4
          generalize decide (R.groups.length = 0) = q4 at d0
          repeat' (first | refine gos1 (jn @a1 (jn @a2 (jn @a3 (jn @a4 (jn @a5 (jn @a6 (jn @a7 (jn @a8 (jn @t1 (jn @t2 (jn @c4 (jn @n1 (jn @n2 @d0))))))))))))) ?_ | (refine ops_here ?_; (fail_if_success (refine ops_case (B := true) rfl rfl rfl ?_ ?_)); (fail_if_success (refine ops_case (B := false) rfl rfl rfl ?_ ?_)); refine ops_case rfl rfl rfl (fun hB => ?_) (fun hB => ?_) <;> rw [hB]) | (refine runs_here ?_; refine runs_cond rfl (fun hc => ?_) (fun hc => ?_) <;> first | (cases hc; done) | skip))
          all_goals refine ⟨?_, rfl⟩
          all_goals simp_all
        repeat (first | refine next_normal ?_ | refine runs_seq ?_)
        refine runs_cond rfl (fun hc => ?_) (fun hc => ?_)
        · have e1 : R.may = false := by rw [may_head, hc]; rfl
          refine go0 ?_
          exact fin _ _ _ hA rfl e1
        have z0 := hc
        refine go0 ?_
        refine runs_loop (fun k e m' => ∃ (i : Nat), i ≤ R.phases.length ∧ firstBy phNot (R.phases.drop i) i = firstBy phNot R.phases 0 ∧ Above m m' ∧ m'.var m.vars.length = some R.row ∧ k = R.phases.length - i ∧
          e = [(1, AV.ptr m.vars.length 0), (3, .v (.int .i64 (i : Int)))]) (k := R.phases.length) ⟨0, Nat.zero_le _, rfl, hA, hv, rfl, rfl⟩ ?_
        rintro k e m2 ⟨i, hi0, hf, hA2, hv2, rfl, rfl⟩
        have l1 := lpRcPhases hv2
        refine go1 @l1 ?_
        refine runs_cond rfl (fun hc => ?_) (fun hc => ?_)
        · have hi1 : i < R.phases.length := by have := of_decide_eq_true hc; omega
          have f1 := atPh (g := .no) (kk := .i64) hi1
          have hp1 := hph _ (phase_mem hi1)
          have hp2 := hfit.2.2.2.1.2 _ (phase_mem hi1)
          have hyes := fun hp => firstBy_yes (d := ph0) (p := phNot) hi1 hp
          have hno := fun hp => by_no (d := ph0) hi1 hp hf
          have r6 := next_i64 (i := i) (by omega)
          generalize R.phases.getD i ph0 = p at f1 hp1 hp2 hyes hno
          have z1 := zsPh (m := m2) (x := p)
          have hA3 := above_push (cs := p.row) hA2
          have hv3 := push_old (cs' := p.row) hv2
          have hp3 : (m2.push p.row).var m2.vars.length = some p.row := push_var
          generalize m2.push p.row = m3 at z1 hA3 hv3 hp3
          have bad : ∀ e m', Above m m' → Ev.get e 2 = .v (.bool false) → phNot p = true → Leaves Tryz.prog false Tryz.f14 m (.v (.bool R.may), m) .ret e m' := fun e m' hA' hg hb => fin e m' false hA' hg (by rw [may_head, hyes hb]; simp)
          refine go1 (jn @l1 (jn @f1 @z1)) ?_
          generalize m2.vars.length = n4 at hp3 ⊢
          have y1 := lpPhName hp3
          have y2 := lpPhLen hp3
          have y3 := lpPhFrozen hp3
          have y4 := lpPhSets hp3
          have j1 := fun mm => isNameG_eq (s := p.name) (m := mm) hp2.1
          have n3 := fun mm => rnamedG_at (m := mm) (g := .no) (l := p.frozen) (n := 8) ⟨hp1.1, hp2.2.2.1⟩
          refine ops_rcut [(1, .ptr m.vars.length 0), (3, .v (.int .i64 (i : Int))), (4, .ptr n4 0), (81, .v (.bool (phHead p)))] m3 ?_ ?_
          · unfold phHead
            generalize namedB p.frozen 8 = q1 at n3
            generalize isName p.name = q2 at j1
            repeat' (first | refine gos1 (jn @y1 (jn @y2 (jn @y3 (jn @y4 (jn @t2 (jn @t3 (jn @t4 (jn @j1 (jn @n3 @lc))))))))) ?_ | (refine ops_here ?_; (fail_if_success (refine ops_case (B := true) rfl rfl rfl ?_ ?_)); (fail_if_success (refine ops_case (B := false) rfl rfl rfl ?_ ?_)); refine ops_case rfl rfl rfl (fun hB => ?_) (fun hB => ?_) <;> rw [hB]) | (refine runs_here ?_; refine runs_cond rfl (fun hc => ?_) (fun hc => ?_) <;> first | (cases hc; done) | skip))
            all_goals refine ⟨?_, rfl⟩
            all_goals simp_all
          repeat (first | refine next_normal ?_ | refine runs_seq ?_)
          refine runs_cond rfl (fun hc => ?_) (fun hc => ?_)
          · refine go0 ?_
            exact bad _ _ hA3 rfl (by rw [phNot_head, hc]; rfl)
          have zh := hc
          refine go0 ?_
          refine runs_loop (fun k e m' => ∃ (j : Nat), j ≤ p.sets.length ∧ firstBy setNot (p.sets.drop j) j = firstBy setNot p.sets 0 ∧ Above m m' ∧ m'.var m.vars.length = some R.row ∧ m'.var n4 = some p.row ∧ k = p.sets.length - j ∧
            e = [(1, AV.ptr m.vars.length 0), (3, .v (.int .i64 (i : Int))), (4, .ptr n4 0), (5, .v (.int .i64 (j : Int)))]) (k := p.sets.length) ⟨0, Nat.zero_le _, rfl, hA3, hv3, hp3, rfl, rfl⟩ ?_
          rintro k e m4 ⟨j, hj0, hg, hA4, hv4, hp4, rfl, rfl⟩
          have l2 := lpPhSets hp4
          refine go1 @l2 ?_
          refine runs_cond rfl (fun hc => ?_) (fun hc => ?_)
          · have hj1 : j < p.sets.length := by have := of_decide_eq_true hc; omega
            have f2 := atGs (g := .no) (kk := .i64) hj1
            have hs2 := hp2.2.2.2.2 _ (set_mem hj1)
            have syes := fun hp => firstBy_yes (d := gs0) (p := setNot) hj1 hp
            have sno := fun hp => by_no (d := gs0) hj1 hp hg
            have r7 := next_i64 (i := j) (by have := hp1.2; omega)
            generalize p.sets.getD j gs0 = s at f2 hs2 syes sno
            have z2 := zsGs (m := m4) (x := s)
            have hA5 := above_push (cs := s.row) hA4
            have hv5 := push_old (cs' := s.row) hv4
            have hp5 := push_old (cs' := s.row) hp4
            have hs5 : (m4.push s.row).var m4.vars.length = some s.row := push_var
            generalize m4.push s.row = m5 at z2 hA5 hv5 hp5 hs5
            refine go1 (jn @l2 (jn @f2 @z2)) ?_
            generalize m4.vars.length = n6 at hs5 ⊢
            have x1 := lpGsGroup hs5
            have x2 := lpGsParam hs5
            have x3 := lpGsNodes hs5
            have j2 := fun mm => isNameG_eq (s := s.group) (m := mm) hs2.1
            have c5 := fun mm => checkTG_eq (m := mm) (g := .no) hs2.2
            have hops := setNot_ops s
            refine ops_rcut [(1, .ptr m.vars.length 0), (3, .v (.int .i64 (i : Int))), (4, .ptr n4 0), (5, .v (.int .i64 (j : Int))), (113, .v (.bool (setNot s)))] m5 ?_ ?_
            · rw [hops]
              generalize isName s.group = q1 at j2
              generalize checkT s.nodes = q2 at c5
              repeat' (first | refine gos1 (jn @x1 (jn @x2 (jn @x3 (jn @t3 (jn @t5 (jn @j2 @c5)))))) ?_ | (refine ops_here ?_; (fail_if_success (refine ops_case (B := true) rfl rfl rfl ?_ ?_)); (fail_if_success (refine ops_case (B := false) rfl rfl rfl ?_ ?_)); refine ops_case rfl rfl rfl (fun hB => ?_) (fun hB => ?_) <;> rw [hB]) | (refine runs_here ?_; refine runs_cond rfl (fun hc => ?_) (fun hc => ?_) <;> first | (cases hc; done) | skip))
              all_goals refine ⟨?_, rfl⟩
              all_goals simp_all
            repeat (first | refine next_normal ?_ | refine runs_seq ?_)
            refine runs_cond rfl (fun hc => ?_) (fun hc => ?_)
            · refine go0 ?_
              exact bad _ _ hA5 rfl (by rw [phNot_head, syes hc, Bool.or_true])
            · refine go1 @r7 ?_
              exact ⟨p.sets.length - (j + 1), by omega, j + 1, hj1, sno hc, hA5, hv5, hp5, rfl, rfl⟩
          · have hj1 : j = p.sets.length := by have := of_decide_eq_false hc; omega
            subst hj1
            have hn := hno (by rw [phNot_head, zh, firstBy_no hg]; rfl)
            refine go1 @r6 ?_
            exact ⟨R.phases.length - (i + 1), by omega, i + 1, hi1, hn, hA4, hv4, rfl, rfl⟩
        · have hi1 : i = R.phases.length := by have := of_decide_eq_false hc; omega
          subst hi1
          have e1 : R.may = R.endsMay := by rw [may_head, z0, firstBy_no hf]; rfl
          have l0 := vrRc hv2
          have c6 := fun mm => rendsG_at (m := mm) hfit
          refine go1 (jn @l0 (jn @t6 @c6)) ?_
          exact fin _ _ _ hA2 rfl e1
      · cases h
    · cases h
  · cases h
end Go.Proofs.YtojaokhkbmiidaaGreat.Ev

namespace Go.Proofs.YtojaokhkbmiidaaGreat.Ev
open Go Go.Proofs
set_option maxRecDepth 10000
set_option maxHeartbeats 8000000
set_option linter.unusedVariables false
set_option linter.unusedSimpArgs false
attribute [local irreducible] Next Inside Runs Ops table
attribute [local go_sem] szStr szInt Option.getD_some isNil evStr iv mapRc cellsRc newRc rowsFl_len mkFl0
def kpOf21 : Nat → Option (List Nat) := fun
  | 0 => some [1]
  | 1 => some [1, 3]
  | 2 => some [1, 3, 4]
  | 3 => some [1, 3, 4, 7]
  | 4 => some [1, 3, 4]
  | 5 => some [1, 3, 4]
  | 6 => some [2]
  | _ => none
attribute [go_sem] kpOf21
/-! ### Sound -/
def allKept (R : Rc) : Nat → Bool
  | 0 => true
  | n + 1 => R.kept ((n + 1 : Nat) : Int) && allKept R n
theorem allKept_no {R : Rc} {i : Nat} (h0 : 1 ≤ i) (h : R.kept (i : Int) = false) : ∀ {n : Nat}, i ≤ n → allKept R n = false
  | 0, hn => by omega
  | n + 1, hn => by
    by_cases e : i = n + 1
    · subst e; rw [allKept, h]; rfl
    · rw [allKept, allKept_no h0 h (by omega), Bool.and_false]
theorem allKept_flaws (R : Rc) : ∀ n : Nat, ((((flawsTo R n).length : Nat) : Int) == 0) = allKept R n
  | 0 => rfl
  | n + 1 => by
    have hN : flawsTo R (n + 1) = flawsTo R n ++ brkL R ((n + 1 : Nat) : Int) := upto_next
    have ih := allKept_flaws R n
    have hk : R.kept ((n + 1 : Nat) : Int) = ((((brkL R ((n + 1 : Nat) : Int)).length : Nat) : Int) == 0) := rfl
    rw [allKept, hk, ← ih, hN, List.length_append, Bool.eq_iff_iff]
    simp only [Bool.and_eq_true, beq_iff_eq]
    omega
theorem sound_kept (R : Rc) : R.sound = (R.may && allKept R 19) := by
  unfold Rc.sound Rc.flaws
  cases R.may with
  | false => rfl
  | true => rw [if_pos rfl, allKept_flaws]
def rsoundG : List AV → Mem → Option (AV × Mem)
  | [.agg cs], m =>
    match unRc cs with
    | some R => if R.lite then some (.v (.bool R.sound), m) else none
    | none => none
  | _, _ => none
theorem rsoundG_at {R : Rc} {m : Mem} (h : R.lite) : rsoundG [.agg R.row] m = some (.v (.bool R.sound), m) := by
  simp only [rsoundG, unRc_row]
  rw [if_pos h]
def kpSound21 : Nat → Option (List Nat) := fun
  | 0 => some [1]
  | 1 => some [1, 6]
  | 2 => some [2]
  | 3 => some [1, 3]
  | 4 => some [1, 3, 8]
  | 5 => some [1, 3]
  | 6 => some [1, 3, 14]
  | 7 => some [2]
  | 8 => some [2]
  | _ => none
attribute [go_sem] kpSound21
def tab_sound21_ok : List (FuncId × (List AV → Mem → Option (AV × Mem))) := [(14, mayBG), (39, (keptRG true))]
theorem sound21_ok : FunOk Tryz.prog 13 rsoundG := by
  have hC := table_ok (P := Tryz.prog) (l := tab_sound21_ok) (table_more may18_ok (table_more kept20_1 table_nil))
  have t1 := fun args mm => table_at (l := tab_sound21_ok) (f := 14) (args := args) (m := mm) rfl
  have t2 := fun args mm => table_at (l := tab_sound21_ok) (f := 39) (args := args) (m := mm) rfl
  refine fun_ok mixed hC Tryz.func13 rfl kpSound21 false rfl fun args m r h => ?_
  unfold rsoundG at h
  split at h
  · rename_i cs
    split at h
    · rename_i R hR
      obtain rfl := unRc_some hR
      split at h
      · rename_i hlite
        simp only [Option.some.injEq] at h
        subst h
        refine ⟨Nat.le_of_ble_eq_true rfl, ?_⟩
        simp only [entry, List.length_cons, List.length_nil, List.range, List.range.loop, List.zip_cons_cons, List.zip_nil_right]
        have hA := above_push (cs := R.row) (above_self m)
        have hv : (m.push R.row).var m.vars.length = some R.row := push_var
        have nr := newRc (m := m) (x := R)
        generalize m.push R.row = m1 at hA hv nr
        have l0 := vrRc hv
        have c1 := fun mm => mayBG_at (m := mm) hlite
        rw [sound_kept]
        cases hmay : R.may with
        | false =>
          rw [hmay] at c1
          refine go1 (jn @nr (jn @l0 (jn @t1 @c1))) ?_
          refine runs_cond rfl (fun hc => ?_) (fun hc => by cases hc)
          refine go0 ?_
          exact leaves_fin rfl rfl (above_fin hA)
        | true =>
          rw [hmay] at c1
          rw [Bool.true_and]
          refine go1 (jn @nr (jn @l0 (jn @t1 @c1))) ?_
          refine runs_cond rfl (fun hc => by cases hc) (fun hc => ?_)
          refine go0 ?_
          refine runs_loop (fun k e m' => ∃ (i : Nat), i ≤ 19 ∧ allKept R i = allKept R 19 ∧ m1 = m' ∧ k = 0 + i ∧
            e = [(1, AV.ptr m.vars.length 0), (3, .v (.int .i64 (i : Int)))]) (k := 19) ⟨19, Nat.le_refl _, rfl, rfl, rfl, rfl⟩ ?_
          rintro k e m' ⟨i, hi0, hf, rfl, rfl, rfl⟩
          refine go0 ?_
          refine runs_cond rfl (fun hc => ?_) (fun hc => ?_)
          · have hi1 : 1 ≤ i := by have := of_decide_eq_true hc; omega
            obtain ⟨j, rfl⟩ : ∃ j, i = j + 1 := ⟨i - 1, by omega⟩
            have c2 := fun mm => keptRG_at (m := mm) (R := R) (b := true) (rule := ((j + 1 : Nat) : Int)) hmay hlite.1 (by unfold isRule; omega) (.inl rfl)
            have r6 : IntKind.i64.wrap (((j + 1 : Nat) : Int) - 1) = (j : Int) := by rw [i64_wrap (by omega) (by omega)]; omega
            have hk : allKept R (j + 1) = (R.kept ((j + 1 : Nat) : Int) && allKept R j) := rfl
            cases hq : R.kept ((j + 1 : Nat) : Int) with
            | false =>
              rw [hq] at c2
              rw [allKept_no hi1 hq hi0]
              refine go1 (jn @l0 (jn @t2 @c2)) ?_
              refine runs_cond rfl (fun hc => ?_) (fun hc => by cases hc)
              refine go0 ?_
              exact leaves_fin rfl rfl (above_fin hA)
            | true =>
              rw [hq] at c2 hk
              rw [Bool.true_and] at hk
              refine go1 (jn @l0 (jn @t2 @c2)) ?_
              refine runs_cond rfl (fun hc => by cases hc) (fun hc => ?_)
              refine go1 @r6 ?_
              exact ⟨0 + j, by omega, j, by omega, by rw [← hk, hf], rfl, rfl, rfl⟩
          · have hi1 : i = 0 := by have := of_decide_eq_false hc; omega
            subst hi1
            rw [← hf]
            refine go0 ?_
            exact leaves_fin rfl rfl (above_fin hA)
      · cases h
    · cases h
  · cases h
end Go.Proofs.YtojaokhkbmiidaaGreat.Ev

namespace Go.Proofs.YtojaokhkbmiidaaGreat.Ev
open Go Go.Proofs
set_option maxRecDepth 10000
set_option maxHeartbeats 8000000
set_option linter.unusedVariables false
set_option linter.unusedSimpArgs false
attribute [local irreducible] Next Inside Runs Ops table
attribute [local go_sem] szStr szInt Option.getD_some isNil evStr iv loadInt rowsSp_len fpSpFrom_ fpSpTo_ feSpFrom_ feSpTo_ leSpFrom_ leSpTo_ ldSp newSp cellsSp mapSp List.cons_append
def spanHas (step : Int) (s : Sp) : Bool := decide (s.from_ ≤ step) && decide (step < s.to_)
def spanHasG : List AV → Mem → Option (AV × Mem)
  | [.agg cs, .ptr r 0], m =>
    match unSp cs, m.var r with
    | some s, some [.v (.int .i64 step)] => some (.v (.bool (spanHas step s)), m)
    | _, _ => none
  | _, _ => none
theorem lpInt1 {m : Mem} {r : Nat} {n : Int} (hv : m.var r = some [.v (.int .i64 n)]) : evLoad Tryz.prog m 3 (.ptr r 0) = some (.v (.int .i64 n)) := by
  unfold evLoad
  simp only [ptrCells, hv, Option.map_some, szInt, agInt]
  rfl
def kpSpanHas : Nat → Option (List Nat) := fun
  | 0 => some [1, 2]
  | 1 => some [3]
  | _ => none
attribute [go_sem] kpSpanHas
theorem spanHas_ok : FunOk Tryz.prog 51 spanHasG := by
  have hC := table_ok (P := Tryz.prog) (l := []) table_nil
  refine fun_ok mixed hC Tryz.func51 rfl kpSpanHas false rfl fun args m r h => ?_
  unfold spanHasG at h
  split at h
  · rename_i cs r0
    split at h
    · rename_i s step hs hv
      obtain rfl := unSp_some hs
      simp only [Option.some.injEq] at h
      subst h
      refine ⟨Nat.le_of_ble_eq_true rfl, ?_⟩
      simp only [entry, List.length_cons, List.length_nil, List.range, List.range.loop, List.zip_cons_cons, List.zip_nil_right]
      have hp : (m.push s.row).var m.vars.length = some s.row := push_var
      have f1 := lpSpFrom_ hp
      have f2 := lpSpTo_ hp
      have f3 := lpInt1 (push_old (cs' := s.row) hv)
      have fin : ∀ (e : Env) (b : Bool), Ev.get e 3 = .v (.bool b) → b = spanHas step s → Leaves Tryz.prog false Tryz.f51 m (.v (.bool (spanHas step s)), m) .ret e (m.push s.row) := fun e b h1 h2 => by
        rw [← h2]; exact leaves_fin rfl h1 fin_push
      repeat' (first | refine gos1 (jn @f1 (jn @f2 @f3)) ?_ | (refine ops_here ?_; (fail_if_success (refine ops_case (B := true) rfl rfl rfl ?_ ?_)); (fail_if_success (refine ops_case (B := false) rfl rfl rfl ?_ ?_)); refine ops_case rfl rfl rfl (fun hB => ?_) (fun hB => ?_) <;> rw [hB]) | (refine runs_here ?_; refine runs_cond rfl (fun hc => ?_) (fun hc => ?_) <;> first | (cases hc; done) | skip))
      all_goals exact fin _ _ rfl (by first | (simp_all [spanHas]; done) | (simp_all [spanHas]; omega))
    · cases h
  · cases h
def spanFindG : List AV → Mem → Option (AV × Mem)
  | [.lst _ 2 rows, .fn (.func 51) [] [.ptr r 0]], m =>
    match unsSp rows, m.var r with
    | some l, some [.v (.int .i64 step)] => if l.length ≤ big40 then some (.v (.int .i64 (firstBy (spanHas step) l 0)), m) else none
    | _, _ => none
  | _, _ => none
def kpSpanFind : Nat → Option (List Nat) := fun
  | 0 => some [0, 1]
  | 1 => some [0, 1, 7, 8]
  | 2 => some [0, 1, 7, 8, 9]
  | 3 => some [0, 1, 5, 7, 8]
  | 4 => some [0, 1, 5, 7, 8, 16]
  | 5 => some [4]
  | 6 => some [0, 1, 7, 8]
  | 7 => some [4]
  | _ => none
attribute [go_sem] kpSpanFind
def tab_spanFind_ok : List (FuncId × (List AV → Mem → Option (AV × Mem))) := [(51, spanHasG)]
theorem spanFind_ok : FunOk Tryz.prog 50 spanFindG := by
  have hC := table_ok (P := Tryz.prog) (l := tab_spanFind_ok) (table_more spanHas_ok table_nil)
  have t1 := fun args mm => table_at (l := tab_spanFind_ok) (f := 51) (args := args) (m := mm) rfl
  refine fun_ok mixed hC Tryz.func50 rfl kpSpanFind false rfl fun args m r h => ?_
  unfold spanFindG at h
  split at h
  · rename_i g rows r0
    split at h
    · rename_i l step hl0 hv
      obtain rfl := unsSp_some hl0
      split at h
      · rename_i hlen
        simp only [Option.some.injEq] at h
        subst h
        unfold big40 at hlen
        refine ⟨Nat.le_of_ble_eq_true rfl, ?_⟩
        simp only [entry, List.length_cons, List.length_nil, List.range, List.range.loop, List.zip_cons_cons, List.zip_nil_right]
        refine go0 ?_
        refine runs_loop (fun k e m' => ∃ (i : Nat), i ≤ l.length ∧ firstBy (spanHas step) (l.drop i) i = firstBy (spanHas step) l 0 ∧ m = m' ∧ k = l.length - i ∧
          e = [(0, AV.lst g 2 (rowsSp l)), (1, .fn (.func 51) [] [.ptr r0 0]), (7, .v (.int .i64 l.length)), (8, .v (.int .i64 (i : Int)))]) (k := l.length) ⟨0, Nat.zero_le _, rfl, rfl, rfl, rfl⟩ ?_
        rintro k e m' ⟨i, hi, hf, rfl, rfl, rfl⟩
        refine go0 ?_
        refine runs_cond rfl (fun hc => ?_) (fun hc => ?_)
        · have hi1 : i < l.length := by have := of_decide_eq_true hc; omega
          have f1 := atSp (g := g) (kk := .i64) hi1
          have f2 : spanHasG [.agg (l.getD i sp0).row, .ptr r0 0] m = some (.v (.bool (spanHas step (l.getD i sp0))), m) := by
            simp only [spanHasG, hv]
            rfl
          refine go1 (jn @f1 (jn @t1 @f2)) ?_
          refine runs_cond rfl (fun hc => ?_) (fun hc => ?_)
          · rw [by_yes hi1 hc hf]
            refine go0 ?_
            exact leaves_v rfl rfl
          · have r6 := next_i64 (i := i) (by omega)
            refine go1 @r6 ?_
            exact ⟨l.length - (i + 1), by omega, i + 1, hi1, by_no hi1 hc hf, rfl, rfl, rfl⟩
        · have hi1 : i = l.length := by have := of_decide_eq_false hc; omega
          subst hi1
          rw [by_end hf]
          refine go0 ?_
          exact leaves_v rfl rfl
      · cases h
    · cases h
  · cases h
def spanAtG : List AV → Mem → Option (AV × Mem)
  | [.lst _ 2 rows, .v (.int .i64 step)], m =>
    match unsSp rows with
    | some l => if l.length ≤ big40 then some (.v (.int .i64 (firstBy (spanHas step) l 0)), m) else none
    | none => none
  | _, _ => none
theorem spanAtG_eq {m : Mem} {g : Grow} {l : List Sp} {step : Int} (h : l.length ≤ big40) : spanAtG [.lst g 2 (rowsSp l), .v (.int .i64 step)] m = some (.v (.int .i64 (firstBy (spanHas step) l 0)), m) := by
  simp only [spanAtG, unsSp_rowsSp]
  rw [if_pos h]
def kpSpanAt : Nat → Option (List Nat) := fun
  | 0 => some [0, 3]
  | 1 => some [4]
  | _ => none
attribute [go_sem] kpSpanAt
theorem newInt1 {m : Mem} {n : Int} : newVar m m.vars.length [.v (.int .i64 n)] = some (m.push [.v (.int .i64 n)]) := newVar_push rfl
theorem cellsInt1 {n : Int} : cellsOf (.v (.int .i64 n)) = some [.v (.int .i64 n)] := rfl
attribute [local go_sem] newInt1 cellsInt1
def tab_spanAt_ok : List (FuncId × (List AV → Mem → Option (AV × Mem))) := [(50, spanFindG)]
theorem spanAt_ok : FunOk Tryz.prog 20 spanAtG := by
  have hC := table_ok (P := Tryz.prog) (l := tab_spanAt_ok) (table_more spanFind_ok table_nil)
  have t1 := fun args mm => table_at (l := tab_spanAt_ok) (f := 50) (args := args) (m := mm) rfl
  refine fun_ok mixed hC Tryz.func20 rfl kpSpanAt false rfl fun args m r h => ?_
  unfold spanAtG at h
  split at h
  · rename_i g rows step
    split at h
    · rename_i l hl0
      obtain rfl := unsSp_some hl0
      split at h
      · rename_i hlen
        simp only [Option.some.injEq] at h
        subst h
        refine ⟨Nat.le_of_ble_eq_true rfl, ?_⟩
        simp only [entry, List.length_cons, List.length_nil, List.range, List.range.loop, List.zip_cons_cons, List.zip_nil_right]
        have f1 : spanFindG [.lst .no 2 (rowsSp l), .fn (.func 51) [] [.ptr m.vars.length 0]] (m.push [.v (.int .i64 step)]) = some (.v (.int .i64 (firstBy (spanHas step) l 0)), m.push [.v (.int .i64 step)]) := by
          simp only [spanFindG, unsSp_rowsSp, push_var]
          rw [if_pos hlen]
        refine go1 (jn @t1 @f1) ?_
        exact leaves_fin rfl rfl fin_push
      · cases h
    · cases h
  · cases h
end Go.Proofs.YtojaokhkbmiidaaGreat.Ev

namespace Go.Proofs.YtojaokhkbmiidaaGreat.Ev
open Go Go.Proofs
set_option maxRecDepth 10000
set_option maxHeartbeats 8000000
set_option linter.unusedVariables false
set_option linter.unusedSimpArgs false
attribute [local irreducible] Next Inside Runs Ops table
attribute [local go_sem] szStr szInt Option.getD_some isNil evStr iv loadStr loadInt mapRc cellsRc newRc rowsPh_len rowsSp_len fpRcSteps fpRcEpoch fpRcPhases fpPhLen fpPhLenU zrPh zoPh ldPh cellsPh mapPh fePhLen lePhLen feLenU leLenU
theorem mkSp {a b : Int} : evBuild Tryz.prog 51 [(0, .v (.int .i64 a)), (1, .v (.int .i64 b))] = some (.agg [.v (.int .i64 a), .v (.int .i64 b)]) := by kernel_rfl
attribute [local go_sem] mkSp
theorem mkSps1 {a b : Int} : evBuildSlice Tryz.prog 46 1 [(0, .agg [.v (.int .i64 a), .v (.int .i64 b)])] = some (.lst .full 2 [[.v (.int .i64 a), .v (.int .i64 b)]]) := build_rows appSp rfl rfl (by decide)
attribute [local go_sem] mkSps1
theorem mkSp0 : evBuildSlice Tryz.prog 46 0 [] = some (.lst .full 2 []) := build_nil appSp
attribute [local go_sem] mkSp0
theorem app_sp {m m' : Mem} {g g2 : Grow} (hG : GrowsA m g m') (xs : List Sp) (a b : Int) (hl : xs.length ≤ 1000000) :
    ∃ g' m'', evAppend Tryz.prog 46 46 m' (.lst g 2 (rowsSp xs)) (.lst g2 2 [[.v (.int .i64 a), .v (.int .i64 b)]]) = some (.lst g' 2 (rowsSp (xs ++ [⟨a, b⟩])), m'') ∧ GrowsA m g' m'' ∧ ∀ q, m''.var q = m'.var q := by
  have := app_growsV appSp hG (y := .lst g2 2 [[.v (.int .i64 a), .v (.int .i64 b)]]) asList_lst (xs := rowsSp xs) (by rw [rowsSp_len]; unfold lim; simp; omega)
  rwa [show ([[.v (.int .i64 a), .v (.int .i64 b)]] : List (List AV)) = rowsSp [⟨a, b⟩] from rfl, rowsSp_app] at this
/-- Where a phase begins. -/
def Rc.at_ (R : Rc) : Nat → Int
  | 0 => 0
  | i + 1 => if (R.phases.getD i ph0).lenU = 3 then R.steps else R.at_ i + (R.stepsOf (R.phases.getD i ph0)).1
def Rc.spansTo (R : Rc) (n : Nat) : List Sp := (List.range n).map fun i => ⟨R.at_ i, R.at_ (i + 1)⟩
def Rc.spans (R : Rc) : List Sp := R.spansTo R.phases.length
theorem spansTo_next {R : Rc} {n : Nat} : R.spansTo (n + 1) = R.spansTo n ++ [⟨R.at_ n, R.at_ (n + 1)⟩] := by
  unfold Rc.spansTo
  rw [List.range_succ, List.map_append]
  rfl
theorem spansTo_len {R : Rc} {n : Nat} : (R.spansTo n).length = n := by simp [Rc.spansTo]
theorem spansTo_get {R : Rc} {n i : Nat} (h : i < n) : (R.spansTo n).getD i sp0 = ⟨R.at_ i, R.at_ (i + 1)⟩ := by
  simp [Rc.spansTo, List.getD, h]
theorem at_in {R : Rc} (h : 0 ≤ R.steps ∧ R.steps ≤ 1099511627776) : ∀ i : Nat, 0 ≤ R.at_ i ∧ R.at_ i ≤ ((i + 1 : Nat) : Int) * 1099511627776
  | 0 => by simp [Rc.at_]
  | i + 1 => by
    have ih := at_in h i
    have h2 := stepsP_in (u := (R.phases.getD i ph0).lenU) (n := (R.phases.getD i ph0).lenN) (of := R.steps) (ep := R.epoch)
    rw [show stepsP (R.phases.getD i ph0).lenU (R.phases.getD i ph0).lenN R.steps R.epoch = R.stepsOf (R.phases.getD i ph0) from rfl] at h2
    unfold Rc.at_
    split <;> omega
def rspansG : List AV → Mem → Option (AV × Mem)
  | [.agg cs], m =>
    match unRc cs with
    | some R => if R.may = true ∧ R.fit then some (.lst .no 2 (rowsSp R.spans), m) else none
    | none => none
  | _, _ => none
theorem rspansG_at {R : Rc} {m : Mem} (h : R.may = true) (h1 : R.fit) : rspansG [.agg R.row] m = some (.lst .no 2 (rowsSp R.spans), m) := by
  simp only [rspansG, unRc_row]
  rw [if_pos ⟨h, h1⟩]
def kpSpans22 : Nat → Option (List Nat) := fun
  | 0 => some [1]
  | 1 => some [1, 3]
  | 2 => some [1, 3, 4]
  | 3 => some [1, 3, 4, 5]
  | 4 => some [1, 3, 4, 5, 12]
  | 5 => some [1, 3, 4, 5]
  | 6 => some [1, 3, 4, 5, 6]
  | 7 => some [1, 3, 4, 5, 6, 26]
  | 8 => some [1, 3, 4, 5, 6]
  | 9 => some [1, 3, 4, 5, 6]
  | 10 => some [1, 3, 4, 5]
  | 11 => some [2]
  | _ => none
attribute [go_sem] kpSpans22
def tab_spans22_ok : List (FuncId × (List AV → Mem → Option (AV × Mem))) := [(49, rstepsG)]
theorem spans22_ok : FunOk Tryz.prog 19 rspansG := by
  have hC := table_ok (P := Tryz.prog) (l := tab_spans22_ok) (table_more rsteps_ok table_nil)
  have t1 := fun args mm => table_at (l := tab_spans22_ok) (f := 49) (args := args) (m := mm) rfl
  refine fun_ok mixed hC Tryz.func19 rfl kpSpans22 false rfl fun args m r h => ?_
  unfold rspansG at h
  split at h
  · rename_i cs
    split at h
    · rename_i R hR
      obtain rfl := unRc_some hR
      split at h
      · rename_i hyp
        obtain ⟨hmay, hfit⟩ := hyp
        simp only [Option.some.injEq] at h
        subst h
        refine ⟨Nat.le_of_ble_eq_true rfl, ?_⟩
        simp only [entry, List.length_cons, List.length_nil, List.range, List.range.loop, List.zip_cons_cons, List.zip_nil_right]
        have hsm := Rc.may_small hmay
        have hP64 := hsm.2.2.1
        have hnum := Rc.may_num hmay
        have hlens := Rc.may_lens hmay
        have hG0 : GrowsA m .full (m.push R.row) := growsA_push growsA_full
        have hv : (m.push R.row).var m.vars.length = some R.row := push_var
        have nr := newRc (m := m) (x := R)
        generalize m.push R.row = m1 at hG0 hv nr
        refine go1 @nr ?_
        refine runs_loop (fun k e m' => ∃ (i : Nat) (gr : Grow), i ≤ R.phases.length ∧ GrowsA m gr m' ∧ m'.var m.vars.length = some R.row ∧ k = R.phases.length - i ∧
          e = [(1, AV.ptr m.vars.length 0), (3, .lst gr 2 (rowsSp (R.spansTo i))), (4, .v (.int .i64 (R.at_ i))), (5, .v (.int .i64 (i : Int)))]) (k := R.phases.length) ⟨0, _, Nat.zero_le _, hG0, hv, rfl, rfl⟩ ?_
        rintro k e m' ⟨i, gr, hi0, hG, hw, rfl, rfl⟩
        have l1 := lpRcPhases hw
        refine go1 @l1 ?_
        refine runs_cond rfl (fun hc => ?_) (fun hc => ?_)
        · have hi1 : i < R.phases.length := by have := of_decide_eq_true hc; omega
          have l0 := vrRc hw
          have l2 := lpRcSteps hw
          have f2 := atPh (g := .no) (kk := .i64) hi1
          have hin := at_in hnum.steps i
          have hin2 := at_in hnum.steps (i + 1)
          have hA : R.at_ (i + 1) = if (R.phases.getD i ph0).lenU = 3 then R.steps else R.at_ i + (R.stepsOf (R.phases.getD i ph0)).1 := rfl
          have hl := hlens.2.1 _ (phase_mem hi1)
          have hN := @spansTo_next R i
          have hlen := @spansTo_len R i
          have hst := hnum.steps
          have r1 : IntKind.i64.wrap (R.steps - R.at_ i) = R.steps - R.at_ i := i64_wrap (by omega) (by omega)
          have r6 := next_i64 (i := i) (by omega)
          generalize R.phases.getD i ph0 = p at f2 hA hl
          generalize R.spansTo i = acc at hG hN hlen
          obtain ⟨g2, m2, a1, hG2, hV2⟩ := app_sp (g2 := .full) hG acc (R.at_ i) (R.at_ (i + 1)) (by omega)
          rw [← hN] at a1
          cases h3 : (p.lenU == 3) with
          | true =>
            have h3' : p.lenU = 3 := by simpa using h3
            have h4 : (p.lenU != 3) = false := by simpa using h3
            rw [if_pos h3'] at hA
            have e1 : R.at_ i + (R.steps - R.at_ i) = R.at_ (i + 1) := by omega
            have r2 : IntKind.i64.wrap (R.at_ i + (R.steps - R.at_ i)) = R.at_ (i + 1) := by rw [e1]; exact i64_wrap (by omega) (by omega)
            refine go1 (jn @l2 (jn @r1 (jn @l1 (jn @f2 @h4)))) ?_
            refine runs_cond rfl (fun hc => by cases hc) (fun hc => ?_)
            refine go1 (jn @r2 (jn @a1 @r6)) ?_
            exact ⟨R.phases.length - (i + 1), by omega, i + 1, _, hi1, hG2, by rw [hV2]; exact hw, rfl, rfl⟩
          | false =>
            have h3' : ¬ p.lenU = 3 := by simpa using h3
            have h4 : (p.lenU != 3) = true := by simpa using h3
            rw [if_neg h3'] at hA
            have c1 := fun mm => rstepsG_at (R := R) (m := mm) hl hnum.steps.1 hnum.epoch.1
            rw [show stepsP p.lenU p.lenN R.steps R.epoch = R.stepsOf p from rfl] at c1
            have r2 : IntKind.i64.wrap (R.at_ i + (R.stepsOf p).1) = R.at_ (i + 1) := by rw [← hA]; exact i64_wrap (by omega) (by omega)
            generalize (R.stepsOf p).1 = s1 at c1 r2
            generalize (R.stepsOf p).2 = s2 at c1
            refine go1 (jn @l2 (jn @r1 (jn @l1 (jn @f2 @h4)))) ?_
            refine runs_cond rfl (fun hc => ?_) (fun hc => by cases hc)
            refine go0 ?_
            refine runs_ops_drawn_kept (by kernel_rfl) ?_
            refine go1 (jn @l0 (jn @l1 (jn @f2 (jn @t1 (jn @c1 (jn @r2 (jn @a1 @r6))))))) ?_
            exact ⟨R.phases.length - (i + 1), by omega, i + 1, _, hi1, hG2, by rw [hV2]; exact hw, rfl, rfl⟩
        · have hi1 : i = R.phases.length := by have := of_decide_eq_false hc; omega
          subst hi1
          refine go0 ?_
          exact leaves_lst rfl rfl (growsA_fin hG)
      · cases h
    · cases h
  · cases h
def spansG : List AV → Mem → Option (AV × Mem)
  | [.agg cs], m =>
    match unRc cs with
    | some R => if R.fit then some (.tup [.lst .no 2 (rowsSp (if R.sound = true then R.spans else [])), .v (.int .i64 (if R.sound then 0 else 1))], m) else none
    | none => none
  | _, _ => none
theorem spansG_at {R : Rc} {m : Mem} (h1 : R.fit) : spansG [.agg R.row] m = some (.tup [.lst .no 2 (rowsSp (if R.sound = true then R.spans else [])), .v (.int .i64 (if R.sound then 0 else 1))], m) := by
  simp only [spansG, unRc_row]
  rw [if_pos h1]
theorem sound_may {R : Rc} (h : R.sound = true) : R.may = true := by
  unfold Rc.sound at h
  exact (Bool.and_eq_true_iff.1 h).1
def kpSpansP : Nat → Option (List Nat) := fun
  | 0 => some [1]
  | 1 => some [1, 13]
  | 2 => some [2, 3]
  | 3 => some [1, 4]
  | 4 => some [1, 4, 5]
  | 5 => some [1, 4, 5, 15, 16, 17]
  | 6 => some [1, 4, 5, 15, 16, 17, 18]
  | 7 => some [1, 4, 5, 7, 15, 16, 17]
  | 8 => some [1, 4, 5, 7, 8, 15, 16, 17]
  | 9 => some [1, 4, 5, 7, 8, 15, 16, 17, 26]
  | 10 => some [1, 4, 5, 9, 15, 16, 17]
  | 11 => some [1, 4, 5, 8, 15, 16, 17]
  | 12 => some [1, 4, 8, 15, 16, 17]
  | 13 => some [1, 4, 5, 15, 16, 17]
  | 14 => some [1, 4, 5, 15, 16, 17]
  | 15 => some [2, 3]
  | _ => none
attribute [go_sem] kpSpansP
def tab_spansP_ok : List (FuncId × (List AV → Mem → Option (AV × Mem))) := [(12, soundG), (48, stepsLG)]
theorem spansP_ok : FunOk Tryz.prog 18 spansG := by
  have hC := table_ok (P := Tryz.prog) (l := tab_spansP_ok) (table_more sound_ok (table_more stepsL_ok table_nil))
  have t1 := fun args mm => table_at (l := tab_spansP_ok) (f := 12) (args := args) (m := mm) rfl
  have t2 := fun args mm => table_at (l := tab_spansP_ok) (f := 48) (args := args) (m := mm) rfl
  refine fun_ok mixed hC Tryz.func18 rfl kpSpansP false rfl fun args m r h => ?_
  unfold spansG at h
  split at h
  · rename_i cs
    split at h
    · rename_i R hR
      obtain rfl := unRc_some hR
      split at h
      · rename_i hfit
        simp only [Option.some.injEq] at h
        subst h
        refine ⟨Nat.le_of_ble_eq_true rfl, ?_⟩
        simp only [entry, List.length_cons, List.length_nil, List.range, List.range.loop, List.zip_cons_cons, List.zip_nil_right]
        have hG0 : GrowsA m .full (m.push R.row) := growsA_push growsA_full
        have hv : (m.push R.row).var m.vars.length = some R.row := push_var
        have nr := newRc (m := m) (x := R)
        generalize m.push R.row = m1 at hG0 hv nr
        have l0 := vrRc hv
        have c1 := fun mm => soundG_at R mm hfit
        cases hs : R.sound with
        | false =>
          rw [hs] at c1
          refine go1 (jn @nr (jn @l0 (jn @t1 @c1))) ?_
          refine runs_cond rfl (fun hc => ?_) (fun hc => by cases hc)
          refine go0 ?_
          exact leaves_two rfl rfl rfl (growsA_fin hG0)
        | true =>
          rw [hs] at c1
          rw [if_pos rfl, if_pos rfl]
          have hmay := sound_may hs
          have hsm := Rc.may_small hmay
          have hP64 := hsm.2.2.1
          have hnum := Rc.may_num hmay
          have k0 := lpRcPhases hv
          refine go1 (jn @nr (jn @l0 (jn @t1 (jn @c1 @k0)))) ?_
          refine runs_cond rfl (fun hc => by cases hc) (fun hc => ?_)
          refine go1 @k0 ?_
          refine runs_loop (fun k e m' => ∃ (i : Nat) (gr : Grow), i ≤ R.phases.length ∧ GrowsA m gr m' ∧ m'.var m.vars.length = some R.row ∧ k = R.phases.length - i ∧
            e = [(1, AV.ptr m.vars.length 0), (4, .lst gr 2 (rowsSp (R.spansTo i))), (5, .v (.int .i64 (R.at_ i))), (15, .lst .no 5 (rowsPh R.phases)), (16, .v (.int .i64 (R.phases.length : Int))), (17, .v (.int .i64 (i : Int)))]) (k := R.phases.length) ⟨0, _, Nat.zero_le _, hG0, hv, rfl, rfl⟩ ?_
          rintro k e m' ⟨i, gr, hi0, hG, hw, rfl, rfl⟩
          refine go0 ?_
          refine runs_cond rfl (fun hc => ?_) (fun hc => ?_)
          · have hi1 : i < R.phases.length := by have := of_decide_eq_true hc; omega
            have f2 := atPh (g := .no) (kk := .i64) hi1
            have hin := at_in hnum.steps i
            have hin2 := at_in hnum.steps (i + 1)
            have hA : R.at_ (i + 1) = if (R.phases.getD i ph0).lenU = 3 then R.steps else R.at_ i + (R.stepsOf (R.phases.getD i ph0)).1 := rfl
            have hN := @spansTo_next R i
            have hlen := @spansTo_len R i
            have r6 := next_i64 (i := i) (by omega)
            generalize R.phases.getD i ph0 = p at f2 hA
            have z1 := zsPh (m := m') (x := p)
            have hG1 := growsA_push (cs := p.row) hG
            have hw1 := push_old (cs' := p.row) hw
            have hp1 : (m'.push p.row).var m'.vars.length = some p.row := push_var
            generalize m'.push p.row = m5 at z1 hG1 hw1 hp1
            generalize R.spansTo i = acc at hG1 hN hlen
            obtain ⟨g2, m2, a1, hG2, hV2⟩ := app_sp (g2 := .full) hG1 acc (R.at_ i) (R.at_ (i + 1)) (by omega)
            rw [← hN] at a1
            have l2 := lpRcSteps hw1
            have l3 := lpRcEpoch hw1
            have y1 := lpPhLenU hp1
            have y2 := lpPhLen hp1
            cases h3 : (p.lenU == 3) with
            | true =>
              have h3' : p.lenU = 3 := by simpa using h3
              have h4 : (p.lenU != 3) = false := by simpa using h3
              rw [if_pos h3'] at hA
              rw [hA] at a1
              refine go1 (jn @f2 (jn @znPh (jn @z1 (jn @l2 (jn @y1 @h4))))) ?_
              refine runs_cond rfl (fun hc => by cases hc) (fun hc => ?_)
              refine go1 (jn @a1 @r6) ?_
              exact ⟨R.phases.length - (i + 1), by omega, i + 1, _, hi1, hG2, by rw [hV2]; exact hw1, rfl, by rw [hA]⟩
            | false =>
              have h3' : ¬ p.lenU = 3 := by simpa using h3
              have h4 : (p.lenU != 3) = true := by simpa using h3
              rw [if_neg h3'] at hA
              have c2 := fun mm => stepsLG_eq (u := p.lenU) (n := p.lenN) (of := R.steps) (ep := R.epoch) (m := mm)
              rw [show stepsP p.lenU p.lenN R.steps R.epoch = R.stepsOf p from rfl] at c2
              have r2 : IntKind.i64.wrap (R.at_ i + (R.stepsOf p).1) = R.at_ (i + 1) := by rw [← hA]; exact i64_wrap (by omega) (by omega)
              generalize (R.stepsOf p).1 = s1 at c2 r2
              generalize (R.stepsOf p).2 = s2 at c2
              refine go1 (jn @f2 (jn @znPh (jn @z1 (jn @l2 (jn @y1 @h4))))) ?_
              refine runs_cond rfl (fun hc => ?_) (fun hc => by cases hc)
              refine go1 (jn @y2 (jn @l2 (jn @l3 (jn @t2 (jn @c2 (jn @r2 (jn @a1 @r6))))))) ?_
              exact ⟨R.phases.length - (i + 1), by omega, i + 1, _, hi1, hG2, by rw [hV2]; exact hw1, rfl, rfl⟩
          · have hi1 : i = R.phases.length := by have := of_decide_eq_false hc; omega
            subst hi1
            refine go0 ?_
            exact leaves_two rfl rfl rfl (growsA_fin hG)
      · cases h
    · cases h
  · cases h
/-! ### the phase of a step -/
def rspanAtG : List AV → Mem → Option (AV × Mem)
  | [.agg cs, .v (.int .i64 step)], m =>
    match unRc cs with
    | some R => if R.may = true ∧ R.fit then some (.v (.int .i64 (firstBy (spanHas step) R.spans 0)), m) else none
    | none => none
  | _, _ => none
theorem rspanAtG_at {R : Rc} {m : Mem} {step : Int} (h : R.may = true) (h1 : R.fit) : rspanAtG [.agg R.row, .v (.int .i64 step)] m = some (.v (.int .i64 (firstBy (spanHas step) R.spans 0)), m) := by
  simp only [rspanAtG, unRc_row]
  rw [if_pos ⟨h, h1⟩]
def kpAt22 : Nat → Option (List Nat) := fun
  | 0 => some [1, 2]
  | 1 => some [1, 5]
  | 2 => some [1, 5, 6]
  | 3 => some [1, 5, 6, 12]
  | 4 => some [1, 5, 6]
  | 5 => some [1, 5, 6, 30]
  | 6 => some [4]
  | 7 => some [4]
  | _ => none
attribute [go_sem] kpAt22
attribute [local go_sem] feSpFrom_ feSpTo_ leSpFrom_ leSpTo_
def tab_at22_ok : List (FuncId × (List AV → Mem → Option (AV × Mem))) := [(19, rspansG)]
theorem at22_ok : FunOk Tryz.prog 21 rspanAtG := by
  have hC := table_ok (P := Tryz.prog) (l := tab_at22_ok) (table_more spans22_ok table_nil)
  have t1 := fun args mm => table_at (l := tab_at22_ok) (f := 19) (args := args) (m := mm) rfl
  refine fun_ok mixed hC Tryz.func21 rfl kpAt22 false rfl fun args m r h => ?_
  unfold rspanAtG at h
  split at h
  · rename_i cs step
    split at h
    · rename_i R hR
      obtain rfl := unRc_some hR
      split at h
      · rename_i hyp
        obtain ⟨hmay, hfit⟩ := hyp
        simp only [Option.some.injEq] at h
        subst h
        refine ⟨Nat.le_of_ble_eq_true rfl, ?_⟩
        simp only [entry, List.length_cons, List.length_nil, List.range, List.range.loop, List.zip_cons_cons, List.zip_nil_right]
        have hP64 := (Rc.may_small hmay).2.2.1
        have hA := above_push (cs := R.row) (above_self m)
        have hv : (m.push R.row).var m.vars.length = some R.row := push_var
        have nr := newRc (m := m) (x := R)
        generalize m.push R.row = m1 at hA hv nr
        have l0 := vrRc hv
        have c1 := fun mm => rspansG_at (m := mm) hmay hfit
        have hlen : R.spans.length = R.phases.length := spansTo_len
        generalize R.spans = l at c1 hlen
        refine go1 (jn @nr (jn @l0 (jn @t1 @c1))) ?_
        refine runs_loop (fun k e m' => ∃ (i : Nat), i ≤ l.length ∧ firstBy (spanHas step) (l.drop i) i = firstBy (spanHas step) l 0 ∧ m1 = m' ∧ k = l.length - i ∧
          e = [(1, AV.v (.int .i64 step)), (5, .lst .no 2 (rowsSp l)), (6, .v (.int .i64 (i : Int)))]) (k := l.length) ⟨0, Nat.zero_le _, rfl, rfl, rfl, rfl⟩ ?_
        rintro k e m' ⟨i, hi0, hf, rfl, rfl, rfl⟩
        refine go0 ?_
        refine runs_cond rfl (fun hc => ?_) (fun hc => ?_)
        · have hi1 : i < l.length := by have := of_decide_eq_true hc; omega
          have f2 := atSp (g := .no) (kk := .i64) hi1
          have hyes := fun hp => by_yes (d := sp0) hi1 hp hf
          have hno := fun hp => by_no (d := sp0) hi1 hp hf
          have r6 := next_i64 (i := i) (by omega)
          generalize l.getD i sp0 = s at f2 hyes hno
          have hsp : spanHas step s = (decide (step ≥ s.from_) && decide (step < s.to_)) := rfl
          cases q1 : decide (step ≥ s.from_) with
          | false =>
            have hn := hno (by rw [hsp, q1]; rfl)
            refine go1 (jn @f2 @q1) ?_
            refine runs_cond rfl (fun hc => by cases hc) (fun hc => ?_)
            refine go1 @r6 ?_
            exact ⟨l.length - (i + 1), by omega, i + 1, hi1, hn, rfl, rfl, rfl⟩
          | true =>
            cases q2 : decide (step < s.to_) with
            | false =>
              have hn := hno (by rw [hsp, q1, q2]; rfl)
              refine go1 (jn @f2 (jn @q1 @q2)) ?_
              refine runs_cond rfl (fun hc => by cases hc) (fun hc => ?_)
              refine go1 @r6 ?_
              exact ⟨l.length - (i + 1), by omega, i + 1, hi1, hn, rfl, rfl, rfl⟩
            | true =>
              have hy := hyes (by rw [hsp, q1, q2]; rfl)
              rw [hy]
              refine go1 (jn @f2 (jn @q1 @q2)) ?_
              refine runs_cond rfl (fun hc => ?_) (fun hc => by cases hc)
              refine go0 ?_
              exact leaves_fin rfl rfl (above_fin hA)
        · have hi1 : i = l.length := by have := of_decide_eq_false hc; omega
          subst hi1
          rw [by_end hf]
          refine go0 ?_
          exact leaves_fin rfl rfl (above_fin hA)
      · cases h
    · cases h
  · cases h
end Go.Proofs.YtojaokhkbmiidaaGreat.Ev

namespace Go.Proofs.YtojaokhkbmiidaaGreat.Ev
open Go Go.Proofs
set_option maxRecDepth 10000
set_option maxHeartbeats 8000000
set_option linter.unusedVariables false
set_option linter.unusedSimpArgs false
attribute [local irreducible] Next Inside Runs Ops table
theorem allKept_yes {R : Rc} : ∀ {n : Nat}, allKept R n = true → ∀ i : Nat, 1 ≤ i → i ≤ n → R.kept (i : Int) = true
  | 0, _, i, h1, h2 => by omega
  | n + 1, h, i, h1, h2 => by
    rw [allKept, Bool.and_eq_true] at h
    by_cases e : i = n + 1
    · subst e; exact h.1
    · exact allKept_yes h.2 i h1 (by omega)
theorem sound_brk {R : Rc} (h : R.sound = true) (i : Nat) (h1 : 1 ≤ i) (h2 : i ≤ 19) : brkL R (i : Int) = [] := by
  rw [sound_kept, Bool.and_eq_true] at h
  have := allKept_yes h.2 i h1 h2
  unfold Rc.kept at this
  simp only [beq_iff_eq] at this
  exact List.length_eq_zero_iff.1 (by omega)
theorem flawIf_nil {b : Bool} {r i k : Int} (h : flawIf b r i k = []) : b = false := by
  cases b with
  | false => rfl
  | true => cases h
theorem upto_all {f : Nat → List Fl} : ∀ {n : Nat}, upto n f = [] → ∀ i, i < n → f i = []
  | 0, _, i, hi => by omega
  | n + 1, h, i, hi => by
    rw [upto_next, List.append_eq_nil_iff] at h
    by_cases e : i = n
    · subst e; exact h.2
    · exact upto_all h.1 i (by omega)
theorem firstBy_skip {α : Type} {d : α} {p : α → Bool} {l : List α} : ∀ (i : Nat), i ≤ l.length → (∀ j, j < i → p (l.getD j d) = false) → firstBy p (l.drop i) i = firstBy p l 0
  | 0, _, _ => rfl
  | i + 1, hi, h => by_no (d := d) (by omega) (h i (by omega)) (firstBy_skip i (by omega) fun j hj => h j (by omega))
theorem firstBy_is {α : Type} {d : α} {p : α → Bool} {l : List α} {i : Nat} (hi : i < l.length) (hp : p (l.getD i d) = true) (h : ∀ j, j < i → p (l.getD j d) = false) : firstBy p l 0 = (i : Int) :=
  by_yes (d := d) hi hp (firstBy_skip i (by omega) h)
theorem firstBy_none {α : Type} {d : α} {p : α → Bool} {l : List α} (h : ∀ j, j < l.length → p (l.getD j d) = false) : firstBy p l 0 = -1 :=
  by_end (firstBy_skip (d := d) l.length (Nat.le_refl _) h)
structure Rc.Ok (R : Rc) : Prop where
  may : R.may = true
  steps : 1 ≤ R.steps ∧ R.steps ≤ 1000000
  some_ : 0 < R.phases.length
  grow : ∀ i, i < R.phases.length → R.at_ i < R.at_ (i + 1)
  last : R.at_ R.phases.length = R.steps
theorem sound_ok' {R : Rc} (h : R.sound = true) : R.Ok := by
  have hm := sound_may h
  have b1 : flawIf (!decide (1 ≤ R.steps ∧ R.steps ≤ 1000000)) 1 0 0 = [] := sound_brk h 1 (by decide) (by decide)
  have b6 : flawIf (((R.phases.length : Int) == 0)) 6 0 0 = [] := sound_brk h 6 (by decide) (by decide)
  have b8 : lastsL 8 R = [] := sound_brk h 8 (by decide) (by decide)
  have k1 : R.kept 1 = true := by unfold Rc.kept; rw [show brkL R 1 = [] from sound_brk h 1 (by decide) (by decide)]; rfl
  have k2 : R.kept 2 = true := by unfold Rc.kept; rw [show brkL R 2 = [] from sound_brk h 2 (by decide) (by decide)]; rfl
  have k8 : R.kept 8 = true := by unfold Rc.kept; rw [show brkL R 8 = [] from sound_brk h 8 (by decide) (by decide)]; rfl
  have b9 : sumL 9 R = [] := sound_brk h 9 (by decide) (by decide)
  rw [sum_flaw, k1, k2, k8] at b9
  have hs := flawIf_nil b9
  rw [Bool.and_self, Bool.and_self, Bool.true_and] at hs
  have h1 := flawIf_nil b1
  simp only [Bool.not_eq_false', decide_eq_true_eq] at h1
  have h6 := flawIf_nil b6
  simp only [beq_eq_false_iff_ne, ne_eq] at h6
  have hpos : 0 < R.phases.length := by omega
  have h8 : ∀ i, i < R.phases.length → R.lastBad i = false := fun i hi => flawIf_nil (upto_all b8 i hi)
  have rest : ∀ i, i + 1 < R.phases.length → ¬ (R.phases.getD i ph0).lenU = 3 := fun i hi h3 => by
    have := h8 i (by omega)
    unfold Rc.lastBad at this
    rw [if_pos h3, decide_eq_false_iff_not] at this
    omega
  have len : ∀ i, i < R.phases.length → ¬ (R.phases.getD i ph0).lenU = 3 → 0 < (R.stepsOf (R.phases.getD i ph0)).1 := fun i hi h3 => by
    have := h8 i hi
    unfold Rc.lastBad at this
    rw [if_neg h3, Bool.or_eq_false_iff] at this
    have h0 := this.2
    simp only [beq_eq_false_iff_ne, ne_eq] at h0
    have := stepsP_in (u := (R.phases.getD i ph0).lenU) (n := (R.phases.getD i ph0).lenN) (of := R.steps) (ep := R.epoch)
    rw [show stepsP (R.phases.getD i ph0).lenU (R.phases.getD i ph0).lenN R.steps R.epoch = R.stepsOf (R.phases.getD i ph0) from rfl] at this
    omega
  have acc : ∀ i, i + 1 ≤ R.phases.length → R.at_ i = accS R i := by
    intro i
    induction i with
    | zero => intro _; rfl
    | succ i ih =>
      intro hi
      show (if (R.phases.getD i ph0).lenU = 3 then R.steps else R.at_ i + (R.stepsOf (R.phases.getD i ph0)).1) = accS R i + (R.stepsOf (R.phases.getD i ph0)).1
      rw [if_neg (rest i (by omega)), ih (by omega)]
  obtain ⟨n, hn⟩ : ∃ n, R.phases.length = n + 1 := ⟨R.phases.length - 1, by omega⟩
  have hlast : R.at_ n < R.at_ (n + 1) ∧ R.at_ (n + 1) = R.steps := by
    have e : R.at_ (n + 1) = if (R.phases.getD n ph0).lenU = 3 then R.steps else R.at_ n + (R.stepsOf (R.phases.getD n ph0)).1 := rfl
    have ea := acc n (by omega)
    by_cases h3 : (R.phases.getD n ph0).lenU = 3
    · rw [if_pos h3] at e
      have hf : firstBy restP R.phases 0 = (n : Int) := firstBy_is (d := ph0) (by omega) (by unfold restP; simpa using h3) fun j hj => by have := rest j (by omega); unfold restP; simpa using this
      unfold Rc.sumBad at hs
      rw [hf, if_neg (by omega), Int.toNat_natCast, decide_eq_false_iff_not] at hs
      exact ⟨by rw [e, ea]; omega, e⟩
    · rw [if_neg h3] at e
      have hl := len n (by omega) h3
      have hf : firstBy restP R.phases 0 = -1 := firstBy_none (d := ph0) fun j hj => by
        unfold restP
        by_cases hj' : j = n
        · subst hj'; simpa using h3
        · have := rest j (by omega); simpa using this
      unfold Rc.sumBad at hs
      rw [hf, if_pos (by decide), bne_eq_false_iff_eq, hn] at hs
      have ea2 : accS R (n + 1) = accS R n + (R.stepsOf (R.phases.getD n ph0)).1 := rfl
      exact ⟨by omega, by omega⟩
  refine ⟨hm, h1, hpos, fun i hi => ?_, by rw [hn]; exact hlast.2⟩
  by_cases hi' : i = n
  · subst hi'; exact hlast.1
  · have e : R.at_ (i + 1) = if (R.phases.getD i ph0).lenU = 3 then R.steps else R.at_ i + (R.stepsOf (R.phases.getD i ph0)).1 := rfl
    have hr := rest i (by omega)
    rw [if_neg hr] at e
    have := len i hi hr
    omega
theorem at_le {R : Rc} {n : Nat} (h : ∀ i, i < n → R.at_ i < R.at_ (i + 1)) : ∀ {j : Nat}, j ≤ n → ∀ i, i ≤ j → R.at_ i ≤ R.at_ j
  | 0, hj, i, hi => by rw [show i = 0 by omega]; exact Int.le_refl _
  | j + 1, hj, i, hi => by
    by_cases e : i = j + 1
    · rw [e]; exact Int.le_refl _
    · have := at_le h (j := j) (by omega) i (by omega); have := h j (by omega); omega
end Go.Proofs.YtojaokhkbmiidaaGreat.Ev

namespace Go.Proofs.YtojaokhkbmiidaaGreat.Ev
open Go Go.Proofs
set_option maxRecDepth 10000
set_option maxHeartbeats 8000000
set_option linter.unusedVariables false
set_option linter.unusedSimpArgs false
attribute [local irreducible] Next Inside Runs Ops table
def tabRow (R : Rc) (l : List Sp) (f : Int) : List AV := R.row ++ [.lst .no 2 (rowsSp l), .v (.int .i64 f)]
def unTab (cs : List AV) : Option (Rc × List Sp × Int) :=
  match unRc (cs.take 32), cs.drop 32 with
  | some R, [.lst .no 2 rows, .v (.int .i64 f)] => (unsSp rows).map fun l => (R, l, f)
  | _, _ => none
theorem unTab_row (R : Rc) (l : List Sp) (f : Int) : unTab (tabRow R l f) = some (R, l, f) := by
  unfold unTab
  rw [show (tabRow R l f).take 32 = R.row from rfl, show (tabRow R l f).drop 32 = [.lst .no 2 (rowsSp l), .v (.int .i64 f)] from rfl, unRc_row]
  simp only [unsSp_rowsSp, Option.map_some]
theorem unTab_some {cs : List AV} {R : Rc} {l : List Sp} {f : Int} (h : unTab cs = some (R, l, f)) : cs = tabRow R l f := by
  unfold unTab at h
  split at h
  · rename_i R' rows f' h1 h2
    simp only [Option.map_eq_some_iff, Prod.mk.injEq] at h
    obtain ⟨l', hl, rfl, rfl, rfl⟩ := h
    obtain rfl := unsSp_some hl
    have e := List.take_append_drop 32 cs
    rw [unRc_some h1, h2] at e
    exact e.symm
  · cases h
def zeroTab : List AV := zeroRc ++ [.lst .full 2 [], .v (.int .i64 0)]
theorem szTab : tSize Tryz.prog 90 = some 34 := by kernel_rfl
theorem agTab : tAgg Tryz.prog 90 = some true := by kernel_rfl
theorem mapTab {R : Rc} {l : List Sp} {f : Int} : List.map argCell (tabRow R l f) = tabRow R l f := rfl
theorem cellsTab {R : Rc} {l : List Sp} {f : Int} : cellsOf (.agg (tabRow R l f)) = some (tabRow R l f) := rfl
theorem newTb {m : Mem} {R : Rc} {l : List Sp} {f : Int} : newVar m m.vars.length (tabRow R l f) = some (m.push (tabRow R l f)) := newVar_push rfl
theorem zrTab : zeroCells Tryz.prog 90 = some zeroTab := by kernel_rfl
theorem zoTab : zeroTab.all okCell = true := rfl
theorem znTab {m : Mem} : newVar m m.vars.length zeroTab = some (m.push zeroTab) := newVar_push rfl
theorem zsTab {m : Mem} {R : Rc} {l : List Sp} {f : Int} : evStore Tryz.prog (m.push zeroTab) 90 (.ptr m.vars.length 0) (.agg (tabRow R l f)) = some (m.push (tabRow R l f)) := by
  rw [store_push (cs := tabRow R l f) rfl szTab (Nat.le_refl _) rfl]
  rfl
theorem mk0Tab : evBuild Tryz.prog 90 [] = some (.agg zeroTab) := by kernel_rfl
theorem mkTab {R : Rc} {l : List Sp} {f : Int} : evBuild Tryz.prog 90 [(0, .agg R.row), (1, .lst .no 2 (rowsSp l)), (2, .v (.int .i64 f))] = some (.agg (tabRow R l f)) := by kernel_rfl
theorem fpTabR {r : Nat} : evFieldAddr Tryz.prog 90 (.ptr r 0) 0 = some (.ptr r 0) := by kernel_rfl
theorem fpTabS {r : Nat} : evFieldAddr Tryz.prog 90 (.ptr r 0) 1 = some (.ptr r 32) := by kernel_rfl
theorem fpTabF {r : Nat} : evFieldAddr Tryz.prog 90 (.ptr r 0) 2 = some (.ptr r 33) := by kernel_rfl
section
variable {m : Mem} {r : Nat} {R : Rc} {l : List Sp} {f : Int}
theorem vrTab (hv : m.var r = some (tabRow R l f)) : evLoad Tryz.prog m 90 (.ptr r 0) = some (.agg (tabRow R l f)) := by
  unfold evLoad
  simp only [ptrCells, hv, Option.map_some, szTab, agTab]
  rfl
theorem lpTabR (hv : m.var r = some (tabRow R l f)) : evLoad Tryz.prog m 37 (.ptr r 0) = some (.agg R.row) := by
  unfold evLoad
  simp only [ptrCells, hv, Option.map_some, szRc, agRc]
  rfl
theorem lpTabS (hv : m.var r = some (tabRow R l f)) : evLoad Tryz.prog m 46 (.ptr r 32) = some (.lst .no 2 (rowsSp l)) := by
  unfold evLoad
  simp only [ptrCells, hv, Option.map_some, show tSize Tryz.prog 46 = some 1 by kernel_rfl, show tAgg Tryz.prog 46 = some false by kernel_rfl]
  rfl
theorem lpTabI (hv : m.var r = some (tabRow R l f)) (k : Nat) (v : Int) (h : ((tabRow R l f).drop k).head? = some (.v (.int .i64 v))) : evLoad Tryz.prog m 3 (.ptr r k) = some (.v (.int .i64 v)) := by
  unfold evLoad
  simp only [ptrCells, hv, Option.map_some, szInt, agInt]
  exact h
theorem lpTabOn (hv : m.var r = some (tabRow R l f)) : evLoad Tryz.prog m 4 (.ptr r 28) = some (.v (.bool R.swaOn)) := by
  unfold evLoad
  simp only [ptrCells, hv, Option.map_some, show tSize Tryz.prog 4 = some 1 by kernel_rfl, show tAgg Tryz.prog 4 = some false by kernel_rfl]
  rfl
theorem lpTabF (hv : m.var r = some (tabRow R l f)) : evLoad Tryz.prog m 3 (.ptr r 33) = some (.v (.int .i64 f)) := lpTabI hv 33 f rfl
theorem lpTabSteps (hv : m.var r = some (tabRow R l f)) : evLoad Tryz.prog m 3 (.ptr r 1) = some (.v (.int .i64 R.steps)) := lpTabI hv 1 _ rfl
theorem lpTabEvery (hv : m.var r = some (tabRow R l f)) : evLoad Tryz.prog m 3 (.ptr r 31) = some (.v (.int .i64 R.swaEvery)) := lpTabI hv 31 _ rfl
end
/-! ### times.of -/
attribute [local go_sem] szStr szInt Option.getD_some isNil evStr iv mapRc cellsRc newRc fpRcSteps fpRcEpoch fpRcSwa fpRcSwaFrom zrTab zoTab znTab mk0Tab mkTab cellsTab
def tab0 : List AV := tabRow rc0 [] 0
def ofG : List AV → Mem → Option (AV × Mem)
  | [.agg cs], m =>
    match unRc cs with
    | some R => if R.fit then some (if R.sound = true then (.tup [.agg (tabRow R R.spans R.swaSteps.1), .v (.int .i64 0)], m) else (.tup [.agg tab0, .v (.int .i64 1)], m)) else none
    | none => none
  | _, _ => none
theorem ofG_at {R : Rc} {m : Mem} (h : R.fit) (hs : R.sound = true) : ofG [.agg R.row] m = some (.tup [.agg (tabRow R R.spans R.swaSteps.1), .v (.int .i64 0)], m) := by
  simp only [ofG, unRc_row]
  rw [if_pos h, if_pos hs]
theorem ofG_no {R : Rc} {m : Mem} (h : R.fit) (hs : R.sound = false) : ofG [.agg R.row] m = some (.tup [.agg tab0, .v (.int .i64 1)], m) := by
  simp only [ofG, unRc_row]
  rw [if_pos h, hs, if_neg (by decide)]
theorem leaves_cell {P : Program} {fn : Func} {m m' : Mem} {e : Env} {a u : Tmp} {t : TypeId} {x0 x y : AV} (h : fn.results = #[.cell a t, .tmp u]) (hl : evLoad P m' t (Ev.get e a) = some x0) (hx : resAV m.vars.length m' x0 = some x) (hy : resAV m.vars.length m' (Ev.get e u) = some y) (hm : finMem m m' = m) :
    Leaves P false fn m (.tup [x, y], m) .ret e m' := by
  show evRet P false fn m e m' = _
  unfold evRet
  rw [h]
  simp [evResult, hl, hx, hy, hm]
theorem setv_push {m : Mem} {cs cs' : List AV} : (setv (m.push cs) m.vars.length cs') = m.push cs' := by
  unfold setv Mem.push
  simp
theorem storeTb {m : Mem} {q : Nat} {old cs : List AV} (h : m.var q = some old) (ho : old.length = 34) (hcl : cs.length = 34) (hcs : cellsOf (.agg cs) = some cs) (hrf : cs.all (refLe q) = true) : evStore Tryz.prog m 90 (.ptr q 0) (.agg cs) = some (setv m q cs) := by
  unfold evStore
  simp only [hcs, szTab, h]
  rw [if_pos ⟨hcl, by omega, hrf⟩]
  unfold splice setv
  rw [List.take_zero, List.nil_append, Nat.zero_add, hcl, List.drop_eq_nil_of_le (by omega), List.append_nil]
def kpOf : Nat → Option (List Nat) := fun
  | 0 => some [1, 2]
  | 1 => some [1, 2, 4, 5]
  | 2 => some [1, 2, 4, 5, 14]
  | 3 => some [2, 3]
  | 4 => some [1, 2, 4, 6]
  | 5 => some [2, 3]
  | _ => none
attribute [go_sem] kpOf
def tab_of_ok : List (FuncId × (List AV → Mem → Option (AV × Mem))) := [(18, spansG), (48, stepsLG)]
theorem of_ok : FunOk Tryz.prog 56 ofG := by
  have hC := table_ok (P := Tryz.prog) (l := tab_of_ok) (table_more spansP_ok (table_more stepsL_ok table_nil))
  have t1 := fun args mm => table_at (l := tab_of_ok) (f := 18) (args := args) (m := mm) rfl
  have t2 := fun args mm => table_at (l := tab_of_ok) (f := 48) (args := args) (m := mm) rfl
  refine fun_ok mixed hC Tryz.func56 rfl kpOf false rfl fun args m r h => ?_
  unfold ofG at h
  split at h
  · rename_i cs
    split at h
    · rename_i R hR
      obtain rfl := unRc_some hR
      split at h
      · rename_i hfit
        simp only [Option.some.injEq] at h
        subst h
        refine ⟨Nat.le_of_ble_eq_true rfl, ?_⟩
        simp only [entry, List.length_cons, List.length_nil, List.range, List.range.loop, List.zip_cons_cons, List.zip_nil_right]
        have hv : (m.push R.row).var m.vars.length = some R.row := push_var
        have hA := above_push (cs := R.row) (above_self m)
        have nr := newRc (m := m) (x := R)
        generalize m.push R.row = m1 at hA hv nr
        have hA2 := above_push (cs := zeroTab) hA
        have hv2 := push_old (cs' := zeroTab) hv
        have hz : (m1.push zeroTab).var m1.vars.length = some zeroTab := push_var
        have hlt : m.vars.length < m1.vars.length := (var_lt hv).1
        have l0 := vrRc hv2
        have l1 := lpRcSwaFrom hv2
        have l2 := lpRcSteps hv2
        have l3 := lpRcEpoch hv2
        have c1 := fun mm => spansG_at (R := R) (m := mm) hfit
        have c2 := fun mm => stepsLG_eq (u := R.swaFromU) (n := R.swaFromN) (of := R.steps) (ep := R.epoch) (m := mm)
        rw [show stepsP R.swaFromU R.swaFromN R.steps R.epoch = R.swaSteps from rfl] at c2
        cases hs : R.sound with
        | false =>
          rw [hs, if_neg (by decide), if_neg (by decide)] at c1
          rw [if_neg (by decide)]
          have z0 : ((1 : Int) != 0) = true := rfl
          have st := storeTb (cs := zeroTab) hz rfl rfl rfl rfl
          rw [setv_push] at st
          refine go1 (jn @nr (jn @l0 (jn @t1 (jn @c1 @z0)))) ?_
          refine runs_cond rfl (fun hc => ?_) (fun hc => by cases hc)
          refine go1 @st ?_
          refine leaves_cell (x0 := .agg zeroTab) rfl ?_ rfl rfl (above_fin hA2)
          show evLoad _ _ _ (.ptr m1.vars.length 0) = _
          unfold evLoad
          simp only [ptrCells, hz, Option.map_some, szTab, agTab]
          rfl
        | true =>
          rw [hs, if_pos rfl, if_pos rfl] at c1
          rw [if_pos rfl]
          have z0 : ((0 : Int) != 0) = false := rfl
          have hA3 := above_push (cs := tabRow R R.spans R.swaSteps.1) hA
          have hw : (m1.push (tabRow R R.spans R.swaSteps.1)).var m1.vars.length = some (tabRow R R.spans R.swaSteps.1) := push_var
          generalize R.swaSteps.1 = s1 at c2 hA3 hw
          generalize R.swaSteps.2 = s2 at c2
          generalize R.spans = sp at c1 hA3 hw
          have st := storeTb (cs := tabRow R sp s1) hz rfl rfl rfl rfl
          rw [setv_push] at st
          refine go1 (jn @nr (jn @l0 (jn @t1 (jn @c1 @z0)))) ?_
          refine runs_cond rfl (fun hc => by cases hc) (fun hc => ?_)
          refine go1 (jn @l1 (jn @l2 (jn @l3 (jn @t2 (jn @c2 (jn @l0 @st)))))) ?_
          exact leaves_cell (x0 := .agg (tabRow R sp s1)) rfl (vrTab hw) rfl rfl (above_fin hA3)
      · cases h
    · cases h
  · cases h
end Go.Proofs.YtojaokhkbmiidaaGreat.Ev

namespace Go.Proofs.YtojaokhkbmiidaaGreat.Ev
open Go Go.Proofs
set_option maxRecDepth 10000
set_option maxHeartbeats 8000000
set_option linter.unusedVariables false
set_option linter.unusedSimpArgs false
attribute [local irreducible] Next Inside Runs Ops table
def bC (b : List Bool) : List AV := b.map fun x => .v (.bool x)
theorem bC_len (b : List Bool) : (bC b).length = b.length := List.length_map ..
theorem szBool : tSize Tryz.prog 4 = some 1 := by kernel_rfl
theorem elBools : tElem Tryz.prog 63 = some 4 := by kernel_rfl
theorem naBools : tArr Tryz.prog 63 = none := by kernel_rfl
theorem vsAtB {r n i : Nat} {kk : IntKind} (hi : i < n) : evIndexAddr Tryz.prog 63 (.vs r 0 1 n n) (.v (.int kk (i : Int))) = some (.ptr r i) := by
  unfold evIndexAddr
  simp only [naBools, elBools, szBool]
  rw [if_pos ⟨trivial, by omega, by omega⟩, Int.toNat_natCast]
  simp
def setB (m : Mem) (r : Nat) (b : List Bool) : Mem := { m with vars := m.vars.set r (some (bC b)) }
theorem splice_setB : ∀ (l : List Bool) (i : Nat) (v : Bool), i < l.length → splice (bC l) i [.v (.bool v)] = bC (l.set i v)
  | [], i, v, h => by simp at h
  | a :: l, 0, v, _ => by simp [splice, bC]
  | a :: l, i + 1, v, h => by
    have := splice_setB l i v (by simpa using h)
    simp only [splice, bC, List.map_cons, List.length_cons, List.length_nil, List.take_succ_cons, List.set_cons_succ] at this ⊢
    rw [show i + 1 + (0 + 1) = (i + (0 + 1)) + 1 by omega, List.drop_succ_cons]
    simpa using this
theorem storeB {m : Mem} {r i : Nat} {b : List Bool} {v : Bool} (hv : m.var r = some (bC b)) (hi : i < b.length) : evStore Tryz.prog m 4 (.ptr r i) (.v (.bool v)) = some (setB m r (b.set i v)) := by
  unfold evStore
  have h1 : cellsOf (.v (.bool v)) = some [.v (.bool v)] := by simp [cellsOf, flat, okCell, one]
  simp only [h1, szBool, hv]
  rw [if_pos ⟨rfl, by rw [bC_len]; exact hi, rfl⟩, splice_setB b i v hi]
  rfl
theorem setB_var {m : Mem} {r : Nat} {b : List Bool} (h : r < m.vars.length) : (setB m r b).var r = some (bC b) := var_of (by show (m.vars.set r _)[r]? = _; rw [List.getElem?_set_self h])
theorem setB_len {m : Mem} {r : Nat} {b : List Bool} : (setB m r b).vars.length = m.vars.length := by unfold setB; simp
def rowsBo (b : List Bool) : List (List AV) := b.map fun x => [.v (.bool x)]
theorem rowsBo_len (b : List Bool) : (rowsBo b).length = b.length := List.length_map ..
theorem rowsBo_get {l : List Bool} {i : Nat} (hi : i < l.length) : (rowsBo l)[i]? = some [.v (.bool (l.getD i false))] := by
  simp [rowsBo, List.getD, List.getElem?_eq_getElem hi]
theorem atBools {g : Grow} {kk : IntKind} {l : List Bool} {i : Nat} (hi : i < l.length) : evIndexAddr Tryz.prog 63 (.lst g 1 (rowsBo l)) (.v (.int kk (i : Int))) = some (.eptr [.v (.bool (l.getD i false))]) := at_list elBools naBools szBool (rowsBo_get hi)
theorem ldBool {m : Mem} {x : Bool} : evLoad Tryz.prog m 4 (.eptr [.v (.bool x)]) = some (.v (.bool x)) := by kernel_rfl
theorem makeBools {n : Nat} (h : n ≤ 4294967296) : evMakeSlice Tryz.prog 63 (.v (.int .i64 (n : Int))) (.v (.int .i64 (n : Int))) = some (bC (List.replicate n false), 1, n) := by
  have hb : tBytes Tryz.prog 4 = some 1 := by kernel_rfl
  have hz : zeroCells Tryz.prog 4 = some [.v (.bool false)] := by kernel_rfl
  unfold evMakeSlice
  simp only [elBools, szBool, hb, hz]
  rw [if_pos ⟨rfl, trivial, by omega, by omega, by omega⟩, Int.toNat_natCast]
  simp [bC]
theorem newBools {m : Mem} {l : List Bool} : newVar m m.vars.length (bC l) = some (m.push (bC l)) := newVar_push (by
  rw [List.all_eq_true]
  intro c hc
  obtain ⟨n, _, rfl⟩ := List.mem_map.1 hc
  rfl)
theorem cells_bC : ∀ b : List Bool, (bC b).mapM rowCell = some (bC b)
  | [] => rfl
  | x :: b => by
    have := cells_bC b
    unfold bC at this ⊢
    rw [List.map_cons, List.mapM_cons]
    simp only [show rowCell (AV.v (Value.bool x)) = some (AV.v (Value.bool x)) from rfl, this, Option.pure_def, Option.bind_eq_bind, Option.bind_some]
/-- A list of bools that was made within. -/
theorem leaves_boolsA {P : Program} {fn : Func} {m m' : Mem} {e : Env} {t : Tmp} {b : List Bool} {r n : Nat} (h : fn.results = #[.tmp t]) (hg : Ev.get e t = .vs r 0 1 n n) (hr : m.vars.length ≤ r) (hv : m'.var r = some (bC b)) (hn : n = b.length) (hm : finMem m m' = m) :
    Leaves P false fn m (.lst .no 1 (rowsBo b), m) .ret e m' := by
  show evRet P false fn m e m' = _
  unfold evRet
  rw [h]
  have hnr : ¬ r < m.vars.length := by omega
  simp only [evResult, hg, Option.bind_some, growRes, resAV, hnr, if_false, hv, hn, bC_len, and_self, if_true, cells_bC, Option.map_some, hm]
  simp [chunk1, bC, rowsBo]
end Go.Proofs.YtojaokhkbmiidaaGreat.Ev

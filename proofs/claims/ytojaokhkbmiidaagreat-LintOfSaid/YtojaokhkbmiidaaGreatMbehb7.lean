/- What a recipe must keep to: frozen ones; sets that are so. (Written out by wip/tools/gen_rulesw.py.) -/
import Derived.Test.YtojaokhkbmiidaaGreatMbehb6
namespace Go.Proofs.YtojaokhkbmiidaaGreat.Ev
open Go Go.Proofs
set_option maxRecDepth 10000
set_option maxHeartbeats 8000000
set_option linter.unusedVariables false
set_option linter.unusedSimpArgs false
section
attribute [local irreducible] Next Inside Runs Ops table
attribute [local go_sem] szStr szInt Option.getD_some isNil evStr iv loadStr loadInt rowsS_len rowsN_len rowsGs_len rowsPh_len mapGs mapPh mapRc mapNd ldNode ldGs ldPh cellsNd cellsGs cellsPh cellsRc newNd newGs newPh newRc zrPh zoPh znPh zsPh zrGs zoGs znGs zsGs fpGsGroup fpGsParam fpGsNodes fpPhName fpPhLen fpPhLenU fpPhFrozen fpPhSets fpRcName fpRcSteps fpRcEpoch fpRcWeights fpRcMetrics fpRcGroups fpRcEval fpRcPhases
theorem fpNdOp {r : Nat} : evFieldAddr Tryz.prog 102 (.ptr r 0) 0 = some (.ptr r 0) := by kernel_rfl
attribute [local go_sem] fpNdOp
theorem fpNdA {r : Nat} : evFieldAddr Tryz.prog 102 (.ptr r 0) 1 = some (.ptr r 1) := by kernel_rfl
attribute [local go_sem] fpNdA
theorem fpNdB {r : Nat} : evFieldAddr Tryz.prog 102 (.ptr r 0) 2 = some (.ptr r 2) := by kernel_rfl
attribute [local go_sem] fpNdB
theorem fpNdK {r : Nat} : evFieldAddr Tryz.prog 102 (.ptr r 0) 4 = some (.ptr r 4) := by kernel_rfl
attribute [local go_sem] fpNdK
theorem lpNdI {m : Mem} {r : Nat} {x : Nd} {i : Nat} {v : Int} (hv : m.var r = some x.row) (h : (x.row.drop i).head? = some (.v (.int .i64 v))) : evLoad Tryz.prog m 3 (.ptr r i) = some (.v (.int .i64 v)) := by
 unfold evLoad
 simp only [ptrCells, hv, Option.map_some, szInt, agInt]
 exact h
def kpRWithin : Nat → Option (List Nat) := fun
 | 0 => some [0, 1, 2]
 | 1 => some [6]
 | _ => none
attribute [go_sem] kpRWithin
theorem rwithin_ok : FunOk Tryz.prog 79 withinG := by
 have hC := table_ok (P := Tryz.prog) (l := []) table_nil
 refine fun_ok mixed hC Tryz.func79 rfl kpRWithin false rfl fun args m r h => ?_
 unfold withinG at h
 split at h
 ·rename_i x lo hi
  simp only [Option.some.injEq] at h
  subst h
  refine ⟨Nat.le_of_ble_eq_true rfl, ?_⟩
  refine en ?_
  by_cases h0 : lo ≤ x
  ·have b0 : decide (x ≥ lo) = true := decide_eq_true h0
   by_cases h1 : x ≤ hi
   ·have b1 : decide (x ≤ hi) = true := decide_eq_true h1
    rw [decide_eq_true (show lo ≤ x ∧ x ≤ hi from ⟨h0, h1⟩)]
    refine go1 (jn @b0 @b1) ?_
    exact leaves_v rfl rfl
   ·have b1 : decide (x ≤ hi) = false := decide_eq_false h1
    rw [decide_eq_false (fun h : lo ≤ x ∧ x ≤ hi => h1 h.2)]
    refine go1 (jn @b0 @b1) ?_
    exact leaves_v rfl rfl
  ·have b0 : decide (x ≥ lo) = false := decide_eq_false h0
   rw [decide_eq_false (fun h : lo ≤ x ∧ x ≤ hi => h0 h.1)]
   refine go1 @b0 ?_
   exact leaves_v rfl rfl
 ·cases h
/-! ### bent -/
def bentN (x : Nd) : Bool := if x.op = 3 ∨ x.op = 7 then !decide (1 ≤ x.k ∧ x.k ≤ 16) else if x.op = 4 then decide (x.b > x.a) || decide (x.k > 4294967296) else false
def bentNG : List AV → Mem → Option (AV × Mem)
 | [.agg cs], m =>
  match unNd cs with
  | some x => some (.v (.bool (bentN x)), m)
  | none => none
 | _, _ => none
theorem bentNG_at (x : Nd) (m : Mem) : bentNG [.agg x.row] m = some (.v (.bool (bentN x)), m) := by
 simp only [bentNG, unNd_of]
def kpBent : Nat → Option (List Nat) := fun
 | 0 => some [1]
 | 1 => some [1, 4]
 | 2 => some [1, 4, 5]
 | 3 => some [1, 4, 5]
 | 4 => some [2]
 | 5 => some [1, 12]
 | 6 => some [2]
 | 7 => some [2]
 | _ => none
attribute [go_sem] kpBent
def tab_bentN_ok : List (FuncId × (List AV → Mem → Option (AV × Mem))) := [(79, withinG)]
theorem bentN_ok : FunOk Tryz.prog 90 bentNG := by
 have hC := table_ok (P := Tryz.prog) (l := tab_bentN_ok) (table_more rwithin_ok table_nil)
 have t1 := fun args mm => table_at (l := tab_bentN_ok) (f := 79) (args := args) (m := mm) rfl
 refine fun_ok mixed hC Tryz.func90 rfl kpBent false rfl fun args m r h => ?_
 unfold bentNG at h
 split at h
 ·rename_i cs
  split at h
  ·rename_i x hx
   obtain rfl := unNd_row hx
   simp only [Option.some.injEq] at h
   subst h
   refine ⟨Nat.le_of_ble_eq_true rfl, ?_⟩
   refine en ?_
   rw [show nrow x.op x.a x.b x.c x.k x.u x.n = x.row from rfl]
   have hv : (m.push x.row).var m.vars.length = some x.row := push_var
   have l1 := lpNdI (i := 0) (v := x.op) hv rfl
   have l2 := lpNdI (i := 1) (v := x.a) hv rfl
   have l3 := lpNdI (i := 2) (v := x.b) hv rfl
   have l4 := lpNdI (i := 4) (v := x.k) hv rfl
   have fw : ∀ x lo hi mm, withinG [.v (.int .i64 x), .v (.int .i64 lo), .v (.int .i64 hi)] mm = some (.v (.bool (decide (lo ≤ x ∧ x ≤ hi))), mm) := fun _ _ _ _ => rfl
   unfold bentN
   by_cases h3 : x.op = 3
   ·have b3 : (x.op == 3) = true := by simpa using h3
    rw [if_pos (.inl h3)]
    repeat' (first | refine gos1 (jn @l1 (jn @l4 (jn @b3 (jn @t1 @fw)))) ?_ | (refine ops_here ?_; (fail_if_success (refine ops_case (B := true) rfl rfl rfl ?_ ?_)); (fail_if_success (refine ops_case (B := false) rfl rfl rfl ?_ ?_)); refine ops_case rfl rfl rfl (fun hB => ?_) (fun hB => ?_) <;> rw [hB]) | (refine runs_here ?_; refine runs_cond rfl (fun hc => ?_) (fun hc => ?_) <;> first | (cases hc; done) | skip))
    all_goals exact leaves_fin rfl rfl fin_push
   ·have b3 : (x.op == 3) = false := by simpa using h3
    by_cases h7 : x.op = 7
    ·have b7 : (x.op == 7) = true := by simpa using h7
     rw [if_pos (.inr h7)]
     repeat' (first | refine gos1 (jn @l1 (jn @l4 (jn @b3 (jn @b7 (jn @t1 @fw))))) ?_ | (refine ops_here ?_; (fail_if_success (refine ops_case (B := true) rfl rfl rfl ?_ ?_)); (fail_if_success (refine ops_case (B := false) rfl rfl rfl ?_ ?_)); refine ops_case rfl rfl rfl (fun hB => ?_) (fun hB => ?_) <;> rw [hB]) | (refine runs_here ?_; refine runs_cond rfl (fun hc => ?_) (fun hc => ?_) <;> first | (cases hc; done) | skip))
     all_goals exact leaves_fin rfl rfl fin_push
    ·have b7 : (x.op == 7) = false := by simpa using h7
     rw [if_neg (by omega)]
     by_cases h4 : x.op = 4
     ·have b4 : (x.op == 4) = true := by simpa using h4
      rw [if_pos h4]
      cases h5 : decide (x.b > x.a) with
      | true =>
       repeat' (first | refine gos1 (jn @l1 (jn @l2 (jn @l3 (jn @l4 (jn @b3 (jn @b7 (jn @b4 @h5))))))) ?_ | (refine ops_here ?_; (fail_if_success (refine ops_case (B := true) rfl rfl rfl ?_ ?_)); (fail_if_success (refine ops_case (B := false) rfl rfl rfl ?_ ?_)); refine ops_case rfl rfl rfl (fun hB => ?_) (fun hB => ?_) <;> rw [hB]) | (refine runs_here ?_; refine runs_cond rfl (fun hc => ?_) (fun hc => ?_) <;> first | (cases hc; done) | skip))
       all_goals exact leaves_fin rfl rfl fin_push
      | false =>
       repeat' (first | refine gos1 (jn @l1 (jn @l2 (jn @l3 (jn @l4 (jn @b3 (jn @b7 (jn @b4 @h5))))))) ?_ | (refine ops_here ?_; (fail_if_success (refine ops_case (B := true) rfl rfl rfl ?_ ?_)); (fail_if_success (refine ops_case (B := false) rfl rfl rfl ?_ ?_)); refine ops_case rfl rfl rfl (fun hB => ?_) (fun hB => ?_) <;> rw [hB]) | (refine runs_here ?_; refine runs_cond rfl (fun hc => ?_) (fun hc => ?_) <;> first | (cases hc; done) | skip))
       all_goals exact leaves_fin rfl rfl fin_push
     ·have b4 : (x.op == 4) = false := by simpa using h4
      rw [if_neg h4]
      repeat' (first | refine gos1 (jn @l1 (jn @b3 (jn @b7 @b4))) ?_ | (refine ops_here ?_; (fail_if_success (refine ops_case (B := true) rfl rfl rfl ?_ ?_)); (fail_if_success (refine ops_case (B := false) rfl rfl rfl ?_ ?_)); refine ops_case rfl rfl rfl (fun hB => ?_) (fun hB => ?_) <;> rw [hB]) | (refine runs_here ?_; refine runs_cond rfl (fun hc => ?_) (fun hc => ?_) <;> first | (cases hc; done) | skip))
      all_goals exact leaves_fin rfl rfl fin_push
  ·cases h
 ·cases h
def bnFindG : List AV → Mem → Option (AV × Mem)
 | [.lst _ 7 rows, .fn (.func 90) [] []], m =>
  match unN rows with
  | some l => if l.length ≤ big40 then some (.v (.int .i64 (firstBy bentN l 0)), m) else none
  | none => none
 | _, _ => none
theorem bnFindG_eq {m : Mem} {g : Grow} {l : List Nd} (h : l.length ≤ big40) : bnFindG [.lst g 7 (rowsN l), .fn (.func 90) [] []] m = some (.v (.int .i64 (firstBy bentN l 0)), m) := by
 simp only [bnFindG, unN_rowsN]
 rw [if_pos h]
def kp_bnFind : Nat → Option (List Nat) := fun _ => some [0, 1, 4, 5, 7, 8, 9, 16]
attribute [go_sem] kp_bnFind
def tab_bnFind_ok : List (FuncId × (List AV → Mem → Option (AV × Mem))) := [(90, bentNG)]
theorem bnFind_ok : FunOk Tryz.prog 133 bnFindG := by
 have hC := table_ok (P := Tryz.prog) (l := tab_bnFind_ok) (table_more bentN_ok table_nil)
 have t1 := fun args mm => table_at (l := tab_bnFind_ok) (f := 90) (args := args) (m := mm) rfl
 refine fun_ok mixed hC Tryz.func133 rfl kp_bnFind false rfl fun args m r h => ?_
 unfold bnFindG at h
 split at h
 ·rename_i g rows
  split at h
  ·rename_i l hl0
   obtain rfl := unN_some hl0
   split at h
   ·rename_i hyp
    simp only [Option.some.injEq] at h
    subst h
    refine ⟨Nat.le_of_ble_eq_true rfl, ?_⟩
    refine en ?_
    have hlen := hyp
    have hlen' := hlen
    unfold big40 at hlen'
    refine go0 ?_
    refine runs_loop (fun k e m' => ∃ (i : Nat) (x5 x9 x16 : AV), i ≤ l.length ∧ firstBy bentN (l.drop i) i = firstBy bentN l 0 ∧ m = m' ∧ k = l.length - i ∧
     e = [(0, AV.lst g 7 (rowsN l)), (1, .fn (.func 90) [] []), (4, .v (.int .i64 0)), (5, x5), (7, .v (.int .i64 l.length)), (8, .v (.int .i64 (i : Int))), (9, x9), (16, x16)]) (k := l.length) ⟨0, _, _, _, Nat.zero_le _, rfl, rfl, rfl, rfl⟩ ?_
    rintro k e m' ⟨i, x5, x9, x16, hi, hf, rfl, rfl, rfl⟩
    refine go0 ?_
    refine runs_cond rfl (fun hc => ?_) (fun hc => ?_)
    ·have hi1 : i < l.length := by have := of_decide_eq_true hc; omega
     have f1 := atNodes (g := g) (kk := .i64) hi1
     have f2 := fun mm => bentNG_at (l.getD i nd0) mm
     refine go1 (jn @f1 (jn @t1 @f2)) ?_
     refine runs_cond rfl (fun hc => ?_) (fun hc => ?_)
     ·rw [by_yes hi1 hc hf]
      refine go0 ?_
      exact leaves_v rfl rfl
     ·have r6 := next_i64 (i := i) (by omega)
      refine go1 @r6 ?_
      exact ⟨l.length - (i + 1), by omega, i + 1, _, _, _, hi1, by_no hi1 hc hf, rfl, rfl, rfl⟩
    ·have hi1 : i = l.length := by have := of_decide_eq_false hc; omega
     subst hi1
     rw [by_end hf]
     refine go0 ?_
     exact leaves_v rfl rfl
   ·cases h
  ·cases h
 ·cases h
def bnAnyG : List AV → Mem → Option (AV × Mem)
 | [.lst _ 7 rows, .fn (.func 90) [] []], m =>
  match unN rows with
  | some l => if l.length ≤ big40 then some (.v (.bool (l.any bentN)), m) else none
  | none => none
 | _, _ => none
theorem bnAnyG_eq {m : Mem} {g : Grow} {l : List Nd} (h : l.length ≤ big40) : bnAnyG [.lst g 7 (rowsN l), .fn (.func 90) [] []] m = some (.v (.bool (l.any bentN)), m) := by
 simp only [bnAnyG, unN_rowsN]
 rw [if_pos h]
def kp_bnAny : Nat → Option (List Nat) := fun _ => some [0, 1, 4]
attribute [go_sem] kp_bnAny
def tab_bnAny_ok : List (FuncId × (List AV → Mem → Option (AV × Mem))) := [(133, bnFindG)]
theorem bnAny_ok : FunOk Tryz.prog 89 bnAnyG := by
 have hC := table_ok (P := Tryz.prog) (l := tab_bnAny_ok) (table_more bnFind_ok table_nil)
 have t1 := fun args mm => table_at (l := tab_bnAny_ok) (f := 133) (args := args) (m := mm) rfl
 refine fun_ok mixed hC Tryz.func89 rfl kp_bnAny false rfl fun args m r h => ?_
 unfold bnAnyG at h
 split at h
 ·rename_i g rows
  split at h
  ·rename_i l hl0
   obtain rfl := unN_some hl0
   split at h
   ·rename_i hyp
    simp only [Option.some.injEq] at h
    subst h
    refine ⟨Nat.le_of_ble_eq_true rfl, ?_⟩
    refine en ?_
    have f1 := fun mm => bnFindG_eq (m := mm) (g := .no) hyp
    have f3 : decide (firstBy bentN l 0 ≥ 0) = l.any bentN := firstBy_any bentN l 0
    refine go1 (jn @t1 (jn @f1 @f3)) ?_
    exact leaves_v rfl rfl
   ·cases h
  ·cases h
 ·cases h
def bentS (x : Gs) : Bool := x.nodes.any bentN
def bentSG : List AV → Mem → Option (AV × Mem)
 | [.agg cs], m =>
  match unGs cs with
  | some x => if x.nodes.length ≤ big40 then some (.v (.bool (bentS x)), m) else none
  | none => none
 | _, _ => none
theorem bentSG_at (x : Gs) (m : Mem) (h : x.nodes.length ≤ big40) : bentSG [.agg x.row] m = some (.v (.bool (bentS x)), m) := by
 simp only [bentSG, unGs_row]
 rw [if_pos h]
def kpBentS : Nat → Option (List Nat) := fun
 | 0 => some [1]
 | 1 => some [2]
 | _ => none
attribute [go_sem] kpBentS
def tab_bentS_ok : List (FuncId × (List AV → Mem → Option (AV × Mem))) := [(89, bnAnyG)]
theorem bentS_ok : FunOk Tryz.prog 88 bentSG := by
 have hC := table_ok (P := Tryz.prog) (l := tab_bentS_ok) (table_more bnAny_ok table_nil)
 have t1 := fun args mm => table_at (l := tab_bentS_ok) (f := 89) (args := args) (m := mm) rfl
 refine fun_ok mixed hC Tryz.func88 rfl kpBentS false rfl fun args m r h => ?_
 unfold bentSG at h
 split at h
 ·rename_i cs
  split at h
  ·rename_i x hx
   obtain rfl := unGs_some hx
   split at h
   ·rename_i hyp
    simp only [Option.some.injEq] at h
    subst h
    refine ⟨Nat.le_of_ble_eq_true rfl, ?_⟩
    refine en ?_
    have hv : (m.push x.row).var m.vars.length = some x.row := push_var
    have l1 := lpGsNodes hv
    have f1 := fun mm => bnAnyG_eq (m := mm) (g := .no) hyp
    refine go1 (jn @l1 (jn @t1 @f1)) ?_
    exact leaves_fin rfl rfl fin_push
   ·cases h
  ·cases h
 ·cases h
/-! ### high -/
def highS (x : Gs) : Bool := (x.param != 0) && decide ((endsL x.nodes).2 > 4294967296)
def highSG : List AV → Mem → Option (AV × Mem)
 | [.agg cs], m =>
  match unGs cs with
  | some x => if x.nodes.length ≤ big40 then some (.v (.bool (highS x)), m) else none
  | none => none
 | _, _ => none
theorem highSG_at (x : Gs) (m : Mem) (h : x.nodes.length ≤ big40) : highSG [.agg x.row] m = some (.v (.bool (highS x)), m) := by
 simp only [highSG, unGs_row]
 rw [if_pos h]
def kpHighS : Nat → Option (List Nat) := fun
 | 0 => some [1]
 | 1 => some [1, 4]
 | 2 => some [2]
 | _ => none
attribute [go_sem] kpHighS
def tab_highS_ok : List (FuncId × (List AV → Mem → Option (AV × Mem))) := [(114, endsG)]
theorem highS_ok : FunOk Tryz.prog 91 highSG := by
 have hC := table_ok (P := Tryz.prog) (l := tab_highS_ok) (table_more ends_ok table_nil)
 have t1 := fun args mm => table_at (l := tab_highS_ok) (f := 114) (args := args) (m := mm) rfl
 refine fun_ok mixed hC Tryz.func91 rfl kpHighS false rfl fun args m r h => ?_
 unfold highSG at h
 split at h
 ·rename_i cs
  split at h
  ·rename_i x hx
   obtain rfl := unGs_some hx
   split at h
   ·rename_i hyp
    simp only [Option.some.injEq] at h
    subst h
    refine ⟨Nat.le_of_ble_eq_true rfl, ?_⟩
    refine en ?_
    have hv : (m.push x.row).var m.vars.length = some x.row := push_var
    have l1 := lpGsNodes hv
    have l2 := lpGsParam hv
    have f1 := fun mm => endsG_eq (m := mm) (g := .no) hyp
    unfold highS
    cases h1 : (x.param != 0) with
    | true =>
     refine go1 (jn @l1 (jn @l2 (jn @t1 (jn @f1 @h1)))) ?_
     exact leaves_fin rfl rfl fin_push
    | false =>
     refine go1 (jn @l1 (jn @l2 (jn @t1 (jn @f1 @h1)))) ?_
     exact leaves_fin rfl rfl fin_push
   ·cases h
  ·cases h
 ·cases h
/-! ### each -/
def eachBL (rule : Int) (R : Rc) : List Fl := upto R.phases.length fun i => upto (R.phases.getD i ph0).sets.length fun k => flawIf (bentS ((R.phases.getD i ph0).sets.getD k gs0)) rule i k
def eachBG : List AV → Mem → Option (AV × Mem)
 | [.ptr r 0, .agg cs, .fn (.func 88) [] []], m =>
  match unRc cs, m.var r with
  | some R, some [.v (.int .i64 rule), .lst .full 3 []] => if R.small then some (.tup [], flMem m r rule (eachBL rule R)) else none
  | _, _ => none
 | _, _ => none
theorem eachBG_at {m : Mem} {r : Nat} {rule : Int} {R : Rc} (hv : m.var r = some [.v (.int .i64 rule), .lst .full 3 []]) (h : R.small) : eachBG [.ptr r 0, .agg R.row, .fn (.func 88) [] []] m = some (.tup [], flMem m r rule (eachBL rule R)) := by
 simp only [eachBG, unRc_row, hv]
 rw [if_pos h]
def kpEachB : Nat → Option (List Nat) := fun
 | 0 => some [0, 2, 4]
 | 1 => some [0, 2, 11, 12, 13]
 | 2 => some [0, 2, 11, 12, 13, 14]
 | 3 => some [0, 2, 6, 7, 11, 12, 13]
 | 4 => some [0, 2, 6, 11, 12, 13, 19, 20, 21]
 | 5 => some [0, 2, 6, 11, 12, 13, 19, 20, 21, 22]
 | 6 => some [0, 2, 6, 8, 9, 11, 12, 13, 19, 20, 21]
 | 7 => some [0, 2, 6, 11, 12, 13, 19, 20, 21]
 | 8 => some [0, 2, 6, 11, 12, 13, 19, 20, 21]
 | 9 => some [0, 2, 11, 12, 13]
 | _ => none
attribute [go_sem] kpEachB
def tab_eachB_ok : List (FuncId × (List AV → Mem → Option (AV × Mem))) := [(78, noteG), (88, bentSG)]
theorem eachB_ok : FunOk Tryz.prog 87 eachBG := by
 have hC := table_ok (P := Tryz.prog) (l := tab_eachB_ok) (table_more note_ok (table_more bentS_ok table_nil))
 have t1 := fun args mm => table_at (l := tab_eachB_ok) (f := 78) (args := args) (m := mm) rfl
 have t2 := fun args mm => table_at (l := tab_eachB_ok) (f := 88) (args := args) (m := mm) rfl
 refine fun_ok mixed hC Tryz.func87 rfl kpEachB false rfl fun args m r h => ?_
 unfold eachBG at h
 split at h
 ·rename_i r0 cs
  split at h
  ·rename_i R rule hR hv
   obtain rfl := unRc_some hR
   split at h
   ·rename_i hsm
    simp only [Option.some.injEq] at h
    subst h
    have hr0 := (var_lt hv).1
    have hP64 := hsm.2.2.1
    refine ⟨Nat.le_of_ble_eq_true rfl, ?_⟩
    refine en ?_
    have hv3 : (m.push R.row).var m.vars.length = some R.row := push_var
    have f1 := lpRcPhases hv3
    refine go1 @f1 ?_
    refine runs_loop (fun k e m' => ∃ (i : Nat), i ≤ R.phases.length ∧ Above (flMem m r0 rule (upto i fun i => upto (R.phases.getD i ph0).sets.length fun k => flawIf (bentS ((R.phases.getD i ph0).sets.getD k gs0)) rule i k)) m' ∧ k = R.phases.length - i ∧
     e = [(0, AV.ptr r0 0), (2, .fn (.func 88) [] []), (11, .lst .no 5 (rowsPh R.phases)), (12, .v (.int .i64 (R.phases.length : Int))), (13, .v (.int .i64 (i : Int)))]) (k := R.phases.length)
     ⟨0, Nat.zero_le _, by rw [upto_zero, flMem_nil]; exact above_push (above_self m), rfl, rfl⟩ ?_
    rintro k e m' ⟨i, hi0, hA, rfl, rfl⟩
    refine go0 ?_
    refine runs_cond rfl (fun hc => ?_) (fun hc => ?_)
    ·have hi1 : i < R.phases.length := by have := of_decide_eq_true hc; omega
     have f2 := atPh (g := .no) (kk := .i64) hi1
     have hp := hsm.phase i
     have hN := @upto_next i (fun i => upto (R.phases.getD i ph0).sets.length fun k => flawIf (bentS ((R.phases.getD i ph0).sets.getD k gs0)) rule i k)
     have hB := @upto_len (fun i => upto (R.phases.getD i ph0).sets.length fun k => flawIf (bentS ((R.phases.getD i ph0).sets.getD k gs0)) rule i k) 64 i (fun j _ => by
      have := @upto_len (fun k => flawIf (bentS ((R.phases.getD j ph0).sets.getD k gs0)) rule j k) 1 (R.phases.getD j ph0).sets.length fun k _ => flawIf_len ..
      have := (hsm.phase j).2.1
      omega)
     generalize hfl : (upto i fun i => upto (R.phases.getD i ph0).sets.length fun k => flawIf (bentS ((R.phases.getD i ph0).sets.getD k gs0)) rule i k) = fl at hA hN hB
     generalize R.phases.getD i ph0 = p at f2 hp hN
     have hA1 := above_push (cs := p.row) hA
     have hp5 : (m'.push p.row).var m'.vars.length = some p.row := push_var
     have l1 := lpPhSets hp5
     refine go1 (jn @f2 @l1) ?_
     generalize m'.push p.row = m5 at hA1
     refine runs_loop (fun k e m' => ∃ (j : Nat), j ≤ p.sets.length ∧ Above (flMem m r0 rule (fl ++ upto j fun k => flawIf (bentS (p.sets.getD k gs0)) rule i k)) m' ∧ k = p.sets.length - j ∧
      e = [(0, AV.ptr r0 0), (2, .fn (.func 88) [] []), (6, .v (.int .i64 (i : Int))), (11, .lst .no 5 (rowsPh R.phases)), (12, .v (.int .i64 (R.phases.length : Int))), (13, .v (.int .i64 (i : Int))), (19, .lst .no 3 (rowsGs p.sets)), (20, .v (.int .i64 (p.sets.length : Int))), (21, .v (.int .i64 (j : Int)))]) (k := p.sets.length)
      ⟨0, Nat.zero_le _, by rw [upto_zero, List.append_nil]; exact hA1, rfl, rfl⟩ ?_
     rintro k e m'' ⟨j, hj0, hA2, rfl, rfl⟩
     refine go0 ?_
     refine runs_cond rfl (fun hc => ?_) (fun hc => ?_)
     ·have hj1 : j < p.sets.length := by have := of_decide_eq_true hc; omega
      have f4 := atGs (g := .no) (kk := .i64) hj1
      have hs100 : (p.sets.getD j gs0).nodes.length ≤ 100 := hp.2.2 _ (by rw [List.getD, List.getElem?_eq_getElem hj1]; exact List.getElem_mem _)
      have hN2 := @upto_next j (fun k => flawIf (bentS (p.sets.getD k gs0)) rule i k)
      have hB2 := @upto_len (fun k => flawIf (bentS (p.sets.getD k gs0)) rule i k) 1 j fun k _ => flawIf_len ..
      generalize hfl2 : (upto j fun k => flawIf (bentS (p.sets.getD k gs0)) rule i k) = fl2 at hA2 hN2 hB2
      generalize p.sets.getD j gs0 = s at f4 hs100 hN2
      have hA3 := above_push (cs := s.row) hA2
      have hu8 : (m''.push s.row).var m''.vars.length = some s.row := push_var
      have l2 := vrGs hu8
      have f5 := fun mm => bentSG_at s mm (by unfold big40; omega)
      have hpl := hp.2.1
      obtain ⟨m2, n1, n2, n3⟩ := note_step hv hA3 (by rw [List.length_append]; omega) (bentS s) i j
      rw [flawIf_app, List.append_assoc, ← hN2] at n2
      have r6 := next_i64 (i := j) (by omega)
      refine go1 (jn @f4 (jn @l2 (jn @t2 (jn @f5 (jn @t1 (jn @n1 @r6)))))) ?_
      exact ⟨p.sets.length - (j + 1), by omega, j + 1, hj1, n2, rfl, rfl⟩
     ·have hj1 : j = p.sets.length := by have := of_decide_eq_false hc; omega
      subst hj1
      have r6 := next_i64 (i := i) (by omega)
      rw [← hN] at hA2
      refine go1 @r6 ?_
      exact ⟨R.phases.length - (i + 1), by omega, i + 1, hi1, hA2, rfl, rfl⟩
    ·have hi1 : i = R.phases.length := by have := of_decide_eq_false hc; omega
     subst hi1
     refine go0 ?_
     exact leaves_none rfl (fin_flMem hv hA)
   ·cases h
  ·cases h
 ·cases h
def eachHL (rule : Int) (R : Rc) : List Fl := upto R.phases.length fun i => upto (R.phases.getD i ph0).sets.length fun k => flawIf (highS ((R.phases.getD i ph0).sets.getD k gs0)) rule i k
def eachHG : List AV → Mem → Option (AV × Mem)
 | [.ptr r 0, .agg cs, .fn (.func 91) [] []], m =>
  match unRc cs, m.var r with
  | some R, some [.v (.int .i64 rule), .lst .full 3 []] => if R.small then some (.tup [], flMem m r rule (eachHL rule R)) else none
  | _, _ => none
 | _, _ => none
theorem eachHG_at {m : Mem} {r : Nat} {rule : Int} {R : Rc} (hv : m.var r = some [.v (.int .i64 rule), .lst .full 3 []]) (h : R.small) : eachHG [.ptr r 0, .agg R.row, .fn (.func 91) [] []] m = some (.tup [], flMem m r rule (eachHL rule R)) := by
 simp only [eachHG, unRc_row, hv]
 rw [if_pos h]
def kpEachH : Nat → Option (List Nat) := fun
 | 0 => some [0, 2, 4]
 | 1 => some [0, 2, 11, 12, 13]
 | 2 => some [0, 2, 11, 12, 13, 14]
 | 3 => some [0, 2, 6, 7, 11, 12, 13]
 | 4 => some [0, 2, 6, 11, 12, 13, 19, 20, 21]
 | 5 => some [0, 2, 6, 11, 12, 13, 19, 20, 21, 22]
 | 6 => some [0, 2, 6, 8, 9, 11, 12, 13, 19, 20, 21]
 | 7 => some [0, 2, 6, 11, 12, 13, 19, 20, 21]
 | 8 => some [0, 2, 6, 11, 12, 13, 19, 20, 21]
 | 9 => some [0, 2, 11, 12, 13]
 | _ => none
attribute [go_sem] kpEachH
def tab_eachH_ok : List (FuncId × (List AV → Mem → Option (AV × Mem))) := [(78, noteG), (91, highSG)]
theorem eachH_ok : FunOk Tryz.prog 87 eachHG := by
 have hC := table_ok (P := Tryz.prog) (l := tab_eachH_ok) (table_more note_ok (table_more highS_ok table_nil))
 have t1 := fun args mm => table_at (l := tab_eachH_ok) (f := 78) (args := args) (m := mm) rfl
 have t2 := fun args mm => table_at (l := tab_eachH_ok) (f := 91) (args := args) (m := mm) rfl
 refine fun_ok mixed hC Tryz.func87 rfl kpEachH false rfl fun args m r h => ?_
 unfold eachHG at h
 split at h
 ·rename_i r0 cs
  split at h
  ·rename_i R rule hR hv
   obtain rfl := unRc_some hR
   split at h
   ·rename_i hsm
    simp only [Option.some.injEq] at h
    subst h
    have hr0 := (var_lt hv).1
    have hP64 := hsm.2.2.1
    refine ⟨Nat.le_of_ble_eq_true rfl, ?_⟩
    refine en ?_
    have hv3 : (m.push R.row).var m.vars.length = some R.row := push_var
    have f1 := lpRcPhases hv3
    refine go1 @f1 ?_
    refine runs_loop (fun k e m' => ∃ (i : Nat), i ≤ R.phases.length ∧ Above (flMem m r0 rule (upto i fun i => upto (R.phases.getD i ph0).sets.length fun k => flawIf (highS ((R.phases.getD i ph0).sets.getD k gs0)) rule i k)) m' ∧ k = R.phases.length - i ∧
     e = [(0, AV.ptr r0 0), (2, .fn (.func 91) [] []), (11, .lst .no 5 (rowsPh R.phases)), (12, .v (.int .i64 (R.phases.length : Int))), (13, .v (.int .i64 (i : Int)))]) (k := R.phases.length)
     ⟨0, Nat.zero_le _, by rw [upto_zero, flMem_nil]; exact above_push (above_self m), rfl, rfl⟩ ?_
    rintro k e m' ⟨i, hi0, hA, rfl, rfl⟩
    refine go0 ?_
    refine runs_cond rfl (fun hc => ?_) (fun hc => ?_)
    ·have hi1 : i < R.phases.length := by have := of_decide_eq_true hc; omega
     have f2 := atPh (g := .no) (kk := .i64) hi1
     have hp := hsm.phase i
     have hN := @upto_next i (fun i => upto (R.phases.getD i ph0).sets.length fun k => flawIf (highS ((R.phases.getD i ph0).sets.getD k gs0)) rule i k)
     have hB := @upto_len (fun i => upto (R.phases.getD i ph0).sets.length fun k => flawIf (highS ((R.phases.getD i ph0).sets.getD k gs0)) rule i k) 64 i (fun j _ => by
      have := @upto_len (fun k => flawIf (highS ((R.phases.getD j ph0).sets.getD k gs0)) rule j k) 1 (R.phases.getD j ph0).sets.length fun k _ => flawIf_len ..
      have := (hsm.phase j).2.1
      omega)
     generalize hfl : (upto i fun i => upto (R.phases.getD i ph0).sets.length fun k => flawIf (highS ((R.phases.getD i ph0).sets.getD k gs0)) rule i k) = fl at hA hN hB
     generalize R.phases.getD i ph0 = p at f2 hp hN
     have hA1 := above_push (cs := p.row) hA
     have hp5 : (m'.push p.row).var m'.vars.length = some p.row := push_var
     have l1 := lpPhSets hp5
     refine go1 (jn @f2 @l1) ?_
     generalize m'.push p.row = m5 at hA1
     refine runs_loop (fun k e m' => ∃ (j : Nat), j ≤ p.sets.length ∧ Above (flMem m r0 rule (fl ++ upto j fun k => flawIf (highS (p.sets.getD k gs0)) rule i k)) m' ∧ k = p.sets.length - j ∧
      e = [(0, AV.ptr r0 0), (2, .fn (.func 91) [] []), (6, .v (.int .i64 (i : Int))), (11, .lst .no 5 (rowsPh R.phases)), (12, .v (.int .i64 (R.phases.length : Int))), (13, .v (.int .i64 (i : Int))), (19, .lst .no 3 (rowsGs p.sets)), (20, .v (.int .i64 (p.sets.length : Int))), (21, .v (.int .i64 (j : Int)))]) (k := p.sets.length)
      ⟨0, Nat.zero_le _, by rw [upto_zero, List.append_nil]; exact hA1, rfl, rfl⟩ ?_
     rintro k e m'' ⟨j, hj0, hA2, rfl, rfl⟩
     refine go0 ?_
     refine runs_cond rfl (fun hc => ?_) (fun hc => ?_)
     ·have hj1 : j < p.sets.length := by have := of_decide_eq_true hc; omega
      have f4 := atGs (g := .no) (kk := .i64) hj1
      have hs100 : (p.sets.getD j gs0).nodes.length ≤ 100 := hp.2.2 _ (by rw [List.getD, List.getElem?_eq_getElem hj1]; exact List.getElem_mem _)
      have hN2 := @upto_next j (fun k => flawIf (highS (p.sets.getD k gs0)) rule i k)
      have hB2 := @upto_len (fun k => flawIf (highS (p.sets.getD k gs0)) rule i k) 1 j fun k _ => flawIf_len ..
      generalize hfl2 : (upto j fun k => flawIf (highS (p.sets.getD k gs0)) rule i k) = fl2 at hA2 hN2 hB2
      generalize p.sets.getD j gs0 = s at f4 hs100 hN2
      have hA3 := above_push (cs := s.row) hA2
      have hu8 : (m''.push s.row).var m''.vars.length = some s.row := push_var
      have l2 := vrGs hu8
      have f5 := fun mm => highSG_at s mm (by unfold big40; omega)
      have hpl := hp.2.1
      obtain ⟨m2, n1, n2, n3⟩ := note_step hv hA3 (by rw [List.length_append]; omega) (highS s) i j
      rw [flawIf_app, List.append_assoc, ← hN2] at n2
      have r6 := next_i64 (i := j) (by omega)
      refine go1 (jn @f4 (jn @l2 (jn @t2 (jn @f5 (jn @t1 (jn @n1 @r6)))))) ?_
      exact ⟨p.sets.length - (j + 1), by omega, j + 1, hj1, n2, rfl, rfl⟩
     ·have hj1 : j = p.sets.length := by have := of_decide_eq_false hc; omega
      subst hj1
      have r6 := next_i64 (i := i) (by omega)
      rw [← hN] at hA2
      refine go1 @r6 ?_
      exact ⟨R.phases.length - (i + 1), by omega, i + 1, hi1, hA2, rfl, rfl⟩
    ·have hi1 : i = R.phases.length := by have := of_decide_eq_false hc; omega
     subst hi1
     refine go0 ?_
     exact leaves_none rfl (fin_flMem hv hA)
   ·cases h
  ·cases h
 ·cases h
end
section
attribute [local irreducible] Next Inside Runs Ops table
attribute [local go_sem] szStr szInt Option.getD_some isNil evStr iv loadStr loadInt rowsS_len rowsN_len rowsGs_len rowsPh_len mapGs mapPh mapRc ldNode ldGs ldPh cellsGs cellsPh cellsRc newGs newPh newRc zrPh zoPh znPh zsPh zrGs zoGs znGs zsGs fpPhFrozen fpRcSteps fpRcEpoch fpRcMetrics fpRcGroups fpRcEval fpRcPhases
/-! ### frozen -/
def Rc.frozenBad (R : Rc) (p : Ph) (k : Nat) : Bool := !among R.groups (p.frozen.getD k ⟨#[]⟩) || decide (placeOf p.frozen (p.frozen.getD k ⟨#[]⟩) < (k : Int))
def frozenL (rule : Int) (R : Rc) : List Fl := upto R.phases.length fun i => upto (R.phases.getD i ph0).frozen.length fun k => flawIf (R.frozenBad (R.phases.getD i ph0) k) rule i k
def frozenG : List AV → Mem → Option (AV × Mem)
 | [.ptr r 0, .agg cs], m =>
  match unRc cs, m.var r with
  | some R, some [.v (.int .i64 rule), .lst .full 3 []] => if R.small then some (.tup [], flMem m r rule (frozenL rule R)) else none
  | _, _ => none
 | _, _ => none
theorem frozenG_at {m : Mem} {r : Nat} {rule : Int} {R : Rc} (hv : m.var r = some [.v (.int .i64 rule), .lst .full 3 []]) (h : R.small) : frozenG [.ptr r 0, .agg R.row] m = some (.tup [], flMem m r rule (frozenL rule R)) := by
 simp only [frozenG, unRc_row, hv]
 rw [if_pos h]
def kpFrozen : Nat → Option (List Nat) := fun
 | 0 => some [0, 3]
 | 1 => some [0, 3, 9, 10, 11]
 | 2 => some [0, 3, 9, 10, 11, 12]
 | 3 => some [0, 3, 4, 5, 9, 10, 11]
 | 4 => some [0, 3, 4, 5, 9, 10, 11, 17, 18, 19]
 | 5 => some [0, 3, 4, 5, 9, 10, 11, 17, 18, 19, 20]
 | 6 => some [0, 3, 4, 5, 6, 7, 9, 10, 11, 17, 18, 19]
 | 7 => some [0, 3, 4, 5, 9, 10, 11, 17, 18, 19]
 | 8 => some [0, 3, 4, 5, 9, 10, 11, 17, 18, 19]
 | 9 => some [0, 3, 9, 10, 11]
 | _ => none
attribute [go_sem] kpFrozen
def tab_frozen_ok : List (FuncId × (List AV → Mem → Option (AV × Mem))) := [(78, noteG), (132, amongG), (130, placeG)]
theorem frozen_ok : FunOk Tryz.prog 85 frozenG := by
 have hC := table_ok (P := Tryz.prog) (l := tab_frozen_ok) (table_more note_ok (table_more among_ok (table_more index_ok table_nil)))
 have t1 := fun args mm => table_at (l := tab_frozen_ok) (f := 78) (args := args) (m := mm) rfl
 have t2 := fun args mm => table_at (l := tab_frozen_ok) (f := 132) (args := args) (m := mm) rfl
 have t3 := fun args mm => table_at (l := tab_frozen_ok) (f := 130) (args := args) (m := mm) rfl
 refine fun_ok mixed hC Tryz.func85 rfl kpFrozen false rfl fun args m r h => ?_
 unfold frozenG at h
 split at h
 ·rename_i r0 cs
  split at h
  ·rename_i R rule hR hv
   obtain rfl := unRc_some hR
   split at h
   ·rename_i hsm
    simp only [Option.some.injEq] at h
    subst h
    have hr0 := (var_lt hv).1
    have hP64 := hsm.2.2.1
    refine ⟨Nat.le_of_ble_eq_true rfl, ?_⟩
    refine en ?_
    have hv3 : (m.push R.row).var m.vars.length = some R.row := push_var
    have f1 := lpRcPhases hv3
    refine go1 @f1 ?_
    refine runs_loop (fun k e m' => ∃ (i : Nat), i ≤ R.phases.length ∧ Above (flMem m r0 rule (upto i fun i => upto (R.phases.getD i ph0).frozen.length fun k => flawIf (R.frozenBad (R.phases.getD i ph0) k) rule i k)) m' ∧ m'.var m.vars.length = some R.row ∧ k = R.phases.length - i ∧
     e = [(0, AV.ptr r0 0), (3, .ptr m.vars.length 0), (9, .lst .no 5 (rowsPh R.phases)), (10, .v (.int .i64 (R.phases.length : Int))), (11, .v (.int .i64 (i : Int)))]) (k := R.phases.length)
     ⟨0, Nat.zero_le _, by rw [upto_zero, flMem_nil]; exact above_push (above_self m), hv3, rfl, rfl⟩ ?_
    rintro k e m' ⟨i, hi0, hA, hw3, rfl, rfl⟩
    refine go0 ?_
    refine runs_cond rfl (fun hc => ?_) (fun hc => ?_)
    ·have hi1 : i < R.phases.length := by have := of_decide_eq_true hc; omega
     have f2 := atPh (g := .no) (kk := .i64) hi1
     have hp := hsm.phase i
     have hN := @upto_next i (fun i => upto (R.phases.getD i ph0).frozen.length fun k => flawIf (R.frozenBad (R.phases.getD i ph0) k) rule i k)
     have hB := @upto_len (fun i => upto (R.phases.getD i ph0).frozen.length fun k => flawIf (R.frozenBad (R.phases.getD i ph0) k) rule i k) 64 i (fun j _ => by
      have := @upto_len (fun k => flawIf (R.frozenBad (R.phases.getD j ph0) k) rule j k) 1 (R.phases.getD j ph0).frozen.length fun k _ => flawIf_len ..
      have := (hsm.phase j).1
      omega)
     generalize hfl : (upto i fun i => upto (R.phases.getD i ph0).frozen.length fun k => flawIf (R.frozenBad (R.phases.getD i ph0) k) rule i k) = fl at hA hN hB
     generalize R.phases.getD i ph0 = p at f2 hp hN
     have hA1 := above_push (cs := p.row) hA
     have hp5 : (m'.push p.row).var m'.vars.length = some p.row := push_var
     have hw5 := push_old (cs' := p.row) hw3
     have hne5 : m'.vars.length ≠ r0 := by have := above_len hA; rw [flMem_len] at this; omega
     have hne3 : m.vars.length ≠ r0 := by omega
     have l1 := lpPhFrozen hp5
     refine go1 (jn @f2 @l1) ?_
     generalize m'.vars.length = n5 at hp5 hne5
     generalize m'.push p.row = m5 at hA1 hp5 hw5
     refine runs_loop (fun k e m' => ∃ (j : Nat), j ≤ p.frozen.length ∧ Above (flMem m r0 rule (fl ++ upto j fun k => flawIf (R.frozenBad p k) rule i k)) m' ∧ m'.var m.vars.length = some R.row ∧ m'.var n5 = some p.row ∧ k = p.frozen.length - j ∧
      e = [(0, AV.ptr r0 0), (3, .ptr m.vars.length 0), (4, .v (.int .i64 (i : Int))), (5, .ptr n5 0), (9, .lst .no 5 (rowsPh R.phases)), (10, .v (.int .i64 (R.phases.length : Int))), (11, .v (.int .i64 (i : Int))), (17, .lst .no 1 (rowsS p.frozen)), (18, .v (.int .i64 (p.frozen.length : Int))), (19, .v (.int .i64 (j : Int)))]) (k := p.frozen.length)
      ⟨0, Nat.zero_le _, by rw [upto_zero, List.append_nil]; exact hA1, hw5, hp5, rfl, rfl⟩ ?_
     rintro k e m'' ⟨j, hj0, hA2, hw6, hp6, rfl, rfl⟩
     refine go0 ?_
     refine runs_cond rfl (fun hc => ?_) (fun hc => ?_)
     ·have hj1 : j < p.frozen.length := by have := of_decide_eq_true hc; omega
      have f4 := atStrs (g := .no) (kk := .i64) hj1
      have hN2 := @upto_next j (fun k => flawIf (R.frozenBad p k) rule i k)
      have hB2 := @upto_len (fun k => flawIf (R.frozenBad p k) rule i k) 1 j fun k _ => flawIf_len ..
      generalize hfl2 : (upto j fun k => flawIf (R.frozenBad p k) rule i k) = fl2 at hA2 hN2 hB2
      have hbad : R.frozenBad p j = (!among R.groups (p.frozen.getD j ⟨#[]⟩) || decide (placeOf p.frozen (p.frozen.getD j ⟨#[]⟩) < (j : Int))) := rfl
      generalize p.frozen.getD j ⟨#[]⟩ = s at f4 hbad
      have f5 := fun mm => amongG_eq (m := mm) (g := .no) (l := R.groups) (s := s) (by have := hsm.2.1; omega)
      have f6 := fun mm => placeG_eq (m := mm) (g := .no) (l := p.frozen) (s := s) (by have := hp.1; omega)
      have l2 := lpRcGroups hw6
      have l3 := lpPhFrozen hp6
      have hpl := hp.1
      have w1 : (!true) = false := rfl
      have w2 : (!false) = true := rfl
      have r6 := next_i64 (i := j) (by omega)
      cases ha : among R.groups s with
      | false =>
       rw [ha] at hbad f5
       obtain ⟨m2, n1, n2, n3⟩ := note_step hv hA2 (by rw [List.length_append]; omega) true i j
       rw [flawIf_app, List.append_assoc, show true = R.frozenBad p j from hbad.symm, ← hN2] at n2
       refine go1 (jn @f4 (jn @l2 (jn @t2 (jn @f5 (jn @w2 (jn @t1 (jn @n1 @r6))))))) ?_
       exact ⟨p.frozen.length - (j + 1), by omega, j + 1, hj1, n2, n3 _ _ hne3 hw6, n3 _ _ hne5 hp6, rfl, rfl⟩
      | true =>
       rw [ha] at hbad f5
       obtain ⟨m2, n1, n2, n3⟩ := note_step hv hA2 (by rw [List.length_append]; omega) (decide (placeOf p.frozen s < (j : Int))) i j
       rw [flawIf_app, List.append_assoc, show decide (placeOf p.frozen s < (j : Int)) = R.frozenBad p j from hbad.symm, ← hN2] at n2
       refine go1 (jn @f4 (jn @l2 (jn @t2 (jn @f5 (jn @w1 (jn @l3 (jn @t3 (jn @f6 (jn @t1 (jn @n1 @r6)))))))))) ?_
       exact ⟨p.frozen.length - (j + 1), by omega, j + 1, hj1, n2, n3 _ _ hne3 hw6, n3 _ _ hne5 hp6, rfl, rfl⟩
     ·have hj1 : j = p.frozen.length := by have := of_decide_eq_false hc; omega
      subst hj1
      have r6 := next_i64 (i := i) (by omega)
      rw [← hN] at hA2
      refine go1 @r6 ?_
      exact ⟨R.phases.length - (i + 1), by omega, i + 1, hi1, hA2, hw6, rfl, rfl⟩
    ·have hi1 : i = R.phases.length := by have := of_decide_eq_false hc; omega
     subst hi1
     refine go0 ?_
     exact leaves_none rfl (fin_flMem hv hA)
   ·cases h
  ·cases h
 ·cases h
attribute [local go_sem] fpRcStop fpRcStopOn fpRcStopMetric fpRcStopPatience fpRcPlateau fpRcPlateauOn fpRcPlateauMetric fpRcPlateauPatience fpRcPlateauFactor fpRcKeep fpRcKeepOn fpRcKeepMetric fpRcKeepCount fpRcEma fpRcEmaOn fpRcEmaDecay fpRcSwa fpRcSwaOn fpRcSwaFrom fpRcSwaEvery fpRlRule
/-! ### ends -/
def Rc.blind (R : Rc) (s : ByteArray) : Bool := !among R.metrics s || (R.eval == 0)
def Rc.swaSteps (R : Rc) : Int × Int := stepsP R.swaFromU R.swaFromN R.steps R.epoch
def Rc.endBad (R : Rc) (rule : Int) : Bool :=
 if rule = 14 then R.stopOn && (R.blind R.stopMetric || (R.stopPatience == 0)) else if rule = 15 then R.plateauOn && (R.blind R.plateauMetric || ((R.plateauPatience == 0) || decide (R.plateauFactor ≥ 4294967296))) else if rule = 16 then R.keepOn && (R.blind R.keepMetric || !decide (1 ≤ R.keepCount ∧ R.keepCount ≤ 16)) else if rule = 17 then R.emaOn && decide (R.emaDecay > 4294967296) else if rule = 18 then R.swaOn && ((R.swaEvery == 0) || ((R.swaSteps.2 != 0) || decide (R.swaSteps.1 > R.steps))) else false
def blindG : List AV → Mem → Option (AV × Mem)
 | [.v (.string s), .ptr q 0], m =>
  match (m.var q).bind unRc with
  | some R => if R.metrics.length ≤ 64 then some (.v (.bool (R.blind s)), m) else none
  | none => none
 | _, _ => none
theorem blindG_at {m : Mem} {q : Nat} {R : Rc} (s : ByteArray) (hq : m.var q = some R.row) (h : R.metrics.length ≤ 64) : blindG [.v (.string s), .ptr q 0] m = some (.v (.bool (R.blind s)), m) := by
 simp only [blindG, hq, Option.bind_some, unRc_row]
 rw [if_pos h]
def kpBlind : Nat → Option (List Nat) := fun
 | 0 => some [0, 1]
 | 1 => some [3]
 | _ => none
attribute [go_sem] kpBlind
def tab_blind_ok : List (FuncId × (List AV → Mem → Option (AV × Mem))) := [(132, amongG)]
theorem blind_ok : FunOk Tryz.prog 134 blindG := by
 have hC := table_ok (P := Tryz.prog) (l := tab_blind_ok) (table_more among_ok table_nil)
 have t1 := fun args mm => table_at (l := tab_blind_ok) (f := 132) (args := args) (m := mm) rfl
 refine fun_ok mixed hC Tryz.func134 rfl kpBlind false rfl fun args m r h => ?_
 unfold blindG at h
 split at h
 ·rename_i s q
  split at h
  ·rename_i R hR
   obtain ⟨cs, hq, hcs⟩ := Option.bind_eq_some_iff.1 hR
   obtain rfl := unRc_some hcs
   split at h
   ·rename_i h64
    simp only [Option.some.injEq] at h
    subst h
    refine ⟨Nat.le_of_ble_eq_true rfl, ?_⟩
    refine en ?_
    have l1 := lpRcMetrics hq
    have l2 := lpRcEval hq
    have f1 := fun mm => amongG_eq (m := mm) (g := .no) (l := R.metrics) (s := s) (by omega)
    have w1 : (!true) = false := rfl
    have w2 : (!false) = true := rfl
    unfold Rc.blind
    cases ha : among R.metrics s with
    | true =>
     rw [ha] at f1
     refine go1 (jn @l1 (jn @t1 (jn @f1 (jn @w1 @l2)))) ?_
     exact leaves_v rfl rfl
    | false =>
     rw [ha] at f1
     refine go1 (jn @l1 (jn @t1 (jn @f1 @w2))) ?_
     exact leaves_v rfl rfl
   ·cases h
  ·cases h
 ·cases h
def endsFG : List AV → Mem → Option (AV × Mem)
 | [.ptr r 0, .agg cs], m =>
  match unRc cs, m.var r with
  | some R, some [.v (.int .i64 rule), .lst .full 3 []] => if R.small ∧ 14 ≤ rule ∧ rule ≤ 18 then some (.tup [], flMem m r rule (flawIf (R.endBad rule) rule 0 0)) else none
  | _, _ => none
 | _, _ => none
theorem endsFG_at {m : Mem} {r : Nat} {rule : Int} {R : Rc} (hv : m.var r = some [.v (.int .i64 rule), .lst .full 3 []]) (h : R.small) (h1 : 14 ≤ rule) (h2 : rule ≤ 18) : endsFG [.ptr r 0, .agg R.row] m = some (.tup [], flMem m r rule (flawIf (R.endBad rule) rule 0 0)) := by
 simp only [endsFG, unRc_row, hv]
 rw [if_pos ⟨h, h1, h2⟩]
def kpEndsF : Nat → Option (List Nat) := fun
 | 0 => some [0, 3]
 | 1 => some [0, 3, 4]
 | 2 => some [0, 3, 4, 5, 6]
 | 3 => some [0, 3, 4, 5, 6, 7]
 | 4 => some [0, 3, 4, 5, 6, 7, 23]
 | 5 => some [0, 3, 4, 5, 6, 7, 23, 24]
 | 6 => some [0, 7]
 | 7 => some [0, 3, 4, 5, 6, 7, 23, 42]
 | 8 => some [0, 7]
 | 9 => some [0, 3, 4, 5, 6, 7, 23, 66]
 | 10 => some [0, 7]
 | 11 => some [0, 3, 5, 6, 7, 23, 85]
 | 12 => some [0, 7]
 | 13 => some [0, 3, 5, 6, 7, 96]
 | 14 => some [0, 7]
 | 15 => some []
 | _ => none
attribute [go_sem] kpEndsF
def tab_endsF_ok : List (FuncId × (List AV → Mem → Option (AV × Mem))) := [(78, noteG), (48, stepsLG), (79, withinG), (134, blindG)]
attribute [local go_sem] List.cons_append
theorem endsF_ok : FunOk Tryz.prog 92 endsFG := by
 have hC := table_ok (P := Tryz.prog) (l := tab_endsF_ok) (table_more note_ok (table_more stepsL_ok (table_more rwithin_ok (table_more blind_ok table_nil))))
 have t1 := fun args mm => table_at (l := tab_endsF_ok) (f := 78) (args := args) (m := mm) rfl
 have t2 := fun args mm => table_at (l := tab_endsF_ok) (f := 48) (args := args) (m := mm) rfl
 have t3 := fun args mm => table_at (l := tab_endsF_ok) (f := 79) (args := args) (m := mm) rfl
 have t4 := fun args mm => table_at (l := tab_endsF_ok) (f := 134) (args := args) (m := mm) rfl
 refine fun_ok mixed hC Tryz.func92 rfl kpEndsF false rfl fun args m r h => ?_
 unfold endsFG at h
 split at h
 ·rename_i r0 cs
  split at h
  ·rename_i R rule hR hv
   obtain rfl := unRc_some hR
   split at h
   ·rename_i hsm
    obtain ⟨hsm, h14, h18⟩ := hsm
    simp only [Option.some.injEq] at h
    subst h
    have hr0 := (var_lt hv).1
    refine ⟨Nat.le_of_ble_eq_true rfl, ?_⟩
    refine en ?_
    have hA : Above (flMem m r0 rule []) (m.push R.row) := by rw [flMem_nil]; exact above_push (above_self m)
    have hv3 : (m.push R.row).var m.vars.length = some R.row := push_var
    have hvr := push_old (cs' := R.row) hv
    have N := fun b => note_step hv hA (by decide) b 0 0
    generalize hm1 : m.push R.row = m1 at hA hv3 hvr N
    have nr := newRc (m := m) (x := R)
    rw [hm1] at nr
    have fin : ∀ (e : Env) (m2 : Mem) (b : Bool), Above (flMem m r0 rule (if b then [] ++ [⟨rule, 0, 0⟩] else [])) m2 → R.endBad rule = b → Leaves Tryz.prog false Tryz.f92 m (.tup [], flMem m r0 rule (flawIf (R.endBad rule) rule 0 0)) .normal e m2 := fun e m2 b hA2 hb => by
     rw [flawIf_app, ← hb, List.nil_append] at hA2
     exact leaves_none rfl (fin_flMem hv hA2)
    have f1 := fun s => blindG_at (m := m1) s hv3 hsm.1
    have f2 := fun mm => stepsLG_eq (u := R.swaFromU) (n := R.swaFromN) (of := R.steps) (ep := R.epoch) (m := mm)
    rw [show stepsP R.swaFromU R.swaFromN R.steps R.epoch = R.swaSteps from rfl] at f2
    have fw : ∀ x lo hi mm, withinG [.v (.int .i64 x), .v (.int .i64 lo), .v (.int .i64 hi)] mm = some (.v (.bool (decide (lo ≤ x ∧ x ≤ hi))), mm) := fun _ _ _ _ => rfl
    have k1 := lpRlRule hvr
    have y1 := lpRcSwaFrom hv3
    have y2 := lpRcSteps hv3
    have y3 := lpRcEpoch hv3
    have hrule : rule = 14 ∨ rule = 15 ∨ rule = 16 ∨ rule = 17 ∨ rule = 18 := by omega
    rcases hrule with rfl | rfl | rfl | rfl | rfl
    ·have e14 : R.endBad 14 = (R.stopOn && (R.blind R.stopMetric || (R.stopPatience == 0))) := rfl
     have z0 := lpRcStopOn hv3
     have z1 := lpRcStopMetric hv3
     have z2 := lpRcStopPatience hv3
     cases q0 : R.stopOn with
     | false =>
      rw [q0] at e14
      obtain ⟨m2, n1, n2, n3⟩ := N (false)
      repeat' (first | refine gos1 (jn @nr (jn @y1 (jn @y2 (jn @y3 (jn @t2 (jn @f2 (jn @k1 (jn @z0 (jn @z1 (jn @z2 (jn @t4 (jn @f1 (jn @t3 (jn @fw (jn @t1 (jn @n1 @q0)))))))))))))))) ?_ | (refine ops_here ?_; (fail_if_success (refine ops_case (B := true) rfl rfl rfl ?_ ?_)); (fail_if_success (refine ops_case (B := false) rfl rfl rfl ?_ ?_)); refine ops_case rfl rfl rfl (fun hB => ?_) (fun hB => ?_) <;> rw [hB]) | (refine runs_here ?_; refine runs_cond rfl (fun hc => ?_) (fun hc => ?_) <;> first | (cases hc; done) | skip))
      exact fin _ _ _ n2 e14
     | true =>
      cases q1 : R.blind R.stopMetric with
      | true =>
       rw [q0, q1] at e14
       obtain ⟨m2, n1, n2, n3⟩ := N (true)
       repeat' (first | refine gos1 (jn @nr (jn @y1 (jn @y2 (jn @y3 (jn @t2 (jn @f2 (jn @k1 (jn @z0 (jn @z1 (jn @z2 (jn @t4 (jn @f1 (jn @t3 (jn @fw (jn @t1 (jn @n1 (jn @q0 @q1))))))))))))))))) ?_ | (refine ops_here ?_; (fail_if_success (refine ops_case (B := true) rfl rfl rfl ?_ ?_)); (fail_if_success (refine ops_case (B := false) rfl rfl rfl ?_ ?_)); refine ops_case rfl rfl rfl (fun hB => ?_) (fun hB => ?_) <;> rw [hB]) | (refine runs_here ?_; refine runs_cond rfl (fun hc => ?_) (fun hc => ?_) <;> first | (cases hc; done) | skip))
       exact fin _ _ _ n2 e14
      | false =>
       rw [q0, q1] at e14
       obtain ⟨m2, n1, n2, n3⟩ := N ((R.stopPatience == 0))
       repeat' (first | refine gos1 (jn @nr (jn @y1 (jn @y2 (jn @y3 (jn @t2 (jn @f2 (jn @k1 (jn @z0 (jn @z1 (jn @z2 (jn @t4 (jn @f1 (jn @t3 (jn @fw (jn @t1 (jn @n1 (jn @q0 @q1))))))))))))))))) ?_ | (refine ops_here ?_; (fail_if_success (refine ops_case (B := true) rfl rfl rfl ?_ ?_)); (fail_if_success (refine ops_case (B := false) rfl rfl rfl ?_ ?_)); refine ops_case rfl rfl rfl (fun hB => ?_) (fun hB => ?_) <;> rw [hB]) | (refine runs_here ?_; refine runs_cond rfl (fun hc => ?_) (fun hc => ?_) <;> first | (cases hc; done) | skip))
       exact fin _ _ _ n2 e14
    ·have e14 : R.endBad 15 = (R.plateauOn && (R.blind R.plateauMetric || ((R.plateauPatience == 0) || decide (R.plateauFactor ≥ 4294967296)))) := rfl
     have z0 := lpRcPlateauOn hv3
     have z1 := lpRcPlateauMetric hv3
     have z2 := lpRcPlateauPatience hv3
     have z3 := lpRcPlateauFactor hv3
     cases q0 : R.plateauOn with
     | false =>
      rw [q0] at e14
      obtain ⟨m2, n1, n2, n3⟩ := N (false)
      repeat' (first | refine gos1 (jn @nr (jn @y1 (jn @y2 (jn @y3 (jn @t2 (jn @f2 (jn @k1 (jn @z0 (jn @z1 (jn @z2 (jn @z3 (jn @t4 (jn @f1 (jn @t3 (jn @fw (jn @t1 (jn @n1 @q0))))))))))))))))) ?_ | (refine ops_here ?_; (fail_if_success (refine ops_case (B := true) rfl rfl rfl ?_ ?_)); (fail_if_success (refine ops_case (B := false) rfl rfl rfl ?_ ?_)); refine ops_case rfl rfl rfl (fun hB => ?_) (fun hB => ?_) <;> rw [hB]) | (refine runs_here ?_; refine runs_cond rfl (fun hc => ?_) (fun hc => ?_) <;> first | (cases hc; done) | skip))
      exact fin _ _ _ n2 e14
     | true =>
      cases q1 : R.blind R.plateauMetric with
      | true =>
       rw [q0, q1] at e14
       obtain ⟨m2, n1, n2, n3⟩ := N (true)
       repeat' (first | refine gos1 (jn @nr (jn @y1 (jn @y2 (jn @y3 (jn @t2 (jn @f2 (jn @k1 (jn @z0 (jn @z1 (jn @z2 (jn @z3 (jn @t4 (jn @f1 (jn @t3 (jn @fw (jn @t1 (jn @n1 (jn @q0 @q1)))))))))))))))))) ?_ | (refine ops_here ?_; (fail_if_success (refine ops_case (B := true) rfl rfl rfl ?_ ?_)); (fail_if_success (refine ops_case (B := false) rfl rfl rfl ?_ ?_)); refine ops_case rfl rfl rfl (fun hB => ?_) (fun hB => ?_) <;> rw [hB]) | (refine runs_here ?_; refine runs_cond rfl (fun hc => ?_) (fun hc => ?_) <;> first | (cases hc; done) | skip))
       exact fin _ _ _ n2 e14
      | false =>
       cases q2 : (R.plateauPatience == 0) with
       | true =>
        rw [q0, q1, q2] at e14
        obtain ⟨m2, n1, n2, n3⟩ := N (true)
        repeat' (first | refine gos1 (jn @nr (jn @y1 (jn @y2 (jn @y3 (jn @t2 (jn @f2 (jn @k1 (jn @z0 (jn @z1 (jn @z2 (jn @z3 (jn @t4 (jn @f1 (jn @t3 (jn @fw (jn @t1 (jn @n1 (jn @q0 (jn @q1 @q2))))))))))))))))))) ?_ | (refine ops_here ?_; (fail_if_success (refine ops_case (B := true) rfl rfl rfl ?_ ?_)); (fail_if_success (refine ops_case (B := false) rfl rfl rfl ?_ ?_)); refine ops_case rfl rfl rfl (fun hB => ?_) (fun hB => ?_) <;> rw [hB]) | (refine runs_here ?_; refine runs_cond rfl (fun hc => ?_) (fun hc => ?_) <;> first | (cases hc; done) | skip))
        exact fin _ _ _ n2 e14
       | false =>
        rw [q0, q1, q2] at e14
        obtain ⟨m2, n1, n2, n3⟩ := N (decide (R.plateauFactor ≥ 4294967296))
        repeat' (first | refine gos1 (jn @nr (jn @y1 (jn @y2 (jn @y3 (jn @t2 (jn @f2 (jn @k1 (jn @z0 (jn @z1 (jn @z2 (jn @z3 (jn @t4 (jn @f1 (jn @t3 (jn @fw (jn @t1 (jn @n1 (jn @q0 (jn @q1 @q2))))))))))))))))))) ?_ | (refine ops_here ?_; (fail_if_success (refine ops_case (B := true) rfl rfl rfl ?_ ?_)); (fail_if_success (refine ops_case (B := false) rfl rfl rfl ?_ ?_)); refine ops_case rfl rfl rfl (fun hB => ?_) (fun hB => ?_) <;> rw [hB]) | (refine runs_here ?_; refine runs_cond rfl (fun hc => ?_) (fun hc => ?_) <;> first | (cases hc; done) | skip))
        exact fin _ _ _ n2 e14
    ·have e14 : R.endBad 16 = (R.keepOn && (R.blind R.keepMetric || !decide (1 ≤ R.keepCount ∧ R.keepCount ≤ 16))) := rfl
     have z0 := lpRcKeepOn hv3
     have z1 := lpRcKeepMetric hv3
     have z2 := lpRcKeepCount hv3
     cases q0 : R.keepOn with
     | false =>
      rw [q0] at e14
      obtain ⟨m2, n1, n2, n3⟩ := N (false)
      repeat' (first | refine gos1 (jn @nr (jn @y1 (jn @y2 (jn @y3 (jn @t2 (jn @f2 (jn @k1 (jn @z0 (jn @z1 (jn @z2 (jn @t4 (jn @f1 (jn @t3 (jn @fw (jn @t1 (jn @n1 @q0)))))))))))))))) ?_ | (refine ops_here ?_; (fail_if_success (refine ops_case (B := true) rfl rfl rfl ?_ ?_)); (fail_if_success (refine ops_case (B := false) rfl rfl rfl ?_ ?_)); refine ops_case rfl rfl rfl (fun hB => ?_) (fun hB => ?_) <;> rw [hB]) | (refine runs_here ?_; refine runs_cond rfl (fun hc => ?_) (fun hc => ?_) <;> first | (cases hc; done) | skip))
      exact fin _ _ _ n2 e14
     | true =>
      cases q1 : R.blind R.keepMetric with
      | true =>
       rw [q0, q1] at e14
       obtain ⟨m2, n1, n2, n3⟩ := N (true)
       repeat' (first | refine gos1 (jn @nr (jn @y1 (jn @y2 (jn @y3 (jn @t2 (jn @f2 (jn @k1 (jn @z0 (jn @z1 (jn @z2 (jn @t4 (jn @f1 (jn @t3 (jn @fw (jn @t1 (jn @n1 (jn @q0 @q1))))))))))))))))) ?_ | (refine ops_here ?_; (fail_if_success (refine ops_case (B := true) rfl rfl rfl ?_ ?_)); (fail_if_success (refine ops_case (B := false) rfl rfl rfl ?_ ?_)); refine ops_case rfl rfl rfl (fun hB => ?_) (fun hB => ?_) <;> rw [hB]) | (refine runs_here ?_; refine runs_cond rfl (fun hc => ?_) (fun hc => ?_) <;> first | (cases hc; done) | skip))
       exact fin _ _ _ n2 e14
      | false =>
       rw [q0, q1] at e14
       obtain ⟨m2, n1, n2, n3⟩ := N ((!decide (1 ≤ R.keepCount ∧ R.keepCount ≤ 16)))
       repeat' (first | refine gos1 (jn @nr (jn @y1 (jn @y2 (jn @y3 (jn @t2 (jn @f2 (jn @k1 (jn @z0 (jn @z1 (jn @z2 (jn @t4 (jn @f1 (jn @t3 (jn @fw (jn @t1 (jn @n1 (jn @q0 @q1))))))))))))))))) ?_ | (refine ops_here ?_; (fail_if_success (refine ops_case (B := true) rfl rfl rfl ?_ ?_)); (fail_if_success (refine ops_case (B := false) rfl rfl rfl ?_ ?_)); refine ops_case rfl rfl rfl (fun hB => ?_) (fun hB => ?_) <;> rw [hB]) | (refine runs_here ?_; refine runs_cond rfl (fun hc => ?_) (fun hc => ?_) <;> first | (cases hc; done) | skip))
       exact fin _ _ _ n2 e14
    ·have e14 : R.endBad 17 = (R.emaOn && decide (R.emaDecay > 4294967296)) := rfl
     have z0 := lpRcEmaOn hv3
     have z1 := lpRcEmaDecay hv3
     cases q0 : R.emaOn with
     | false =>
      rw [q0] at e14
      obtain ⟨m2, n1, n2, n3⟩ := N (false)
      repeat' (first | refine gos1 (jn @nr (jn @y1 (jn @y2 (jn @y3 (jn @t2 (jn @f2 (jn @k1 (jn @z0 (jn @z1 (jn @t4 (jn @f1 (jn @t3 (jn @fw (jn @t1 (jn @n1 @q0))))))))))))))) ?_ | (refine ops_here ?_; (fail_if_success (refine ops_case (B := true) rfl rfl rfl ?_ ?_)); (fail_if_success (refine ops_case (B := false) rfl rfl rfl ?_ ?_)); refine ops_case rfl rfl rfl (fun hB => ?_) (fun hB => ?_) <;> rw [hB]) | (refine runs_here ?_; refine runs_cond rfl (fun hc => ?_) (fun hc => ?_) <;> first | (cases hc; done) | skip))
      exact fin _ _ _ n2 e14
     | true =>
      rw [q0] at e14
      obtain ⟨m2, n1, n2, n3⟩ := N (decide (R.emaDecay > 4294967296))
      repeat' (first | refine gos1 (jn @nr (jn @y1 (jn @y2 (jn @y3 (jn @t2 (jn @f2 (jn @k1 (jn @z0 (jn @z1 (jn @t4 (jn @f1 (jn @t3 (jn @fw (jn @t1 (jn @n1 @q0))))))))))))))) ?_ | (refine ops_here ?_; (fail_if_success (refine ops_case (B := true) rfl rfl rfl ?_ ?_)); (fail_if_success (refine ops_case (B := false) rfl rfl rfl ?_ ?_)); refine ops_case rfl rfl rfl (fun hB => ?_) (fun hB => ?_) <;> rw [hB]) | (refine runs_here ?_; refine runs_cond rfl (fun hc => ?_) (fun hc => ?_) <;> first | (cases hc; done) | skip))
      exact fin _ _ _ n2 e14
    ·have e14 : R.endBad 18 = (R.swaOn && ((R.swaEvery == 0) || ((R.swaSteps.2 != 0) || decide (R.swaSteps.1 > R.steps)))) := rfl
     have z0 := lpRcSwaOn hv3
     have z1 := lpRcSwaEvery hv3
     cases q0 : R.swaOn with
     | false =>
      rw [q0] at e14
      obtain ⟨m2, n1, n2, n3⟩ := N (false)
      repeat' (first | refine gos1 (jn @nr (jn @y1 (jn @y2 (jn @y3 (jn @t2 (jn @f2 (jn @k1 (jn @z0 (jn @z1 (jn @t4 (jn @f1 (jn @t3 (jn @fw (jn @t1 (jn @n1 @q0))))))))))))))) ?_ | (refine ops_here ?_; (fail_if_success (refine ops_case (B := true) rfl rfl rfl ?_ ?_)); (fail_if_success (refine ops_case (B := false) rfl rfl rfl ?_ ?_)); refine ops_case rfl rfl rfl (fun hB => ?_) (fun hB => ?_) <;> rw [hB]) | (refine runs_here ?_; refine runs_cond rfl (fun hc => ?_) (fun hc => ?_) <;> first | (cases hc; done) | skip))
      exact fin _ _ _ n2 e14
     | true =>
      cases q1 : (R.swaEvery == 0) with
      | true =>
       rw [q0, q1] at e14
       obtain ⟨m2, n1, n2, n3⟩ := N (true)
       repeat' (first | refine gos1 (jn @nr (jn @y1 (jn @y2 (jn @y3 (jn @t2 (jn @f2 (jn @k1 (jn @z0 (jn @z1 (jn @t4 (jn @f1 (jn @t3 (jn @fw (jn @t1 (jn @n1 (jn @q0 @q1)))))))))))))))) ?_ | (refine ops_here ?_; (fail_if_success (refine ops_case (B := true) rfl rfl rfl ?_ ?_)); (fail_if_success (refine ops_case (B := false) rfl rfl rfl ?_ ?_)); refine ops_case rfl rfl rfl (fun hB => ?_) (fun hB => ?_) <;> rw [hB]) | (refine runs_here ?_; refine runs_cond rfl (fun hc => ?_) (fun hc => ?_) <;> first | (cases hc; done) | skip))
       exact fin _ _ _ n2 e14
      | false =>
       cases q2 : (R.swaSteps.2 != 0) with
       | true =>
        rw [q0, q1, q2] at e14
        obtain ⟨m2, n1, n2, n3⟩ := N (true)
        repeat' (first | refine gos1 (jn @nr (jn @y1 (jn @y2 (jn @y3 (jn @t2 (jn @f2 (jn @k1 (jn @z0 (jn @z1 (jn @t4 (jn @f1 (jn @t3 (jn @fw (jn @t1 (jn @n1 (jn @q0 (jn @q1 @q2))))))))))))))))) ?_ | (refine ops_here ?_; (fail_if_success (refine ops_case (B := true) rfl rfl rfl ?_ ?_)); (fail_if_success (refine ops_case (B := false) rfl rfl rfl ?_ ?_)); refine ops_case rfl rfl rfl (fun hB => ?_) (fun hB => ?_) <;> rw [hB]) | (refine runs_here ?_; refine runs_cond rfl (fun hc => ?_) (fun hc => ?_) <;> first | (cases hc; done) | skip))
        exact fin _ _ _ n2 e14
       | false =>
        rw [q0, q1, q2] at e14
        obtain ⟨m2, n1, n2, n3⟩ := N (decide (R.swaSteps.1 > R.steps))
        repeat' (first | refine gos1 (jn @nr (jn @y1 (jn @y2 (jn @y3 (jn @t2 (jn @f2 (jn @k1 (jn @z0 (jn @z1 (jn @t4 (jn @f1 (jn @t3 (jn @fw (jn @t1 (jn @n1 (jn @q0 (jn @q1 @q2))))))))))))))))) ?_ | (refine ops_here ?_; (fail_if_success (refine ops_case (B := true) rfl rfl rfl ?_ ?_)); (fail_if_success (refine ops_case (B := false) rfl rfl rfl ?_ ?_)); refine ops_case rfl rfl rfl (fun hB => ?_) (fun hB => ?_) <;> rw [hB]) | (refine runs_here ?_; refine runs_cond rfl (fun hc => ?_) (fun hc => ?_) <;> first | (cases hc; done) | skip))
        exact fin _ _ _ n2 e14
   ·cases h
  ·cases h
 ·cases h
end
section
attribute [local irreducible] Next Inside Runs Ops table
attribute [local go_sem] szStr szInt Option.getD_some isNil evStr iv loadStr loadInt rowsS_len rowsN_len rowsGs_len rowsPh_len rowsFl_len mapGs mapPh mapRc ldNode ldGs ldPh cellsGs cellsPh cellsRc newGs newPh newRc zrPh zoPh znPh zsPh fpPhLen fpPhLenU fpRcSteps fpRcEpoch fpRcWeights fpRcMetrics fpRcGroups fpRcEval fpRcPhases fpRlList
theorem or_ok {P : Program} {f : FuncId} {g1 g2 : List AV → Mem → Option (AV × Mem)} (h1 : FunOk P f g1) (h2 : FunOk P f g2) : FunOk P f fun a m => match g1 a m with | some r => some r | none => g2 a m := by
 intro args m r m' h
 dsimp only at h
 split at h
 ·rename_i x hx
  exact h1 args m r m' (hx.trans h)
 ·exact h2 args m r m' h
theorem setsG_at {m : Mem} {r : Nat} {rule : Int} {R : Rc} (hv : m.var r = some [.v (.int .i64 rule), .lst .full 3 []]) (h : R.small) : setsG [.ptr r 0, .agg R.row] m = some (.tup [], flMem m r rule (setsFl rule R)) := by
 simp only [setsG, unRc_row, hv]
 rw [if_pos h]
def eachG : List AV → Mem → Option (AV × Mem) := fun a m => match eachBG a m with | some r => some r | none => eachHG a m
theorem each_ok : FunOk Tryz.prog 87 eachG := or_ok eachB_ok eachH_ok
theorem eachG_B {m : Mem} {r : Nat} {rule : Int} {R : Rc} (hv : m.var r = some [.v (.int .i64 rule), .lst .full 3 []]) (h : R.small) : eachG [.ptr r 0, .agg R.row, .fn (.func 88) [] []] m = some (.tup [], flMem m r rule (eachBL rule R)) := by
 unfold eachG
 rw [eachBG_at hv h]
theorem eachG_H {m : Mem} {r : Nat} {rule : Int} {R : Rc} (hv : m.var r = some [.v (.int .i64 rule), .lst .full 3 []]) (h : R.small) : eachG [.ptr r 0, .agg R.row, .fn (.func 91) [] []] m = some (.tup [], flMem m r rule (eachHL rule R)) := by
 unfold eachG
 rw [show eachBG [.ptr r 0, .agg R.row, .fn (.func 91) [] []] m = none from rfl]
 exact eachHG_at hv h
theorem cellsRl {rule : Int} : cellsOf (.agg [.v (.int .i64 rule), .lst .full 3 []]) = some [.v (.int .i64 rule), .lst .full 3 []] := rfl
attribute [local go_sem] cellsRl
theorem newRl {m : Mem} {rule : Int} : newVar m m.vars.length [.v (.int .i64 rule), .lst .full 3 []] = some (m.push [.v (.int .i64 rule), .lst .full 3 []]) := newVar_push rfl
theorem mkRl {rule : Int} : evBuild Tryz.prog 119 [(0, .v (.int .i64 rule))] = some (.agg [.v (.int .i64 rule), .lst .full 3 []]) := by kernel_rfl
theorem flLst_is (m : Mem) (L : List Fl) : ∃ g, flLst m L = .lst g 3 (rowsFl L) := by
 unfold flLst
 split
 ·rename_i h
  subst h
  exact ⟨_, rfl⟩
 ·exact ⟨_, rfl⟩
theorem fin_own {m m5 m' : Mem} {n5 : Nat} {rule : Int} {L : List Fl} (h1 : Above m m5) (h2 : m.vars.length ≤ n5) (h : Above (flMem m5 n5 rule L) m') : finMem m m' = m := by
 obtain ⟨L1, rfl⟩ := h1
 obtain ⟨L2, rfl⟩ := h
 have hv : ((flMem { vars := m.vars ++ L1, toks := m.toks } n5 rule L).vars ++ L2).take m.vars.length = m.vars := by
  unfold flMem
  split
  ·simp
  ·simp only [List.set_append]
   rw [if_neg (by omega)]
   simp
 have ht : (flMem { vars := m.vars ++ L1, toks := m.toks } n5 rule L).toks.take m.toks.length = m.toks := by
  unfold flMem
  split
  ·simp
  ·simp
 unfold finMem
 simp only [hv, if_true, ht]
/-! ### the sum -/
def accS (R : Rc) : Nat → Int
 | 0 => 0
 | i + 1 => accS R i + (R.stepsOf (R.phases.getD i ph0)).1
def restP (p : Ph) : Bool := p.lenU == 3
def Rc.sumBad (R : Rc) : Bool := if firstBy restP R.phases 0 < 0 then accS R R.phases.length != R.steps else decide (accS R (firstBy restP R.phases 0).toNat ≥ R.steps)
def brk1 (R : Rc) : List Fl := flawIf (!decide (1 ≤ R.steps ∧ R.steps ≤ 1000000)) 1 0 0
def brk2 (R : Rc) : List Fl := flawIf (decide (R.epoch > 1000000) || ((R.epoch == 0) && R.epochs)) 2 0 0
def sumL (rule : Int) (R : Rc) : List Fl := if ((((brk1 R).length : Nat) : Int) == 0) && (((((brk2 R).length : Nat) : Int) == 0) && ((((lastsL 8 R).length : Nat) : Int) == 0)) then flawIf R.sumBad rule 0 0 else []
def brkL (R : Rc) (rule : Int) : List Fl :=
 if rule = 1 then flawIf (!decide (1 ≤ R.steps ∧ R.steps ≤ 1000000)) 1 0 0 else if rule = 2 then flawIf (decide (R.epoch > 1000000) || ((R.epoch == 0) && R.epochs)) 2 0 0 else if rule = 3 then flawIf (decide (R.weights > 16)) 3 0 0 else if rule = 4 then twinsL 4 R.metrics else if rule = 5 then twinsL 5 R.groups else if rule = 6 then flawIf (((R.phases.length : Int) == 0)) 6 0 0 else if rule = 7 then twinsL 7 (R.phases.map Ph.name) else if rule = 8 then lastsL 8 R else if rule = 9 then sumL 9 R else if rule = 10 then frozenL 10 R else if rule = 11 then setsFl 11 R else if rule = 12 then eachBL 12 R else if rule = 13 then eachHL 13 R else if rule = 14 then flawIf (R.endBad 14) 14 0 0 else if rule = 15 then flawIf (R.endBad 15) 15 0 0 else if rule = 16 then flawIf (R.endBad 16) 16 0 0 else if rule = 17 then flawIf (R.endBad 17) 17 0 0 else if rule = 18 then flawIf (R.endBad 18) 18 0 0 else if rule = 19 then flawIf (decide (R.eval > R.steps)) 19 0 0 else []
def Rc.kept (R : Rc) (rule : Int) : Bool := (((brkL R rule).length : Nat) : Int) == 0
def brk0G : List AV → Mem → Option (AV × Mem)
 | [.agg cs, .v (.int .i64 rule)], m =>
  match unRc cs with
  | some R => if R.small ∧ R.fit ∧ (rule = 1 ∨ rule = 2 ∨ rule = 8) then some (.lst .no 3 (rowsFl (brkL R rule)), m) else none
  | none => none
 | _, _ => none
theorem brk0G_at {m : Mem} {R : Rc} {rule : Int} (h : R.small) (h1 : R.fit) (h2 : rule = 1 ∨ rule = 2 ∨ rule = 8) : brk0G [.agg R.row, .v (.int .i64 rule)] m = some (.lst .no 3 (rowsFl (brkL R rule)), m) := by
 simp only [brk0G, unRc_row]
 rw [if_pos ⟨h, h1, h2⟩]
def kpBrk0 : Nat → Option (List Nat) := fun
 | 0 => some [1, 2]
 | 1 => some [1, 2, 5]
 | 2 => some [2, 5, 9]
 | 3 => some [5]
 | 4 => some [2, 5, 9, 13]
 | 5 => some [5]
 | 6 => some [2, 5, 9, 21]
 | 7 => some [5]
 | 8 => some [2, 5, 9, 37]
 | 9 => some [5]
 | 10 => some [2, 5, 9, 44]
 | 11 => some [5]
 | 12 => some [2, 5, 9, 50]
 | 13 => some [5]
 | 14 => some [2, 5, 9, 56]
 | 15 => some [5]
 | 16 => some [2, 5, 9, 64]
 | 17 => some [5]
 | 18 => some [2, 5, 9, 70]
 | 19 => some [5]
 | 20 => some [2, 5, 9, 75]
 | 21 => some [5]
 | 22 => some [2, 5, 9, 80]
 | 23 => some [5]
 | 24 => some [2, 5, 9, 85]
 | 25 => some [5]
 | 26 => some [2, 5, 9, 90]
 | 27 => some [5]
 | 28 => some [2, 5, 9, 95]
 | 29 => some [5]
 | 30 => some [2, 5, 100]
 | 31 => some [5]
 | 32 => some [4]
 | _ => none
attribute [go_sem] kpBrk0
def tab_brk0_ok : List (FuncId × (List AV → Mem → Option (AV × Mem))) := [(79, withinG), (78, noteG), (80, epochsG), (83, rlastsG)]
theorem brk0_ok : FunOk Tryz.prog 38 brk0G := by
 have hC := table_ok (P := Tryz.prog) (l := tab_brk0_ok) (table_more rwithin_ok (table_more note_ok (table_more epochs_ok (table_more rlasts_ok table_nil))))
 have t1 := fun args mm => table_at (l := tab_brk0_ok) (f := 79) (args := args) (m := mm) rfl
 have t2 := fun args mm => table_at (l := tab_brk0_ok) (f := 78) (args := args) (m := mm) rfl
 have t3 := fun args mm => table_at (l := tab_brk0_ok) (f := 80) (args := args) (m := mm) rfl
 have t4 := fun args mm => table_at (l := tab_brk0_ok) (f := 83) (args := args) (m := mm) rfl
 refine fun_ok mixed hC Tryz.func38 rfl kpBrk0 false rfl fun args m r h => ?_
 unfold brk0G at h
 split at h
 ·rename_i cs rule
  split at h
  ·rename_i R hR
   obtain rfl := unRc_some hR
   split at h
   ·rename_i hyp
    obtain ⟨hsm, hfit, hrule⟩ := hyp
    simp only [Option.some.injEq] at h
    subst h
    refine ⟨Nat.le_of_ble_eq_true rfl, ?_⟩
    refine en ?_
    have hv3 : (m.push R.row).var m.vars.length = some R.row := push_var
    have hn3 : m.vars.length < (m.push R.row).vars.length := by rw [push_len]; omega
    have hA1 := above_push (cs := R.row) (above_self m)
    have nr := newRc (m := m) (x := R)
    generalize hm1 : m.push R.row = m1 at hv3 hn3 hA1 nr
    have nl := newRl (m := m1) (rule := rule)
    have hv5 : (m1.push [.v (.int .i64 rule), .lst .full 3 []]).var m1.vars.length = some [.v (.int .i64 rule), .lst .full 3 []] := push_var
    have hw3 := push_old (cs' := [.v (.int .i64 rule), .lst .full 3 []]) hv3
    have hA2 := above_push (cs := [.v (.int .i64 rule), .lst .full 3 []]) hA1
    have hle : m.vars.length ≤ m1.vars.length := by omega
    generalize hn5 : m1.vars.length = n5 at nl hv5 hle
    generalize m1.push [.v (.int .i64 rule), .lst .full 3 []] = m5 at nl hv5 hw3 hA2
    have fin : ∀ (e : Env) (m' : Mem) (L : List Fl), Above (flMem m5 n5 rule L) m' → brkL R rule = L → Ev.get e 4 = flLst m5 L → Leaves Tryz.prog false Tryz.f38 m (.lst .no 3 (rowsFl (brkL R rule)), m) .ret e m' := fun e m' L hA hL hg => by
     obtain ⟨g, hgl⟩ := flLst_is m5 L
     rw [hL]
     exact leaves_lst rfl (hg.trans hgl) (fin_own hA2 hle hA)
    have hld : ∀ (m' : Mem) (L : List Fl), Above (flMem m5 n5 rule L) m' → evLoad Tryz.prog m' 40 (.ptr n5 1) = some (flLst m5 L) := fun m' L hA => lpRlList (above_var hA (flMem_var hv5))
    have l1 := vrRc hw3
    have l2 := lpRcSteps hw3
    have l3 := lpRcEpoch hw3
    have l4 := lpRcWeights hw3
    have l5 := lpRcMetrics hw3
    have l6 := lpRcGroups hw3
    have l7 := lpRcEval hw3
    have l8 := lpRcPhases hw3
    have f1 : ∀ x lo hi mm, withinG [.v (.int .i64 x), .v (.int .i64 lo), .v (.int .i64 hi)] mm = some (.v (.bool (decide (lo ≤ x ∧ x ≤ hi))), mm) := fun _ _ _ _ => rfl
    have f3 := fun mm => epochsG_at R mm hfit
    rcases hrule with rfl | rfl | rfl
    ·have hL : brkL R 1 = flawIf (!decide (1 ≤ R.steps ∧ R.steps ≤ 1000000)) 1 0 0 := rfl
     obtain ⟨m2, n1, hA, n3⟩ := note_step hv5 (by rw [flMem_nil]; exact above_self m5) (by decide) (!decide (1 ≤ R.steps ∧ R.steps ≤ 1000000)) 0 0
     rw [flawIf_app, List.nil_append] at hA
     have k2 := hld _ _ hA
     repeat' (first | refine gos1 (jn @nr (jn @hn5 (jn @nl (jn @mkRl (jn @l1 (jn @l2 (jn @l3 (jn @l4 (jn @l5 (jn @l6 (jn @l7 (jn @l8 (jn @t1 (jn @f1 (jn @t2 (jn @n1 @k2)))))))))))))))) ?_ | (refine ops_here ?_; (fail_if_success (refine ops_case (B := true) rfl rfl rfl ?_ ?_)); (fail_if_success (refine ops_case (B := false) rfl rfl rfl ?_ ?_)); refine ops_case rfl rfl rfl (fun hB => ?_) (fun hB => ?_) <;> rw [hB]) | (refine runs_here ?_; refine runs_cond rfl (fun hc => ?_) (fun hc => ?_) <;> first | (cases hc; done) | skip))
     exact fin _ _ _ hA hL rfl
    ·have hL : brkL R 2 = flawIf (decide (R.epoch > 1000000) || ((R.epoch == 0) && R.epochs)) 2 0 0 := rfl
     cases q1 : decide (R.epoch > 1000000) with
     | true =>
      obtain ⟨m2, n1, hA, n3⟩ := note_step hv5 (by rw [flMem_nil]; exact above_self m5) (by decide) true 0 0
      rw [flawIf_app, List.nil_append] at hA
      rw [q1] at hL
      have k2 := hld _ _ hA
      repeat' (first | refine gos1 (jn @nr (jn @hn5 (jn @nl (jn @mkRl (jn @l1 (jn @l2 (jn @l3 (jn @l4 (jn @l5 (jn @l6 (jn @l7 (jn @l8 (jn @q1 (jn @t2 (jn @n1 @k2))))))))))))))) ?_ | (refine ops_here ?_; (fail_if_success (refine ops_case (B := true) rfl rfl rfl ?_ ?_)); (fail_if_success (refine ops_case (B := false) rfl rfl rfl ?_ ?_)); refine ops_case rfl rfl rfl (fun hB => ?_) (fun hB => ?_) <;> rw [hB]) | (refine runs_here ?_; refine runs_cond rfl (fun hc => ?_) (fun hc => ?_) <;> first | (cases hc; done) | skip))
      exact fin _ _ _ hA hL rfl
     | false =>
      cases q2 : (R.epoch == 0) with
      | false =>
       obtain ⟨m2, n1, hA, n3⟩ := note_step hv5 (by rw [flMem_nil]; exact above_self m5) (by decide) false 0 0
       rw [flawIf_app, List.nil_append] at hA
       rw [q1, q2] at hL
       have k2 := hld _ _ hA
       repeat' (first | refine gos1 (jn @nr (jn @hn5 (jn @nl (jn @mkRl (jn @l1 (jn @l2 (jn @l3 (jn @l4 (jn @l5 (jn @l6 (jn @l7 (jn @l8 (jn @q1 (jn @q2 (jn @t2 (jn @n1 @k2)))))))))))))))) ?_ | (refine ops_here ?_; (fail_if_success (refine ops_case (B := true) rfl rfl rfl ?_ ?_)); (fail_if_success (refine ops_case (B := false) rfl rfl rfl ?_ ?_)); refine ops_case rfl rfl rfl (fun hB => ?_) (fun hB => ?_) <;> rw [hB]) | (refine runs_here ?_; refine runs_cond rfl (fun hc => ?_) (fun hc => ?_) <;> first | (cases hc; done) | skip))
       exact fin _ _ _ hA hL rfl
      | true =>
       obtain ⟨m2, n1, hA, n3⟩ := note_step hv5 (by rw [flMem_nil]; exact above_self m5) (by decide) R.epochs 0 0
       rw [flawIf_app, List.nil_append] at hA
       rw [q1, q2] at hL
       have k2 := hld _ _ hA
       repeat' (first | refine gos1 (jn @nr (jn @hn5 (jn @nl (jn @mkRl (jn @l1 (jn @l2 (jn @l3 (jn @l4 (jn @l5 (jn @l6 (jn @l7 (jn @l8 (jn @q1 (jn @q2 (jn @t2 (jn @t3 (jn @f3 (jn @n1 @k2)))))))))))))))))) ?_ | (refine ops_here ?_; (fail_if_success (refine ops_case (B := true) rfl rfl rfl ?_ ?_)); (fail_if_success (refine ops_case (B := false) rfl rfl rfl ?_ ?_)); refine ops_case rfl rfl rfl (fun hB => ?_) (fun hB => ?_) <;> rw [hB]) | (refine runs_here ?_; refine runs_cond rfl (fun hc => ?_) (fun hc => ?_) <;> first | (cases hc; done) | skip))
       exact fin _ _ _ hA hL rfl
    ·have hL : brkL R 8 = lastsL 8 R := rfl
     have c := rlastsG_at hv5 hsm
     have hA := above_self (flMem m5 n5 8 (lastsL 8 R))
     have k2 := hld _ _ hA
     repeat' (first | refine gos1 (jn @nr (jn @hn5 (jn @nl (jn @mkRl (jn @l1 (jn @l2 (jn @l3 (jn @l4 (jn @l5 (jn @l6 (jn @l7 (jn @l8 (jn @t4 (jn @c @k2)))))))))))))) ?_ | (refine ops_here ?_; (fail_if_success (refine ops_case (B := true) rfl rfl rfl ?_ ?_)); (fail_if_success (refine ops_case (B := false) rfl rfl rfl ?_ ?_)); refine ops_case rfl rfl rfl (fun hB => ?_) (fun hB => ?_) <;> rw [hB]) | (refine runs_here ?_; refine runs_cond rfl (fun hc => ?_) (fun hc => ?_) <;> first | (cases hc; done) | skip))
     exact fin _ _ _ hA hL rfl
   ·cases h
  ·cases h
 ·cases h
def kept0G : List AV → Mem → Option (AV × Mem)
 | [.agg cs, .v (.int .i64 rule)], m =>
  match unRc cs with
  | some R => if R.small ∧ R.fit ∧ (rule = 1 ∨ rule = 2 ∨ rule = 8) then some (.v (.bool (R.kept rule)), m) else none
  | none => none
 | _, _ => none
theorem kept0G_at {m : Mem} {R : Rc} {rule : Int} (h : R.small) (h1 : R.fit) (h2 : rule = 1 ∨ rule = 2 ∨ rule = 8) : kept0G [.agg R.row, .v (.int .i64 rule)] m = some (.v (.bool (R.kept rule)), m) := by
 simp only [kept0G, unRc_row]
 rw [if_pos ⟨h, h1, h2⟩]
def kpKept0 : Nat → Option (List Nat) := fun
 | 0 => some [1, 2]
 | 1 => some [4]
 | _ => none
attribute [go_sem] kpKept0
def tab_kept0_ok : List (FuncId × (List AV → Mem → Option (AV × Mem))) := [(38, brk0G)]
theorem kept0_ok : FunOk Tryz.prog 131 kept0G := by
 have hC := table_ok (P := Tryz.prog) (l := tab_kept0_ok) (table_more brk0_ok table_nil)
 have t1 := fun args mm => table_at (l := tab_kept0_ok) (f := 38) (args := args) (m := mm) rfl
 refine fun_ok mixed hC Tryz.func131 rfl kpKept0 false rfl fun args m r h => ?_
 unfold kept0G at h
 split at h
 ·rename_i cs rule
  split at h
  ·rename_i R hR
   obtain rfl := unRc_some hR
   split at h
   ·rename_i hyp
    obtain ⟨hsm, hfit, hrule⟩ := hyp
    simp only [Option.some.injEq] at h
    subst h
    refine ⟨Nat.le_of_ble_eq_true rfl, ?_⟩
    refine en ?_
    have l1 := vrRc (x := R) (push_var (m := m))
    have f1 := fun mm => brk0G_at (m := mm) hsm hfit hrule
    refine go1 (jn @l1 (jn @t1 @f1)) ?_
    exact leaves_fin rfl rfl fin_push
   ·cases h
  ·cases h
 ·cases h
end
end Go.Proofs.YtojaokhkbmiidaaGreat.Ev

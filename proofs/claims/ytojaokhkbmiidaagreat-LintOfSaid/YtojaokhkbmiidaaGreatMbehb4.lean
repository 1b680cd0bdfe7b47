/- Nodes: the program's test of one node, kind by kind. -/
import Derived.Test.YtojaokhkbmiidaaGreatMbehb3
import Derived.Test.YtojaokhkbmiidaaGreatMbehb2
namespace Go.Proofs.YtojaokhkbmiidaaGreat.Ev
open Go Go.Proofs
set_option maxRecDepth 10000
set_option maxHeartbeats 8000000
set_option linter.unusedVariables false
set_option linter.unusedSimpArgs false
section
set_option maxHeartbeats 16000000
set_option linter.unusedVariables false
set_option linter.unusedSimpArgs false
attribute [local irreducible] Next Inside Runs Ops table
attribute [local go_sem] szStr szInt Option.getD_some isNil loadStr loadInt evStr len0 len1 loadOne loadLen cellsLen newLen Nat.zero_add List.drop_zero List.drop_succ_cons List.head?_cons
def lastsG : List AV → Mem → Option (AV × Mem)
 | [.agg [.v (.int .i64 u), .v (.int .i64 n)]], m => some (.v (.bool (decide (u ≠ 3 ∧ lenMay u n))), m)
 | _, _ => none
def kpLasts : Nat → Option (List Nat) := fun _ => some [0, 1, 2]
attribute [go_sem] kpLasts
theorem lasts_ok : FunOk Tryz.prog 159 lastsG := by
 have hC := table_ok (P := Tryz.prog) (l := [(104, lenCheckG)]) (table_more lenCheck_ok table_nil)
 have t1 := fun args mm => table_at (l := [(104, lenCheckG)]) (f := 104) (args := args) (m := mm) rfl
 refine fun_ok mixed hC Tryz.func159 rfl kpLasts false rfl fun args m r h => ?_
 unfold lastsG at h
 split at h
 ·rename_i u n
  simp only [Option.some.injEq] at h
  subst h
  refine ⟨Nat.le_of_ble_eq_true rfl, ?_⟩
  refine en ?_
  have fl : ∀ mm, lenCheckG [.agg [.v (.int .i64 u), .v (.int .i64 n)]] mm = some (.v (.int .i64 (if lenMay u n then 0 else 1)), mm) := fun _ => rfl
  have fe : ((if lenMay u n then (0 : Int) else 1) == 0) = decide (lenMay u n) := by
   by_cases h : lenMay u n
   ·rw [if_pos h, decide_eq_true h]; rfl
   ·rw [if_neg h, decide_eq_false h]; rfl
  by_cases h3 : u = 3
  ·have b3 : (u != 3) = false := by rw [h3]; rfl
   rw [decide_eq_false (fun h => h.1 h3)]
   refine go1 (jn @b3 (jn @t1 (jn @fl @fe))) ?_
   exact leaves_fin rfl rfl fin_push
  ·have b3 : (u != 3) = true := bne_iff_ne.2 h3
   have e1 : decide (u ≠ 3 ∧ lenMay u n) = decide (lenMay u n) := by
    by_cases h : lenMay u n
    ·rw [decide_eq_true h, decide_eq_true ⟨h3, h⟩]
    ·rw [decide_eq_false h, decide_eq_false fun hh => h hh.2]
   rw [e1]
   refine go1 (jn @b3 (jn @t1 (jn @fl @fe))) ?_
   exact leaves_fin rfl rfl fin_push
 ·cases h
/-! ### two nodes in memory -/
theorem varUnder {m : Mem} {a b : List AV} : ((m.push a).push b).var m.vars.length = some a := by
 unfold Mem.var Mem.push
 simp [List.getElem?_append]
theorem agNode : tAgg Tryz.prog 102 = some true := by kernel_rfl
theorem agLen : tAgg Tryz.prog 33 = some true := by kernel_rfl
theorem szLen : tSize Tryz.prog 33 = some 2 := by kernel_rfl
theorem underInt {m : Mem} {op a b c k u n : Int} {K : List AV} {off : Nat} : evLoad Tryz.prog ((m.push (nrow op a b c k u n)).push K) 3 (.ptr m.vars.length off) = ((nrow op a b c k u n).drop off).head? := by
 unfold evLoad
 simp only [ptrCells, varUnder, Option.map_some, szInt, agInt]
theorem underLen {m : Mem} {op a b c k u n : Int} {K : List AV} : evLoad Tryz.prog ((m.push (nrow op a b c k u n)).push K) 33 (.ptr m.vars.length 5) = some (.agg [.v (.int .i64 u), .v (.int .i64 n)]) := by
 unfold evLoad
 simp only [ptrCells, varUnder, Option.map_some, szLen, agLen]
 rfl
theorem underNode {m : Mem} {op a b c k u n : Int} {K : List AV} : evLoad Tryz.prog ((m.push (nrow op a b c k u n)).push K) 102 (.ptr m.vars.length 0) = some (.agg (nrow op a b c k u n)) := by
 unfold evLoad
 simp only [ptrCells, varUnder, Option.map_some, szNode, agNode]
 rfl
theorem topNode {m : Mem} {op a b c k u n : Int} : evLoad Tryz.prog (m.push (nrow op a b c k u n)) 102 (.ptr m.vars.length 0) = some (.agg (nrow op a b c k u n)) := by
 unfold evLoad
 simp only [ptrCells, push_var, Option.map_some, szNode, agNode]
 rfl
theorem zeroNode : zeroCells Tryz.prog 102 = some (nrow 0 0 0 0 0 0 0) := by kernel_rfl
theorem okNode {op a b c k u n : Int} : (nrow op a b c k u n).all okCell = true := rfl
theorem putNode {m : Mem} {op a b c k u n op2 a2 b2 c2 k2 u2 n2 : Int} : evStore Tryz.prog (m.push (nrow op a b c k u n)) 102 (.ptr m.vars.length 0) (.agg (nrow op2 a2 b2 c2 k2 u2 n2)) = some (m.push (nrow op2 a2 b2 c2 k2 u2 n2)) := by
 rw [store_push (cs := nrow op2 a2 b2 c2 k2 u2 n2) rfl szNode (Nat.le_refl _) rfl]
 rfl
theorem putC {m : Mem} {op a b c k u n c2 : Int} : evStore Tryz.prog (m.push (nrow op a b c k u n)) 3 (.ptr m.vars.length 3) (.v (.int .i64 c2)) = some (m.push (nrow op a b c2 k u n)) := by
 rw [store_push (cs := [.v (.int .i64 c2)]) rfl szInt (Nat.le_of_ble_eq_true rfl) rfl]
 rfl
theorem putLen {m : Mem} {op a b c k u n u2 n2 : Int} : evStore Tryz.prog (m.push (nrow op a b c k u n)) 33 (.ptr m.vars.length 5) (.agg [.v (.int .i64 u2), .v (.int .i64 n2)]) = some (m.push (nrow op a b c k u2 n2)) := by
 rw [store_push (cs := [.v (.int .i64 u2), .v (.int .i64 n2)]) rfl szLen (Nat.le_of_ble_eq_true rfl) rfl]
 rfl
theorem mkKept {op a b k : Int} : evBuild Tryz.prog 102 [(0, .v (.int .i64 op)), (1, .v (.int .i64 a)), (2, .v (.int .i64 b)), (4, .v (.int .i64 k))] = some (.agg (nrow op a b 0 k 0 0)) := by kernel_rfl
theorem mkA {op a : Int} : evBuild Tryz.prog 102 [(0, .v (.int .i64 op)), (1, .v (.int .i64 a))] = some (.agg (nrow op a 0 0 0 0 0)) := by kernel_rfl
theorem mkAB {op a b : Int} : evBuild Tryz.prog 102 [(0, .v (.int .i64 op)), (1, .v (.int .i64 a)), (2, .v (.int .i64 b))] = some (.agg (nrow op a b 0 0 0 0)) := by kernel_rfl
theorem mkAL {op a u n : Int} : evBuild Tryz.prog 102 [(0, .v (.int .i64 op)), (1, .v (.int .i64 a)), (5, .agg [.v (.int .i64 u), .v (.int .i64 n)])] = some (.agg (nrow op a 0 0 0 u n)) := by kernel_rfl
theorem mkL {op u n : Int} : evBuild Tryz.prog 102 [(0, .v (.int .i64 op)), (5, .agg [.v (.int .i64 u), .v (.int .i64 n)])] = some (.agg (nrow op 0 0 0 0 u n)) := by kernel_rfl
theorem niNode : noIface Tryz.prog 8 102 = true := by kernel_rfl
theorem eqNode {op a b c k u n op2 a2 b2 c2 k2 u2 n2 : Int} : eqTy Tryz.prog 8 102 (.agg (nrow op a b c k u n)) (.agg (nrow op2 a2 b2 c2 k2 u2 n2)) =
  some ((op == op2) && ((a == a2) && ((b == b2) && ((c == c2) && ((k == k2) && (((u == u2) && ((n == n2) && true)) && true)))))) := by kernel_rfl
attribute [local irreducible] nrow
attribute [local go_sem] newNode cellsNode nf0 nf1 nf2 nf3 nf4 nf5 nh0 nh1 nh2 nh3 nh4 nh5 loadNodeLen underInt underLen underNode topNode zeroNode okNode putNode putC putLen mkKept mkA mkAB mkAL mkL niNode eqNode
def kpMay : Nat → Option (List Nat) := fun _ => some [0, 1, 2, 3, 25, 36, 37, 46, 58, 68, 78, 96, 109]
attribute [go_sem] kpMay
def tabMay : List (FuncId × (List AV → Mem → Option (AV × Mem))) := [(158, upTo 4503599627370496), (159, lastsG), (160, upTo 1099511627776)]
theorem ll_eq (u n : Int) (mm : Mem) : lastsG [.agg [.v (.int .i64 u), .v (.int .i64 n)]] mm = some (.v (.bool (decide (u ≠ 3 ∧ lenMay u n))), mm) := rfl
theorem fin_two {m : Mem} {a b : List AV} : finMem m ((m.push a).push b) = m := by
 unfold finMem
 have h : ((m.push a).push b).vars.take m.vars.length = m.vars := by simp [Mem.push]
 rw [if_pos h]
 show (⟨m.vars, m.toks.take m.toks.length⟩ : Mem) = m
 rw [List.take_length]
end
section
set_option maxHeartbeats 16000000
set_option linter.unusedVariables false
set_option linter.unusedSimpArgs false
attribute [local irreducible] Next Inside Runs Ops table nrow
attribute [local go_sem] szStr szInt Option.getD_some isNil evStr loadOne newNode cellsNode nf0 nf1 nf2 nf3 nf4 nf5 nh0 nh1 nh2 nh3 nh4 nh5 loadNodeLen underInt underLen underNode topNode zeroNode okNode putNode putC putLen mkKept mkA mkAB mkAL mkL niNode eqNode Nat.zero_add
theorem may_at1 : FunOk Tryz.prog 143 (mayAt fun op => decide (op = 1)) := by
 have hC := table_ok (P := Tryz.prog) (l := tabMay) (table_more number_ok (table_more lasts_ok (table_more count_ok table_nil)))
 have t1 := fun args mm => table_at (l := tabMay) (f := 158) (args := args) (m := mm) rfl
 have t2 := fun args mm => table_at (l := tabMay) (f := 159) (args := args) (m := mm) rfl
 have t3 := fun args mm => table_at (l := tabMay) (f := 160) (args := args) (m := mm) rfl
 refine fun_ok mixed hC Tryz.func143 rfl kpMay false rfl fun args m r h => ?_
 unfold mayAt at h
 split at h
 ·rename_i cs
  split at h
  ·rename_i x hx
   split at h
   ·rename_i hop
    obtain rfl := unNd_row hx
    obtain ⟨op, a, b, c, k, u, n⟩ := x
    have hop := of_decide_eq_true hop
    simp only at hop
    simp only [Option.some.injEq] at h
    subst h
    refine ⟨Nat.le_of_ble_eq_true rfl, ?_⟩
    refine en ?_
    have fin : ∀ (e : Env) (m' : Mem) (z : Bool), Ev.get e 2 = .v (.bool z) → finMem m m' = m → (z = true ↔ mayN ⟨op, a, b, c, k, u, n⟩) → Leaves Tryz.prog false Tryz.f143 m (.v (.bool (decide (mayN ⟨op, a, b, c, k, u, n⟩))), m) .ret e m' := fun e m' z h1 h2 h3 => by
     have : z = decide (mayN ⟨op, a, b, c, k, u, n⟩) := by rw [Bool.eq_iff_iff, decide_eq_true_eq]; exact h3
     rw [← this]
     exact leaves_fin rfl h1 h2
    subst hop
    repeat' (first | refine gos1 (jn @t1 (jn @q_eq (jn @t2 (jn @ll_eq @t3)))) ?_ | (refine ops_here ?_; (fail_if_success (refine ops_case (B := true) rfl rfl rfl ?_ ?_)); (fail_if_success (refine ops_case (B := false) rfl rfl rfl ?_ ?_)); refine ops_case rfl rfl rfl (fun hB => ?_) (fun hB => ?_) <;> rw [hB]) | (refine runs_here ?_; refine runs_cond rfl (fun hc => ?_) (fun hc => ?_) <;> first | (cases hc; done) | skip))
    all_goals exact fin _ _ _ rfl (by first | exact fin_push | exact fin_two) (by clear fin hx t1 t2 t3 hC; simp only [Bool.not_eq_true', Bool.not_eq_false', Bool.not_true, Bool.not_false, Bool.and_true, Bool.true_and, Bool.and_eq_true, Bool.and_eq_false_iff, decide_eq_true_eq, decide_eq_false_iff_not, Bool.false_eq_true, reduceCtorEq, false_iff, true_iff, beq_iff_eq, bne_iff_ne, beq_eq_false_iff_ne, bne_eq_false_iff_eq, ne_eq, not_false_eq_true, not_true_eq_false, true_or, or_true, true_implies, false_implies, implies_true, and_self, true_and, false_and, or_false, false_or, and_true, and_false] at *; simp only [mayN, inQ, lenMay, not_false_eq_true, not_true_eq_false, true_or, or_true, true_implies, false_implies, implies_true, and_self, true_and, false_and, or_false, false_or, and_true, and_false] at *; omega)
   ·cases h
  ·cases h
 ·cases h
theorem may_at2 : FunOk Tryz.prog 143 (mayAt fun op => decide (op = 2)) := by
 have hC := table_ok (P := Tryz.prog) (l := tabMay) (table_more number_ok (table_more lasts_ok (table_more count_ok table_nil)))
 have t1 := fun args mm => table_at (l := tabMay) (f := 158) (args := args) (m := mm) rfl
 have t2 := fun args mm => table_at (l := tabMay) (f := 159) (args := args) (m := mm) rfl
 have t3 := fun args mm => table_at (l := tabMay) (f := 160) (args := args) (m := mm) rfl
 refine fun_ok mixed hC Tryz.func143 rfl kpMay false rfl fun args m r h => ?_
 unfold mayAt at h
 split at h
 ·rename_i cs
  split at h
  ·rename_i x hx
   split at h
   ·rename_i hop
    obtain rfl := unNd_row hx
    obtain ⟨op, a, b, c, k, u, n⟩ := x
    have hop := of_decide_eq_true hop
    simp only at hop
    simp only [Option.some.injEq] at h
    subst h
    refine ⟨Nat.le_of_ble_eq_true rfl, ?_⟩
    refine en ?_
    have fin : ∀ (e : Env) (m' : Mem) (z : Bool), Ev.get e 2 = .v (.bool z) → finMem m m' = m → (z = true ↔ mayN ⟨op, a, b, c, k, u, n⟩) → Leaves Tryz.prog false Tryz.f143 m (.v (.bool (decide (mayN ⟨op, a, b, c, k, u, n⟩))), m) .ret e m' := fun e m' z h1 h2 h3 => by
     have : z = decide (mayN ⟨op, a, b, c, k, u, n⟩) := by rw [Bool.eq_iff_iff, decide_eq_true_eq]; exact h3
     rw [← this]
     exact leaves_fin rfl h1 h2
    subst hop
    repeat' (first | refine gos1 (jn @t1 (jn @q_eq (jn @t2 (jn @ll_eq @t3)))) ?_ | (refine ops_here ?_; (fail_if_success (refine ops_case (B := true) rfl rfl rfl ?_ ?_)); (fail_if_success (refine ops_case (B := false) rfl rfl rfl ?_ ?_)); refine ops_case rfl rfl rfl (fun hB => ?_) (fun hB => ?_) <;> rw [hB]) | (refine runs_here ?_; refine runs_cond rfl (fun hc => ?_) (fun hc => ?_) <;> first | (cases hc; done) | skip))
    all_goals exact fin _ _ _ rfl (by first | exact fin_push | exact fin_two) (by clear fin hx t1 t2 t3 hC; simp only [Bool.not_eq_true', Bool.not_eq_false', Bool.not_true, Bool.not_false, Bool.and_true, Bool.true_and, Bool.and_eq_true, Bool.and_eq_false_iff, decide_eq_true_eq, decide_eq_false_iff_not, Bool.false_eq_true, reduceCtorEq, false_iff, true_iff, beq_iff_eq, bne_iff_ne, beq_eq_false_iff_ne, bne_eq_false_iff_eq, ne_eq, not_false_eq_true, not_true_eq_false, true_or, or_true, true_implies, false_implies, implies_true, and_self, true_and, false_and, or_false, false_or, and_true, and_false] at *; simp only [mayN, inQ, lenMay, not_false_eq_true, not_true_eq_false, true_or, or_true, true_implies, false_implies, implies_true, and_self, true_and, false_and, or_false, false_or, and_true, and_false] at *; omega)
   ·cases h
  ·cases h
 ·cases h
theorem may_at3 : FunOk Tryz.prog 143 (mayAt fun op => decide (op = 3)) := by
 have hC := table_ok (P := Tryz.prog) (l := tabMay) (table_more number_ok (table_more lasts_ok (table_more count_ok table_nil)))
 have t1 := fun args mm => table_at (l := tabMay) (f := 158) (args := args) (m := mm) rfl
 have t2 := fun args mm => table_at (l := tabMay) (f := 159) (args := args) (m := mm) rfl
 have t3 := fun args mm => table_at (l := tabMay) (f := 160) (args := args) (m := mm) rfl
 refine fun_ok mixed hC Tryz.func143 rfl kpMay false rfl fun args m r h => ?_
 unfold mayAt at h
 split at h
 ·rename_i cs
  split at h
  ·rename_i x hx
   split at h
   ·rename_i hop
    obtain rfl := unNd_row hx
    obtain ⟨op, a, b, c, k, u, n⟩ := x
    have hop := of_decide_eq_true hop
    simp only at hop
    simp only [Option.some.injEq] at h
    subst h
    refine ⟨Nat.le_of_ble_eq_true rfl, ?_⟩
    refine en ?_
    have fin : ∀ (e : Env) (m' : Mem) (z : Bool), Ev.get e 2 = .v (.bool z) → finMem m m' = m → (z = true ↔ mayN ⟨op, a, b, c, k, u, n⟩) → Leaves Tryz.prog false Tryz.f143 m (.v (.bool (decide (mayN ⟨op, a, b, c, k, u, n⟩))), m) .ret e m' := fun e m' z h1 h2 h3 => by
     have : z = decide (mayN ⟨op, a, b, c, k, u, n⟩) := by rw [Bool.eq_iff_iff, decide_eq_true_eq]; exact h3
     rw [← this]
     exact leaves_fin rfl h1 h2
    subst hop
    repeat' (first | refine gos1 (jn @t1 (jn @q_eq (jn @t2 (jn @ll_eq @t3)))) ?_ | (refine ops_here ?_; (fail_if_success (refine ops_case (B := true) rfl rfl rfl ?_ ?_)); (fail_if_success (refine ops_case (B := false) rfl rfl rfl ?_ ?_)); refine ops_case rfl rfl rfl (fun hB => ?_) (fun hB => ?_) <;> rw [hB]) | (refine runs_here ?_; refine runs_cond rfl (fun hc => ?_) (fun hc => ?_) <;> first | (cases hc; done) | skip))
    all_goals exact fin _ _ _ rfl (by first | exact fin_push | exact fin_two) (by clear fin hx t1 t2 t3 hC; simp only [Bool.not_eq_true', Bool.not_eq_false', Bool.not_true, Bool.not_false, Bool.and_true, Bool.true_and, Bool.and_eq_true, Bool.and_eq_false_iff, decide_eq_true_eq, decide_eq_false_iff_not, Bool.false_eq_true, reduceCtorEq, false_iff, true_iff, beq_iff_eq, bne_iff_ne, beq_eq_false_iff_ne, bne_eq_false_iff_eq, ne_eq, not_false_eq_true, not_true_eq_false, true_or, or_true, true_implies, false_implies, implies_true, and_self, true_and, false_and, or_false, false_or, and_true, and_false] at *; simp only [mayN, inQ, lenMay, not_false_eq_true, not_true_eq_false, true_or, or_true, true_implies, false_implies, implies_true, and_self, true_and, false_and, or_false, false_or, and_true, and_false] at *; omega)
   ·cases h
  ·cases h
 ·cases h
end
section
set_option maxHeartbeats 16000000
set_option linter.unusedVariables false
set_option linter.unusedSimpArgs false
attribute [local irreducible] Next Inside Runs Ops table nrow
attribute [local go_sem] szStr szInt Option.getD_some isNil evStr loadOne newNode cellsNode nf0 nf1 nf2 nf3 nf4 nf5 nh0 nh1 nh2 nh3 nh4 nh5 loadNodeLen underInt underLen underNode topNode zeroNode okNode putNode putC putLen mkKept mkA mkAB mkAL mkL niNode eqNode Nat.zero_add
theorem may_at4 : FunOk Tryz.prog 143 (mayAt fun op => decide (op = 4)) := by
 have hC := table_ok (P := Tryz.prog) (l := tabMay) (table_more number_ok (table_more lasts_ok (table_more count_ok table_nil)))
 have t1 := fun args mm => table_at (l := tabMay) (f := 158) (args := args) (m := mm) rfl
 have t2 := fun args mm => table_at (l := tabMay) (f := 159) (args := args) (m := mm) rfl
 have t3 := fun args mm => table_at (l := tabMay) (f := 160) (args := args) (m := mm) rfl
 refine fun_ok mixed hC Tryz.func143 rfl kpMay false rfl fun args m r h => ?_
 unfold mayAt at h
 split at h
 ·rename_i cs
  split at h
  ·rename_i x hx
   split at h
   ·rename_i hop
    obtain rfl := unNd_row hx
    obtain ⟨op, a, b, c, k, u, n⟩ := x
    have hop := of_decide_eq_true hop
    simp only at hop
    simp only [Option.some.injEq] at h
    subst h
    refine ⟨Nat.le_of_ble_eq_true rfl, ?_⟩
    refine en ?_
    have fin : ∀ (e : Env) (m' : Mem) (z : Bool), Ev.get e 2 = .v (.bool z) → finMem m m' = m → (z = true ↔ mayN ⟨op, a, b, c, k, u, n⟩) → Leaves Tryz.prog false Tryz.f143 m (.v (.bool (decide (mayN ⟨op, a, b, c, k, u, n⟩))), m) .ret e m' := fun e m' z h1 h2 h3 => by
     have : z = decide (mayN ⟨op, a, b, c, k, u, n⟩) := by rw [Bool.eq_iff_iff, decide_eq_true_eq]; exact h3
     rw [← this]
     exact leaves_fin rfl h1 h2
    subst hop
    repeat' (first | refine gos1 (jn @t1 (jn @q_eq (jn @t2 (jn @ll_eq @t3)))) ?_ | (refine ops_here ?_; (fail_if_success (refine ops_case (B := true) rfl rfl rfl ?_ ?_)); (fail_if_success (refine ops_case (B := false) rfl rfl rfl ?_ ?_)); refine ops_case rfl rfl rfl (fun hB => ?_) (fun hB => ?_) <;> rw [hB]) | (refine runs_here ?_; refine runs_cond rfl (fun hc => ?_) (fun hc => ?_) <;> first | (cases hc; done) | skip))
    all_goals exact fin _ _ _ rfl (by first | exact fin_push | exact fin_two) (by clear fin hx t1 t2 t3 hC; simp only [Bool.not_eq_true', Bool.not_eq_false', Bool.not_true, Bool.not_false, Bool.and_true, Bool.true_and, Bool.and_eq_true, Bool.and_eq_false_iff, decide_eq_true_eq, decide_eq_false_iff_not, Bool.false_eq_true, reduceCtorEq, false_iff, true_iff, beq_iff_eq, bne_iff_ne, beq_eq_false_iff_ne, bne_eq_false_iff_eq, ne_eq, not_false_eq_true, not_true_eq_false, true_or, or_true, true_implies, false_implies, implies_true, and_self, true_and, false_and, or_false, false_or, and_true, and_false] at *; simp only [mayN, inQ, lenMay, not_false_eq_true, not_true_eq_false, true_or, or_true, true_implies, false_implies, implies_true, and_self, true_and, false_and, or_false, false_or, and_true, and_false] at *; omega)
   ·cases h
  ·cases h
 ·cases h
theorem may_at5 : FunOk Tryz.prog 143 (mayAt fun op => decide (op = 5)) := by
 have hC := table_ok (P := Tryz.prog) (l := tabMay) (table_more number_ok (table_more lasts_ok (table_more count_ok table_nil)))
 have t1 := fun args mm => table_at (l := tabMay) (f := 158) (args := args) (m := mm) rfl
 have t2 := fun args mm => table_at (l := tabMay) (f := 159) (args := args) (m := mm) rfl
 have t3 := fun args mm => table_at (l := tabMay) (f := 160) (args := args) (m := mm) rfl
 refine fun_ok mixed hC Tryz.func143 rfl kpMay false rfl fun args m r h => ?_
 unfold mayAt at h
 split at h
 ·rename_i cs
  split at h
  ·rename_i x hx
   split at h
   ·rename_i hop
    obtain rfl := unNd_row hx
    obtain ⟨op, a, b, c, k, u, n⟩ := x
    have hop := of_decide_eq_true hop
    simp only at hop
    simp only [Option.some.injEq] at h
    subst h
    refine ⟨Nat.le_of_ble_eq_true rfl, ?_⟩
    refine en ?_
    have fin : ∀ (e : Env) (m' : Mem) (z : Bool), Ev.get e 2 = .v (.bool z) → finMem m m' = m → (z = true ↔ mayN ⟨op, a, b, c, k, u, n⟩) → Leaves Tryz.prog false Tryz.f143 m (.v (.bool (decide (mayN ⟨op, a, b, c, k, u, n⟩))), m) .ret e m' := fun e m' z h1 h2 h3 => by
     have : z = decide (mayN ⟨op, a, b, c, k, u, n⟩) := by rw [Bool.eq_iff_iff, decide_eq_true_eq]; exact h3
     rw [← this]
     exact leaves_fin rfl h1 h2
    subst hop
    repeat' (first | refine gos1 (jn @t1 (jn @q_eq (jn @t2 (jn @ll_eq @t3)))) ?_ | (refine ops_here ?_; (fail_if_success (refine ops_case (B := true) rfl rfl rfl ?_ ?_)); (fail_if_success (refine ops_case (B := false) rfl rfl rfl ?_ ?_)); refine ops_case rfl rfl rfl (fun hB => ?_) (fun hB => ?_) <;> rw [hB]) | (refine runs_here ?_; refine runs_cond rfl (fun hc => ?_) (fun hc => ?_) <;> first | (cases hc; done) | skip))
    all_goals exact fin _ _ _ rfl (by first | exact fin_push | exact fin_two) (by clear fin hx t1 t2 t3 hC; simp only [Bool.not_eq_true', Bool.not_eq_false', Bool.not_true, Bool.not_false, Bool.and_true, Bool.true_and, Bool.and_eq_true, Bool.and_eq_false_iff, decide_eq_true_eq, decide_eq_false_iff_not, Bool.false_eq_true, reduceCtorEq, false_iff, true_iff, beq_iff_eq, bne_iff_ne, beq_eq_false_iff_ne, bne_eq_false_iff_eq, ne_eq, not_false_eq_true, not_true_eq_false, true_or, or_true, true_implies, false_implies, implies_true, and_self, true_and, false_and, or_false, false_or, and_true, and_false] at *; simp only [mayN, inQ, lenMay, not_false_eq_true, not_true_eq_false, true_or, or_true, true_implies, false_implies, implies_true, and_self, true_and, false_and, or_false, false_or, and_true, and_false] at *; omega)
   ·cases h
  ·cases h
 ·cases h
end
section
set_option maxHeartbeats 16000000
set_option linter.unusedVariables false
set_option linter.unusedSimpArgs false
attribute [local irreducible] Next Inside Runs Ops table nrow
attribute [local go_sem] szStr szInt Option.getD_some isNil evStr loadOne newNode cellsNode nf0 nf1 nf2 nf3 nf4 nf5 nh0 nh1 nh2 nh3 nh4 nh5 loadNodeLen underInt underLen underNode topNode zeroNode okNode putNode putC putLen mkKept mkA mkAB mkAL mkL niNode eqNode Nat.zero_add
theorem may_at6 : FunOk Tryz.prog 143 (mayAt fun op => decide (op = 6)) := by
 have hC := table_ok (P := Tryz.prog) (l := tabMay) (table_more number_ok (table_more lasts_ok (table_more count_ok table_nil)))
 have t1 := fun args mm => table_at (l := tabMay) (f := 158) (args := args) (m := mm) rfl
 have t2 := fun args mm => table_at (l := tabMay) (f := 159) (args := args) (m := mm) rfl
 have t3 := fun args mm => table_at (l := tabMay) (f := 160) (args := args) (m := mm) rfl
 refine fun_ok mixed hC Tryz.func143 rfl kpMay false rfl fun args m r h => ?_
 unfold mayAt at h
 split at h
 ·rename_i cs
  split at h
  ·rename_i x hx
   split at h
   ·rename_i hop
    obtain rfl := unNd_row hx
    obtain ⟨op, a, b, c, k, u, n⟩ := x
    have hop := of_decide_eq_true hop
    simp only at hop
    simp only [Option.some.injEq] at h
    subst h
    refine ⟨Nat.le_of_ble_eq_true rfl, ?_⟩
    refine en ?_
    have fin : ∀ (e : Env) (m' : Mem) (z : Bool), Ev.get e 2 = .v (.bool z) → finMem m m' = m → (z = true ↔ mayN ⟨op, a, b, c, k, u, n⟩) → Leaves Tryz.prog false Tryz.f143 m (.v (.bool (decide (mayN ⟨op, a, b, c, k, u, n⟩))), m) .ret e m' := fun e m' z h1 h2 h3 => by
     have : z = decide (mayN ⟨op, a, b, c, k, u, n⟩) := by rw [Bool.eq_iff_iff, decide_eq_true_eq]; exact h3
     rw [← this]
     exact leaves_fin rfl h1 h2
    subst hop
    repeat' (first | refine gos1 (jn @t1 (jn @q_eq (jn @t2 (jn @ll_eq @t3)))) ?_ | (refine ops_here ?_; (fail_if_success (refine ops_case (B := true) rfl rfl rfl ?_ ?_)); (fail_if_success (refine ops_case (B := false) rfl rfl rfl ?_ ?_)); refine ops_case rfl rfl rfl (fun hB => ?_) (fun hB => ?_) <;> rw [hB]) | (refine runs_here ?_; refine runs_cond rfl (fun hc => ?_) (fun hc => ?_) <;> first | (cases hc; done) | skip))
    all_goals exact fin _ _ _ rfl (by first | exact fin_push | exact fin_two) (by clear fin hx t1 t2 t3 hC; simp only [Bool.not_eq_true', Bool.not_eq_false', Bool.not_true, Bool.not_false, Bool.and_true, Bool.true_and, Bool.and_eq_true, Bool.and_eq_false_iff, decide_eq_true_eq, decide_eq_false_iff_not, Bool.false_eq_true, reduceCtorEq, false_iff, true_iff, beq_iff_eq, bne_iff_ne, beq_eq_false_iff_ne, bne_eq_false_iff_eq, ne_eq, not_false_eq_true, not_true_eq_false, true_or, or_true, true_implies, false_implies, implies_true, and_self, true_and, false_and, or_false, false_or, and_true, and_false] at *; simp only [mayN, inQ, lenMay, not_false_eq_true, not_true_eq_false, true_or, or_true, true_implies, false_implies, implies_true, and_self, true_and, false_and, or_false, false_or, and_true, and_false] at *; omega)
   ·cases h
  ·cases h
 ·cases h
theorem may_at7 : FunOk Tryz.prog 143 (mayAt fun op => decide (op = 7)) := by
 have hC := table_ok (P := Tryz.prog) (l := tabMay) (table_more number_ok (table_more lasts_ok (table_more count_ok table_nil)))
 have t1 := fun args mm => table_at (l := tabMay) (f := 158) (args := args) (m := mm) rfl
 have t2 := fun args mm => table_at (l := tabMay) (f := 159) (args := args) (m := mm) rfl
 have t3 := fun args mm => table_at (l := tabMay) (f := 160) (args := args) (m := mm) rfl
 refine fun_ok mixed hC Tryz.func143 rfl kpMay false rfl fun args m r h => ?_
 unfold mayAt at h
 split at h
 ·rename_i cs
  split at h
  ·rename_i x hx
   split at h
   ·rename_i hop
    obtain rfl := unNd_row hx
    obtain ⟨op, a, b, c, k, u, n⟩ := x
    have hop := of_decide_eq_true hop
    simp only at hop
    simp only [Option.some.injEq] at h
    subst h
    refine ⟨Nat.le_of_ble_eq_true rfl, ?_⟩
    refine en ?_
    have fin : ∀ (e : Env) (m' : Mem) (z : Bool), Ev.get e 2 = .v (.bool z) → finMem m m' = m → (z = true ↔ mayN ⟨op, a, b, c, k, u, n⟩) → Leaves Tryz.prog false Tryz.f143 m (.v (.bool (decide (mayN ⟨op, a, b, c, k, u, n⟩))), m) .ret e m' := fun e m' z h1 h2 h3 => by
     have : z = decide (mayN ⟨op, a, b, c, k, u, n⟩) := by rw [Bool.eq_iff_iff, decide_eq_true_eq]; exact h3
     rw [← this]
     exact leaves_fin rfl h1 h2
    subst hop
    repeat' (first | refine gos1 (jn @t1 (jn @q_eq (jn @t2 (jn @ll_eq @t3)))) ?_ | (refine ops_here ?_; (fail_if_success (refine ops_case (B := true) rfl rfl rfl ?_ ?_)); (fail_if_success (refine ops_case (B := false) rfl rfl rfl ?_ ?_)); refine ops_case rfl rfl rfl (fun hB => ?_) (fun hB => ?_) <;> rw [hB]) | (refine runs_here ?_; refine runs_cond rfl (fun hc => ?_) (fun hc => ?_) <;> first | (cases hc; done) | skip))
    all_goals exact fin _ _ _ rfl (by first | exact fin_push | exact fin_two) (by clear fin hx t1 t2 t3 hC; simp only [Bool.not_eq_true', Bool.not_eq_false', Bool.not_true, Bool.not_false, Bool.and_true, Bool.true_and, Bool.and_eq_true, Bool.and_eq_false_iff, decide_eq_true_eq, decide_eq_false_iff_not, Bool.false_eq_true, reduceCtorEq, false_iff, true_iff, beq_iff_eq, bne_iff_ne, beq_eq_false_iff_ne, bne_eq_false_iff_eq, ne_eq, not_false_eq_true, not_true_eq_false, true_or, or_true, true_implies, false_implies, implies_true, and_self, true_and, false_and, or_false, false_or, and_true, and_false] at *; simp only [mayN, inQ, lenMay, not_false_eq_true, not_true_eq_false, true_or, or_true, true_implies, false_implies, implies_true, and_self, true_and, false_and, or_false, false_or, and_true, and_false] at *; omega)
   ·cases h
  ·cases h
 ·cases h
end
section
set_option maxHeartbeats 16000000
set_option linter.unusedVariables false
set_option linter.unusedSimpArgs false
attribute [local irreducible] Next Inside Runs Ops table nrow
attribute [local go_sem] szStr szInt Option.getD_some isNil evStr loadOne newNode cellsNode nf0 nf1 nf2 nf3 nf4 nf5 nh0 nh1 nh2 nh3 nh4 nh5 loadNodeLen underInt underLen underNode topNode zeroNode okNode putNode putC putLen mkKept mkA mkAB mkAL mkL niNode eqNode Nat.zero_add
theorem may_at8 : FunOk Tryz.prog 143 (mayAt fun op => decide (op = 8)) := by
 have hC := table_ok (P := Tryz.prog) (l := tabMay) (table_more number_ok (table_more lasts_ok (table_more count_ok table_nil)))
 have t1 := fun args mm => table_at (l := tabMay) (f := 158) (args := args) (m := mm) rfl
 have t2 := fun args mm => table_at (l := tabMay) (f := 159) (args := args) (m := mm) rfl
 have t3 := fun args mm => table_at (l := tabMay) (f := 160) (args := args) (m := mm) rfl
 refine fun_ok mixed hC Tryz.func143 rfl kpMay false rfl fun args m r h => ?_
 unfold mayAt at h
 split at h
 ·rename_i cs
  split at h
  ·rename_i x hx
   split at h
   ·rename_i hop
    obtain rfl := unNd_row hx
    obtain ⟨op, a, b, c, k, u, n⟩ := x
    have hop := of_decide_eq_true hop
    simp only at hop
    simp only [Option.some.injEq] at h
    subst h
    refine ⟨Nat.le_of_ble_eq_true rfl, ?_⟩
    refine en ?_
    have fin : ∀ (e : Env) (m' : Mem) (z : Bool), Ev.get e 2 = .v (.bool z) → finMem m m' = m → (z = true ↔ mayN ⟨op, a, b, c, k, u, n⟩) → Leaves Tryz.prog false Tryz.f143 m (.v (.bool (decide (mayN ⟨op, a, b, c, k, u, n⟩))), m) .ret e m' := fun e m' z h1 h2 h3 => by
     have : z = decide (mayN ⟨op, a, b, c, k, u, n⟩) := by rw [Bool.eq_iff_iff, decide_eq_true_eq]; exact h3
     rw [← this]
     exact leaves_fin rfl h1 h2
    subst hop
    repeat' (first | refine gos1 (jn @t1 (jn @q_eq (jn @t2 (jn @ll_eq @t3)))) ?_ | (refine ops_here ?_; (fail_if_success (refine ops_case (B := true) rfl rfl rfl ?_ ?_)); (fail_if_success (refine ops_case (B := false) rfl rfl rfl ?_ ?_)); refine ops_case rfl rfl rfl (fun hB => ?_) (fun hB => ?_) <;> rw [hB]) | (refine runs_here ?_; refine runs_cond rfl (fun hc => ?_) (fun hc => ?_) <;> first | (cases hc; done) | skip))
    all_goals exact fin _ _ _ rfl (by first | exact fin_push | exact fin_two) (by clear fin hx t1 t2 t3 hC; simp only [Bool.not_eq_true', Bool.not_eq_false', Bool.not_true, Bool.not_false, Bool.and_true, Bool.true_and, Bool.and_eq_true, Bool.and_eq_false_iff, decide_eq_true_eq, decide_eq_false_iff_not, Bool.false_eq_true, reduceCtorEq, false_iff, true_iff, beq_iff_eq, bne_iff_ne, beq_eq_false_iff_ne, bne_eq_false_iff_eq, ne_eq, not_false_eq_true, not_true_eq_false, true_or, or_true, true_implies, false_implies, implies_true, and_self, true_and, false_and, or_false, false_or, and_true, and_false] at *; simp only [mayN, inQ, lenMay, not_false_eq_true, not_true_eq_false, true_or, or_true, true_implies, false_implies, implies_true, and_self, true_and, false_and, or_false, false_or, and_true, and_false] at *; omega)
   ·cases h
  ·cases h
 ·cases h
theorem may_at9 : FunOk Tryz.prog 143 (mayAt fun op => decide (op = 9)) := by
 have hC := table_ok (P := Tryz.prog) (l := tabMay) (table_more number_ok (table_more lasts_ok (table_more count_ok table_nil)))
 have t1 := fun args mm => table_at (l := tabMay) (f := 158) (args := args) (m := mm) rfl
 have t2 := fun args mm => table_at (l := tabMay) (f := 159) (args := args) (m := mm) rfl
 have t3 := fun args mm => table_at (l := tabMay) (f := 160) (args := args) (m := mm) rfl
 refine fun_ok mixed hC Tryz.func143 rfl kpMay false rfl fun args m r h => ?_
 unfold mayAt at h
 split at h
 ·rename_i cs
  split at h
  ·rename_i x hx
   split at h
   ·rename_i hop
    obtain rfl := unNd_row hx
    obtain ⟨op, a, b, c, k, u, n⟩ := x
    have hop := of_decide_eq_true hop
    simp only at hop
    simp only [Option.some.injEq] at h
    subst h
    refine ⟨Nat.le_of_ble_eq_true rfl, ?_⟩
    refine en ?_
    have fin : ∀ (e : Env) (m' : Mem) (z : Bool), Ev.get e 2 = .v (.bool z) → finMem m m' = m → (z = true ↔ mayN ⟨op, a, b, c, k, u, n⟩) → Leaves Tryz.prog false Tryz.f143 m (.v (.bool (decide (mayN ⟨op, a, b, c, k, u, n⟩))), m) .ret e m' := fun e m' z h1 h2 h3 => by
     have : z = decide (mayN ⟨op, a, b, c, k, u, n⟩) := by rw [Bool.eq_iff_iff, decide_eq_true_eq]; exact h3
     rw [← this]
     exact leaves_fin rfl h1 h2
    subst hop
    repeat' (first | refine gos1 (jn @t1 (jn @q_eq (jn @t2 (jn @ll_eq @t3)))) ?_ | (refine ops_here ?_; (fail_if_success (refine ops_case (B := true) rfl rfl rfl ?_ ?_)); (fail_if_success (refine ops_case (B := false) rfl rfl rfl ?_ ?_)); refine ops_case rfl rfl rfl (fun hB => ?_) (fun hB => ?_) <;> rw [hB]) | (refine runs_here ?_; refine runs_cond rfl (fun hc => ?_) (fun hc => ?_) <;> first | (cases hc; done) | skip))
    all_goals exact fin _ _ _ rfl (by first | exact fin_push | exact fin_two) (by clear fin hx t1 t2 t3 hC; simp only [Bool.not_eq_true', Bool.not_eq_false', Bool.not_true, Bool.not_false, Bool.and_true, Bool.true_and, Bool.and_eq_true, Bool.and_eq_false_iff, decide_eq_true_eq, decide_eq_false_iff_not, Bool.false_eq_true, reduceCtorEq, false_iff, true_iff, beq_iff_eq, bne_iff_ne, beq_eq_false_iff_ne, bne_eq_false_iff_eq, ne_eq, not_false_eq_true, not_true_eq_false, true_or, or_true, true_implies, false_implies, implies_true, and_self, true_and, false_and, or_false, false_or, and_true, and_false] at *; simp only [mayN, inQ, lenMay, not_false_eq_true, not_true_eq_false, true_or, or_true, true_implies, false_implies, implies_true, and_self, true_and, false_and, or_false, false_or, and_true, and_false] at *; omega)
   ·cases h
  ·cases h
 ·cases h
theorem may_else : FunOk Tryz.prog 143 (mayAt fun op => decide (op < 1 ∨ 9 < op)) := by
 have hC := table_ok (P := Tryz.prog) (l := tabMay) (table_more number_ok (table_more lasts_ok (table_more count_ok table_nil)))
 have t1 := fun args mm => table_at (l := tabMay) (f := 158) (args := args) (m := mm) rfl
 have t2 := fun args mm => table_at (l := tabMay) (f := 159) (args := args) (m := mm) rfl
 have t3 := fun args mm => table_at (l := tabMay) (f := 160) (args := args) (m := mm) rfl
 refine fun_ok mixed hC Tryz.func143 rfl kpMay false rfl fun args m r h => ?_
 unfold mayAt at h
 split at h
 ·rename_i cs
  split at h
  ·rename_i x hx
   split at h
   ·rename_i hop
    obtain rfl := unNd_row hx
    obtain ⟨op, a, b, c, k, u, n⟩ := x
    have hop := of_decide_eq_true hop
    simp only at hop
    simp only [Option.some.injEq] at h
    subst h
    refine ⟨Nat.le_of_ble_eq_true rfl, ?_⟩
    refine en ?_
    have fin : ∀ (e : Env) (m' : Mem) (z : Bool), Ev.get e 2 = .v (.bool z) → finMem m m' = m → (z = true ↔ mayN ⟨op, a, b, c, k, u, n⟩) → Leaves Tryz.prog false Tryz.f143 m (.v (.bool (decide (mayN ⟨op, a, b, c, k, u, n⟩))), m) .ret e m' := fun e m' z h1 h2 h3 => by
     have : z = decide (mayN ⟨op, a, b, c, k, u, n⟩) := by rw [Bool.eq_iff_iff, decide_eq_true_eq]; exact h3
     rw [← this]
     exact leaves_fin rfl h1 h2
    have e1 : (op == 1) = false := beq_eq_false_iff_ne.2 (by omega)
    have e2 : (op == 2) = false := beq_eq_false_iff_ne.2 (by omega)
    have e3 : (op == 3) = false := beq_eq_false_iff_ne.2 (by omega)
    have e4 : (op == 4) = false := beq_eq_false_iff_ne.2 (by omega)
    have e5 : (op == 5) = false := beq_eq_false_iff_ne.2 (by omega)
    have e6 : (op == 6) = false := beq_eq_false_iff_ne.2 (by omega)
    have e7 : (op == 7) = false := beq_eq_false_iff_ne.2 (by omega)
    have e8 : (op == 8) = false := beq_eq_false_iff_ne.2 (by omega)
    have e9 : (op == 9) = false := beq_eq_false_iff_ne.2 (by omega)
    repeat' (first | refine gos1 (jn @t1 (jn @q_eq (jn @t2 (jn @ll_eq (jn @t3 (jn @e1 (jn @e2 (jn @e3 (jn @e4 (jn @e5 (jn @e6 (jn @e7 @e8)))))))))))) ?_ | (refine ops_here ?_; (fail_if_success (refine ops_case (B := true) rfl rfl rfl ?_ ?_)); (fail_if_success (refine ops_case (B := false) rfl rfl rfl ?_ ?_)); refine ops_case rfl rfl rfl (fun hB => ?_) (fun hB => ?_) <;> rw [hB]) | (refine runs_here ?_; refine runs_cond rfl (fun hc => ?_) (fun hc => ?_) <;> first | (cases hc; done) | skip))
    all_goals exact fin _ _ _ rfl (by first | exact fin_push | exact fin_two) (by clear fin hx t1 t2 t3 hC; simp only [Bool.not_eq_true', Bool.not_eq_false', Bool.not_true, Bool.not_false, Bool.and_true, Bool.true_and, Bool.and_eq_true, Bool.and_eq_false_iff, decide_eq_true_eq, decide_eq_false_iff_not, Bool.false_eq_true, reduceCtorEq, false_iff, true_iff, beq_iff_eq, bne_iff_ne, beq_eq_false_iff_ne, bne_eq_false_iff_eq, ne_eq, not_false_eq_true, not_true_eq_false, true_or, or_true, true_implies, false_implies, implies_true, and_self, true_and, false_and, or_false, false_or, and_true, and_false] at *; simp only [mayN, inQ, lenMay, not_false_eq_true, not_true_eq_false, true_or, or_true, true_implies, false_implies, implies_true, and_self, true_and, false_and, or_false, false_or, and_true, and_false] at *; omega)
   ·cases h
  ·cases h
 ·cases h
end
section
theorem may_ok : FunOk Tryz.prog 143 mayG := may_all fun op => by
 rcases (by omega : (op < 1 ∨ 9 < op) ∨ op = 1 ∨ op = 2 ∨ op = 3 ∨ op = 4 ∨ op = 5 ∨ op = 6 ∨ op = 7 ∨ op = 8 ∨ op = 9) with h | h | h | h | h | h | h | h | h | h
 ·exact ⟨_, decide_eq_true h, may_else⟩
 ·exact ⟨_, decide_eq_true h, may_at1⟩
 ·exact ⟨_, decide_eq_true h, may_at2⟩
 ·exact ⟨_, decide_eq_true h, may_at3⟩
 ·exact ⟨_, decide_eq_true h, may_at4⟩
 ·exact ⟨_, decide_eq_true h, may_at5⟩
 ·exact ⟨_, decide_eq_true h, may_at6⟩
 ·exact ⟨_, decide_eq_true h, may_at7⟩
 ·exact ⟨_, decide_eq_true h, may_at8⟩
 ·exact ⟨_, decide_eq_true h, may_at9⟩
end
section
attribute [local irreducible] Next Inside Runs Ops table
def cwords : List ByteArray := [⟨#[]⟩, ⟨#[99, 111, 110, 115, 116]⟩, ⟨#[108, 105, 110, 101]⟩, ⟨#[112, 111, 108, 121]⟩, ⟨#[101, 120, 112]⟩, ⟨#[119, 97, 118, 101]⟩]
theorem mkWords6 : evBuild Tryz.prog 163 [(0, .v (.string ⟨#[]⟩)), (1, .v (.string ⟨#[99, 111, 110, 115, 116]⟩)), (2, .v (.string ⟨#[108, 105, 110, 101]⟩)), (3, .v (.string ⟨#[112, 111, 108, 121]⟩)), (4, .v (.string ⟨#[101, 120, 112]⟩)), (5, .v (.string ⟨#[119, 97, 118, 101]⟩))] = some (.agg (strCells cwords)) := by kernel_rfl
theorem zeroWords6 : zeroCells Tryz.prog 163 = some (strCells [⟨#[]⟩, ⟨#[]⟩, ⟨#[]⟩, ⟨#[]⟩, ⟨#[]⟩, ⟨#[]⟩]) := by kernel_rfl
theorem okWords6 : (strCells [⟨#[]⟩, ⟨#[]⟩, ⟨#[]⟩, ⟨#[]⟩, ⟨#[]⟩, ⟨#[]⟩]).all okCell = true := rfl
theorem szWords6 : tSize Tryz.prog 163 = some 6 := by kernel_rfl
theorem arrWords6 : tArr Tryz.prog 163 = some (6, 9) := by simp only [tArr, Tryz.underlying163]
theorem newWords6 {m : Mem} : newVar m m.vars.length (strCells [⟨#[]⟩, ⟨#[]⟩, ⟨#[]⟩, ⟨#[]⟩, ⟨#[]⟩, ⟨#[]⟩]) = some (m.push (strCells [⟨#[]⟩, ⟨#[]⟩, ⟨#[]⟩, ⟨#[]⟩, ⟨#[]⟩, ⟨#[]⟩])) := newVar_push rfl
theorem putWords6 {m : Mem} : evStore Tryz.prog (m.push (strCells [⟨#[]⟩, ⟨#[]⟩, ⟨#[]⟩, ⟨#[]⟩, ⟨#[]⟩, ⟨#[]⟩])) 163 (.ptr m.vars.length 0) (.agg (strCells cwords)) = some (m.push (strCells cwords)) := by
 rw [store_push (cs := strCells cwords) rfl szWords6 (by decide) rfl]
 rfl
attribute [local go_sem] szStr szInt Option.getD_some isNil loadStr loadInt mkInts0 mkInts1 mkStrs0 mkStrs1 rowsS_len rowsI_len rowsN_len evStr fldOp ldOp mkWords6 zeroWords6 okWords6 newWords6 putWords6
def cword (op : Int) : ByteArray := if 0 ≤ op ∧ op < 6 then cwords.getD op.toNat ⟨#[]⟩ else ⟨#[]⟩
def wordG : List AV → Mem → Option (AV × Mem)
 | [.v (.int .i64 op)], m => some (.v (.string (cword op)), m)
 | _, _ => none
def kpWord : Nat → Option (List Nat) := fun _ => some [0, 2, 3, 10]
attribute [go_sem] kpWord
theorem word_ok : FunOk Tryz.prog 150 wordG := by
 have hC := table_ok (P := Tryz.prog) (l := []) table_nil
 refine fun_ok mixed hC Tryz.func150 rfl kpWord false rfl fun args m r h => ?_
 unfold wordG at h
 split at h
 ·rename_i op
  simp only [Option.some.injEq] at h
  subst h
  refine ⟨Nat.le_of_ble_eq_true rfl, ?_⟩
  refine en ?_
  by_cases h0 : op < 0
  ·have b0 : decide (op < 0) = true := decide_eq_true h0
   rw [show cword op = ⟨#[]⟩ from if_neg (by omega)]
   refine go1 @b0 ?_
   refine runs_cond rfl (fun hc => ?_) (fun hc => by cases hc)
   refine go0 ?_
   exact leaves_fin rfl rfl fin_push
  ·have b0 : decide (op < 0) = false := decide_eq_false h0
   refine go1 @b0 ?_
   refine runs_cond rfl (fun hc => ?_) (fun hc => ?_)
   ·have := of_decide_eq_true hc
    rw [show cword op = ⟨#[]⟩ from if_neg (by omega)]
    refine go0 ?_
    exact leaves_fin rfl rfl fin_push
   ·have h6 := of_decide_eq_false hc
    obtain ⟨i, rfl⟩ := Int.eq_ofNat_of_zero_le (by omega : 0 ≤ op)
    have f1 := indexAddr_arr (P := Tryz.prog) (kk := .i64) (r := m.vars.length) (off := 0) arrWords6 szStr (by omega : i < 6)
    have f2 := loadVarS (m := m) (cs := strCells cwords) (off := 0 + i * 1)
    have f3 : ((strCells cwords).drop (0 + i * 1)).head? = some (.v (.string (cword (i : Int)))) := by
     rw [show cword (i : Int) = cwords.getD i ⟨#[]⟩ from if_pos ⟨by omega, by omega⟩]
     rcases (by omega : i = 0 ∨ i = 1 ∨ i = 2 ∨ i = 3 ∨ i = 4 ∨ i = 5) with rfl | rfl | rfl | rfl | rfl | rfl <;> rfl
    rw [f3] at f2
    refine go1 (jn @f1 @f2) ?_
    exact leaves_fin rfl rfl fin_push
 ·cases h
/-! ### arity -/
def arityOf (op : Int) : Int := if op < 1 ∨ 9 < op then -1 else if op ≤ 7 then 0 else op - 7
theorem arity_in (op : Int) : -1 ≤ arityOf op ∧ arityOf op ≤ 2 := by unfold arityOf; split <;> (try split) <;> omega
def arityG : List AV → Mem → Option (AV × Mem)
 | [.v (.int .i64 op)], m => some (.v (.int .i64 (arityOf op)), m)
 | _, _ => none
def kpArity : Nat → Option (List Nat) := fun _ => some [0, 2, 3, 11, 14]
attribute [go_sem] kpArity
set_option maxHeartbeats 1000000 in
theorem arity_ok : FunOk Tryz.prog 115 arityG := by
 have hC := table_ok (P := Tryz.prog) (l := [(150, wordG)]) (table_more word_ok table_nil)
 have t1 := fun args mm => table_at (l := [(150, wordG)]) (f := 150) (args := args) (m := mm) rfl
 refine fun_ok mixed hC Tryz.func115 rfl kpArity false rfl fun args m r h => ?_
 unfold arityG at h
 split at h
 ·rename_i op
  simp only [Option.some.injEq] at h
  subst h
  refine ⟨Nat.le_of_ble_eq_true rfl, ?_⟩
  refine en ?_
  have fw : ∀ mm, wordG [.v (.int .i64 op)] mm = some (.v (.string (cword op)), mm) := fun _ => rfl
  refine go1 (jn @t1 @fw) ?_
  refine runs_cond rfl (fun hc => ?_) (fun hc => ?_)
  ·have hop : 1 ≤ op ∧ op ≤ 5 := by
    have hne := bytes_ne.1 hc
    unfold cword at hne
    split at hne
    ·rename_i h
     refine ⟨?_, by omega⟩
     rcases (by omega : op = 0 ∨ 1 ≤ op) with rfl | h1
     ·exact absurd rfl hne
     ·exact h1
    ·exact absurd rfl hne
   rw [show arityOf op = 0 by unfold arityOf; rw [if_neg (by omega), if_pos (by omega)]]
   refine go0 ?_
   refine runs_cond rfl (fun _ => ?_) (fun hf => absurd (hc.symm.trans hf) (by decide))
   refine go0 ?_
   exact leaves_v rfl rfl
  ·have hop : ¬ (1 ≤ op ∧ op ≤ 5) := by
    intro h
    have hne : (cword op != ⟨#[]⟩) = true := by
     rcases (by omega : op = 1 ∨ op = 2 ∨ op = 3 ∨ op = 4 ∨ op = 5) with rfl | rfl | rfl | rfl | rfl <;> decide
    exact absurd (hne.symm.trans hc) (by decide)
   refine go0 ?_
   refine runs_cond rfl (fun h6 => ?_) (fun h6 => ?_)
   ·have := eq_of_beq h6
    subst this
    refine go0 ?_
    refine runs_cond rfl (fun _ => ?_) (fun hf => by cases hf)
    refine go0 ?_
    exact leaves_v rfl rfl
   ·refine go0 ?_
    refine runs_cond rfl (fun h7 => ?_) (fun h7 => ?_)
    ·have := eq_of_beq h7
     subst this
     refine go0 ?_
     exact leaves_v rfl rfl
    ·refine go0 ?_
     refine runs_cond rfl (fun h8 => ?_) (fun h8 => ?_)
     ·have := eq_of_beq h8
      subst this
      refine go0 ?_
      exact leaves_v rfl rfl
     ·refine go0 ?_
      refine runs_cond rfl (fun h9 => ?_) (fun h9 => ?_)
      ·have := eq_of_beq h9
       subst this
       refine go0 ?_
       exact leaves_v rfl rfl
      ·have e6 := ne_of_beq_false h6
       have e7 := ne_of_beq_false h7
       have e8 := ne_of_beq_false h8
       have e9 := ne_of_beq_false h9
       rw [show arityOf op = -1 by unfold arityOf; exact if_pos (by omega)]
       refine go0 ?_
       exact leaves_v rfl rfl
 ·cases h
def kpRefArity : Nat → Option (List Nat) := fun _ => some [0, 2, 8, 10]
attribute [go_sem] kpRefArity
theorem refArity_ok : FunOk Tryz.prog 156 arityG := by
 have hC := table_ok (P := Tryz.prog) (l := []) table_nil
 refine fun_ok mixed hC Tryz.func156 rfl kpRefArity false rfl fun args m r h => ?_
 unfold arityG at h
 split at h
 ·rename_i op
  simp only [Option.some.injEq] at h
  subst h
  refine ⟨Nat.le_of_ble_eq_true rfl, ?_⟩
  refine en ?_
  by_cases h0 : op < 1
  ·have b0 : decide (op < 1) = true := decide_eq_true h0
   rw [show arityOf op = -1 from if_pos (.inl h0)]
   refine go1 @b0 ?_
   refine runs_cond rfl (fun hc => ?_) (fun hc => by cases hc)
   refine go0 ?_
   exact leaves_v rfl rfl
  ·have b0 : decide (op < 1) = false := decide_eq_false h0
   refine go1 @b0 ?_
   refine runs_cond rfl (fun hc => ?_) (fun hc => ?_)
   ·rw [show arityOf op = -1 from if_pos (.inr (of_decide_eq_true hc))]
    refine go0 ?_
    exact leaves_v rfl rfl
   ·have h9 := of_decide_eq_false hc
    have e : arityOf op = if op ≤ 7 then 0 else op - 7 := if_neg (by omega)
    refine go0 ?_
    refine runs_cond rfl (fun hc => ?_) (fun hc => ?_)
    ·rw [e, if_pos (of_decide_eq_true hc)]
     refine go0 ?_
     exact leaves_v rfl rfl
    ·have r1 : IntKind.i64.wrap (op - 7) = op - 7 := i64_wrap (by omega) (by omega)
     rw [e, if_neg (of_decide_eq_false hc)]
     refine go1 @r1 ?_
     exact leaves_v rfl rfl
 ·cases h
end
section
set_option maxHeartbeats 4000000
set_option linter.unusedVariables false
set_option linter.unusedSimpArgs false
attribute [local irreducible] Next Inside Runs Ops table
attribute [local go_sem] szStr szInt Option.getD_some isNil loadStr loadInt mkInts0 mkInts1 mkStrs0 mkStrs1 rowsS_len rowsI_len rowsN_len evStr fldOp ldOp
/-- The place behind so many trees, of nodes that begin at a place. -/
def endW : List Nd → Nat → Nat → Int
 | _, 0, p => p
 | [], _ + 1, _ => -1
 | x :: r, k + 1, p => if arityOf x.op < 0 then -1 else endW r (k + (arityOf x.op).toNat) (p + 1)
theorem endW_in : ∀ (xs : List Nd) (k p : Nat), endW xs k p = -1 ∨ ((p : Int) ≤ endW xs k p ∧ endW xs k p ≤ ((p + xs.length : Nat) : Int) ∧ (0 < k → (p : Int) < endW xs k p))
 | _, 0, p => by rw [endW]; exact .inr ⟨Int.le_refl _, by omega, fun h => by omega⟩
 | [], k + 1, p => .inl rfl
 | x :: r, k + 1, p => by
  rw [endW]
  split
  ·exact .inl rfl
  ·rcases endW_in r (k + (arityOf x.op).toNat) (p + 1) with h | ⟨h1, h2, _⟩
   ·exact .inl h
   ·refine .inr ⟨by omega, ?_, fun _ => by omega⟩
    simp only [List.length_cons]
    omega
theorem endW_add (l : List Nd) : ∀ (xs : List Nd) (k j p : Nat), xs = l.drop p → endW xs (k + j) p = if endW xs k p < 0 then -1 else endW (l.drop (endW xs k p).toNat) j (endW xs k p).toNat
 | xs, 0, j, p, h => by
  rw [Nat.zero_add, show endW xs 0 p = (p : Int) by unfold endW; rfl, if_neg (by omega), Int.toNat_natCast, h]
 | [], k + 1, j, p, h => by
  rw [show k + 1 + j = k + j + 1 by omega]
  rfl
 | x :: r, k + 1, j, p, h => by
  have hr : r = l.drop (p + 1) := by
   rw [show p + 1 = p + 1 from rfl, ← List.drop_drop, ← h]
   rfl
  rw [show k + 1 + j = k + j + 1 by omega, endW, endW]
  split
  ·rfl
  ·rw [show k + j + (arityOf x.op).toNat = k + (arityOf x.op).toNat + j by omega]
   exact endW_add l r (k + (arityOf x.op).toNat) j (p + 1) hr
def endOf (l : List Nd) (at_ : Int) : Int := if at_ < 0 then -1 else endW (l.drop at_.toNat) 1 at_.toNat
theorem endOf_nat (l : List Nd) (p : Nat) : endOf l (p : Int) = endW (l.drop p) 1 p := by
 unfold endOf
 rw [if_neg (by omega), Int.toNat_natCast]
theorem endOf_in (l : List Nd) (at_ : Int) : endOf l at_ = -1 ∨ (0 ≤ at_ ∧ at_ < endOf l at_ ∧ endOf l at_ ≤ (l.length : Int)) := by
 unfold endOf
 split
 ·exact .inl rfl
 ·obtain ⟨p, rfl⟩ := Int.eq_ofNat_of_zero_le (by omega : 0 ≤ at_)
  rw [Int.toNat_natCast]
  rcases endW_in (l.drop p) 1 p with h | ⟨h1, h2, h3⟩
  ·exact .inl h
  ·refine .inr ⟨by omega, h3 (by decide), ?_⟩
   rw [List.length_drop] at h2
   rcases Nat.lt_or_ge p l.length with h4 | h4
   ·omega
   ·exfalso
    have : l.drop p = [] := List.drop_eq_nil_of_le h4
    rw [this] at h3
    have := h3 (by decide)
    rw [endW] at this
    omega
def endG : List AV → Mem → Option (AV × Mem)
 | [.lst _ 7 rows, .v (.int .i64 at_)], m =>
  match unN rows with
  | some l => if l.length ≤ big40 ∧ inI at_ then some (.v (.int .i64 (endOf l at_)), m) else none
  | none => none
 | _, _ => none
theorem endG_eq {m : Mem} {g : Grow} {l : List Nd} {at_ : Int} (h : l.length ≤ big40) (h2 : inI at_) : endG [.lst g 7 (rowsN l), .v (.int .i64 at_)] m = some (.v (.int .i64 (endOf l at_)), m) := by
 simp only [endG, unN_rowsN]
 rw [if_pos ⟨h, h2⟩]
def kpEnd : Nat → Option (List Nat) := fun _ => some [0, 1, 4, 5, 7, 9, 24]
attribute [go_sem] kpEnd
theorem end_ok : FunOk Tryz.prog 157 endG := by
 have hC := table_ok (P := Tryz.prog) (l := [(115, arityG)]) (table_more arity_ok table_nil)
 have t1 := fun args mm => table_at (l := [(115, arityG)]) (f := 115) (args := args) (m := mm) rfl
 refine fun_ok mixed hC Tryz.func157 rfl kpEnd false rfl fun args m r h => ?_
 unfold endG at h
 split at h
 ·rename_i g rows at_
  split at h
  ·rename_i l hl0
   obtain rfl := unN_some hl0
   split at h
   ·rename_i hb
    obtain ⟨hlen, hat⟩ := hb
    simp only [Option.some.injEq] at h
    subst h
    unfold big40 at hlen
    unfold inI at hat
    refine ⟨Nat.le_of_ble_eq_true rfl, ?_⟩
    refine en ?_
    refine go0 ?_
    refine runs_cond rfl (fun hc => ?_) (fun hc => ?_)
    ·rw [show endOf l at_ = -1 from if_pos (of_decide_eq_true hc)]
     refine go0 ?_
     exact leaves_v rfl rfl
    ·have h0 := of_decide_eq_false hc
     obtain ⟨p0, rfl⟩ := Int.eq_ofNat_of_zero_le (by omega : 0 ≤ at_)
     rw [endOf_nat]
     refine go0 ?_
     refine runs_loop (fun k e m' => ∃ (p j : Nat) (x9 x24 : AV), endW (l.drop p) j p = endW (l.drop p0) 1 p0 ∧ (p ≤ l.length ∨ p = p0) ∧ j ≤ 1 + 2 * p ∧ (j ≤ 1 ∨ p ≤ l.length) ∧ m = m' ∧ k = l.length - p ∧
      e = [(0, AV.lst g 7 (rowsN l)), (1, .v (.int .i64 (p : Int))), (4, .v (.int .i64 0)), (5, .v (.int .i64 (j : Int))), (7, .v (.bool false)), (9, x9), (24, x24)]) (k := l.length - p0) ⟨p0, 1, _, _, rfl, .inr rfl, by omega, .inl (by decide), rfl, rfl, rfl⟩ ?_
     rintro k e m' ⟨p, j, x9, x24, hw, hp, hj, hj2, rfl, rfl, rfl⟩
     refine go0 ?_
     refine runs_cond rfl (fun hc => ?_) (fun hc => ?_)
     ·obtain ⟨j, rfl⟩ : ∃ i, j = i + 1 := ⟨j - 1, by have := of_decide_eq_true hc; omega⟩
      by_cases hpl : l.length ≤ p
      ·have b0 : decide ((p : Int) ≥ (l.length : Int)) = true := decide_eq_true (by omega)
       refine go1 @b0 ?_
       refine runs_cond rfl (fun hc => ?_) (fun hc => by cases hc)
       rw [List.drop_eq_nil_of_le hpl, endW] at hw
       rw [← hw]
       refine go0 ?_
       exact leaves_v rfl rfl
      ·have hp1 : p < l.length := by omega
       have b0 : decide ((p : Int) ≥ (l.length : Int)) = false := decide_eq_false (by omega)
       have f1 := atNodes (g := g) (kk := .i64) hp1
       rw [drop_next (d := nd0) hp1, endW] at hw
       generalize l.getD p nd0 = x at f1 hw
       have fa : ∀ mm, arityG [.v (.int .i64 x.op)] mm = some (.v (.int .i64 (arityOf x.op)), mm) := fun _ => rfl
       have ha := arity_in x.op
       refine go1 (jn @b0 (jn @f1 (jn @t1 @fa))) ?_
       refine runs_cond rfl (fun hc => ?_) (fun hc => ?_)
       ·rw [if_pos (of_decide_eq_true hc)] at hw
        rw [← hw]
        refine go0 ?_
        exact leaves_v rfl rfl
       ·have hneg := of_decide_eq_false hc
        rw [if_neg hneg] at hw
        have r1 : IntKind.i64.wrap (arityOf x.op - 1) = arityOf x.op - 1 := i64_wrap (by omega) (by omega)
        have r2 : IntKind.i64.wrap (((j + 1 : Nat) : Int) + (arityOf x.op - 1)) = ((j + (arityOf x.op).toNat : Nat) : Int) := by
         rw [i64_wrap (by omega) (by omega)]; omega
        have r6 := next_i64 (i := p) (by omega)
        refine go1 (jn @f1 (jn @t1 (jn @fa (jn @r1 (jn @r2 @r6))))) ?_
        exact ⟨l.length - (p + 1), by omega, p + 1, j + (arityOf x.op).toNat, _, _, hw, .inl hp1, by omega, .inr hp1, rfl, rfl, rfl⟩
     ·have hj0 : j = 0 := by have := of_decide_eq_false hc; omega
      subst hj0
      rw [show endW (l.drop p) 0 p = (p : Int) by unfold endW; rfl] at hw
      rw [← hw]
      refine go0 ?_
      exact leaves_v rfl rfl
   ·cases h
  ·cases h
 ·cases h
/-! ### the document's way: tree by tree -/
def endGk (n : Nat) : List AV → Mem → Option (AV × Mem)
 | [.lst _ 7 rows, .v (.int .i64 at_)], m =>
  match unN rows with
  | some l => if (l.length ≤ big40 ∧ inI at_) ∧ (l.length : Int) - at_ < (n : Int) then some (.v (.int .i64 (endOf l at_)), m) else none
  | none => none
 | _, _ => none
theorem endGk_eq {n : Nat} {m : Mem} {g : Grow} {l : List Nd} {at_ : Int} (h : l.length ≤ big40) (h2 : inI at_) (h3 : (l.length : Int) - at_ < (n : Int)) : endGk n [.lst g 7 (rowsN l), .v (.int .i64 at_)] m = some (.v (.int .i64 (endOf l at_)), m) := by
 simp only [endGk, unN_rowsN]
 rw [if_pos ⟨⟨h, h2⟩, h3⟩]
def prevG (g : Nat → List AV → Mem → Option (AV × Mem)) : Nat → List AV → Mem → Option (AV × Mem)
 | 0 => fun _ _ => none
 | n + 1 => g n
theorem prev_ok {P : Program} {f : FuncId} {g : Nat → List AV → Mem → Option (AV × Mem)} (step : ∀ n, FunOk P f (prevG g n) → FunOk P f (g n)) : ∀ n, FunOk P f (g n)
 | 0 => step 0 fun args m r m' h => by cases h
 | n + 1 => step (n + 1) (prev_ok step n)
def kpRefEnd : Nat → Option (List Nat) := fun _ => some [0, 1, 4, 5, 6, 23, 33, 40]
attribute [go_sem] kpRefEnd
theorem refEnd_k : ∀ n, FunOk Tryz.prog 135 (endGk n) := prev_ok fun n ih => by
 have hC := table_ok (P := Tryz.prog) (l := [(135, prevG endGk n), (156, arityG)]) (table_more ih (table_more refArity_ok table_nil))
 have t1 := fun args mm => table_at (l := [(135, prevG endGk n), (156, arityG)]) (f := 156) (args := args) (m := mm) rfl
 have t2 := fun args mm => table_at (l := [(135, prevG endGk n), (156, arityG)]) (f := 135) (args := args) (m := mm) rfl
 refine fun_ok mixed hC Tryz.func135 rfl kpRefEnd false rfl fun args m r h => ?_
 unfold endGk at h
 split at h
 ·rename_i g rows at_
  split at h
  ·rename_i l hl0
   obtain rfl := unN_some hl0
   split at h
   ·rename_i hb
    obtain ⟨⟨hlen, hat⟩, hn⟩ := hb
    have hlen' := hlen
    have hat' := hat
    simp only [Option.some.injEq] at h
    subst h
    unfold big40 at hlen
    unfold inI at hat
    refine ⟨Nat.le_of_ble_eq_true rfl, ?_⟩
    refine en ?_
    by_cases h0 : at_ < 0
    ·have b0 : decide (at_ < 0) = true := decide_eq_true h0
     rw [show endOf l at_ = -1 from if_pos h0]
     refine go1 @b0 ?_
     refine runs_cond rfl (fun hc => ?_) (fun hc => by cases hc)
     refine go0 ?_
     exact leaves_v rfl rfl
    obtain ⟨p, rfl⟩ := Int.eq_ofNat_of_zero_le (by omega : 0 ≤ at_)
    have b0 : decide ((p : Int) < 0) = false := decide_eq_false h0
    rw [endOf_nat]
    by_cases hpl : l.length ≤ p
    ·have b1 : decide ((p : Int) ≥ (l.length : Int)) = true := decide_eq_true (by omega)
     rw [List.drop_eq_nil_of_le hpl, endW]
     refine go1 (jn @b0 @b1) ?_
     refine runs_cond rfl (fun hc => ?_) (fun hc => by cases hc)
     refine go0 ?_
     exact leaves_v rfl rfl
    have hp1 : p < l.length := by omega
    have b1 : decide ((p : Int) ≥ (l.length : Int)) = false := decide_eq_false (by omega)
    have f1 := atNodes (g := g) (kk := .i64) hp1
    rw [drop_next (d := nd0) hp1, endW]
    generalize l.getD p nd0 = x at f1
    have fa : ∀ mm, arityG [.v (.int .i64 x.op)] mm = some (.v (.int .i64 (arityOf x.op)), mm) := fun _ => rfl
    have ha := arity_in x.op
    refine go1 (jn @b0 (jn @b1 (jn @f1 (jn @t1 @fa)))) ?_
    refine runs_cond rfl (fun hc => ?_) (fun hc => ?_)
    ·rw [if_pos (of_decide_eq_true hc)]
     refine go0 ?_
     exact leaves_v rfl rfl
    ·have hneg := of_decide_eq_false hc
     rw [if_neg hneg, Nat.zero_add]
     have r6 := next_i64 (i := p) (by omega)
     refine go1 @r6 ?_
     refine runs_loop (fun k e m' => ∃ (i q : Nat) (x33 x40 : AV), endW (l.drop (p + 1)) i (p + 1) = (q : Int) ∧ p + 1 ≤ q ∧ q ≤ l.length ∧ i ≤ (arityOf x.op).toNat ∧ m = m' ∧ k = (arityOf x.op).toNat - i ∧
      e = [(0, AV.lst g 7 (rowsN l)), (1, .v (.int .i64 (p : Int))), (4, .v (.int .i64 0)), (5, .v (.int .i64 (q : Int))), (6, .v (.int .i64 (i : Int))), (23, .v (.bool (decide (arityOf x.op < 0)))), (33, x33), (40, x40)])
      (k := (arityOf x.op).toNat) ⟨0, p + 1, _, _, by unfold endW; rfl, by omega, by omega, by omega, rfl, rfl, rfl⟩ ?_
     rintro k e m' ⟨i, q, x33, x40, hw, hq1, hq2, hi, rfl, rfl, rfl⟩
     refine go1 (jn @f1 (jn @t1 @fa)) ?_
     refine runs_cond rfl (fun hc => ?_) (fun hc => ?_)
     ·have hi1 : i < (arityOf x.op).toNat := by have := of_decide_eq_true hc; omega
      obtain ⟨n', rfl⟩ : ∃ n', n = n' + 1 := ⟨n - 1, by omega⟩
      have f2 : ∀ mm, prevG endGk (n' + 1) [.lst .no 7 (rowsN l), .v (.int .i64 (q : Int))] mm = some (.v (.int .i64 (endOf l (q : Int))), mm) := fun mm => endGk_eq (g := .no) hlen' ⟨by omega, by omega⟩ (by omega)
      have hstep := endW_add l (l.drop (p + 1)) i 1 (p + 1) rfl
      rw [hw, if_neg (by omega), Int.toNat_natCast, ← endOf_nat] at hstep
      have hin := endOf_in l (q : Int)
      have hfin : endOf l (q : Int) < 0 → endW (l.drop (p + 1)) (arityOf x.op).toNat (p + 1) = -1 := fun h => by
       have := endW_add l (l.drop (p + 1)) (i + 1) ((arityOf x.op).toNat - (i + 1)) (p + 1) rfl
       rw [show i + 1 + ((arityOf x.op).toNat - (i + 1)) = (arityOf x.op).toNat by omega, hstep, if_pos h] at this
       exact this
      generalize endOf l (q : Int) = Q at f2 hstep hin hfin
      refine go1 (jn @t2 @f2) ?_
      refine runs_cond rfl (fun hc => ?_) (fun hc => ?_)
      ·rw [hfin (of_decide_eq_true hc)]
       refine go0 ?_
       exact leaves_v rfl rfl
      ·have hQ := of_decide_eq_false hc
       obtain ⟨q', rfl⟩ := Int.eq_ofNat_of_zero_le (by omega : 0 ≤ Q)
       have r7 := next_i64 (i := i) (by omega)
       refine go1 @r7 ?_
       exact ⟨(arityOf x.op).toNat - (i + 1), by omega, i + 1, q', _, _, hstep, by omega, by omega, hi1, rfl, rfl, rfl⟩
     ·have hi1 : i = (arityOf x.op).toNat := by have := of_decide_eq_false hc; omega
      subst hi1
      rw [hw]
      refine go0 ?_
      exact leaves_v rfl rfl
   ·cases h
  ·cases h
 ·cases h
theorem refEnd_ok : FunOk Tryz.prog 135 endG := by
 intro args m r m' h
 unfold endG at h
 split at h
 ·rename_i g rows at_
  split at h
  ·rename_i l hl0
   obtain rfl := unN_some hl0
   split at h
   ·rename_i hb
    refine refEnd_k (((l.length : Int) - at_).toNat + 1) _ m r m' ?_
    rw [endGk_eq hb.1 hb.2 (by omega)]
    exact h
   ·cases h
  ·cases h
 ·cases h
end
section
set_option maxHeartbeats 4000000
set_option linter.unusedVariables false
set_option linter.unusedSimpArgs false
attribute [local irreducible] Next Inside Runs Ops table
attribute [local go_sem] szStr szInt Option.getD_some isNil loadStr loadInt mkInts0 mkInts1 mkStrs0 mkStrs1 rowsS_len rowsI_len rowsN_len evStr fldOp ldOp
def belowW (l : List Nd) : Nat → Int → List Int
 | 0, _ => []
 | k + 1, next => next :: belowW l k (endOf l next)
theorem belowW_len (l : List Nd) : ∀ (k : Nat) (n : Int), (belowW l k n).length = k
 | 0, _ => rfl
 | k + 1, n => by simp [belowW, belowW_len l k]
theorem belowW_okI {l : List Nd} (hl : l.length ≤ big40) : ∀ (k : Nat) (n : Int), inI n → OkI (belowW l k n)
 | 0, _, _ => .nil
 | k + 1, n, h => by
  intro b hb
  rcases List.mem_cons.1 hb with rfl | hb
  ·exact h
  ·refine belowW_okI hl k _ ?_ b hb
   unfold big40 at hl
   unfold inI
   rcases endOf_in l n with h | h <;> omega
def arAt (l : List Nd) (at_ : Int) : Nat := (arityOf (l.getD at_.toNat nd0).op).toNat
def belowOf (l : List Nd) (at_ : Int) : List Int := if endOf l at_ < 0 then [] else belowW l (arAt l at_) (at_ + 1)
def belowG : List AV → Mem → Option (AV × Mem)
 | [.lst _ 7 rows, .v (.int .i64 at_)], m =>
  match unN rows with
  | some l => if l.length ≤ big40 ∧ inI at_ then some (.lst .no 1 (rowsI (belowOf l at_)), m) else none
  | none => none
 | _, _ => none
theorem belowG_eq {m : Mem} {g : Grow} {l : List Nd} {at_ : Int} (h : l.length ≤ big40) (h2 : inI at_) : belowG [.lst g 7 (rowsN l), .v (.int .i64 at_)] m = some (.lst .no 1 (rowsI (belowOf l at_)), m) := by
 simp only [belowG, unN_rowsN]
 rw [if_pos ⟨h, h2⟩]
theorem belowOf_okI {l : List Nd} (hl : l.length ≤ big40) {at_ : Int} (h : inI at_) : OkI (belowOf l at_) ∧ (belowOf l at_).length ≤ 2 := by
 unfold belowOf
 split
 ·exact ⟨.nil, by decide⟩
 ·rename_i hn
  rcases endOf_in l at_ with h1 | h1
  ·omega
  ·refine ⟨belowW_okI hl _ _ ?_, ?_⟩
   ·unfold big40 at hl
    unfold inI at h ⊢
    omega
   ·rw [belowW_len]
    unfold arAt
    have := arity_in (l.getD at_.toNat nd0).op
    omega
def kpBelow : Nat → Option (List Nat) := fun _ => some [0, 1, 4, 5, 6, 10, 18, 19, 20]
attribute [go_sem] kpBelow
def tabBelow : List (FuncId × (List AV → Mem → Option (AV × Mem))) := [(157, endG), (115, arityG)]
theorem below_ok : FunOk Tryz.prog 146 belowG := by
 have hC := table_ok (P := Tryz.prog) (l := tabBelow) (table_more end_ok (table_more arity_ok table_nil))
 have t1 := fun args mm => table_at (l := tabBelow) (f := 157) (args := args) (m := mm) rfl
 have t2 := fun args mm => table_at (l := tabBelow) (f := 115) (args := args) (m := mm) rfl
 refine fun_ok mixed hC Tryz.func146 rfl kpBelow false rfl fun args m r h => ?_
 unfold belowG at h
 split at h
 ·rename_i g rows at_
  split at h
  ·rename_i l hl0
   obtain rfl := unN_some hl0
   split at h
   ·rename_i hb
    obtain ⟨hlen, hat⟩ := hb
    have hlen' := hlen
    simp only [Option.some.injEq] at h
    subst h
    unfold big40 at hlen
    refine ⟨Nat.le_of_ble_eq_true rfl, ?_⟩
    refine en ?_
    have f1 := fun mm => endG_eq (m := mm) (g := .no) hlen' hat
    refine go1 (jn @t1 @f1) ?_
    refine runs_cond rfl (fun hc => ?_) (fun hc => ?_)
    ·rw [show belowOf l at_ = [] from if_pos (of_decide_eq_true hc)]
     refine go0 ?_
     exact leaves_lst rfl rfl (finMem_self _)
    ·have hn := of_decide_eq_false hc
     rw [show belowOf l at_ = belowW l (arAt l at_) (at_ + 1) from if_neg hn]
     unfold inI at hat
     have hin := endOf_in l at_
     obtain ⟨p, rfl⟩ := Int.eq_ofNat_of_zero_le (by omega : 0 ≤ at_)
     have hp1 : p < l.length := by omega
     have f2 := atNodes (g := g) (kk := .i64) hp1
     have e1 : arAt l (p : Int) = (arityOf (l.getD p nd0).op).toNat := by unfold arAt; rw [Int.toNat_natCast]
     rw [e1]
     generalize l.getD p nd0 = x at f2
     have fa : ∀ mm, arityG [.v (.int .i64 x.op)] mm = some (.v (.int .i64 (arityOf x.op)), mm) := fun _ => rfl
     have ha := arity_in x.op
     have r6 := next_i64 (i := p) (by omega)
     refine go1 (jn @r6 (jn @f2 (jn @t2 @fa))) ?_
     refine runs_loop (fun k e m' => ∃ (j : Nat) (next : Int) (pre : List Int) (g5 : Grow) (x20 : AV), pre ++ belowW l ((arityOf x.op).toNat - j) next = belowW l (arityOf x.op).toNat ((p : Int) + 1) ∧ pre.length = j ∧ inI next ∧ j ≤ (arityOf x.op).toNat ∧ Grows m g5 m' ∧ k = (arityOf x.op).toNat - j ∧
      e = [(0, AV.lst g 7 (rowsN l)), (1, .v (.int .i64 (p : Int))), (4, .lst .full 1 []), (5, .lst g5 1 (rowsI pre)), (6, .v (.int .i64 next)), (10, .v (.bool (decide (endOf l (p : Int) < 0)))), (18, .v (.int .i64 (arityOf x.op))), (19, .v (.int .i64 (j : Int))), (20, x20)])
      (k := (arityOf x.op).toNat) ⟨0, (p : Int) + 1, [], .full, _, rfl, rfl, ⟨by omega, by omega⟩, by omega, grows_full, rfl, rfl⟩ ?_
     rintro k e m' ⟨j, next, pre, g5, x20, hpre, hpl, hnx, hj, hG, rfl, rfl⟩
     refine go0 ?_
     refine runs_cond rfl (fun hc => ?_) (fun hc => ?_)
     ·have hj1 : j < (arityOf x.op).toNat := by have := of_decide_eq_true hc; omega
      obtain ⟨g', m'', a1, hG'⟩ := app_int appInts hG (g2 := .full) pre next (by unfold lim; omega)
      have f3 := fun mm => endG_eq (m := mm) (g := .no) hlen' hnx
      have r7 := next_i64 (i := j) (by omega)
      rw [show (arityOf x.op).toNat - j = (arityOf x.op).toNat - (j + 1) + 1 by omega, belowW] at hpre
      have hin2 := endOf_in l next
      refine go1 (jn @a1 (jn @t1 (jn @f3 @r7))) ?_
      refine ⟨(arityOf x.op).toNat - (j + 1), by omega, j + 1, endOf l next, pre ++ [next], _, _, by rw [List.append_assoc]; exact hpre, by simp [hpl], ?_, hj1, hG', rfl, rfl⟩
      unfold inI
      omega
     ·have hj1 : j = (arityOf x.op).toNat := by have := of_decide_eq_false hc; omega
      rw [hj1, Nat.sub_self, belowW, List.append_nil] at hpre
      rw [← hpre]
      refine go0 ?_
      exact leaves_lst rfl rfl (fin_grows hG)
   ·cases h
  ·cases h
 ·cases h
def refBelowG : List AV → Mem → Option (AV × Mem)
 | [.lst _ 7 rows, .v (.int .i64 at_)], m =>
  match unN rows with
  | some l => if l.length ≤ big40 ∧ 0 ≤ at_ ∧ at_ < (l.length : Int) then some (.lst .no 1 (rowsI (belowW l (arAt l at_) (at_ + 1))), m) else none
  | none => none
 | _, _ => none
theorem refBelowG_eq {m : Mem} {g : Grow} {l : List Nd} {at_ : Int} (h : l.length ≤ big40) (h2 : 0 ≤ at_) (h3 : at_ < (l.length : Int)) : refBelowG [.lst g 7 (rowsN l), .v (.int .i64 at_)] m = some (.lst .no 1 (rowsI (belowW l (arAt l at_) (at_ + 1))), m) := by
 simp only [refBelowG, unN_rowsN]
 rw [if_pos ⟨h, h2, h3⟩]
def kpRefBelow : Nat → Option (List Nat) := fun _ => some [0, 1, 4, 5, 6, 7, 18]
attribute [go_sem] kpRefBelow
def tabRefBelow : List (FuncId × (List AV → Mem → Option (AV × Mem))) := [(135, endG), (156, arityG)]
theorem refBelow_ok : FunOk Tryz.prog 137 refBelowG := by
 have hC := table_ok (P := Tryz.prog) (l := tabRefBelow) (table_more refEnd_ok (table_more refArity_ok table_nil))
 have t1 := fun args mm => table_at (l := tabRefBelow) (f := 135) (args := args) (m := mm) rfl
 have t2 := fun args mm => table_at (l := tabRefBelow) (f := 156) (args := args) (m := mm) rfl
 refine fun_ok mixed hC Tryz.func137 rfl kpRefBelow false rfl fun args m r h => ?_
 unfold refBelowG at h
 split at h
 ·rename_i g rows at_
  split at h
  ·rename_i l hl0
   obtain rfl := unN_some hl0
   split at h
   ·rename_i hb
    obtain ⟨hlen, h0, h1⟩ := hb
    have hlen' := hlen
    simp only [Option.some.injEq] at h
    subst h
    unfold big40 at hlen
    refine ⟨Nat.le_of_ble_eq_true rfl, ?_⟩
    refine en ?_
    obtain ⟨p, rfl⟩ := Int.eq_ofNat_of_zero_le h0
    have hp1 : p < l.length := by omega
    have f2 := atNodes (g := g) (kk := .i64) hp1
    have e1 : arAt l (p : Int) = (arityOf (l.getD p nd0).op).toNat := by unfold arAt; rw [Int.toNat_natCast]
    rw [e1]
    generalize l.getD p nd0 = x at f2
    have fa : ∀ mm, arityG [.v (.int .i64 x.op)] mm = some (.v (.int .i64 (arityOf x.op)), mm) := fun _ => rfl
    have ha := arity_in x.op
    have r6 := next_i64 (i := p) (by omega)
    refine go1 @r6 ?_
    refine runs_loop (fun k e m' => ∃ (j : Nat) (next : Int) (pre : List Int) (g5 : Grow) (x18 : AV), pre ++ belowW l ((arityOf x.op).toNat - j) next = belowW l (arityOf x.op).toNat ((p : Int) + 1) ∧ pre.length = j ∧ inI next ∧ j ≤ (arityOf x.op).toNat ∧ Grows m g5 m' ∧ k = (arityOf x.op).toNat - j ∧
     e = [(0, AV.lst g 7 (rowsN l)), (1, .v (.int .i64 (p : Int))), (4, .lst .full 1 []), (5, .lst g5 1 (rowsI pre)), (6, .v (.int .i64 next)), (7, .v (.int .i64 (j : Int))), (18, x18)])
     (k := (arityOf x.op).toNat) ⟨0, (p : Int) + 1, [], .full, _, rfl, rfl, ⟨by omega, by omega⟩, by omega, grows_full, rfl, rfl⟩ ?_
    rintro k e m' ⟨j, next, pre, g5, x18, hpre, hpl, hnx, hj, hG, rfl, rfl⟩
    refine go1 (jn @f2 (jn @t2 @fa)) ?_
    refine runs_cond rfl (fun hc => ?_) (fun hc => ?_)
    ·have hj1 : j < (arityOf x.op).toNat := by have := of_decide_eq_true hc; omega
     obtain ⟨g', m'', a1, hG'⟩ := app_int appInts hG (g2 := .full) pre next (by unfold lim; omega)
     have f3 := fun mm => endG_eq (m := mm) (g := .no) hlen' hnx
     have r7 := next_i64 (i := j) (by omega)
     rw [show (arityOf x.op).toNat - j = (arityOf x.op).toNat - (j + 1) + 1 by omega, belowW] at hpre
     have hin2 := endOf_in l next
     refine go1 (jn @a1 (jn @t1 (jn @f3 @r7))) ?_
     refine ⟨(arityOf x.op).toNat - (j + 1), by omega, j + 1, endOf l next, pre ++ [next], _, _, by rw [List.append_assoc]; exact hpre, by simp [hpl], ?_, hj1, hG', rfl, rfl⟩
     unfold inI
     omega
    ·have hj1 : j = (arityOf x.op).toNat := by have := of_decide_eq_false hc; omega
     rw [hj1, Nat.sub_self, belowW, List.append_nil] at hpre
     rw [← hpre]
     refine go0 ?_
     exact leaves_lst rfl rfl (fin_grows hG)
   ·cases h
  ·cases h
 ·cases h
def kpSame : Nat → Option (List Nat) := fun _ => some [0, 1, 4, 5, 10, 14, 25]
attribute [go_sem] kpSame
end
end Go.Proofs.YtojaokhkbmiidaaGreat.Ev

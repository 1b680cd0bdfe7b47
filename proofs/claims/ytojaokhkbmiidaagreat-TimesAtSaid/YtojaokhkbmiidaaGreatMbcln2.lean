/- Nodes: the program's test of one node, kind by kind. -/
import Derived.Test.YtojaokhkbmiidaaGreatMbcln1
namespace Go.Proofs.YtojaokhkbmiidaaGreat.Ev
open Go Go.Proofs
set_option maxRecDepth 10000
set_option maxHeartbeats 16000000
set_option linter.unusedVariables false
set_option linter.unusedSimpArgs false
attribute [local irreducible] Next Inside Runs Ops table
attribute [local go_sem] szStr szInt Option.getD_some isNil loadStr loadInt evStr len0 len1 loadOne loadLen cellsLen newLen Nat.zero_add List.drop_zero List.drop_succ_cons List.head?_cons
def lastsG : List AV → Mem → Option (AV × Mem)
  | [.agg [.v (.int .i64 u), .v (.int .i64 n)]], m => some (.v (.bool (decide (u ≠ 3 ∧ lenMay u n))), m)
  | _, _ => none
def kpLasts : Nat → Option (List Nat) := fun _ => some [0, 1, 2]
attribute [go_sem] kpLasts
theorem lasts_ok : FunOk Tryz.prog 159 lastsG := by
  have hC := table_ok (P := Tryz.prog) (l := [(104, lenCheckG)]) (table_more lenCheck_ok table_nil)
  have t1 := fun args mm => table_at (l := [(104, lenCheckG)]) (f := 104) (args := args) (m := mm) rfl
  refine fun_ok mixed hC Tryz.func159 rfl kpLasts false rfl fun args m r h => ?_
  unfold lastsG at h
  split at h
  · rename_i u n
    simp only [Option.some.injEq] at h
    subst h
    refine ⟨Nat.le_of_ble_eq_true rfl, ?_⟩
    simp only [entry, List.length_cons, List.length_nil, List.range, List.range.loop, List.zip_cons_cons, List.zip_nil_right]
    have fl : ∀ mm, lenCheckG [.agg [.v (.int .i64 u), .v (.int .i64 n)]] mm = some (.v (.int .i64 (if lenMay u n then 0 else 1)), mm) := fun _ => rfl
    have fe : ((if lenMay u n then (0 : Int) else 1) == 0) = decide (lenMay u n) := by
      by_cases h : lenMay u n
      · rw [if_pos h, decide_eq_true h]; rfl
      · rw [if_neg h, decide_eq_false h]; rfl
    by_cases h3 : u = 3
    · have b3 : (u != 3) = false := by rw [h3]; rfl
      rw [decide_eq_false (fun h => h.1 h3)]
      refine go1 (jn @b3 (jn @t1 (jn @fl @fe))) ?_
      exact leaves_fin rfl rfl fin_push
    · have b3 : (u != 3) = true := bne_iff_ne.2 h3
      have e1 : decide (u ≠ 3 ∧ lenMay u n) = decide (lenMay u n) := by
        by_cases h : lenMay u n
        · rw [decide_eq_true h, decide_eq_true ⟨h3, h⟩]
        · rw [decide_eq_false h, decide_eq_false fun hh => h hh.2]
      rw [e1]
      refine go1 (jn @b3 (jn @t1 (jn @fl @fe))) ?_
      exact leaves_fin rfl rfl fin_push
  · cases h
/-! ### two nodes in memory -/
theorem varUnder {m : Mem} {a b : List AV} : ((m.push a).push b).var m.vars.length = some a := by
  unfold Mem.var Mem.push
  simp [List.getElem?_append]
theorem agNode : tAgg Tryz.prog 102 = some true := by kernel_rfl
theorem agLen : tAgg Tryz.prog 33 = some true := by kernel_rfl
theorem szLen : tSize Tryz.prog 33 = some 2 := by kernel_rfl
theorem underInt {m : Mem} {op a b c k u n : Int} {K : List AV} {off : Nat} : evLoad Tryz.prog ((m.push (nrow op a b c k u n)).push K) 3 (.ptr m.vars.length off) = ((nrow op a b c k u n).drop off).head? := by
  unfold evLoad
  simp only [ptrCells, varUnder, Option.map_some, szInt, agInt]
theorem underLen {m : Mem} {op a b c k u n : Int} {K : List AV} : evLoad Tryz.prog ((m.push (nrow op a b c k u n)).push K) 33 (.ptr m.vars.length 5) = some (.agg [.v (.int .i64 u), .v (.int .i64 n)]) := by
  unfold evLoad
  simp only [ptrCells, varUnder, Option.map_some, szLen, agLen]
  rfl
theorem underNode {m : Mem} {op a b c k u n : Int} {K : List AV} : evLoad Tryz.prog ((m.push (nrow op a b c k u n)).push K) 102 (.ptr m.vars.length 0) = some (.agg (nrow op a b c k u n)) := by
  unfold evLoad
  simp only [ptrCells, varUnder, Option.map_some, szNode, agNode]
  rfl
theorem topNode {m : Mem} {op a b c k u n : Int} : evLoad Tryz.prog (m.push (nrow op a b c k u n)) 102 (.ptr m.vars.length 0) = some (.agg (nrow op a b c k u n)) := by
  unfold evLoad
  simp only [ptrCells, push_var, Option.map_some, szNode, agNode]
  rfl
theorem zeroNode : zeroCells Tryz.prog 102 = some (nrow 0 0 0 0 0 0 0) := by kernel_rfl
theorem okNode {op a b c k u n : Int} : (nrow op a b c k u n).all okCell = true := rfl
theorem putNode {m : Mem} {op a b c k u n op2 a2 b2 c2 k2 u2 n2 : Int} : evStore Tryz.prog (m.push (nrow op a b c k u n)) 102 (.ptr m.vars.length 0) (.agg (nrow op2 a2 b2 c2 k2 u2 n2)) = some (m.push (nrow op2 a2 b2 c2 k2 u2 n2)) := by
  rw [store_push (cs := nrow op2 a2 b2 c2 k2 u2 n2) rfl szNode (Nat.le_refl _) rfl]
  rfl
theorem putC {m : Mem} {op a b c k u n c2 : Int} : evStore Tryz.prog (m.push (nrow op a b c k u n)) 3 (.ptr m.vars.length 3) (.v (.int .i64 c2)) = some (m.push (nrow op a b c2 k u n)) := by
  rw [store_push (cs := [.v (.int .i64 c2)]) rfl szInt (Nat.le_of_ble_eq_true rfl) rfl]
  rfl
theorem putLen {m : Mem} {op a b c k u n u2 n2 : Int} : evStore Tryz.prog (m.push (nrow op a b c k u n)) 33 (.ptr m.vars.length 5) (.agg [.v (.int .i64 u2), .v (.int .i64 n2)]) = some (m.push (nrow op a b c k u2 n2)) := by
  rw [store_push (cs := [.v (.int .i64 u2), .v (.int .i64 n2)]) rfl szLen (Nat.le_of_ble_eq_true rfl) rfl]
  rfl
theorem mkKept {op a b k : Int} : evBuild Tryz.prog 102 [(0, .v (.int .i64 op)), (1, .v (.int .i64 a)), (2, .v (.int .i64 b)), (4, .v (.int .i64 k))] = some (.agg (nrow op a b 0 k 0 0)) := by kernel_rfl
theorem mkA {op a : Int} : evBuild Tryz.prog 102 [(0, .v (.int .i64 op)), (1, .v (.int .i64 a))] = some (.agg (nrow op a 0 0 0 0 0)) := by kernel_rfl
theorem mkAB {op a b : Int} : evBuild Tryz.prog 102 [(0, .v (.int .i64 op)), (1, .v (.int .i64 a)), (2, .v (.int .i64 b))] = some (.agg (nrow op a b 0 0 0 0)) := by kernel_rfl
theorem mkAL {op a u n : Int} : evBuild Tryz.prog 102 [(0, .v (.int .i64 op)), (1, .v (.int .i64 a)), (5, .agg [.v (.int .i64 u), .v (.int .i64 n)])] = some (.agg (nrow op a 0 0 0 u n)) := by kernel_rfl
theorem mkL {op u n : Int} : evBuild Tryz.prog 102 [(0, .v (.int .i64 op)), (5, .agg [.v (.int .i64 u), .v (.int .i64 n)])] = some (.agg (nrow op 0 0 0 0 u n)) := by kernel_rfl
theorem niNode : noIface Tryz.prog 8 102 = true := by kernel_rfl
theorem eqNode {op a b c k u n op2 a2 b2 c2 k2 u2 n2 : Int} : eqTy Tryz.prog 8 102 (.agg (nrow op a b c k u n)) (.agg (nrow op2 a2 b2 c2 k2 u2 n2)) =
    some ((op == op2) && ((a == a2) && ((b == b2) && ((c == c2) && ((k == k2) && (((u == u2) && ((n == n2) && true)) && true)))))) := by kernel_rfl
attribute [local irreducible] nrow
attribute [local go_sem] newNode cellsNode nf0 nf1 nf2 nf3 nf4 nf5 nh0 nh1 nh2 nh3 nh4 nh5 loadNodeLen underInt underLen underNode topNode zeroNode okNode putNode putC putLen mkKept mkA mkAB mkAL mkL niNode eqNode
def kpMay : Nat → Option (List Nat) := fun _ => some [0, 1, 2, 3, 25, 36, 37, 46, 58, 68, 78, 96, 109]
attribute [go_sem] kpMay
def tabMay : List (FuncId × (List AV → Mem → Option (AV × Mem))) := [(158, upTo 4503599627370496), (159, lastsG), (160, upTo 1099511627776)]
theorem ll_eq (u n : Int) (mm : Mem) : lastsG [.agg [.v (.int .i64 u), .v (.int .i64 n)]] mm = some (.v (.bool (decide (u ≠ 3 ∧ lenMay u n))), mm) := rfl
theorem fin_two {m : Mem} {a b : List AV} : finMem m ((m.push a).push b) = m := by
  unfold finMem
  have h : ((m.push a).push b).vars.take m.vars.length = m.vars := by simp [Mem.push]
  rw [if_pos h]
  show (⟨m.vars, m.toks.take m.toks.length⟩ : Mem) = m
  rw [List.take_length]
end Go.Proofs.YtojaokhkbmiidaaGreat.Ev

namespace Go.Proofs.YtojaokhkbmiidaaGreat.Ev
open Go Go.Proofs
set_option maxRecDepth 10000
set_option maxHeartbeats 16000000
set_option linter.unusedVariables false
set_option linter.unusedSimpArgs false
attribute [local irreducible] Next Inside Runs Ops table nrow
attribute [local go_sem] szStr szInt Option.getD_some isNil evStr loadOne newNode cellsNode nf0 nf1 nf2 nf3 nf4 nf5 nh0 nh1 nh2 nh3 nh4 nh5 loadNodeLen underInt underLen underNode topNode zeroNode okNode putNode putC putLen mkKept mkA mkAB mkAL mkL niNode eqNode Nat.zero_add
theorem may_at1 : FunOk Tryz.prog 143 (mayAt fun op => decide (op = 1)) := by
  have hC := table_ok (P := Tryz.prog) (l := tabMay) (table_more number_ok (table_more lasts_ok (table_more count_ok table_nil)))
  have t1 := fun args mm => table_at (l := tabMay) (f := 158) (args := args) (m := mm) rfl
  have t2 := fun args mm => table_at (l := tabMay) (f := 159) (args := args) (m := mm) rfl
  have t3 := fun args mm => table_at (l := tabMay) (f := 160) (args := args) (m := mm) rfl
  refine fun_ok mixed hC Tryz.func143 rfl kpMay false rfl fun args m r h => ?_
  unfold mayAt at h
  split at h
  · rename_i cs
    split at h
    · rename_i x hx
      split at h
      · rename_i hop
        obtain rfl := unNd_row hx
        obtain ⟨op, a, b, c, k, u, n⟩ := x
        have hop := of_decide_eq_true hop
        simp only at hop
        simp only [Option.some.injEq] at h
        subst h
        refine ⟨Nat.le_of_ble_eq_true rfl, ?_⟩
        simp only [entry, List.length_cons, List.length_nil, List.range, List.range.loop, List.zip_cons_cons, List.zip_nil_right]
        have fin : ∀ (e : Env) (m' : Mem) (z : Bool), Ev.get e 2 = .v (.bool z) → finMem m m' = m → (z = true ↔ mayN ⟨op, a, b, c, k, u, n⟩) → Leaves Tryz.prog false Tryz.f143 m (.v (.bool (decide (mayN ⟨op, a, b, c, k, u, n⟩))), m) .ret e m' := fun e m' z h1 h2 h3 => by
          have : z = decide (mayN ⟨op, a, b, c, k, u, n⟩) := by rw [Bool.eq_iff_iff, decide_eq_true_eq]; exact h3
          rw [← this]
          exact leaves_fin rfl h1 h2
        subst hop
        repeat' (first | refine gos1 (jn @t1 (jn @q_eq (jn @t2 (jn @ll_eq @t3)))) ?_ | (refine ops_here ?_; (fail_if_success (refine ops_case (B := true) rfl rfl rfl ?_ ?_)); (fail_if_success (refine ops_case (B := false) rfl rfl rfl ?_ ?_)); refine ops_case rfl rfl rfl (fun hB => ?_) (fun hB => ?_) <;> rw [hB]) | (refine runs_here ?_; refine runs_cond rfl (fun hc => ?_) (fun hc => ?_) <;> first | (cases hc; done) | skip))
        all_goals exact fin _ _ _ rfl (by first | exact fin_push | exact fin_two) (by clear fin hx t1 t2 t3 hC; simp only [Bool.not_eq_true', Bool.not_eq_false', Bool.not_true, Bool.not_false, Bool.and_true, Bool.true_and, Bool.and_eq_true, Bool.and_eq_false_iff, decide_eq_true_eq, decide_eq_false_iff_not, Bool.false_eq_true, reduceCtorEq, false_iff, true_iff, beq_iff_eq, bne_iff_ne, beq_eq_false_iff_ne, bne_eq_false_iff_eq, ne_eq, not_false_eq_true, not_true_eq_false, true_or, or_true, true_implies, false_implies, implies_true, and_self, true_and, false_and, or_false, false_or, and_true, and_false] at *; simp only [mayN, inQ, lenMay, not_false_eq_true, not_true_eq_false, true_or, or_true, true_implies, false_implies, implies_true, and_self, true_and, false_and, or_false, false_or, and_true, and_false] at *; omega)
      · cases h
    · cases h
  · cases h
theorem may_at2 : FunOk Tryz.prog 143 (mayAt fun op => decide (op = 2)) := by
  have hC := table_ok (P := Tryz.prog) (l := tabMay) (table_more number_ok (table_more lasts_ok (table_more count_ok table_nil)))
  have t1 := fun args mm => table_at (l := tabMay) (f := 158) (args := args) (m := mm) rfl
  have t2 := fun args mm => table_at (l := tabMay) (f := 159) (args := args) (m := mm) rfl
  have t3 := fun args mm => table_at (l := tabMay) (f := 160) (args := args) (m := mm) rfl
  refine fun_ok mixed hC Tryz.func143 rfl kpMay false rfl fun args m r h => ?_
  unfold mayAt at h
  split at h
  · rename_i cs
    split at h
    · rename_i x hx
      split at h
      · rename_i hop
        obtain rfl := unNd_row hx
        obtain ⟨op, a, b, c, k, u, n⟩ := x
        have hop := of_decide_eq_true hop
        simp only at hop
        simp only [Option.some.injEq] at h
        subst h
        refine ⟨Nat.le_of_ble_eq_true rfl, ?_⟩
        simp only [entry, List.length_cons, List.length_nil, List.range, List.range.loop, List.zip_cons_cons, List.zip_nil_right]
        have fin : ∀ (e : Env) (m' : Mem) (z : Bool), Ev.get e 2 = .v (.bool z) → finMem m m' = m → (z = true ↔ mayN ⟨op, a, b, c, k, u, n⟩) → Leaves Tryz.prog false Tryz.f143 m (.v (.bool (decide (mayN ⟨op, a, b, c, k, u, n⟩))), m) .ret e m' := fun e m' z h1 h2 h3 => by
          have : z = decide (mayN ⟨op, a, b, c, k, u, n⟩) := by rw [Bool.eq_iff_iff, decide_eq_true_eq]; exact h3
          rw [← this]
          exact leaves_fin rfl h1 h2
        subst hop
        repeat' (first | refine gos1 (jn @t1 (jn @q_eq (jn @t2 (jn @ll_eq @t3)))) ?_ | (refine ops_here ?_; (fail_if_success (refine ops_case (B := true) rfl rfl rfl ?_ ?_)); (fail_if_success (refine ops_case (B := false) rfl rfl rfl ?_ ?_)); refine ops_case rfl rfl rfl (fun hB => ?_) (fun hB => ?_) <;> rw [hB]) | (refine runs_here ?_; refine runs_cond rfl (fun hc => ?_) (fun hc => ?_) <;> first | (cases hc; done) | skip))
        all_goals exact fin _ _ _ rfl (by first | exact fin_push | exact fin_two) (by clear fin hx t1 t2 t3 hC; simp only [Bool.not_eq_true', Bool.not_eq_false', Bool.not_true, Bool.not_false, Bool.and_true, Bool.true_and, Bool.and_eq_true, Bool.and_eq_false_iff, decide_eq_true_eq, decide_eq_false_iff_not, Bool.false_eq_true, reduceCtorEq, false_iff, true_iff, beq_iff_eq, bne_iff_ne, beq_eq_false_iff_ne, bne_eq_false_iff_eq, ne_eq, not_false_eq_true, not_true_eq_false, true_or, or_true, true_implies, false_implies, implies_true, and_self, true_and, false_and, or_false, false_or, and_true, and_false] at *; simp only [mayN, inQ, lenMay, not_false_eq_true, not_true_eq_false, true_or, or_true, true_implies, false_implies, implies_true, and_self, true_and, false_and, or_false, false_or, and_true, and_false] at *; omega)
      · cases h
    · cases h
  · cases h
theorem may_at3 : FunOk Tryz.prog 143 (mayAt fun op => decide (op = 3)) := by
  have hC := table_ok (P := Tryz.prog) (l := tabMay) (table_more number_ok (table_more lasts_ok (table_more count_ok table_nil)))
  have t1 := fun args mm => table_at (l := tabMay) (f := 158) (args := args) (m := mm) rfl
  have t2 := fun args mm => table_at (l := tabMay) (f := 159) (args := args) (m := mm) rfl
  have t3 := fun args mm => table_at (l := tabMay) (f := 160) (args := args) (m := mm) rfl
  refine fun_ok mixed hC Tryz.func143 rfl kpMay false rfl fun args m r h => ?_
  unfold mayAt at h
  split at h
  · rename_i cs
    split at h
    · rename_i x hx
      split at h
      · rename_i hop
        obtain rfl := unNd_row hx
        obtain ⟨op, a, b, c, k, u, n⟩ := x
        have hop := of_decide_eq_true hop
        simp only at hop
        simp only [Option.some.injEq] at h
        subst h
        refine ⟨Nat.le_of_ble_eq_true rfl, ?_⟩
        simp only [entry, List.length_cons, List.length_nil, List.range, List.range.loop, List.zip_cons_cons, List.zip_nil_right]
        have fin : ∀ (e : Env) (m' : Mem) (z : Bool), Ev.get e 2 = .v (.bool z) → finMem m m' = m → (z = true ↔ mayN ⟨op, a, b, c, k, u, n⟩) → Leaves Tryz.prog false Tryz.f143 m (.v (.bool (decide (mayN ⟨op, a, b, c, k, u, n⟩))), m) .ret e m' := fun e m' z h1 h2 h3 => by
          have : z = decide (mayN ⟨op, a, b, c, k, u, n⟩) := by rw [Bool.eq_iff_iff, decide_eq_true_eq]; exact h3
          rw [← this]
          exact leaves_fin rfl h1 h2
        subst hop
        repeat' (first | refine gos1 (jn @t1 (jn @q_eq (jn @t2 (jn @ll_eq @t3)))) ?_ | (refine ops_here ?_; (fail_if_success (refine ops_case (B := true) rfl rfl rfl ?_ ?_)); (fail_if_success (refine ops_case (B := false) rfl rfl rfl ?_ ?_)); refine ops_case rfl rfl rfl (fun hB => ?_) (fun hB => ?_) <;> rw [hB]) | (refine runs_here ?_; refine runs_cond rfl (fun hc => ?_) (fun hc => ?_) <;> first | (cases hc; done) | skip))
        all_goals exact fin _ _ _ rfl (by first | exact fin_push | exact fin_two) (by clear fin hx t1 t2 t3 hC; simp only [Bool.not_eq_true', Bool.not_eq_false', Bool.not_true, Bool.not_false, Bool.and_true, Bool.true_and, Bool.and_eq_true, Bool.and_eq_false_iff, decide_eq_true_eq, decide_eq_false_iff_not, Bool.false_eq_true, reduceCtorEq, false_iff, true_iff, beq_iff_eq, bne_iff_ne, beq_eq_false_iff_ne, bne_eq_false_iff_eq, ne_eq, not_false_eq_true, not_true_eq_false, true_or, or_true, true_implies, false_implies, implies_true, and_self, true_and, false_and, or_false, false_or, and_true, and_false] at *; simp only [mayN, inQ, lenMay, not_false_eq_true, not_true_eq_false, true_or, or_true, true_implies, false_implies, implies_true, and_self, true_and, false_and, or_false, false_or, and_true, and_false] at *; omega)
      · cases h
    · cases h
  · cases h
end Go.Proofs.YtojaokhkbmiidaaGreat.Ev

namespace Go.Proofs.YtojaokhkbmiidaaGreat.Ev
open Go Go.Proofs
set_option maxRecDepth 10000
set_option maxHeartbeats 16000000
set_option linter.unusedVariables false
set_option linter.unusedSimpArgs false
attribute [local irreducible] Next Inside Runs Ops table nrow
attribute [local go_sem] szStr szInt Option.getD_some isNil evStr loadOne newNode cellsNode nf0 nf1 nf2 nf3 nf4 nf5 nh0 nh1 nh2 nh3 nh4 nh5 loadNodeLen underInt underLen underNode topNode zeroNode okNode putNode putC putLen mkKept mkA mkAB mkAL mkL niNode eqNode Nat.zero_add
theorem may_at4 : FunOk Tryz.prog 143 (mayAt fun op => decide (op = 4)) := by
  have hC := table_ok (P := Tryz.prog) (l := tabMay) (table_more number_ok (table_more lasts_ok (table_more count_ok table_nil)))
  have t1 := fun args mm => table_at (l := tabMay) (f := 158) (args := args) (m := mm) rfl
  have t2 := fun args mm => table_at (l := tabMay) (f := 159) (args := args) (m := mm) rfl
  have t3 := fun args mm => table_at (l := tabMay) (f := 160) (args := args) (m := mm) rfl
  refine fun_ok mixed hC Tryz.func143 rfl kpMay false rfl fun args m r h => ?_
  unfold mayAt at h
  split at h
  · rename_i cs
    split at h
    · rename_i x hx
      split at h
      · rename_i hop
        obtain rfl := unNd_row hx
        obtain ⟨op, a, b, c, k, u, n⟩ := x
        have hop := of_decide_eq_true hop
        simp only at hop
        simp only [Option.some.injEq] at h
        subst h
        refine ⟨Nat.le_of_ble_eq_true rfl, ?_⟩
        simp only [entry, List.length_cons, List.length_nil, List.range, List.range.loop, List.zip_cons_cons, List.zip_nil_right]
        have fin : ∀ (e : Env) (m' : Mem) (z : Bool), Ev.get e 2 = .v (.bool z) → finMem m m' = m → (z = true ↔ mayN ⟨op, a, b, c, k, u, n⟩) → Leaves Tryz.prog false Tryz.f143 m (.v (.bool (decide (mayN ⟨op, a, b, c, k, u, n⟩))), m) .ret e m' := fun e m' z h1 h2 h3 => by
          have : z = decide (mayN ⟨op, a, b, c, k, u, n⟩) := by rw [Bool.eq_iff_iff, decide_eq_true_eq]; exact h3
          rw [← this]
          exact leaves_fin rfl h1 h2
        subst hop
        repeat' (first | refine gos1 (jn @t1 (jn @q_eq (jn @t2 (jn @ll_eq @t3)))) ?_ | (refine ops_here ?_; (fail_if_success (refine ops_case (B := true) rfl rfl rfl ?_ ?_)); (fail_if_success (refine ops_case (B := false) rfl rfl rfl ?_ ?_)); refine ops_case rfl rfl rfl (fun hB => ?_) (fun hB => ?_) <;> rw [hB]) | (refine runs_here ?_; refine runs_cond rfl (fun hc => ?_) (fun hc => ?_) <;> first | (cases hc; done) | skip))
        all_goals exact fin _ _ _ rfl (by first | exact fin_push | exact fin_two) (by clear fin hx t1 t2 t3 hC; simp only [Bool.not_eq_true', Bool.not_eq_false', Bool.not_true, Bool.not_false, Bool.and_true, Bool.true_and, Bool.and_eq_true, Bool.and_eq_false_iff, decide_eq_true_eq, decide_eq_false_iff_not, Bool.false_eq_true, reduceCtorEq, false_iff, true_iff, beq_iff_eq, bne_iff_ne, beq_eq_false_iff_ne, bne_eq_false_iff_eq, ne_eq, not_false_eq_true, not_true_eq_false, true_or, or_true, true_implies, false_implies, implies_true, and_self, true_and, false_and, or_false, false_or, and_true, and_false] at *; simp only [mayN, inQ, lenMay, not_false_eq_true, not_true_eq_false, true_or, or_true, true_implies, false_implies, implies_true, and_self, true_and, false_and, or_false, false_or, and_true, and_false] at *; omega)
      · cases h
    · cases h
  · cases h
theorem may_at5 : FunOk Tryz.prog 143 (mayAt fun op => decide (op = 5)) := by
  have hC := table_ok (P := Tryz.prog) (l := tabMay) (table_more number_ok (table_more lasts_ok (table_more count_ok table_nil)))
  have t1 := fun args mm => table_at (l := tabMay) (f := 158) (args := args) (m := mm) rfl
  have t2 := fun args mm => table_at (l := tabMay) (f := 159) (args := args) (m := mm) rfl
  have t3 := fun args mm => table_at (l := tabMay) (f := 160) (args := args) (m := mm) rfl
  refine fun_ok mixed hC Tryz.func143 rfl kpMay false rfl fun args m r h => ?_
  unfold mayAt at h
  split at h
  · rename_i cs
    split at h
    · rename_i x hx
      split at h
      · rename_i hop
        obtain rfl := unNd_row hx
        obtain ⟨op, a, b, c, k, u, n⟩ := x
        have hop := of_decide_eq_true hop
        simp only at hop
        simp only [Option.some.injEq] at h
        subst h
        refine ⟨Nat.le_of_ble_eq_true rfl, ?_⟩
        simp only [entry, List.length_cons, List.length_nil, List.range, List.range.loop, List.zip_cons_cons, List.zip_nil_right]
        have fin : ∀ (e : Env) (m' : Mem) (z : Bool), Ev.get e 2 = .v (.bool z) → finMem m m' = m → (z = true ↔ mayN ⟨op, a, b, c, k, u, n⟩) → Leaves Tryz.prog false Tryz.f143 m (.v (.bool (decide (mayN ⟨op, a, b, c, k, u, n⟩))), m) .ret e m' := fun e m' z h1 h2 h3 => by
          have : z = decide (mayN ⟨op, a, b, c, k, u, n⟩) := by rw [Bool.eq_iff_iff, decide_eq_true_eq]; exact h3
          rw [← this]
          exact leaves_fin rfl h1 h2
        subst hop
        repeat' (first | refine gos1 (jn @t1 (jn @q_eq (jn @t2 (jn @ll_eq @t3)))) ?_ | (refine ops_here ?_; (fail_if_success (refine ops_case (B := true) rfl rfl rfl ?_ ?_)); (fail_if_success (refine ops_case (B := false) rfl rfl rfl ?_ ?_)); refine ops_case rfl rfl rfl (fun hB => ?_) (fun hB => ?_) <;> rw [hB]) | (refine runs_here ?_; refine runs_cond rfl (fun hc => ?_) (fun hc => ?_) <;> first | (cases hc; done) | skip))
        all_goals exact fin _ _ _ rfl (by first | exact fin_push | exact fin_two) (by clear fin hx t1 t2 t3 hC; simp only [Bool.not_eq_true', Bool.not_eq_false', Bool.not_true, Bool.not_false, Bool.and_true, Bool.true_and, Bool.and_eq_true, Bool.and_eq_false_iff, decide_eq_true_eq, decide_eq_false_iff_not, Bool.false_eq_true, reduceCtorEq, false_iff, true_iff, beq_iff_eq, bne_iff_ne, beq_eq_false_iff_ne, bne_eq_false_iff_eq, ne_eq, not_false_eq_true, not_true_eq_false, true_or, or_true, true_implies, false_implies, implies_true, and_self, true_and, false_and, or_false, false_or, and_true, and_false] at *; simp only [mayN, inQ, lenMay, not_false_eq_true, not_true_eq_false, true_or, or_true, true_implies, false_implies, implies_true, and_self, true_and, false_and, or_false, false_or, and_true, and_false] at *; omega)
      · cases h
    · cases h
  · cases h
end Go.Proofs.YtojaokhkbmiidaaGreat.Ev

namespace Go.Proofs.YtojaokhkbmiidaaGreat.Ev
open Go Go.Proofs
set_option maxRecDepth 10000
set_option maxHeartbeats 16000000
set_option linter.unusedVariables false
set_option linter.unusedSimpArgs false
attribute [local irreducible] Next Inside Runs Ops table nrow
attribute [local go_sem] szStr szInt Option.getD_some isNil evStr loadOne newNode cellsNode nf0 nf1 nf2 nf3 nf4 nf5 nh0 nh1 nh2 nh3 nh4 nh5 loadNodeLen underInt underLen underNode topNode zeroNode okNode putNode putC putLen mkKept mkA mkAB mkAL mkL niNode eqNode Nat.zero_add
theorem may_at6 : FunOk Tryz.prog 143 (mayAt fun op => decide (op = 6)) := by
  have hC := table_ok (P := Tryz.prog) (l := tabMay) (table_more number_ok (table_more lasts_ok (table_more count_ok table_nil)))
  have t1 := fun args mm => table_at (l := tabMay) (f := 158) (args := args) (m := mm) rfl
  have t2 := fun args mm => table_at (l := tabMay) (f := 159) (args := args) (m := mm) rfl
  have t3 := fun args mm => table_at (l := tabMay) (f := 160) (args := args) (m := mm) rfl
  refine fun_ok mixed hC Tryz.func143 rfl kpMay false rfl fun args m r h => ?_
  unfold mayAt at h
  split at h
  · rename_i cs
    split at h
    · rename_i x hx
      split at h
      · rename_i hop
        obtain rfl := unNd_row hx
        obtain ⟨op, a, b, c, k, u, n⟩ := x
        have hop := of_decide_eq_true hop
        simp only at hop
        simp only [Option.some.injEq] at h
        subst h
        refine ⟨Nat.le_of_ble_eq_true rfl, ?_⟩
        simp only [entry, List.length_cons, List.length_nil, List.range, List.range.loop, List.zip_cons_cons, List.zip_nil_right]
        have fin : ∀ (e : Env) (m' : Mem) (z : Bool), Ev.get e 2 = .v (.bool z) → finMem m m' = m → (z = true ↔ mayN ⟨op, a, b, c, k, u, n⟩) → Leaves Tryz.prog false Tryz.f143 m (.v (.bool (decide (mayN ⟨op, a, b, c, k, u, n⟩))), m) .ret e m' := fun e m' z h1 h2 h3 => by
          have : z = decide (mayN ⟨op, a, b, c, k, u, n⟩) := by rw [Bool.eq_iff_iff, decide_eq_true_eq]; exact h3
          rw [← this]
          exact leaves_fin rfl h1 h2
        subst hop
        repeat' (first | refine gos1 (jn @t1 (jn @q_eq (jn @t2 (jn @ll_eq @t3)))) ?_ | (refine ops_here ?_; (fail_if_success (refine ops_case (B := true) rfl rfl rfl ?_ ?_)); (fail_if_success (refine ops_case (B := false) rfl rfl rfl ?_ ?_)); refine ops_case rfl rfl rfl (fun hB => ?_) (fun hB => ?_) <;> rw [hB]) | (refine runs_here ?_; refine runs_cond rfl (fun hc => ?_) (fun hc => ?_) <;> first | (cases hc; done) | skip))
        all_goals exact fin _ _ _ rfl (by first | exact fin_push | exact fin_two) (by clear fin hx t1 t2 t3 hC; simp only [Bool.not_eq_true', Bool.not_eq_false', Bool.not_true, Bool.not_false, Bool.and_true, Bool.true_and, Bool.and_eq_true, Bool.and_eq_false_iff, decide_eq_true_eq, decide_eq_false_iff_not, Bool.false_eq_true, reduceCtorEq, false_iff, true_iff, beq_iff_eq, bne_iff_ne, beq_eq_false_iff_ne, bne_eq_false_iff_eq, ne_eq, not_false_eq_true, not_true_eq_false, true_or, or_true, true_implies, false_implies, implies_true, and_self, true_and, false_and, or_false, false_or, and_true, and_false] at *; simp only [mayN, inQ, lenMay, not_false_eq_true, not_true_eq_false, true_or, or_true, true_implies, false_implies, implies_true, and_self, true_and, false_and, or_false, false_or, and_true, and_false] at *; omega)
      · cases h
    · cases h
  · cases h
theorem may_at7 : FunOk Tryz.prog 143 (mayAt fun op => decide (op = 7)) := by
  have hC := table_ok (P := Tryz.prog) (l := tabMay) (table_more number_ok (table_more lasts_ok (table_more count_ok table_nil)))
  have t1 := fun args mm => table_at (l := tabMay) (f := 158) (args := args) (m := mm) rfl
  have t2 := fun args mm => table_at (l := tabMay) (f := 159) (args := args) (m := mm) rfl
  have t3 := fun args mm => table_at (l := tabMay) (f := 160) (args := args) (m := mm) rfl
  refine fun_ok mixed hC Tryz.func143 rfl kpMay false rfl fun args m r h => ?_
  unfold mayAt at h
  split at h
  · rename_i cs
    split at h
    · rename_i x hx
      split at h
      · rename_i hop
        obtain rfl := unNd_row hx
        obtain ⟨op, a, b, c, k, u, n⟩ := x
        have hop := of_decide_eq_true hop
        simp only at hop
        simp only [Option.some.injEq] at h
        subst h
        refine ⟨Nat.le_of_ble_eq_true rfl, ?_⟩
        simp only [entry, List.length_cons, List.length_nil, List.range, List.range.loop, List.zip_cons_cons, List.zip_nil_right]
        have fin : ∀ (e : Env) (m' : Mem) (z : Bool), Ev.get e 2 = .v (.bool z) → finMem m m' = m → (z = true ↔ mayN ⟨op, a, b, c, k, u, n⟩) → Leaves Tryz.prog false Tryz.f143 m (.v (.bool (decide (mayN ⟨op, a, b, c, k, u, n⟩))), m) .ret e m' := fun e m' z h1 h2 h3 => by
          have : z = decide (mayN ⟨op, a, b, c, k, u, n⟩) := by rw [Bool.eq_iff_iff, decide_eq_true_eq]; exact h3
          rw [← this]
          exact leaves_fin rfl h1 h2
        subst hop
        repeat' (first | refine gos1 (jn @t1 (jn @q_eq (jn @t2 (jn @ll_eq @t3)))) ?_ | (refine ops_here ?_; (fail_if_success (refine ops_case (B := true) rfl rfl rfl ?_ ?_)); (fail_if_success (refine ops_case (B := false) rfl rfl rfl ?_ ?_)); refine ops_case rfl rfl rfl (fun hB => ?_) (fun hB => ?_) <;> rw [hB]) | (refine runs_here ?_; refine runs_cond rfl (fun hc => ?_) (fun hc => ?_) <;> first | (cases hc; done) | skip))
        all_goals exact fin _ _ _ rfl (by first | exact fin_push | exact fin_two) (by clear fin hx t1 t2 t3 hC; simp only [Bool.not_eq_true', Bool.not_eq_false', Bool.not_true, Bool.not_false, Bool.and_true, Bool.true_and, Bool.and_eq_true, Bool.and_eq_false_iff, decide_eq_true_eq, decide_eq_false_iff_not, Bool.false_eq_true, reduceCtorEq, false_iff, true_iff, beq_iff_eq, bne_iff_ne, beq_eq_false_iff_ne, bne_eq_false_iff_eq, ne_eq, not_false_eq_true, not_true_eq_false, true_or, or_true, true_implies, false_implies, implies_true, and_self, true_and, false_and, or_false, false_or, and_true, and_false] at *; simp only [mayN, inQ, lenMay, not_false_eq_true, not_true_eq_false, true_or, or_true, true_implies, false_implies, implies_true, and_self, true_and, false_and, or_false, false_or, and_true, and_false] at *; omega)
      · cases h
    · cases h
  · cases h
end Go.Proofs.YtojaokhkbmiidaaGreat.Ev

namespace Go.Proofs.YtojaokhkbmiidaaGreat.Ev
open Go Go.Proofs
set_option maxRecDepth 10000
set_option maxHeartbeats 16000000
set_option linter.unusedVariables false
set_option linter.unusedSimpArgs false
attribute [local irreducible] Next Inside Runs Ops table nrow
attribute [local go_sem] szStr szInt Option.getD_some isNil evStr loadOne newNode cellsNode nf0 nf1 nf2 nf3 nf4 nf5 nh0 nh1 nh2 nh3 nh4 nh5 loadNodeLen underInt underLen underNode topNode zeroNode okNode putNode putC putLen mkKept mkA mkAB mkAL mkL niNode eqNode Nat.zero_add
theorem may_at8 : FunOk Tryz.prog 143 (mayAt fun op => decide (op = 8)) := by
  have hC := table_ok (P := Tryz.prog) (l := tabMay) (table_more number_ok (table_more lasts_ok (table_more count_ok table_nil)))
  have t1 := fun args mm => table_at (l := tabMay) (f := 158) (args := args) (m := mm) rfl
  have t2 := fun args mm => table_at (l := tabMay) (f := 159) (args := args) (m := mm) rfl
  have t3 := fun args mm => table_at (l := tabMay) (f := 160) (args := args) (m := mm) rfl
  refine fun_ok mixed hC Tryz.func143 rfl kpMay false rfl fun args m r h => ?_
  unfold mayAt at h
  split at h
  · rename_i cs
    split at h
    · rename_i x hx
      split at h
      · rename_i hop
        obtain rfl := unNd_row hx
        obtain ⟨op, a, b, c, k, u, n⟩ := x
        have hop := of_decide_eq_true hop
        simp only at hop
        simp only [Option.some.injEq] at h
        subst h
        refine ⟨Nat.le_of_ble_eq_true rfl, ?_⟩
        simp only [entry, List.length_cons, List.length_nil, List.range, List.range.loop, List.zip_cons_cons, List.zip_nil_right]
        have fin : ∀ (e : Env) (m' : Mem) (z : Bool), Ev.get e 2 = .v (.bool z) → finMem m m' = m → (z = true ↔ mayN ⟨op, a, b, c, k, u, n⟩) → Leaves Tryz.prog false Tryz.f143 m (.v (.bool (decide (mayN ⟨op, a, b, c, k, u, n⟩))), m) .ret e m' := fun e m' z h1 h2 h3 => by
          have : z = decide (mayN ⟨op, a, b, c, k, u, n⟩) := by rw [Bool.eq_iff_iff, decide_eq_true_eq]; exact h3
          rw [← this]
          exact leaves_fin rfl h1 h2
        subst hop
        repeat' (first | refine gos1 (jn @t1 (jn @q_eq (jn @t2 (jn @ll_eq @t3)))) ?_ | (refine ops_here ?_; (fail_if_success (refine ops_case (B := true) rfl rfl rfl ?_ ?_)); (fail_if_success (refine ops_case (B := false) rfl rfl rfl ?_ ?_)); refine ops_case rfl rfl rfl (fun hB => ?_) (fun hB => ?_) <;> rw [hB]) | (refine runs_here ?_; refine runs_cond rfl (fun hc => ?_) (fun hc => ?_) <;> first | (cases hc; done) | skip))
        all_goals exact fin _ _ _ rfl (by first | exact fin_push | exact fin_two) (by clear fin hx t1 t2 t3 hC; simp only [Bool.not_eq_true', Bool.not_eq_false', Bool.not_true, Bool.not_false, Bool.and_true, Bool.true_and, Bool.and_eq_true, Bool.and_eq_false_iff, decide_eq_true_eq, decide_eq_false_iff_not, Bool.false_eq_true, reduceCtorEq, false_iff, true_iff, beq_iff_eq, bne_iff_ne, beq_eq_false_iff_ne, bne_eq_false_iff_eq, ne_eq, not_false_eq_true, not_true_eq_false, true_or, or_true, true_implies, false_implies, implies_true, and_self, true_and, false_and, or_false, false_or, and_true, and_false] at *; simp only [mayN, inQ, lenMay, not_false_eq_true, not_true_eq_false, true_or, or_true, true_implies, false_implies, implies_true, and_self, true_and, false_and, or_false, false_or, and_true, and_false] at *; omega)
      · cases h
    · cases h
  · cases h
theorem may_at9 : FunOk Tryz.prog 143 (mayAt fun op => decide (op = 9)) := by
  have hC := table_ok (P := Tryz.prog) (l := tabMay) (table_more number_ok (table_more lasts_ok (table_more count_ok table_nil)))
  have t1 := fun args mm => table_at (l := tabMay) (f := 158) (args := args) (m := mm) rfl
  have t2 := fun args mm => table_at (l := tabMay) (f := 159) (args := args) (m := mm) rfl
  have t3 := fun args mm => table_at (l := tabMay) (f := 160) (args := args) (m := mm) rfl
  refine fun_ok mixed hC Tryz.func143 rfl kpMay false rfl fun args m r h => ?_
  unfold mayAt at h
  split at h
  · rename_i cs
    split at h
    · rename_i x hx
      split at h
      · rename_i hop
        obtain rfl := unNd_row hx
        obtain ⟨op, a, b, c, k, u, n⟩ := x
        have hop := of_decide_eq_true hop
        simp only at hop
        simp only [Option.some.injEq] at h
        subst h
        refine ⟨Nat.le_of_ble_eq_true rfl, ?_⟩
        simp only [entry, List.length_cons, List.length_nil, List.range, List.range.loop, List.zip_cons_cons, List.zip_nil_right]
        have fin : ∀ (e : Env) (m' : Mem) (z : Bool), Ev.get e 2 = .v (.bool z) → finMem m m' = m → (z = true ↔ mayN ⟨op, a, b, c, k, u, n⟩) → Leaves Tryz.prog false Tryz.f143 m (.v (.bool (decide (mayN ⟨op, a, b, c, k, u, n⟩))), m) .ret e m' := fun e m' z h1 h2 h3 => by
          have : z = decide (mayN ⟨op, a, b, c, k, u, n⟩) := by rw [Bool.eq_iff_iff, decide_eq_true_eq]; exact h3
          rw [← this]
          exact leaves_fin rfl h1 h2
        subst hop
        repeat' (first | refine gos1 (jn @t1 (jn @q_eq (jn @t2 (jn @ll_eq @t3)))) ?_ | (refine ops_here ?_; (fail_if_success (refine ops_case (B := true) rfl rfl rfl ?_ ?_)); (fail_if_success (refine ops_case (B := false) rfl rfl rfl ?_ ?_)); refine ops_case rfl rfl rfl (fun hB => ?_) (fun hB => ?_) <;> rw [hB]) | (refine runs_here ?_; refine runs_cond rfl (fun hc => ?_) (fun hc => ?_) <;> first | (cases hc; done) | skip))
        all_goals exact fin _ _ _ rfl (by first | exact fin_push | exact fin_two) (by clear fin hx t1 t2 t3 hC; simp only [Bool.not_eq_true', Bool.not_eq_false', Bool.not_true, Bool.not_false, Bool.and_true, Bool.true_and, Bool.and_eq_true, Bool.and_eq_false_iff, decide_eq_true_eq, decide_eq_false_iff_not, Bool.false_eq_true, reduceCtorEq, false_iff, true_iff, beq_iff_eq, bne_iff_ne, beq_eq_false_iff_ne, bne_eq_false_iff_eq, ne_eq, not_false_eq_true, not_true_eq_false, true_or, or_true, true_implies, false_implies, implies_true, and_self, true_and, false_and, or_false, false_or, and_true, and_false] at *; simp only [mayN, inQ, lenMay, not_false_eq_true, not_true_eq_false, true_or, or_true, true_implies, false_implies, implies_true, and_self, true_and, false_and, or_false, false_or, and_true, and_false] at *; omega)
      · cases h
    · cases h
  · cases h
theorem may_else : FunOk Tryz.prog 143 (mayAt fun op => decide (op < 1 ∨ 9 < op)) := by
  have hC := table_ok (P := Tryz.prog) (l := tabMay) (table_more number_ok (table_more lasts_ok (table_more count_ok table_nil)))
  have t1 := fun args mm => table_at (l := tabMay) (f := 158) (args := args) (m := mm) rfl
  have t2 := fun args mm => table_at (l := tabMay) (f := 159) (args := args) (m := mm) rfl
  have t3 := fun args mm => table_at (l := tabMay) (f := 160) (args := args) (m := mm) rfl
  refine fun_ok mixed hC Tryz.func143 rfl kpMay false rfl fun args m r h => ?_
  unfold mayAt at h
  split at h
  · rename_i cs
    split at h
    · rename_i x hx
      split at h
      · rename_i hop
        obtain rfl := unNd_row hx
        obtain ⟨op, a, b, c, k, u, n⟩ := x
        have hop := of_decide_eq_true hop
        simp only at hop
        simp only [Option.some.injEq] at h
        subst h
        refine ⟨Nat.le_of_ble_eq_true rfl, ?_⟩
        simp only [entry, List.length_cons, List.length_nil, List.range, List.range.loop, List.zip_cons_cons, List.zip_nil_right]
        have fin : ∀ (e : Env) (m' : Mem) (z : Bool), Ev.get e 2 = .v (.bool z) → finMem m m' = m → (z = true ↔ mayN ⟨op, a, b, c, k, u, n⟩) → Leaves Tryz.prog false Tryz.f143 m (.v (.bool (decide (mayN ⟨op, a, b, c, k, u, n⟩))), m) .ret e m' := fun e m' z h1 h2 h3 => by
          have : z = decide (mayN ⟨op, a, b, c, k, u, n⟩) := by rw [Bool.eq_iff_iff, decide_eq_true_eq]; exact h3
          rw [← this]
          exact leaves_fin rfl h1 h2
        have e1 : (op == 1) = false := beq_eq_false_iff_ne.2 (by omega)
        have e2 : (op == 2) = false := beq_eq_false_iff_ne.2 (by omega)
        have e3 : (op == 3) = false := beq_eq_false_iff_ne.2 (by omega)
        have e4 : (op == 4) = false := beq_eq_false_iff_ne.2 (by omega)
        have e5 : (op == 5) = false := beq_eq_false_iff_ne.2 (by omega)
        have e6 : (op == 6) = false := beq_eq_false_iff_ne.2 (by omega)
        have e7 : (op == 7) = false := beq_eq_false_iff_ne.2 (by omega)
        have e8 : (op == 8) = false := beq_eq_false_iff_ne.2 (by omega)
        have e9 : (op == 9) = false := beq_eq_false_iff_ne.2 (by omega)
        repeat' (first | refine gos1 (jn @t1 (jn @q_eq (jn @t2 (jn @ll_eq (jn @t3 (jn @e1 (jn @e2 (jn @e3 (jn @e4 (jn @e5 (jn @e6 (jn @e7 @e8)))))))))))) ?_ | (refine ops_here ?_; (fail_if_success (refine ops_case (B := true) rfl rfl rfl ?_ ?_)); (fail_if_success (refine ops_case (B := false) rfl rfl rfl ?_ ?_)); refine ops_case rfl rfl rfl (fun hB => ?_) (fun hB => ?_) <;> rw [hB]) | (refine runs_here ?_; refine runs_cond rfl (fun hc => ?_) (fun hc => ?_) <;> first | (cases hc; done) | skip))
        all_goals exact fin _ _ _ rfl (by first | exact fin_push | exact fin_two) (by clear fin hx t1 t2 t3 hC; simp only [Bool.not_eq_true', Bool.not_eq_false', Bool.not_true, Bool.not_false, Bool.and_true, Bool.true_and, Bool.and_eq_true, Bool.and_eq_false_iff, decide_eq_true_eq, decide_eq_false_iff_not, Bool.false_eq_true, reduceCtorEq, false_iff, true_iff, beq_iff_eq, bne_iff_ne, beq_eq_false_iff_ne, bne_eq_false_iff_eq, ne_eq, not_false_eq_true, not_true_eq_false, true_or, or_true, true_implies, false_implies, implies_true, and_self, true_and, false_and, or_false, false_or, and_true, and_false] at *; simp only [mayN, inQ, lenMay, not_false_eq_true, not_true_eq_false, true_or, or_true, true_implies, false_implies, implies_true, and_self, true_and, false_and, or_false, false_or, and_true, and_false] at *; omega)
      · cases h
    · cases h
  · cases h
end Go.Proofs.YtojaokhkbmiidaaGreat.Ev

namespace Go.Proofs.YtojaokhkbmiidaaGreat.Ev
open Go Go.Proofs
theorem may_ok : FunOk Tryz.prog 143 mayG := may_all fun op => by
  rcases (by omega : (op < 1 ∨ 9 < op) ∨ op = 1 ∨ op = 2 ∨ op = 3 ∨ op = 4 ∨ op = 5 ∨ op = 6 ∨ op = 7 ∨ op = 8 ∨ op = 9) with h | h | h | h | h | h | h | h | h | h
  · exact ⟨_, decide_eq_true h, may_else⟩
  · exact ⟨_, decide_eq_true h, may_at1⟩
  · exact ⟨_, decide_eq_true h, may_at2⟩
  · exact ⟨_, decide_eq_true h, may_at3⟩
  · exact ⟨_, decide_eq_true h, may_at4⟩
  · exact ⟨_, decide_eq_true h, may_at5⟩
  · exact ⟨_, decide_eq_true h, may_at6⟩
  · exact ⟨_, decide_eq_true h, may_at7⟩
  · exact ⟨_, decide_eq_true h, may_at8⟩
  · exact ⟨_, decide_eq_true h, may_at9⟩
end Go.Proofs.YtojaokhkbmiidaaGreat.Ev

namespace Go.Proofs.YtojaokhkbmiidaaGreat.Ev
open Go Go.Proofs
set_option maxRecDepth 10000
set_option linter.unusedVariables false
set_option linter.unusedSimpArgs false
attribute [local irreducible] Next Inside Runs Ops table
def cwords : List ByteArray := [⟨#[]⟩, ⟨#[99, 111, 110, 115, 116]⟩, ⟨#[108, 105, 110, 101]⟩, ⟨#[112, 111, 108, 121]⟩, ⟨#[101, 120, 112]⟩, ⟨#[119, 97, 118, 101]⟩]
theorem mkWords6 : evBuild Tryz.prog 163 [(0, .v (.string ⟨#[]⟩)), (1, .v (.string ⟨#[99, 111, 110, 115, 116]⟩)), (2, .v (.string ⟨#[108, 105, 110, 101]⟩)), (3, .v (.string ⟨#[112, 111, 108, 121]⟩)), (4, .v (.string ⟨#[101, 120, 112]⟩)), (5, .v (.string ⟨#[119, 97, 118, 101]⟩))] = some (.agg (strCells cwords)) := by kernel_rfl
theorem zeroWords6 : zeroCells Tryz.prog 163 = some (strCells [⟨#[]⟩, ⟨#[]⟩, ⟨#[]⟩, ⟨#[]⟩, ⟨#[]⟩, ⟨#[]⟩]) := by kernel_rfl
theorem okWords6 : (strCells [⟨#[]⟩, ⟨#[]⟩, ⟨#[]⟩, ⟨#[]⟩, ⟨#[]⟩, ⟨#[]⟩]).all okCell = true := rfl
theorem szWords6 : tSize Tryz.prog 163 = some 6 := by kernel_rfl
theorem arrWords6 : tArr Tryz.prog 163 = some (6, 9) := by simp only [tArr, Tryz.underlying163]
theorem newWords6 {m : Mem} : newVar m m.vars.length (strCells [⟨#[]⟩, ⟨#[]⟩, ⟨#[]⟩, ⟨#[]⟩, ⟨#[]⟩, ⟨#[]⟩]) = some (m.push (strCells [⟨#[]⟩, ⟨#[]⟩, ⟨#[]⟩, ⟨#[]⟩, ⟨#[]⟩, ⟨#[]⟩])) := newVar_push rfl
theorem putWords6 {m : Mem} : evStore Tryz.prog (m.push (strCells [⟨#[]⟩, ⟨#[]⟩, ⟨#[]⟩, ⟨#[]⟩, ⟨#[]⟩, ⟨#[]⟩])) 163 (.ptr m.vars.length 0) (.agg (strCells cwords)) = some (m.push (strCells cwords)) := by
  rw [store_push (cs := strCells cwords) rfl szWords6 (by decide) rfl]
  rfl
attribute [local go_sem] szStr szInt Option.getD_some isNil loadStr loadInt mkInts0 mkInts1 mkStrs0 mkStrs1 rowsS_len rowsI_len rowsN_len evStr fldOp ldOp mkWords6 zeroWords6 okWords6 newWords6 putWords6
def cword (op : Int) : ByteArray := if 0 ≤ op ∧ op < 6 then cwords.getD op.toNat ⟨#[]⟩ else ⟨#[]⟩
def wordG : List AV → Mem → Option (AV × Mem)
  | [.v (.int .i64 op)], m => some (.v (.string (cword op)), m)
  | _, _ => none
def kpWord : Nat → Option (List Nat) := fun _ => some [0, 2, 3, 10]
attribute [go_sem] kpWord
theorem word_ok : FunOk Tryz.prog 150 wordG := by
  have hC := table_ok (P := Tryz.prog) (l := []) table_nil
  refine fun_ok mixed hC Tryz.func150 rfl kpWord false rfl fun args m r h => ?_
  unfold wordG at h
  split at h
  · rename_i op
    simp only [Option.some.injEq] at h
    subst h
    refine ⟨Nat.le_of_ble_eq_true rfl, ?_⟩
    simp only [entry, List.length_cons, List.length_nil, List.range, List.range.loop, List.zip_cons_cons, List.zip_nil_right]
    by_cases h0 : op < 0
    · have b0 : decide (op < 0) = true := decide_eq_true h0
      rw [show cword op = ⟨#[]⟩ from if_neg (by omega)]
      refine go1 @b0 ?_
      refine runs_cond rfl (fun hc => ?_) (fun hc => by cases hc)
      refine go0 ?_
      exact leaves_fin rfl rfl fin_push
    · have b0 : decide (op < 0) = false := decide_eq_false h0
      refine go1 @b0 ?_
      refine runs_cond rfl (fun hc => ?_) (fun hc => ?_)
      · have := of_decide_eq_true hc
        rw [show cword op = ⟨#[]⟩ from if_neg (by omega)]
        refine go0 ?_
        exact leaves_fin rfl rfl fin_push
      · have h6 := of_decide_eq_false hc
        obtain ⟨i, rfl⟩ := Int.eq_ofNat_of_zero_le (by omega : 0 ≤ op)
        have f1 := indexAddr_arr (P := Tryz.prog) (kk := .i64) (r := m.vars.length) (off := 0) arrWords6 szStr (by omega : i < 6)
        have f2 := loadVarS (m := m) (cs := strCells cwords) (off := 0 + i * 1)
        have f3 : ((strCells cwords).drop (0 + i * 1)).head? = some (.v (.string (cword (i : Int)))) := by
          rw [show cword (i : Int) = cwords.getD i ⟨#[]⟩ from if_pos ⟨by omega, by omega⟩]
          rcases (by omega : i = 0 ∨ i = 1 ∨ i = 2 ∨ i = 3 ∨ i = 4 ∨ i = 5) with rfl | rfl | rfl | rfl | rfl | rfl <;> rfl
        rw [f3] at f2
        refine go1 (jn @f1 @f2) ?_
        exact leaves_fin rfl rfl fin_push
  · cases h
/-! ### arity -/
def arityOf (op : Int) : Int := if op < 1 ∨ 9 < op then -1 else if op ≤ 7 then 0 else op - 7
theorem arity_in (op : Int) : -1 ≤ arityOf op ∧ arityOf op ≤ 2 := by unfold arityOf; split <;> (try split) <;> omega
def arityG : List AV → Mem → Option (AV × Mem)
  | [.v (.int .i64 op)], m => some (.v (.int .i64 (arityOf op)), m)
  | _, _ => none
def kpArity : Nat → Option (List Nat) := fun _ => some [0, 2, 3, 11, 14]
attribute [go_sem] kpArity
set_option maxHeartbeats 1000000 in
theorem arity_ok : FunOk Tryz.prog 115 arityG := by
  have hC := table_ok (P := Tryz.prog) (l := [(150, wordG)]) (table_more word_ok table_nil)
  have t1 := fun args mm => table_at (l := [(150, wordG)]) (f := 150) (args := args) (m := mm) rfl
  refine fun_ok mixed hC Tryz.func115 rfl kpArity false rfl fun args m r h => ?_
  unfold arityG at h
  split at h
  · rename_i op
    simp only [Option.some.injEq] at h
    subst h
    refine ⟨Nat.le_of_ble_eq_true rfl, ?_⟩
    simp only [entry, List.length_cons, List.length_nil, List.range, List.range.loop, List.zip_cons_cons, List.zip_nil_right]
    have fw : ∀ mm, wordG [.v (.int .i64 op)] mm = some (.v (.string (cword op)), mm) := fun _ => rfl
    refine go1 (jn @t1 @fw) ?_
    refine runs_cond rfl (fun hc => ?_) (fun hc => ?_)
    · have hop : 1 ≤ op ∧ op ≤ 5 := by
        have hne := bytes_ne.1 hc
        unfold cword at hne
        split at hne
        · rename_i h
          refine ⟨?_, by omega⟩
          rcases (by omega : op = 0 ∨ 1 ≤ op) with rfl | h1
          · exact absurd rfl hne
          · exact h1
        · exact absurd rfl hne
      rw [show arityOf op = 0 by unfold arityOf; rw [if_neg (by omega), if_pos (by omega)]]
      refine go0 ?_
      refine runs_cond rfl (fun _ => ?_) (fun hf => absurd (hc.symm.trans hf) (by decide))
      refine go0 ?_
      exact leaves_v rfl rfl
    · have hop : ¬ (1 ≤ op ∧ op ≤ 5) := by
        intro h
        have hne : (cword op != ⟨#[]⟩) = true := by
          rcases (by omega : op = 1 ∨ op = 2 ∨ op = 3 ∨ op = 4 ∨ op = 5) with rfl | rfl | rfl | rfl | rfl <;> decide
        exact absurd (hne.symm.trans hc) (by decide)
      refine go0 ?_
      refine runs_cond rfl (fun h6 => ?_) (fun h6 => ?_)
      · have := eq_of_beq h6
        subst this
        refine go0 ?_
        refine runs_cond rfl (fun _ => ?_) (fun hf => by cases hf)
        refine go0 ?_
        exact leaves_v rfl rfl
      · refine go0 ?_
        refine runs_cond rfl (fun h7 => ?_) (fun h7 => ?_)
        · have := eq_of_beq h7
          subst this
          refine go0 ?_
          exact leaves_v rfl rfl
        · refine go0 ?_
          refine runs_cond rfl (fun h8 => ?_) (fun h8 => ?_)
          · have := eq_of_beq h8
            subst this
            refine go0 ?_
            exact leaves_v rfl rfl
          · refine go0 ?_
            refine runs_cond rfl (fun h9 => ?_) (fun h9 => ?_)
            · have := eq_of_beq h9
              subst this
              refine go0 ?_
              exact leaves_v rfl rfl
            · have e6 := ne_of_beq_false h6
              have e7 := ne_of_beq_false h7
              have e8 := ne_of_beq_false h8
              have e9 := ne_of_beq_false h9
              rw [show arityOf op = -1 by unfold arityOf; exact if_pos (by omega)]
              refine go0 ?_
              exact leaves_v rfl rfl
  · cases h
def kpRefArity : Nat → Option (List Nat) := fun _ => some [0, 2, 8, 10]
attribute [go_sem] kpRefArity
theorem refArity_ok : FunOk Tryz.prog 156 arityG := by
  have hC := table_ok (P := Tryz.prog) (l := []) table_nil
  refine fun_ok mixed hC Tryz.func156 rfl kpRefArity false rfl fun args m r h => ?_
  unfold arityG at h
  split at h
  · rename_i op
    simp only [Option.some.injEq] at h
    subst h
    refine ⟨Nat.le_of_ble_eq_true rfl, ?_⟩
    simp only [entry, List.length_cons, List.length_nil, List.range, List.range.loop, List.zip_cons_cons, List.zip_nil_right]
    by_cases h0 : op < 1
    · have b0 : decide (op < 1) = true := decide_eq_true h0
      rw [show arityOf op = -1 from if_pos (.inl h0)]
      refine go1 @b0 ?_
      refine runs_cond rfl (fun hc => ?_) (fun hc => by cases hc)
      refine go0 ?_
      exact leaves_v rfl rfl
    · have b0 : decide (op < 1) = false := decide_eq_false h0
      refine go1 @b0 ?_
      refine runs_cond rfl (fun hc => ?_) (fun hc => ?_)
      · rw [show arityOf op = -1 from if_pos (.inr (of_decide_eq_true hc))]
        refine go0 ?_
        exact leaves_v rfl rfl
      · have h9 := of_decide_eq_false hc
        have e : arityOf op = if op ≤ 7 then 0 else op - 7 := if_neg (by omega)
        refine go0 ?_
        refine runs_cond rfl (fun hc => ?_) (fun hc => ?_)
        · rw [e, if_pos (of_decide_eq_true hc)]
          refine go0 ?_
          exact leaves_v rfl rfl
        · have r1 : IntKind.i64.wrap (op - 7) = op - 7 := i64_wrap (by omega) (by omega)
          rw [e, if_neg (of_decide_eq_false hc)]
          refine go1 @r1 ?_
          exact leaves_v rfl rfl
  · cases h
end Go.Proofs.YtojaokhkbmiidaaGreat.Ev

namespace Go.Proofs.YtojaokhkbmiidaaGreat.Ev
open Go Go.Proofs
set_option maxRecDepth 10000
set_option maxHeartbeats 4000000
set_option linter.unusedVariables false
set_option linter.unusedSimpArgs false
attribute [local irreducible] Next Inside Runs Ops table
attribute [local go_sem] szStr szInt Option.getD_some isNil loadStr loadInt mkInts0 mkInts1 mkStrs0 mkStrs1 rowsS_len rowsI_len rowsN_len evStr fldOp ldOp
/-- The place behind so many trees, of nodes that begin at a place. -/
def endW : List Nd → Nat → Nat → Int
  | _, 0, p => p
  | [], _ + 1, _ => -1
  | x :: r, k + 1, p => if arityOf x.op < 0 then -1 else endW r (k + (arityOf x.op).toNat) (p + 1)
theorem endW_in : ∀ (xs : List Nd) (k p : Nat), endW xs k p = -1 ∨ ((p : Int) ≤ endW xs k p ∧ endW xs k p ≤ ((p + xs.length : Nat) : Int) ∧ (0 < k → (p : Int) < endW xs k p))
  | _, 0, p => by rw [endW]; exact .inr ⟨Int.le_refl _, by omega, fun h => by omega⟩
  | [], k + 1, p => .inl rfl
  | x :: r, k + 1, p => by
    rw [endW]
    split
    · exact .inl rfl
    · rcases endW_in r (k + (arityOf x.op).toNat) (p + 1) with h | ⟨h1, h2, _⟩
      · exact .inl h
      · refine .inr ⟨by omega, ?_, fun _ => by omega⟩
        simp only [List.length_cons]
        omega
theorem endW_add (l : List Nd) : ∀ (xs : List Nd) (k j p : Nat), xs = l.drop p → endW xs (k + j) p = if endW xs k p < 0 then -1 else endW (l.drop (endW xs k p).toNat) j (endW xs k p).toNat
  | xs, 0, j, p, h => by
    rw [Nat.zero_add, show endW xs 0 p = (p : Int) by unfold endW; rfl, if_neg (by omega), Int.toNat_natCast, h]
  | [], k + 1, j, p, h => by
    rw [show k + 1 + j = k + j + 1 by omega]
    rfl
  | x :: r, k + 1, j, p, h => by
    have hr : r = l.drop (p + 1) := by
      rw [show p + 1 = p + 1 from rfl, ← List.drop_drop, ← h]
      rfl
    rw [show k + 1 + j = k + j + 1 by omega, endW, endW]
    split
    · rfl
    · rw [show k + j + (arityOf x.op).toNat = k + (arityOf x.op).toNat + j by omega]
      exact endW_add l r (k + (arityOf x.op).toNat) j (p + 1) hr
def endOf (l : List Nd) (at_ : Int) : Int := if at_ < 0 then -1 else endW (l.drop at_.toNat) 1 at_.toNat
theorem endOf_nat (l : List Nd) (p : Nat) : endOf l (p : Int) = endW (l.drop p) 1 p := by
  unfold endOf
  rw [if_neg (by omega), Int.toNat_natCast]
theorem endOf_in (l : List Nd) (at_ : Int) : endOf l at_ = -1 ∨ (0 ≤ at_ ∧ at_ < endOf l at_ ∧ endOf l at_ ≤ (l.length : Int)) := by
  unfold endOf
  split
  · exact .inl rfl
  · obtain ⟨p, rfl⟩ := Int.eq_ofNat_of_zero_le (by omega : 0 ≤ at_)
    rw [Int.toNat_natCast]
    rcases endW_in (l.drop p) 1 p with h | ⟨h1, h2, h3⟩
    · exact .inl h
    · refine .inr ⟨by omega, h3 (by decide), ?_⟩
      rw [List.length_drop] at h2
      rcases Nat.lt_or_ge p l.length with h4 | h4
      · omega
      · exfalso
        have : l.drop p = [] := List.drop_eq_nil_of_le h4
        rw [this] at h3
        have := h3 (by decide)
        rw [endW] at this
        omega
def endG : List AV → Mem → Option (AV × Mem)
  | [.lst _ 7 rows, .v (.int .i64 at_)], m =>
    match unN rows with
    | some l => if l.length ≤ big40 ∧ inI at_ then some (.v (.int .i64 (endOf l at_)), m) else none
    | none => none
  | _, _ => none
theorem endG_eq {m : Mem} {g : Grow} {l : List Nd} {at_ : Int} (h : l.length ≤ big40) (h2 : inI at_) : endG [.lst g 7 (rowsN l), .v (.int .i64 at_)] m = some (.v (.int .i64 (endOf l at_)), m) := by
  simp only [endG, unN_rowsN]
  rw [if_pos ⟨h, h2⟩]
def kpEnd : Nat → Option (List Nat) := fun _ => some [0, 1, 4, 5, 7, 9, 24]
attribute [go_sem] kpEnd
theorem end_ok : FunOk Tryz.prog 157 endG := by
  have hC := table_ok (P := Tryz.prog) (l := [(115, arityG)]) (table_more arity_ok table_nil)
  have t1 := fun args mm => table_at (l := [(115, arityG)]) (f := 115) (args := args) (m := mm) rfl
  refine fun_ok mixed hC Tryz.func157 rfl kpEnd false rfl fun args m r h => ?_
  unfold endG at h
  split at h
  · rename_i g rows at_
    split at h
    · rename_i l hl0
      obtain rfl := unN_some hl0
      split at h
      · rename_i hb
        obtain ⟨hlen, hat⟩ := hb
        simp only [Option.some.injEq] at h
        subst h
        unfold big40 at hlen
        unfold inI at hat
        refine ⟨Nat.le_of_ble_eq_true rfl, ?_⟩
        simp only [entry, List.length_cons, List.length_nil, List.range, List.range.loop, List.zip_cons_cons, List.zip_nil_right]
        refine go0 ?_
        refine runs_cond rfl (fun hc => ?_) (fun hc => ?_)
        · rw [show endOf l at_ = -1 from if_pos (of_decide_eq_true hc)]
          refine go0 ?_
          exact leaves_v rfl rfl
        · have h0 := of_decide_eq_false hc
          obtain ⟨p0, rfl⟩ := Int.eq_ofNat_of_zero_le (by omega : 0 ≤ at_)
          rw [endOf_nat]
          refine go0 ?_
          refine runs_loop (fun k e m' => ∃ (p j : Nat) (x9 x24 : AV), endW (l.drop p) j p = endW (l.drop p0) 1 p0 ∧ (p ≤ l.length ∨ p = p0) ∧ j ≤ 1 + 2 * p ∧ (j ≤ 1 ∨ p ≤ l.length) ∧ m = m' ∧ k = l.length - p ∧
            e = [(0, AV.lst g 7 (rowsN l)), (1, .v (.int .i64 (p : Int))), (4, .v (.int .i64 0)), (5, .v (.int .i64 (j : Int))), (7, .v (.bool false)), (9, x9), (24, x24)]) (k := l.length - p0) ⟨p0, 1, _, _, rfl, .inr rfl, by omega, .inl (by decide), rfl, rfl, rfl⟩ ?_
          rintro k e m' ⟨p, j, x9, x24, hw, hp, hj, hj2, rfl, rfl, rfl⟩
          refine go0 ?_
          refine runs_cond rfl (fun hc => ?_) (fun hc => ?_)
          · obtain ⟨j, rfl⟩ : ∃ i, j = i + 1 := ⟨j - 1, by have := of_decide_eq_true hc; omega⟩
            by_cases hpl : l.length ≤ p
            · have b0 : decide ((p : Int) ≥ (l.length : Int)) = true := decide_eq_true (by omega)
              refine go1 @b0 ?_
              refine runs_cond rfl (fun hc => ?_) (fun hc => by cases hc)
              rw [List.drop_eq_nil_of_le hpl, endW] at hw
              rw [← hw]
              refine go0 ?_
              exact leaves_v rfl rfl
            · have hp1 : p < l.length := by omega
              have b0 : decide ((p : Int) ≥ (l.length : Int)) = false := decide_eq_false (by omega)
              have f1 := atNodes (g := g) (kk := .i64) hp1
              rw [drop_next (d := nd0) hp1, endW] at hw
              generalize l.getD p nd0 = x at f1 hw
              have fa : ∀ mm, arityG [.v (.int .i64 x.op)] mm = some (.v (.int .i64 (arityOf x.op)), mm) := fun _ => rfl
              have ha := arity_in x.op
              refine go1 (jn @b0 (jn @f1 (jn @t1 @fa))) ?_
              refine runs_cond rfl (fun hc => ?_) (fun hc => ?_)
              · rw [if_pos (of_decide_eq_true hc)] at hw
                rw [← hw]
                refine go0 ?_
                exact leaves_v rfl rfl
              · have hneg := of_decide_eq_false hc
                rw [if_neg hneg] at hw
                have r1 : IntKind.i64.wrap (arityOf x.op - 1) = arityOf x.op - 1 := i64_wrap (by omega) (by omega)
                have r2 : IntKind.i64.wrap (((j + 1 : Nat) : Int) + (arityOf x.op - 1)) = ((j + (arityOf x.op).toNat : Nat) : Int) := by
                  rw [i64_wrap (by omega) (by omega)]; omega
                have r6 := next_i64 (i := p) (by omega)
                refine go1 (jn @f1 (jn @t1 (jn @fa (jn @r1 (jn @r2 @r6))))) ?_
                exact ⟨l.length - (p + 1), by omega, p + 1, j + (arityOf x.op).toNat, _, _, hw, .inl hp1, by omega, .inr hp1, rfl, rfl, rfl⟩
          · have hj0 : j = 0 := by have := of_decide_eq_false hc; omega
            subst hj0
            rw [show endW (l.drop p) 0 p = (p : Int) by unfold endW; rfl] at hw
            rw [← hw]
            refine go0 ?_
            exact leaves_v rfl rfl
      · cases h
    · cases h
  · cases h
/-! ### the document's way: tree by tree -/
def endGk (n : Nat) : List AV → Mem → Option (AV × Mem)
  | [.lst _ 7 rows, .v (.int .i64 at_)], m =>
    match unN rows with
    | some l => if (l.length ≤ big40 ∧ inI at_) ∧ (l.length : Int) - at_ < (n : Int) then some (.v (.int .i64 (endOf l at_)), m) else none
    | none => none
  | _, _ => none
theorem endGk_eq {n : Nat} {m : Mem} {g : Grow} {l : List Nd} {at_ : Int} (h : l.length ≤ big40) (h2 : inI at_) (h3 : (l.length : Int) - at_ < (n : Int)) : endGk n [.lst g 7 (rowsN l), .v (.int .i64 at_)] m = some (.v (.int .i64 (endOf l at_)), m) := by
  simp only [endGk, unN_rowsN]
  rw [if_pos ⟨⟨h, h2⟩, h3⟩]
def prevG (g : Nat → List AV → Mem → Option (AV × Mem)) : Nat → List AV → Mem → Option (AV × Mem)
  | 0 => fun _ _ => none
  | n + 1 => g n
theorem prev_ok {P : Program} {f : FuncId} {g : Nat → List AV → Mem → Option (AV × Mem)} (step : ∀ n, FunOk P f (prevG g n) → FunOk P f (g n)) : ∀ n, FunOk P f (g n)
  | 0 => step 0 fun args m r m' h => by cases h
  | n + 1 => step (n + 1) (prev_ok step n)
def kpRefEnd : Nat → Option (List Nat) := fun _ => some [0, 1, 4, 5, 6, 23, 33, 40]
attribute [go_sem] kpRefEnd
theorem refEnd_k : ∀ n, FunOk Tryz.prog 135 (endGk n) := prev_ok fun n ih => by
  have hC := table_ok (P := Tryz.prog) (l := [(135, prevG endGk n), (156, arityG)]) (table_more ih (table_more refArity_ok table_nil))
  have t1 := fun args mm => table_at (l := [(135, prevG endGk n), (156, arityG)]) (f := 156) (args := args) (m := mm) rfl
  have t2 := fun args mm => table_at (l := [(135, prevG endGk n), (156, arityG)]) (f := 135) (args := args) (m := mm) rfl
  refine fun_ok mixed hC Tryz.func135 rfl kpRefEnd false rfl fun args m r h => ?_
  unfold endGk at h
  split at h
  · rename_i g rows at_
    split at h
    · rename_i l hl0
      obtain rfl := unN_some hl0
      split at h
      · rename_i hb
        obtain ⟨⟨hlen, hat⟩, hn⟩ := hb
        have hlen' := hlen
        have hat' := hat
        simp only [Option.some.injEq] at h
        subst h
        unfold big40 at hlen
        unfold inI at hat
        refine ⟨Nat.le_of_ble_eq_true rfl, ?_⟩
        simp only [entry, List.length_cons, List.length_nil, List.range, List.range.loop, List.zip_cons_cons, List.zip_nil_right]
        by_cases h0 : at_ < 0
        · have b0 : decide (at_ < 0) = true := decide_eq_true h0
          rw [show endOf l at_ = -1 from if_pos h0]
          refine go1 @b0 ?_
          refine runs_cond rfl (fun hc => ?_) (fun hc => by cases hc)
          refine go0 ?_
          exact leaves_v rfl rfl
        obtain ⟨p, rfl⟩ := Int.eq_ofNat_of_zero_le (by omega : 0 ≤ at_)
        have b0 : decide ((p : Int) < 0) = false := decide_eq_false h0
        rw [endOf_nat]
        by_cases hpl : l.length ≤ p
        · have b1 : decide ((p : Int) ≥ (l.length : Int)) = true := decide_eq_true (by omega)
          rw [List.drop_eq_nil_of_le hpl, endW]
          refine go1 (jn @b0 @b1) ?_
          refine runs_cond rfl (fun hc => ?_) (fun hc => by cases hc)
          refine go0 ?_
          exact leaves_v rfl rfl
        have hp1 : p < l.length := by omega
        have b1 : decide ((p : Int) ≥ (l.length : Int)) = false := decide_eq_false (by omega)
        have f1 := atNodes (g := g) (kk := .i64) hp1
        rw [drop_next (d := nd0) hp1, endW]
        generalize l.getD p nd0 = x at f1
        have fa : ∀ mm, arityG [.v (.int .i64 x.op)] mm = some (.v (.int .i64 (arityOf x.op)), mm) := fun _ => rfl
        have ha := arity_in x.op
        refine go1 (jn @b0 (jn @b1 (jn @f1 (jn @t1 @fa)))) ?_
        refine runs_cond rfl (fun hc => ?_) (fun hc => ?_)
        · rw [if_pos (of_decide_eq_true hc)]
          refine go0 ?_
          exact leaves_v rfl rfl
        · have hneg := of_decide_eq_false hc
          rw [if_neg hneg, Nat.zero_add]
          have r6 := next_i64 (i := p) (by omega)
          refine go1 @r6 ?_
          refine runs_loop (fun k e m' => ∃ (i q : Nat) (x33 x40 : AV), endW (l.drop (p + 1)) i (p + 1) = (q : Int) ∧ p + 1 ≤ q ∧ q ≤ l.length ∧ i ≤ (arityOf x.op).toNat ∧ m = m' ∧ k = (arityOf x.op).toNat - i ∧
            e = [(0, AV.lst g 7 (rowsN l)), (1, .v (.int .i64 (p : Int))), (4, .v (.int .i64 0)), (5, .v (.int .i64 (q : Int))), (6, .v (.int .i64 (i : Int))), (23, .v (.bool (decide (arityOf x.op < 0)))), (33, x33), (40, x40)])
            (k := (arityOf x.op).toNat) ⟨0, p + 1, _, _, by unfold endW; rfl, by omega, by omega, by omega, rfl, rfl, rfl⟩ ?_
          rintro k e m' ⟨i, q, x33, x40, hw, hq1, hq2, hi, rfl, rfl, rfl⟩
          refine go1 (jn @f1 (jn @t1 @fa)) ?_
          refine runs_cond rfl (fun hc => ?_) (fun hc => ?_)
          · have hi1 : i < (arityOf x.op).toNat := by have := of_decide_eq_true hc; omega
            obtain ⟨n', rfl⟩ : ∃ n', n = n' + 1 := ⟨n - 1, by omega⟩
            have f2 : ∀ mm, prevG endGk (n' + 1) [.lst .no 7 (rowsN l), .v (.int .i64 (q : Int))] mm = some (.v (.int .i64 (endOf l (q : Int))), mm) := fun mm => endGk_eq (g := .no) hlen' ⟨by omega, by omega⟩ (by omega)
            have hstep := endW_add l (l.drop (p + 1)) i 1 (p + 1) rfl
            rw [hw, if_neg (by omega), Int.toNat_natCast, ← endOf_nat] at hstep
            have hin := endOf_in l (q : Int)
            have hfin : endOf l (q : Int) < 0 → endW (l.drop (p + 1)) (arityOf x.op).toNat (p + 1) = -1 := fun h => by
              have := endW_add l (l.drop (p + 1)) (i + 1) ((arityOf x.op).toNat - (i + 1)) (p + 1) rfl
              rw [show i + 1 + ((arityOf x.op).toNat - (i + 1)) = (arityOf x.op).toNat by omega, hstep, if_pos h] at this
              exact this
            generalize endOf l (q : Int) = Q at f2 hstep hin hfin
            refine go1 (jn @t2 @f2) ?_
            refine runs_cond rfl (fun hc => ?_) (fun hc => ?_)
            · rw [hfin (of_decide_eq_true hc)]
              refine go0 ?_
              exact leaves_v rfl rfl
            · have hQ := of_decide_eq_false hc
              obtain ⟨q', rfl⟩ := Int.eq_ofNat_of_zero_le (by omega : 0 ≤ Q)
              have r7 := next_i64 (i := i) (by omega)
              refine go1 @r7 ?_
              exact ⟨(arityOf x.op).toNat - (i + 1), by omega, i + 1, q', _, _, hstep, by omega, by omega, hi1, rfl, rfl, rfl⟩
          · have hi1 : i = (arityOf x.op).toNat := by have := of_decide_eq_false hc; omega
            subst hi1
            rw [hw]
            refine go0 ?_
            exact leaves_v rfl rfl
      · cases h
    · cases h
  · cases h
theorem refEnd_ok : FunOk Tryz.prog 135 endG := by
  intro args m r m' h
  unfold endG at h
  split at h
  · rename_i g rows at_
    split at h
    · rename_i l hl0
      obtain rfl := unN_some hl0
      split at h
      · rename_i hb
        refine refEnd_k (((l.length : Int) - at_).toNat + 1) _ m r m' ?_
        rw [endGk_eq hb.1 hb.2 (by omega)]
        exact h
      · cases h
    · cases h
  · cases h
end Go.Proofs.YtojaokhkbmiidaaGreat.Ev

namespace Go.Proofs.YtojaokhkbmiidaaGreat.Ev
open Go Go.Proofs
set_option maxRecDepth 10000
set_option maxHeartbeats 4000000
set_option linter.unusedVariables false
set_option linter.unusedSimpArgs false
attribute [local irreducible] Next Inside Runs Ops table
attribute [local go_sem] szStr szInt Option.getD_some isNil loadStr loadInt mkInts0 mkInts1 mkStrs0 mkStrs1 rowsS_len rowsI_len rowsN_len evStr fldOp ldOp
def belowW (l : List Nd) : Nat → Int → List Int
  | 0, _ => []
  | k + 1, next => next :: belowW l k (endOf l next)
theorem belowW_len (l : List Nd) : ∀ (k : Nat) (n : Int), (belowW l k n).length = k
  | 0, _ => rfl
  | k + 1, n => by simp [belowW, belowW_len l k]
theorem belowW_okI {l : List Nd} (hl : l.length ≤ big40) : ∀ (k : Nat) (n : Int), inI n → OkI (belowW l k n)
  | 0, _, _ => .nil
  | k + 1, n, h => by
    intro b hb
    rcases List.mem_cons.1 hb with rfl | hb
    · exact h
    · refine belowW_okI hl k _ ?_ b hb
      unfold big40 at hl
      unfold inI
      rcases endOf_in l n with h | h <;> omega
def arAt (l : List Nd) (at_ : Int) : Nat := (arityOf (l.getD at_.toNat nd0).op).toNat
def belowOf (l : List Nd) (at_ : Int) : List Int := if endOf l at_ < 0 then [] else belowW l (arAt l at_) (at_ + 1)
def belowG : List AV → Mem → Option (AV × Mem)
  | [.lst _ 7 rows, .v (.int .i64 at_)], m =>
    match unN rows with
    | some l => if l.length ≤ big40 ∧ inI at_ then some (.lst .no 1 (rowsI (belowOf l at_)), m) else none
    | none => none
  | _, _ => none
theorem belowG_eq {m : Mem} {g : Grow} {l : List Nd} {at_ : Int} (h : l.length ≤ big40) (h2 : inI at_) : belowG [.lst g 7 (rowsN l), .v (.int .i64 at_)] m = some (.lst .no 1 (rowsI (belowOf l at_)), m) := by
  simp only [belowG, unN_rowsN]
  rw [if_pos ⟨h, h2⟩]
theorem belowOf_okI {l : List Nd} (hl : l.length ≤ big40) {at_ : Int} (h : inI at_) : OkI (belowOf l at_) ∧ (belowOf l at_).length ≤ 2 := by
  unfold belowOf
  split
  · exact ⟨.nil, by decide⟩
  · rename_i hn
    rcases endOf_in l at_ with h1 | h1
    · omega
    · refine ⟨belowW_okI hl _ _ ?_, ?_⟩
      · unfold big40 at hl
        unfold inI at h ⊢
        omega
      · rw [belowW_len]
        unfold arAt
        have := arity_in (l.getD at_.toNat nd0).op
        omega
def kpBelow : Nat → Option (List Nat) := fun _ => some [0, 1, 4, 5, 6, 10, 18, 19, 20]
attribute [go_sem] kpBelow
def tabBelow : List (FuncId × (List AV → Mem → Option (AV × Mem))) := [(157, endG), (115, arityG)]
theorem below_ok : FunOk Tryz.prog 146 belowG := by
  have hC := table_ok (P := Tryz.prog) (l := tabBelow) (table_more end_ok (table_more arity_ok table_nil))
  have t1 := fun args mm => table_at (l := tabBelow) (f := 157) (args := args) (m := mm) rfl
  have t2 := fun args mm => table_at (l := tabBelow) (f := 115) (args := args) (m := mm) rfl
  refine fun_ok mixed hC Tryz.func146 rfl kpBelow false rfl fun args m r h => ?_
  unfold belowG at h
  split at h
  · rename_i g rows at_
    split at h
    · rename_i l hl0
      obtain rfl := unN_some hl0
      split at h
      · rename_i hb
        obtain ⟨hlen, hat⟩ := hb
        have hlen' := hlen
        simp only [Option.some.injEq] at h
        subst h
        unfold big40 at hlen
        refine ⟨Nat.le_of_ble_eq_true rfl, ?_⟩
        simp only [entry, List.length_cons, List.length_nil, List.range, List.range.loop, List.zip_cons_cons, List.zip_nil_right]
        have f1 := fun mm => endG_eq (m := mm) (g := .no) hlen' hat
        refine go1 (jn @t1 @f1) ?_
        refine runs_cond rfl (fun hc => ?_) (fun hc => ?_)
        · rw [show belowOf l at_ = [] from if_pos (of_decide_eq_true hc)]
          refine go0 ?_
          exact leaves_lst rfl rfl (finMem_self _)
        · have hn := of_decide_eq_false hc
          rw [show belowOf l at_ = belowW l (arAt l at_) (at_ + 1) from if_neg hn]
          unfold inI at hat
          have hin := endOf_in l at_
          obtain ⟨p, rfl⟩ := Int.eq_ofNat_of_zero_le (by omega : 0 ≤ at_)
          have hp1 : p < l.length := by omega
          have f2 := atNodes (g := g) (kk := .i64) hp1
          have e1 : arAt l (p : Int) = (arityOf (l.getD p nd0).op).toNat := by unfold arAt; rw [Int.toNat_natCast]
          rw [e1]
          generalize l.getD p nd0 = x at f2
          have fa : ∀ mm, arityG [.v (.int .i64 x.op)] mm = some (.v (.int .i64 (arityOf x.op)), mm) := fun _ => rfl
          have ha := arity_in x.op
          have r6 := next_i64 (i := p) (by omega)
          refine go1 (jn @r6 (jn @f2 (jn @t2 @fa))) ?_
          refine runs_loop (fun k e m' => ∃ (j : Nat) (next : Int) (pre : List Int) (g5 : Grow) (x20 : AV), pre ++ belowW l ((arityOf x.op).toNat - j) next = belowW l (arityOf x.op).toNat ((p : Int) + 1) ∧ pre.length = j ∧ inI next ∧ j ≤ (arityOf x.op).toNat ∧ Grows m g5 m' ∧ k = (arityOf x.op).toNat - j ∧
            e = [(0, AV.lst g 7 (rowsN l)), (1, .v (.int .i64 (p : Int))), (4, .lst .full 1 []), (5, .lst g5 1 (rowsI pre)), (6, .v (.int .i64 next)), (10, .v (.bool (decide (endOf l (p : Int) < 0)))), (18, .v (.int .i64 (arityOf x.op))), (19, .v (.int .i64 (j : Int))), (20, x20)])
            (k := (arityOf x.op).toNat) ⟨0, (p : Int) + 1, [], .full, _, rfl, rfl, ⟨by omega, by omega⟩, by omega, grows_full, rfl, rfl⟩ ?_
          rintro k e m' ⟨j, next, pre, g5, x20, hpre, hpl, hnx, hj, hG, rfl, rfl⟩
          refine go0 ?_
          refine runs_cond rfl (fun hc => ?_) (fun hc => ?_)
          · have hj1 : j < (arityOf x.op).toNat := by have := of_decide_eq_true hc; omega
            obtain ⟨g', m'', a1, hG'⟩ := app_int appInts hG (g2 := .full) pre next (by unfold lim; omega)
            have f3 := fun mm => endG_eq (m := mm) (g := .no) hlen' hnx
            have r7 := next_i64 (i := j) (by omega)
            rw [show (arityOf x.op).toNat - j = (arityOf x.op).toNat - (j + 1) + 1 by omega, belowW] at hpre
            have hin2 := endOf_in l next
            refine go1 (jn @a1 (jn @t1 (jn @f3 @r7))) ?_
            refine ⟨(arityOf x.op).toNat - (j + 1), by omega, j + 1, endOf l next, pre ++ [next], _, _, by rw [List.append_assoc]; exact hpre, by simp [hpl], ?_, hj1, hG', rfl, rfl⟩
            unfold inI
            omega
          · have hj1 : j = (arityOf x.op).toNat := by have := of_decide_eq_false hc; omega
            rw [hj1, Nat.sub_self, belowW, List.append_nil] at hpre
            rw [← hpre]
            refine go0 ?_
            exact leaves_lst rfl rfl (fin_grows hG)
      · cases h
    · cases h
  · cases h
def refBelowG : List AV → Mem → Option (AV × Mem)
  | [.lst _ 7 rows, .v (.int .i64 at_)], m =>
    match unN rows with
    | some l => if l.length ≤ big40 ∧ 0 ≤ at_ ∧ at_ < (l.length : Int) then some (.lst .no 1 (rowsI (belowW l (arAt l at_) (at_ + 1))), m) else none
    | none => none
  | _, _ => none
theorem refBelowG_eq {m : Mem} {g : Grow} {l : List Nd} {at_ : Int} (h : l.length ≤ big40) (h2 : 0 ≤ at_) (h3 : at_ < (l.length : Int)) : refBelowG [.lst g 7 (rowsN l), .v (.int .i64 at_)] m = some (.lst .no 1 (rowsI (belowW l (arAt l at_) (at_ + 1))), m) := by
  simp only [refBelowG, unN_rowsN]
  rw [if_pos ⟨h, h2, h3⟩]
def kpRefBelow : Nat → Option (List Nat) := fun _ => some [0, 1, 4, 5, 6, 7, 18]
attribute [go_sem] kpRefBelow
def tabRefBelow : List (FuncId × (List AV → Mem → Option (AV × Mem))) := [(135, endG), (156, arityG)]
theorem refBelow_ok : FunOk Tryz.prog 137 refBelowG := by
  have hC := table_ok (P := Tryz.prog) (l := tabRefBelow) (table_more refEnd_ok (table_more refArity_ok table_nil))
  have t1 := fun args mm => table_at (l := tabRefBelow) (f := 135) (args := args) (m := mm) rfl
  have t2 := fun args mm => table_at (l := tabRefBelow) (f := 156) (args := args) (m := mm) rfl
  refine fun_ok mixed hC Tryz.func137 rfl kpRefBelow false rfl fun args m r h => ?_
  unfold refBelowG at h
  split at h
  · rename_i g rows at_
    split at h
    · rename_i l hl0
      obtain rfl := unN_some hl0
      split at h
      · rename_i hb
        obtain ⟨hlen, h0, h1⟩ := hb
        have hlen' := hlen
        simp only [Option.some.injEq] at h
        subst h
        unfold big40 at hlen
        refine ⟨Nat.le_of_ble_eq_true rfl, ?_⟩
        simp only [entry, List.length_cons, List.length_nil, List.range, List.range.loop, List.zip_cons_cons, List.zip_nil_right]
        obtain ⟨p, rfl⟩ := Int.eq_ofNat_of_zero_le h0
        have hp1 : p < l.length := by omega
        have f2 := atNodes (g := g) (kk := .i64) hp1
        have e1 : arAt l (p : Int) = (arityOf (l.getD p nd0).op).toNat := by unfold arAt; rw [Int.toNat_natCast]
        rw [e1]
        generalize l.getD p nd0 = x at f2
        have fa : ∀ mm, arityG [.v (.int .i64 x.op)] mm = some (.v (.int .i64 (arityOf x.op)), mm) := fun _ => rfl
        have ha := arity_in x.op
        have r6 := next_i64 (i := p) (by omega)
        refine go1 @r6 ?_
        refine runs_loop (fun k e m' => ∃ (j : Nat) (next : Int) (pre : List Int) (g5 : Grow) (x18 : AV), pre ++ belowW l ((arityOf x.op).toNat - j) next = belowW l (arityOf x.op).toNat ((p : Int) + 1) ∧ pre.length = j ∧ inI next ∧ j ≤ (arityOf x.op).toNat ∧ Grows m g5 m' ∧ k = (arityOf x.op).toNat - j ∧
          e = [(0, AV.lst g 7 (rowsN l)), (1, .v (.int .i64 (p : Int))), (4, .lst .full 1 []), (5, .lst g5 1 (rowsI pre)), (6, .v (.int .i64 next)), (7, .v (.int .i64 (j : Int))), (18, x18)])
          (k := (arityOf x.op).toNat) ⟨0, (p : Int) + 1, [], .full, _, rfl, rfl, ⟨by omega, by omega⟩, by omega, grows_full, rfl, rfl⟩ ?_
        rintro k e m' ⟨j, next, pre, g5, x18, hpre, hpl, hnx, hj, hG, rfl, rfl⟩
        refine go1 (jn @f2 (jn @t2 @fa)) ?_
        refine runs_cond rfl (fun hc => ?_) (fun hc => ?_)
        · have hj1 : j < (arityOf x.op).toNat := by have := of_decide_eq_true hc; omega
          obtain ⟨g', m'', a1, hG'⟩ := app_int appInts hG (g2 := .full) pre next (by unfold lim; omega)
          have f3 := fun mm => endG_eq (m := mm) (g := .no) hlen' hnx
          have r7 := next_i64 (i := j) (by omega)
          rw [show (arityOf x.op).toNat - j = (arityOf x.op).toNat - (j + 1) + 1 by omega, belowW] at hpre
          have hin2 := endOf_in l next
          refine go1 (jn @a1 (jn @t1 (jn @f3 @r7))) ?_
          refine ⟨(arityOf x.op).toNat - (j + 1), by omega, j + 1, endOf l next, pre ++ [next], _, _, by rw [List.append_assoc]; exact hpre, by simp [hpl], ?_, hj1, hG', rfl, rfl⟩
          unfold inI
          omega
        · have hj1 : j = (arityOf x.op).toNat := by have := of_decide_eq_false hc; omega
          rw [hj1, Nat.sub_self, belowW, List.append_nil] at hpre
          rw [← hpre]
          refine go0 ?_
          exact leaves_lst rfl rfl (fin_grows hG)
      · cases h
    · cases h
  · cases h
def kpSame : Nat → Option (List Nat) := fun _ => some [0, 1, 4, 5, 10, 14, 25]
attribute [go_sem] kpSame
end Go.Proofs.YtojaokhkbmiidaaGreat.Ev

namespace Go.Proofs.YtojaokhkbmiidaaGreat.Ev
open Go Go.Proofs
set_option maxRecDepth 10000
set_option maxHeartbeats 4000000
set_option linter.unusedVariables false
set_option linter.unusedSimpArgs false
attribute [local irreducible] Next Inside Runs Ops table
attribute [local go_sem] szStr szInt Option.getD_some isNil loadStr loadInt mkInts0 mkInts1 mkStrs0 mkStrs1 rowsS_len rowsI_len rowsN_len evStr fldOp ldOp
def wholeB (l : List Nd) : Bool := decide (0 < l.length) && decide (l.length ≤ 64) && decide (endOf l 0 = (l.length : Int))
def wholeG : List AV → Mem → Option (AV × Mem)
  | [.lst _ 7 rows], m =>
    match unN rows with
    | some l => if l.length ≤ big40 then some (.v (.bool (wholeB l)), m) else none
    | none => none
  | _, _ => none
theorem wholeG_eq {m : Mem} {g : Grow} {l : List Nd} (h : l.length ≤ big40) : wholeG [.lst g 7 (rowsN l)] m = some (.v (.bool (wholeB l)), m) := by
  simp only [wholeG, unN_rowsN]
  rw [if_pos h]
def kpWhole : Nat → Option (List Nat) := fun _ => some [0, 2]
attribute [go_sem] kpWhole
theorem whole_ok : FunOk Tryz.prog 141 wholeG := by
  have hC := table_ok (P := Tryz.prog) (l := [(157, endG)]) (table_more end_ok table_nil)
  have t1 := fun args mm => table_at (l := [(157, endG)]) (f := 157) (args := args) (m := mm) rfl
  refine fun_ok mixed hC Tryz.func141 rfl kpWhole false rfl fun args m r h => ?_
  unfold wholeG at h
  split at h
  · rename_i g rows
    split at h
    · rename_i l hl0
      obtain rfl := unN_some hl0
      split at h
      · rename_i hlen
        simp only [Option.some.injEq] at h
        subst h
        refine ⟨Nat.le_of_ble_eq_true rfl, ?_⟩
        simp only [entry, List.length_cons, List.length_nil, List.range, List.range.loop, List.zip_cons_cons, List.zip_nil_right]
        have f1 := fun mm => endG_eq (m := mm) (g := .no) (at_ := 0) hlen (by decide)
        by_cases h0 : 0 < l.length
        · have b0 : decide ((l.length : Int) > 0) = true := decide_eq_true (by omega)
          by_cases h1 : l.length ≤ 64
          · have b1 : decide ((l.length : Int) ≤ 64) = true := decide_eq_true (by omega)
            have e1 : (endOf l 0 == (l.length : Int)) = wholeB l := by
              unfold wholeB
              rw [decide_eq_true h0, decide_eq_true h1]
              rfl
            refine go1 (jn @b0 (jn @b1 (jn @t1 (jn @f1 @e1)))) ?_
            exact leaves_v rfl rfl
          · have b1 : decide ((l.length : Int) ≤ 64) = false := decide_eq_false (by omega)
            rw [show wholeB l = false by unfold wholeB; rw [decide_eq_false h1]; simp]
            refine go1 (jn @b0 (jn @b1 (jn @t1 @f1))) ?_
            exact leaves_v rfl rfl
        · have b0 : decide ((l.length : Int) > 0) = false := decide_eq_false (by omega)
          rw [show wholeB l = false by unfold wholeB; rw [decide_eq_false h0]; simp]
          refine go1 (jn @b0 (jn @t1 @f1)) ?_
          exact leaves_v rfl rfl
      · cases h
    · cases h
  · cases h
theorem refWhole_ok : FunOk Tryz.prog 95 wholeG := by
  have hC := table_ok (P := Tryz.prog) (l := [(135, endG)]) (table_more refEnd_ok table_nil)
  have t1 := fun args mm => table_at (l := [(135, endG)]) (f := 135) (args := args) (m := mm) rfl
  refine fun_ok mixed hC Tryz.func95 rfl kpWhole false rfl fun args m r h => ?_
  unfold wholeG at h
  split at h
  · rename_i g rows
    split at h
    · rename_i l hl0
      obtain rfl := unN_some hl0
      split at h
      · rename_i hlen
        simp only [Option.some.injEq] at h
        subst h
        refine ⟨Nat.le_of_ble_eq_true rfl, ?_⟩
        simp only [entry, List.length_cons, List.length_nil, List.range, List.range.loop, List.zip_cons_cons, List.zip_nil_right]
        have f1 := fun mm => endG_eq (m := mm) (g := .no) (at_ := 0) hlen (by decide)
        by_cases h1 : l.length ≤ 64
        · have b1 : decide ((l.length : Int) ≤ 64) = true := decide_eq_true (by omega)
          have e1 : (endOf l 0 == (l.length : Int)) = wholeB l := by
            unfold wholeB
            rw [decide_eq_true h1]
            by_cases h0 : 0 < l.length
            · rw [decide_eq_true h0]; rfl
            · rw [decide_eq_false h0]
              have : l = [] := List.eq_nil_of_length_eq_zero (by omega)
              subst this
              rfl
          refine go1 (jn @b1 (jn @t1 (jn @f1 @e1))) ?_
          exact leaves_v rfl rfl
        · have b1 : decide ((l.length : Int) ≤ 64) = false := decide_eq_false (by omega)
          rw [show wholeB l = false by unfold wholeB; rw [decide_eq_false h1]; simp]
          refine go1 (jn @b1 (jn @t1 @f1)) ?_
          exact leaves_v rfl rfl
      · cases h
    · cases h
  · cases h
/-! ### how deep -/
def maxL : List Nat → Nat
  | [] => 0
  | a :: l => max a (maxL l)
theorem maxL_app : ∀ (l : List Nat) (a : Nat), maxL (l ++ [a]) = max (maxL l) a
  | [], a => by simp [maxL]
  | b :: l, a => by simp only [List.cons_append, maxL, maxL_app l a]; omega
theorem maxL_le {n : Nat} : ∀ {l : List Nat}, (∀ a ∈ l, a ≤ n) → maxL l ≤ n
  | [], _ => Nat.zero_le _
  | a :: l, h => by
    have h1 := h a (List.mem_cons_self ..)
    have h2 := maxL_le (l := l) fun b hb => h b (List.mem_cons_of_mem _ hb)
    simp only [maxL]
    omega
def depthF (l : List Nd) : Nat → Int → Nat
  | 0, _ => 0
  | f + 1, a => maxL ((belowOf l a).map (depthF l f)) + 1
theorem depthF_le (l : List Nd) : ∀ (f : Nat) (a : Int), depthF l f a ≤ f
  | 0, _ => Nat.le_refl _
  | f + 1, a => by
    unfold depthF
    have := maxL_le (n := f) (l := (belowOf l a).map (depthF l f)) fun b hb => by
      obtain ⟨c, _, rfl⟩ := List.mem_map.1 hb
      exact depthF_le l f c
    omega
theorem belowW_mem (l : List Nd) : ∀ (k n : Nat) (b : Int), 0 ≤ endW (l.drop n) k n → b ∈ belowW l k (n : Int) → (n : Int) ≤ b ∧ b < (l.length : Int) ∧ 0 ≤ endOf l b
  | 0, n, b, _, hb => by simp [belowW] at hb
  | k + 1, n, b, h, hb => by
    have h1 := endW_add l (l.drop n) 1 k n rfl
    rw [show 1 + k = k + 1 by omega, ← endOf_nat] at h1
    rw [h1] at h
    split at h
    · omega
    · rename_i hn
      have hin := endOf_in l (n : Int)
      rcases List.mem_cons.1 hb with rfl | hb
      · exact ⟨Int.le_refl _, by omega, by omega⟩
      · obtain ⟨q, hq⟩ := Int.eq_ofNat_of_zero_le (by omega : 0 ≤ endOf l (n : Int))
        rw [hq] at hb h
        rw [Int.toNat_natCast] at h
        obtain ⟨g1, g2, g3⟩ := belowW_mem l k q b h hb
        exact ⟨by omega, g2, g3⟩
theorem end_arity {l : List Nd} {p : Nat} (h : 0 ≤ endOf l (p : Int)) : p < l.length ∧ endOf l (p : Int) = endW (l.drop (p + 1)) (arAt l (p : Int)) (p + 1) := by
  have hin := endOf_in l (p : Int)
  have hp : p < l.length := by omega
  refine ⟨hp, ?_⟩
  rw [endOf_nat] at h ⊢
  rw [drop_next (d := nd0) hp, endW] at h ⊢
  unfold arAt
  rw [Int.toNat_natCast]
  split at h
  · omega
  · rename_i hn
    rw [if_neg hn, Nat.zero_add]
theorem below_mem {l : List Nd} {a b : Int} (ha : 0 ≤ a) (hb : b ∈ belowOf l a) : a < b ∧ b < (l.length : Int) ∧ 0 ≤ endOf l b := by
  unfold belowOf at hb
  split at hb
  · simp at hb
  · rename_i hn
    obtain ⟨p, rfl⟩ := Int.eq_ofNat_of_zero_le ha
    obtain ⟨_, h1⟩ := end_arity (l := l) (p := p) (by omega)
    obtain ⟨g1, g2, g3⟩ := belowW_mem l (arAt l (p : Int)) (p + 1) b (by omega) hb
    exact ⟨by omega, g2, g3⟩
theorem depthF_same (l : List Nd) : ∀ (f : Nat) (a : Int), 0 ≤ a → a < (l.length : Int) → (l.length : Int) - a ≤ (f : Int) → depthF l f a = depthF l (f + 1) a
  | 0, a, ha, h1, h => by omega
  | f + 1, a, ha, h1, h => by
    rw [depthF, depthF]
    congr 2
    refine List.map_congr_left fun b hb => ?_
    obtain ⟨h1, h2, _⟩ := below_mem ha hb
    exact depthF_same l f b (by omega) h2 (by omega)
def depthD (l : List Nd) (a : Int) : Nat := depthF l l.length a
theorem depthD_eq {l : List Nd} {a : Int} (h0 : 0 ≤ a) (h1 : a < (l.length : Int)) : depthD l a = maxL ((belowOf l a).map (depthD l)) + 1 := by
  unfold depthD
  obtain ⟨f, hf⟩ : ∃ f, l.length = f + 1 := ⟨l.length - 1, by omega⟩
  conv => lhs; rw [hf, depthF]
  congr 2
  refine List.map_congr_left fun b hb => ?_
  obtain ⟨h2, h3, _⟩ := below_mem h0 hb
  rw [hf]
  exact depthF_same l f b (by omega) h3 (by omega)
theorem depthD_le (l : List Nd) (a : Int) : depthD l a ≤ l.length := depthF_le l _ _
def depthOf (l : List Nd) : Nat := if wholeB l then depthD l 0 else 0
/-! ### the document's way -/
def refDepthGk (n : Nat) : List AV → Mem → Option (AV × Mem)
  | [.lst _ 7 rows, .v (.int .i64 at_)], m =>
    match unN rows with
    | some l => if (l.length ≤ big40 ∧ 0 ≤ at_ ∧ 0 ≤ endOf l at_) ∧ (l.length : Int) - at_ < (n : Int) then some (.v (.int .i64 (depthD l at_ : Nat)), m) else none
    | none => none
  | _, _ => none
theorem refDepthGk_eq {n : Nat} {m : Mem} {g : Grow} {l : List Nd} {at_ : Int} (h : l.length ≤ big40) (h1 : 0 ≤ at_) (h2 : 0 ≤ endOf l at_) (h3 : (l.length : Int) - at_ < (n : Int)) : refDepthGk n [.lst g 7 (rowsN l), .v (.int .i64 at_)] m = some (.v (.int .i64 (depthD l at_ : Nat)), m) := by
  simp only [refDepthGk, unN_rowsN]
  rw [if_pos ⟨⟨h, h1, h2⟩, h3⟩]
def kpRefDepth : Nat → Option (List Nat) := fun _ => some [0, 1, 4, 5, 6, 7, 8, 15, 26]
attribute [go_sem] kpRefDepth
theorem refDepth_k : ∀ n, FunOk Tryz.prog 97 (refDepthGk n) := prev_ok fun n ih => by
  have hC := table_ok (P := Tryz.prog) (l := [(97, prevG refDepthGk n), (137, refBelowG)]) (table_more ih (table_more refBelow_ok table_nil))
  have t1 := fun args mm => table_at (l := [(97, prevG refDepthGk n), (137, refBelowG)]) (f := 137) (args := args) (m := mm) rfl
  have t2 := fun args mm => table_at (l := [(97, prevG refDepthGk n), (137, refBelowG)]) (f := 97) (args := args) (m := mm) rfl
  refine fun_ok mixed hC Tryz.func97 rfl kpRefDepth false rfl fun args m r h => ?_
  unfold refDepthGk at h
  split at h
  · rename_i g rows at_
    split at h
    · rename_i l hl0
      obtain rfl := unN_some hl0
      split at h
      · rename_i hb
        obtain ⟨⟨hlen, h0, he⟩, hn⟩ := hb
        have hlen' := hlen
        simp only [Option.some.injEq] at h
        subst h
        unfold big40 at hlen
        refine ⟨Nat.le_of_ble_eq_true rfl, ?_⟩
        simp only [entry, List.length_cons, List.length_nil, List.range, List.range.loop, List.zip_cons_cons, List.zip_nil_right]
        have hin := endOf_in l at_
        have h1 : at_ < (l.length : Int) := by omega
        have e1 : belowOf l at_ = belowW l (arAt l at_) (at_ + 1) := if_neg (by omega)
        have f1 := fun mm => refBelowG_eq (m := mm) (g := .no) hlen' h0 h1
        rw [← e1] at f1
        have hD := depthD_eq h0 h1
        have hmem := fun b => below_mem (l := l) (b := b) h0
        have hle2 := (belowOf_okI hlen' (at_ := at_) ⟨by omega, by omega⟩).2
        generalize belowOf l at_ = lb at f1 hD hmem hle2
        refine go1 (jn @t1 @f1) ?_
        refine runs_loop (fun k e m' => ∃ (i : Nat) (x8 x15 x26 : AV), i ≤ lb.length ∧ m = m' ∧ k = lb.length - i ∧
          e = [(0, AV.lst g 7 (rowsN l)), (1, .v (.int .i64 at_)), (4, .v (.int .i64 0)), (5, .v (.int .i64 (maxL ((lb.take i).map (depthD l)) : Nat))), (6, .lst .no 1 (rowsI lb)), (7, .v (.int .i64 (i : Int))), (8, x8), (15, x15), (26, x26)])
          (k := lb.length) ⟨0, _, _, _, Nat.zero_le _, rfl, rfl, rfl⟩ ?_
        rintro k e m' ⟨i, x8, x15, x26, hi, rfl, rfl, rfl⟩
        refine go0 ?_
        refine runs_cond rfl (fun hc => ?_) (fun hc => ?_)
        · have hi1 : i < lb.length := by have := of_decide_eq_true hc; omega
          have f2 := atInts (g := .no) (kk := .i64) hi1
          have hm : lb.getD i 0 ∈ lb := by simp [List.getD, List.getElem?_eq_getElem hi1]
          have htk : (lb.take (i + 1)).map (depthD l) = (lb.take i).map (depthD l) ++ [depthD l (lb.getD i 0)] := by rw [take_next (d := 0) hi1, List.map_append]; rfl
          obtain ⟨g1, g2, g3⟩ := hmem _ hm
          obtain ⟨n', rfl⟩ : ∃ n', n = n' + 1 := ⟨n - 1, by omega⟩
          have f3 : ∀ mm, prevG refDepthGk (n' + 1) [.lst .no 7 (rowsN l), .v (.int .i64 (lb.getD i 0))] mm = some (.v (.int .i64 (depthD l (lb.getD i 0) : Nat)), mm) := fun mm => refDepthGk_eq (g := .no) hlen' (by omega) g3 (by omega)
          generalize lb.getD i 0 = b at f2 f3 htk
          have hmx : maxL ((lb.take (i + 1)).map (depthD l)) = max (maxL ((lb.take i).map (depthD l))) (depthD l b) := by rw [htk, maxL_app]
          generalize maxL ((lb.take i).map (depthD l)) = M at hmx ⊢
          refine go1 (jn @f2 (jn @t2 @f3)) ?_
          have r7 := next_i64 (i := i) (by omega)
          refine runs_cond rfl (fun hc => ?_) (fun hc => ?_)
          · have hgt := of_decide_eq_true hc
            refine go1 @r7 ?_
            exact ⟨lb.length - (i + 1), by omega, i + 1, _, _, _, hi1, rfl, rfl, by rw [hmx, show max M (depthD l b) = depthD l b by omega]⟩
          · have hgt := of_decide_eq_false hc
            refine go1 @r7 ?_
            exact ⟨lb.length - (i + 1), by omega, i + 1, _, _, _, hi1, rfl, rfl, by rw [hmx, show max M (depthD l b) = M by omega]⟩
        · have hi1 : i = lb.length := by have := of_decide_eq_false hc; omega
          subst hi1
          rw [List.take_length]
          have hdl := depthD_le l at_
          have r7 := next_i64 (i := maxL (lb.map (depthD l))) (by omega)
          rw [hD]
          refine go1 @r7 ?_
          exact leaves_v rfl rfl
      · cases h
    · cases h
  · cases h
def refDepthG : List AV → Mem → Option (AV × Mem)
  | [.lst _ 7 rows, .v (.int .i64 at_)], m =>
    match unN rows with
    | some l => if l.length ≤ big40 ∧ 0 ≤ at_ ∧ 0 ≤ endOf l at_ then some (.v (.int .i64 (depthD l at_ : Nat)), m) else none
    | none => none
  | _, _ => none
theorem refDepthG_eq {m : Mem} {g : Grow} {l : List Nd} {at_ : Int} (h : l.length ≤ big40) (h1 : 0 ≤ at_) (h2 : 0 ≤ endOf l at_) : refDepthG [.lst g 7 (rowsN l), .v (.int .i64 at_)] m = some (.v (.int .i64 (depthD l at_ : Nat)), m) := by
  simp only [refDepthG, unN_rowsN]
  rw [if_pos ⟨h, h1, h2⟩]
theorem refDepth_ok : FunOk Tryz.prog 97 refDepthG := by
  intro args m r m' h
  unfold refDepthG at h
  split at h
  · rename_i g rows at_
    split at h
    · rename_i l hl0
      obtain rfl := unN_some hl0
      split at h
      · rename_i hb
        refine refDepth_k (((l.length : Int) - at_).toNat + 1) _ m r m' ?_
        rw [refDepthGk_eq hb.1 hb.2.1 hb.2.2 (by omega)]
        exact h
      · cases h
    · cases h
  · cases h
end Go.Proofs.YtojaokhkbmiidaaGreat.Ev

namespace Go.Proofs.YtojaokhkbmiidaaGreat.Ev
open Go Go.Proofs
set_option maxRecDepth 10000
set_option maxHeartbeats 4000000
set_option linter.unusedVariables false
set_option linter.unusedSimpArgs false
attribute [local irreducible] Next Inside Runs Ops table
attribute [local go_sem] szStr szInt Option.getD_some isNil loadStr loadInt mkInts0 mkInts1 mkStrs0 mkStrs1 rowsS_len rowsI_len rowsN_len evStr fldOp ldOp evMinMax evFoldI
def intCells (l : List Int) : List AV := l.map iv
theorem intCells_len (l : List Int) : (intCells l).length = l.length := List.length_map ..
theorem loadTab {m : Mem} {l : List Int} {i : Nat} (hi : i < l.length) : evLoad Tryz.prog (m.push (intCells l)) 3 (.ptr m.vars.length i) = some (.v (.int .i64 (l.getD i 0))) := by
  unfold evLoad
  simp only [ptrCells, push_var, Option.map_some, szInt, agInt]
  simp [intCells, List.head?_drop, List.getD, List.getElem?_eq_getElem hi, iv]
theorem splice_set : ∀ (l : List Int) (i : Nat) (v : Int), i < l.length → splice (intCells l) i [iv v] = intCells (l.set i v)
  | [], i, v, h => by simp at h
  | a :: l, 0, v, _ => by simp [splice, intCells]
  | a :: l, i + 1, v, h => by
    have := splice_set l i v (by simpa using h)
    simp only [splice, intCells, List.map_cons, List.length_cons, List.length_nil, List.take_succ_cons, List.set_cons_succ] at this ⊢
    rw [show i + 1 + (0 + 1) = (i + (0 + 1)) + 1 by omega, List.drop_succ_cons]
    simpa using this
theorem storeTab {m : Mem} {l : List Int} {i : Nat} {v : Int} (hi : i < l.length) : evStore Tryz.prog (m.push (intCells l)) 3 (.ptr m.vars.length i) (.v (.int .i64 v)) = some (m.push (intCells (l.set i v))) := by
  rw [store_push (cs := [iv v]) rfl szInt (by rw [intCells_len]; exact hi) rfl, splice_set l i v hi]
theorem vsAt {r n i : Nat} {kk : IntKind} (hi : i < n) : evIndexAddr Tryz.prog 77 (.vs r 0 1 n n) (.v (.int kk (i : Int))) = some (.ptr r i) := by
  unfold evIndexAddr
  simp only [naInts, elInts, szInt]
  rw [if_pos ⟨trivial, by omega, by omega⟩, Int.toNat_natCast]
  simp
theorem makeTab {n : Nat} (h : n ≤ 4294967296) : evMakeSlice Tryz.prog 77 (.v (.int .i64 (n : Int))) (.v (.int .i64 (n : Int))) = some (intCells (List.replicate n 0), 1, n) := by
  have hb : tBytes Tryz.prog 3 = some 8 := by kernel_rfl
  have hz : zeroCells Tryz.prog 3 = some [.v (.int .i64 0)] := by kernel_rfl
  unfold evMakeSlice
  simp only [elInts, szInt, hb, hz]
  rw [if_pos ⟨rfl, trivial, by omega, by omega, by omega⟩, Int.toNat_natCast]
  simp [intCells, iv]
theorem newTab {m : Mem} {l : List Int} : newVar m m.vars.length (intCells l) = some (m.push (intCells l)) := newVar_push (by
  rw [List.all_eq_true]
  intro c hc
  obtain ⟨n, _, rfl⟩ := List.mem_map.1 hc
  rfl)
theorem getD_set {l : List Int} {i j : Nat} {v : Int} (hi : i < l.length) : (l.set i v).getD j 0 = if i = j then v else l.getD j 0 := by
  simp only [List.getD, List.getElem?_set]
  by_cases h : i = j
  · subst h; simp [hi]
  · simp [h]
theorem set_set (l : List Int) (i : Nat) (a b : Int) : (l.set i a).set i b = l.set i b := List.set_set ..
def depthG : List AV → Mem → Option (AV × Mem)
  | [.lst _ 7 rows], m =>
    match unN rows with
    | some l => if l.length ≤ big40 then some (.v (.int .i64 (depthOf l : Nat)), m) else none
    | none => none
  | _, _ => none
theorem depthG_eq {m : Mem} {g : Grow} {l : List Nd} (h : l.length ≤ big40) : depthG [.lst g 7 (rowsN l)] m = some (.v (.int .i64 (depthOf l : Nat)), m) := by
  simp only [depthG, unN_rowsN]
  rw [if_pos h]
theorem mx_nat (a b : Nat) : mx (a : Int) (b : Int) = ((max a b : Nat) : Int) := by
  unfold mx
  split <;> omega
def kpDepth : Nat → Option (List Nat) := fun _ => some [0, 2, 3, 4, 6, 9, 17, 22, 23, 24, 25]
attribute [go_sem] kpDepth
def tabDepth : List (FuncId × (List AV → Mem → Option (AV × Mem))) := [(141, wholeG), (146, belowG)]
theorem depth_ok : FunOk Tryz.prog 144 depthG := by
  have hC := table_ok (P := Tryz.prog) (l := tabDepth) (table_more whole_ok (table_more below_ok table_nil))
  have t1 := fun args mm => table_at (l := tabDepth) (f := 141) (args := args) (m := mm) rfl
  have t2 := fun args mm => table_at (l := tabDepth) (f := 146) (args := args) (m := mm) rfl
  refine fun_ok mixed hC Tryz.func144 rfl kpDepth false rfl fun args m r h => ?_
  unfold depthG at h
  split at h
  · rename_i g rows
    split at h
    · rename_i l hl0
      obtain rfl := unN_some hl0
      split at h
      · rename_i hlen
        simp only [Option.some.injEq] at h
        subst h
        refine ⟨Nat.le_of_ble_eq_true rfl, ?_⟩
        simp only [entry, List.length_cons, List.length_nil, List.range, List.range.loop, List.zip_cons_cons, List.zip_nil_right]
        have f1 := fun mm => wholeG_eq (m := mm) (g := .no) hlen
        have hlen' := hlen
        unfold depthOf
        cases hw : wholeB l with
        | false =>
          rw [hw] at f1
          have b1 : (!false) = true := rfl
          refine go1 (jn @t1 (jn @f1 @b1)) ?_
          refine runs_cond rfl (fun hc => ?_) (fun hc => by cases hc)
          refine go0 ?_
          exact leaves_v rfl rfl
        | true =>
          rw [hw] at f1
          have b1 : (!true) = false := rfl
          unfold wholeB at hw
          simp only [Bool.and_eq_true, decide_eq_true_eq] at hw
          obtain ⟨⟨hpos, h64⟩, hend⟩ := hw
          have mk := makeTab (n := l.length) (by omega)
          have nv := newTab (m := m) (l := List.replicate l.length 0)
          have r0 : IntKind.i64.wrap ((l.length : Int) - 1) = (l.length : Int) - 1 := i64_wrap (by omega) (by omega)
          refine go1 (jn @t1 (jn @f1 @b1)) ?_
          refine runs_cond rfl (fun hc => by cases hc) (fun hc => ?_)
          refine go1 (jn @mk (jn @nv @r0)) ?_
          refine runs_loop (fun k e m' => ∃ (j : Nat) (ds : List Int) (x6 x17 x22 x23 x24 x25 : AV), j ≤ l.length ∧ ds.length = l.length ∧ (∀ a : Nat, j ≤ a → a < l.length → ds.getD a 0 = ((depthD l (a : Int) : Nat) : Int)) ∧ (∀ a : Nat, a < j → ds.getD a 0 = 0) ∧ m' = m.push (intCells ds) ∧ k = j ∧
            e = [(0, AV.lst g 7 (rowsN l)), (2, .v (.int .i64 0)), (3, .vs m.vars.length 0 1 l.length l.length), (4, .v (.int .i64 ((j : Int) - 1))), (6, x6), (9, .v (.bool false)), (17, x17), (22, x22), (23, x23), (24, x24), (25, x25)])
            (k := l.length) ⟨l.length, List.replicate l.length 0, _, _, _, _, _, _, Nat.le_refl _, by simp, fun a h1 h2 => by omega, fun a h => by simp only [List.getD, List.getElem?_replicate]; split <;> rfl, rfl, rfl, rfl⟩ ?_
          rintro k e m' ⟨j, ds, x6, x17, x22, x23, x24, x25, hj, hds, hdone, hzero, rfl, rfl, rfl⟩
          refine go0 ?_
          refine runs_cond rfl (fun hc => ?_) (fun hc => ?_)
          · obtain ⟨i, rfl⟩ : ∃ i, k = i + 1 := ⟨k - 1, by have := of_decide_eq_true hc; omega⟩
            have e0 : ((i + 1 : Nat) : Int) - 1 = (i : Int) := by omega
            rw [e0]
            have hi1 : i < l.length := by omega
            have f2 := fun mm => belowG_eq (m := mm) (g := .no) (at_ := (i : Int)) hlen' ⟨by omega, by omega⟩
            have hD := depthD_eq (l := l) (a := (i : Int)) (by omega) (by omega)
            have hmem := fun b => below_mem (l := l) (a := (i : Int)) (b := b) (by omega)
            have hle2 := (belowOf_okI hlen' (at_ := (i : Int)) ⟨by omega, by omega⟩).2
            generalize belowOf l (i : Int) = lb at f2 hD hmem hle2
            have hzi := hzero i (by omega)
            have hself : ds.set i 0 = ds := by
              apply getD_ext (d := 0) (by simp)
              intro a ha
              rw [getD_set (by omega)]
              split
              · rename_i h; rw [← h]; exact hzi.symm
              · rfl
            refine go1 (jn @t2 @f2) ?_
            refine runs_loop (fun k e m' => ∃ (t : Nat) (x6 x25 : AV), t ≤ lb.length ∧ m' = m.push (intCells (ds.set i (maxL ((lb.take t).map (depthD l)) : Nat))) ∧ k = lb.length - t ∧
              e = [(0, AV.lst g 7 (rowsN l)), (2, .v (.int .i64 0)), (3, .vs m.vars.length 0 1 l.length l.length), (4, .v (.int .i64 (i : Int))), (6, x6), (9, .v (.bool false)), (17, .v (.bool (decide ((i : Int) ≥ 0)))), (22, .lst .no 1 (rowsI lb)), (23, .v (.int .i64 (lb.length : Int))), (24, .v (.int .i64 (t : Int))), (25, x25)])
              (k := lb.length) ⟨0, _, _, Nat.zero_le _, by rw [List.take_zero]; simp only [List.map_nil, maxL]; rw [show ((0 : Nat) : Int) = 0 from rfl, hself], rfl, rfl⟩ ?_
            rintro k e m' ⟨t, x6, x25, ht, rfl, rfl, rfl⟩
            refine go0 ?_
            refine runs_cond rfl (fun hc => ?_) (fun hc => ?_)
            · have ht1 : t < lb.length := by have := of_decide_eq_true hc; omega
              have f3 := atInts (g := .no) (kk := .i64) ht1
              have hm : lb.getD t 0 ∈ lb := by simp [List.getD, List.getElem?_eq_getElem ht1]
              have htk : (lb.take (t + 1)).map (depthD l) = (lb.take t).map (depthD l) ++ [depthD l (lb.getD t 0)] := by rw [take_next (d := 0) ht1, List.map_append]; rfl
              obtain ⟨g1, g2, g3⟩ := hmem _ hm
              generalize lb.getD t 0 = b at f3 htk g1 g2 g3
              obtain ⟨b', rfl⟩ := Int.eq_ofNat_of_zero_le (by omega : 0 ≤ b)
              have hmx : maxL ((lb.take (t + 1)).map (depthD l)) = max (maxL ((lb.take t).map (depthD l))) (depthD l (b' : Int)) := by rw [htk, maxL_app]
              generalize maxL ((lb.take t).map (depthD l)) = M at hmx ⊢
              have v1 := vsAt (r := m.vars.length) (kk := .i64) hi1
              have v2 := vsAt (r := m.vars.length) (n := l.length) (i := b') (kk := .i64) (by omega)
              have l1 := loadTab (m := m) (l := ds.set i (M : Int)) (i := i) (by rw [List.length_set]; omega)
              rw [getD_set (by omega), if_pos rfl] at l1
              have l2 := loadTab (m := m) (l := ds.set i (M : Int)) (i := b') (by rw [List.length_set]; omega)
              rw [getD_set (by omega), if_neg (by omega), hdone b' (by omega) (by omega)] at l2
              have s1 := storeTab (m := m) (l := ds.set i (M : Int)) (i := i) (v := ((max M (depthD l (b' : Int)) : Nat) : Int)) (by rw [List.length_set]; omega)
              rw [set_set] at s1
              have mxn := mx_nat M (depthD l (b' : Int))
              have r7 := next_i64 (i := t) (by omega)
              refine go1 @f3 ?_
              refine runs_ops_drawn_kept (by kernel_rfl) ?_
              refine go1 (jn @v1 (jn @v2 (jn @l1 (jn @l2 (jn @mxn (jn @s1 @r7)))))) ?_
              exact ⟨lb.length - (t + 1), by omega, t + 1, _, _, ht1, by rw [hmx], rfl, rfl⟩
            · have ht1 : t = lb.length := by have := of_decide_eq_false hc; omega
              subst ht1
              rw [List.take_length]
              have hdl := depthD_le l (i : Int)
              generalize hM : maxL (lb.map (depthD l)) = M at hD ⊢
              have v1 := vsAt (r := m.vars.length) (kk := .i64) hi1
              have l1 := loadTab (m := m) (l := ds.set i (M : Int)) (i := i) (by rw [List.length_set]; omega)
              rw [getD_set (by omega), if_pos rfl] at l1
              have r7 := next_i64 (i := M) (by omega)
              have s1 := storeTab (m := m) (l := ds.set i (M : Int)) (i := i) (v := ((M + 1 : Nat) : Int)) (by rw [List.length_set]; omega)
              rw [set_set] at s1
              have r8 : IntKind.i64.wrap ((i : Int) - 1) = (i : Int) - 1 := i64_wrap (by omega) (by omega)
              refine go1 (jn @v1 (jn @l1 (jn @r7 (jn @s1 @r8)))) ?_
              refine ⟨i, by omega, i, ds.set i ((M + 1 : Nat) : Int), _, _, _, _, _, _, by omega, by rw [List.length_set]; exact hds, fun a h1 h2 => ?_, fun a h => ?_, rfl, rfl, rfl⟩
              · rw [getD_set (by omega)]
                split
                · rename_i h; rw [← h, hD]
                · exact hdone a (by omega) h2
              · rw [getD_set (by omega), if_neg (by omega)]
                exact hzero a (by omega)
          · have hk0 : k = 0 := by have := of_decide_eq_false hc; omega
            subst hk0
            have v1 := vsAt (r := m.vars.length) (kk := .i64) (i := 0) hpos
            have v1' : evIndexAddr Tryz.prog 77 (.vs m.vars.length 0 1 l.length l.length) (.v (.int .i64 0)) = some (.ptr m.vars.length 0) := v1
            have l1 := loadTab (m := m) (l := ds) (i := 0) (by omega)
            rw [hdone 0 (Nat.le_refl _) hpos] at l1
            refine go1 (jn @v1' @l1) ?_
            exact leaves_fin rfl rfl fin_push
      · cases h
    · cases h
  · cases h
end Go.Proofs.YtojaokhkbmiidaaGreat.Ev

namespace Go.Proofs.YtojaokhkbmiidaaGreat.Ev
open Go Go.Proofs
set_option maxRecDepth 10000
set_option maxHeartbeats 8000000
set_option linter.unusedVariables false
set_option linter.unusedSimpArgs false
attribute [local irreducible] Next Inside Runs Ops table
attribute [local go_sem] szStr szInt Option.getD_some isNil loadStr loadInt rowsS_len rowsI_len rowsN_len evStr fldOp ldOp ldNode newNode cellsNode topNode
theorem unNd_of (x : Nd) : unNd x.row = some x := rfl
theorem mayG_eq (x : Nd) (mm : Mem) : mayG [.agg x.row] mm = some (.v (.bool (decide (mayN x))), mm) := by
  simp only [mayG, mayAt, unNd_of]
  rfl
def notMayG : List AV → Mem → Option (AV × Mem)
  | [.agg cs], m =>
    match unNd cs with
    | some x => some (.v (.bool (!decide (mayN x))), m)
    | none => none
  | _, _ => none
def kpNotMay : Nat → Option (List Nat) := fun _ => some [0, 1, 2]
attribute [go_sem] kpNotMay
theorem notMay_ok : FunOk Tryz.prog 142 notMayG := by
  have hC := table_ok (P := Tryz.prog) (l := [(143, mayG)]) (table_more may_ok table_nil)
  have t1 := fun args mm => table_at (l := [(143, mayG)]) (f := 143) (args := args) (m := mm) rfl
  refine fun_ok mixed hC Tryz.func142 rfl kpNotMay false rfl fun args m r h => ?_
  unfold notMayG at h
  split at h
  · rename_i cs
    split at h
    · rename_i x hx
      obtain rfl := unNd_row hx
      simp only [Option.some.injEq] at h
      subst h
      refine ⟨Nat.le_of_ble_eq_true rfl, ?_⟩
      simp only [entry, List.length_cons, List.length_nil, List.range, List.range.loop, List.zip_cons_cons, List.zip_nil_right]
      have f1 : ∀ mm, mayG [.agg (nrow x.op x.a x.b x.c x.k x.u x.n)] mm = some (.v (.bool (decide (mayN x))), mm) := fun mm => mayG_eq x mm
      generalize hR : nrow x.op x.a x.b x.c x.k x.u x.n = R at *
      subst hR
      refine go1 (jn @t1 @f1) ?_
      exact leaves_fin rfl rfl fin_push
    · cases h
  · cases h
def badN (x : Nd) : Bool := !decide (mayN x)
def findBadNG : List AV → Mem → Option (AV × Mem)
  | [.lst _ 7 rows, .fn (.func 142) [] []], m =>
    match unN rows with
    | some l => if l.length ≤ big40 then some (.v (.int .i64 (firstBy badN l 0)), m) else none
    | none => none
  | _, _ => none
theorem findBadNG_eq {m : Mem} {g : Grow} {l : List Nd} (h : l.length ≤ big40) : findBadNG [.lst g 7 (rowsN l), .fn (.func 142) [] []] m = some (.v (.int .i64 (firstBy badN l 0)), m) := by
  simp only [findBadNG, unN_rowsN]
  rw [if_pos h]
def kpIndexN : Nat → Option (List Nat) := fun _ => some [0, 1, 4, 5, 7, 8, 9, 16]
attribute [go_sem] kpIndexN
theorem findBadN_ok : FunOk Tryz.prog 133 findBadNG := by
  have hC := table_ok (P := Tryz.prog) (l := [(142, notMayG)]) (table_more notMay_ok table_nil)
  have t1 := fun args mm => table_at (l := [(142, notMayG)]) (f := 142) (args := args) (m := mm) rfl
  refine fun_ok mixed hC Tryz.func133 rfl kpIndexN false rfl fun args m r h => ?_
  unfold findBadNG at h
  split at h
  · rename_i g rows
    split at h
    · rename_i l hl0
      obtain rfl := unN_some hl0
      split at h
      · rename_i hlen
        simp only [Option.some.injEq] at h
        subst h
        unfold big40 at hlen
        refine ⟨Nat.le_of_ble_eq_true rfl, ?_⟩
        simp only [entry, List.length_cons, List.length_nil, List.range, List.range.loop, List.zip_cons_cons, List.zip_nil_right]
        refine go0 ?_
        refine runs_loop (fun k e m' => ∃ (i : Nat) (x5 x9 x16 : AV), i ≤ l.length ∧ firstBy badN (l.drop i) i = firstBy badN l 0 ∧ m = m' ∧ k = l.length - i ∧
          e = [(0, AV.lst g 7 (rowsN l)), (1, .fn (.func 142) [] []), (4, .v (.int .i64 0)), (5, x5), (7, .v (.int .i64 l.length)), (8, .v (.int .i64 (i : Int))), (9, x9), (16, x16)]) (k := l.length) ⟨0, _, _, _, Nat.zero_le _, rfl, rfl, rfl, rfl⟩ ?_
        rintro k e m' ⟨i, x5, x9, x16, hi, hf, rfl, rfl, rfl⟩
        refine go0 ?_
        refine runs_cond rfl (fun hc => ?_) (fun hc => ?_)
        · have hi1 : i < l.length := by have := of_decide_eq_true hc; omega
          have f1 := atNodes (g := g) (kk := .i64) hi1
          have f2 : ∀ mm, notMayG [.agg (l.getD i nd0).row] mm = some (.v (.bool (badN (l.getD i nd0))), mm) := fun mm => by
            simp only [notMayG, unNd_of]
            rfl
          refine go1 (jn @f1 (jn @t1 @f2)) ?_
          refine runs_cond rfl (fun hc => ?_) (fun hc => ?_)
          · rw [by_yes hi1 hc hf]
            refine go0 ?_
            exact leaves_v rfl rfl
          · have r6 := next_i64 (i := i) (by omega)
            refine go1 @r6 ?_
            exact ⟨l.length - (i + 1), by omega, i + 1, _, _, _, hi1, by_no hi1 hc hf, rfl, rfl, rfl⟩
        · have hi1 : i = l.length := by have := of_decide_eq_false hc; omega
          subst hi1
          rw [by_end hf]
          refine go0 ?_
          exact leaves_v rfl rfl
      · cases h
    · cases h
  · cases h
def anyBadNG : List AV → Mem → Option (AV × Mem)
  | [.lst _ 7 rows, .fn (.func 142) [] []], m =>
    match unN rows with
    | some l => if l.length ≤ big40 then some (.v (.bool (l.any badN)), m) else none
    | none => none
  | _, _ => none
theorem anyBadNG_eq {m : Mem} {g : Grow} {l : List Nd} (h : l.length ≤ big40) : anyBadNG [.lst g 7 (rowsN l), .fn (.func 142) [] []] m = some (.v (.bool (l.any badN)), m) := by
  simp only [anyBadNG, unN_rowsN]
  rw [if_pos h]
def kpContainsN : Nat → Option (List Nat) := fun _ => some [0, 1, 4]
attribute [go_sem] kpContainsN
theorem anyBadN_ok : FunOk Tryz.prog 89 anyBadNG := by
  have hC := table_ok (P := Tryz.prog) (l := [(133, findBadNG)]) (table_more findBadN_ok table_nil)
  have t1 := fun args mm => table_at (l := [(133, findBadNG)]) (f := 133) (args := args) (m := mm) rfl
  refine fun_ok mixed hC Tryz.func89 rfl kpContainsN false rfl fun args m r h => ?_
  unfold anyBadNG at h
  split at h
  · rename_i g rows
    split at h
    · rename_i l hl0
      obtain rfl := unN_some hl0
      split at h
      · rename_i hlen
        simp only [Option.some.injEq] at h
        subst h
        refine ⟨Nat.le_of_ble_eq_true rfl, ?_⟩
        simp only [entry, List.length_cons, List.length_nil, List.range, List.range.loop, List.zip_cons_cons, List.zip_nil_right]
        have f1 := fun mm => findBadNG_eq (m := mm) (g := .no) hlen
        have f3 : decide (firstBy badN l 0 ≥ 0) = l.any badN := firstBy_any badN l 0
        refine go1 (jn @t1 (jn @f1 @f3)) ?_
        exact leaves_v rfl rfl
      · cases h
    · cases h
  · cases h
/-! ### check -/
def checkT (l : List Nd) : Int := if 64 < l.length then 9 else if wholeB l = false ∨ l.any badN = true then 1 else if 32 < depthOf l then 7 else 0
def checkTG : List AV → Mem → Option (AV × Mem)
  | [.lst _ 7 rows], m =>
    match unN rows with
    | some l => if l.length ≤ big40 then some (.v (.int .i64 (checkT l)), m) else none
    | none => none
  | _, _ => none
theorem checkTG_eq {m : Mem} {g : Grow} {l : List Nd} (h : l.length ≤ big40) : checkTG [.lst g 7 (rowsN l)] m = some (.v (.int .i64 (checkT l)), m) := by
  simp only [checkTG, unN_rowsN]
  rw [if_pos h]
def kpCheckT : Nat → Option (List Nat) := fun _ => some [0, 2, 3, 7, 13]
attribute [go_sem] kpCheckT
def tabCheckT : List (FuncId × (List AV → Mem → Option (AV × Mem))) := [(141, wholeG), (89, anyBadNG), (144, depthG)]
theorem checkT_ok : FunOk Tryz.prog 107 checkTG := by
  have hC := table_ok (P := Tryz.prog) (l := tabCheckT) (table_more whole_ok (table_more anyBadN_ok (table_more depth_ok table_nil)))
  have t1 := fun args mm => table_at (l := tabCheckT) (f := 141) (args := args) (m := mm) rfl
  have t2 := fun args mm => table_at (l := tabCheckT) (f := 89) (args := args) (m := mm) rfl
  have t3 := fun args mm => table_at (l := tabCheckT) (f := 144) (args := args) (m := mm) rfl
  refine fun_ok mixed hC Tryz.func107 rfl kpCheckT false rfl fun args m r h => ?_
  unfold checkTG at h
  split at h
  · rename_i g rows
    split at h
    · rename_i l hl0
      obtain rfl := unN_some hl0
      split at h
      · rename_i hlen
        simp only [Option.some.injEq] at h
        subst h
        refine ⟨Nat.le_of_ble_eq_true rfl, ?_⟩
        simp only [entry, List.length_cons, List.length_nil, List.range, List.range.loop, List.zip_cons_cons, List.zip_nil_right]
        have f1 := fun mm => wholeG_eq (m := mm) (g := .no) hlen
        have f2 := fun mm => anyBadNG_eq (m := mm) (g := .no) hlen
        have f3 := fun mm => depthG_eq (m := mm) (g := .no) hlen
        refine go0 ?_
        refine runs_cond rfl (fun hc => ?_) (fun hc => ?_)
        · have := of_decide_eq_true hc
          rw [show checkT l = 9 from if_pos (by omega)]
          refine go0 ?_
          exact leaves_v rfl rfl
        · have h64 := of_decide_eq_false hc
          have e : checkT l = if wholeB l = false ∨ l.any badN = true then 1 else if 32 < depthOf l then 7 else 0 := if_neg (by omega)
          cases hw : wholeB l with
          | false =>
            rw [hw] at f1
            have b1 : (!false) = true := rfl
            rw [e, if_pos (.inl hw)]
            refine go1 (jn @t1 (jn @f1 @b1)) ?_
            refine runs_cond rfl (fun hc => ?_) (fun hc => by cases hc)
            refine go0 ?_
            refine runs_cond rfl (fun hc => ?_) (fun hc => by cases hc)
            refine go0 ?_
            exact leaves_v rfl rfl
          | true =>
            rw [hw] at f1
            have b1 : (!true) = false := rfl
            refine go1 (jn @t1 (jn @f1 @b1)) ?_
            refine runs_cond rfl (fun hc => by cases hc) (fun hc => ?_)
            refine go1 (jn @t2 @f2) ?_
            refine runs_cond rfl (fun hc => ?_) (fun hc => ?_)
            · rw [e, if_pos (.inr hc)]
              refine go0 ?_
              exact leaves_v rfl rfl
            · have hn : ¬ (wholeB l = false ∨ l.any badN = true) := by rw [hw, hc]; simp
              rw [e, if_neg hn]
              refine go1 (jn @t3 @f3) ?_
              refine runs_cond rfl (fun hc => ?_) (fun hc => ?_)
              · have := of_decide_eq_true hc
                rw [if_pos (by omega)]
                refine go0 ?_
                exact leaves_v rfl rfl
              · have := of_decide_eq_false hc
                rw [if_neg (by omega)]
                refine go0 ?_
                exact leaves_v rfl rfl
      · cases h
    · cases h
  · cases h
end Go.Proofs.YtojaokhkbmiidaaGreat.Ev

namespace Go.Proofs.YtojaokhkbmiidaaGreat.Ev
open Go Go.Proofs
set_option maxRecDepth 10000
set_option maxHeartbeats 8000000
set_option linter.unusedVariables false
set_option linter.unusedSimpArgs false
attribute [local irreducible] Next Inside Runs Ops table
attribute [local go_sem] szStr szInt Option.getD_some isNil evStr iv loadStr loadInt rowsS_len rowsGs_len rowsPh_len mapGs mapPh mapRc ldGs ldPh cellsGs cellsPh cellsRc newGs newPh newRc fpGsGroup fpGsParam fpGsNodes fpPhName fpPhLen fpPhFrozen fpPhSets fpRcName fpRcSteps fpRcEpoch fpRcWeights fpRcMetrics fpRcGroups fpRcEval fpRcPhases
def okStr (s : ByteArray) : Prop := s.size ≤ 9223372036854775807
def Gs.fit (x : Gs) : Prop := okStr x.group ∧ x.nodes.length ≤ big40
def Ph.fit (x : Ph) : Prop := okStr x.name ∧ x.frozen.length ≤ big40 ∧ (∀ s ∈ x.frozen, okStr s) ∧ x.sets.length ≤ big40 ∧ ∀ s ∈ x.sets, s.fit
def Rc.fit (R : Rc) : Prop := okStr R.name ∧ (R.metrics.length ≤ big40 ∧ ∀ s ∈ R.metrics, okStr s) ∧ (R.groups.length ≤ big40 ∧ ∀ s ∈ R.groups, okStr s) ∧ (R.phases.length ≤ big40 ∧ ∀ p ∈ R.phases, p.fit) ∧ okStr R.stopMetric ∧ okStr R.plateauMetric ∧ okStr R.keepMetric
instance (s : ByteArray) : Decidable (okStr s) := by unfold okStr; exact inferInstance
instance (x : Gs) : Decidable x.fit := by unfold Gs.fit; exact inferInstance
instance (x : Ph) : Decidable x.fit := by unfold Ph.fit; exact inferInstance
instance (x : Rc) : Decidable x.fit := by unfold Rc.fit; exact inferInstance
/-! ### names -/
def notName (s : ByteArray) : Bool := !isName s
def notNameG : List AV → Mem → Option (AV × Mem)
  | [.v (.string s)], m => if okStr s then some (.v (.bool (notName s)), m) else none
  | _, _ => none
theorem notNameG_at (s : ByteArray) (m : Mem) (h : okStr s) : notNameG [.v (.string s)] m = some (.v (.bool (notName s)), m) := if_pos h
def kpNotName : Nat → Option (List Nat) := fun
  | 0 => some [0]
  | 1 => some [2]
  | _ => none
attribute [go_sem] kpNotName
def tab_notName_ok : List (FuncId × (List AV → Mem → Option (AV × Mem))) := [(122, isNameG)]
theorem notName_ok : FunOk Tryz.prog 121 notNameG := by
  have hC := table_ok (P := Tryz.prog) (l := tab_notName_ok) (table_more is_ok table_nil)
  have t1 := fun args mm => table_at (l := tab_notName_ok) (f := 122) (args := args) (m := mm) rfl
  refine fun_ok mixed hC Tryz.func121 rfl kpNotName false rfl fun args m r h => ?_
  unfold notNameG at h
  split at h
  · rename_i s
    split at h
    · rename_i hs
      simp only [Option.some.injEq] at h
      subst h
      refine ⟨Nat.le_of_ble_eq_true rfl, ?_⟩
      simp only [entry, List.length_cons, List.length_nil, List.range, List.range.loop, List.zip_cons_cons, List.zip_nil_right]
      have f1 := fun mm => isNameG_eq (m := mm) hs
      refine go1 (jn @t1 @f1) ?_
      exact leaves_v rfl rfl
    · cases h
  · cases h
def nnFindG : List AV → Mem → Option (AV × Mem)
  | [.lst _ 1 rows, .fn (.func 121) [] []], m =>
    match unS rows with
    | some l => if l.length ≤ big40 ∧ (∀ x ∈ l, okStr x) then some (.v (.int .i64 (firstBy notName l 0)), m) else none
    | none => none
  | _, _ => none
theorem nnFindG_eq {m : Mem} {g : Grow} {l : List ByteArray} (h : l.length ≤ big40 ∧ (∀ x ∈ l, okStr x)) : nnFindG [.lst g 1 (rowsS l), .fn (.func 121) [] []] m = some (.v (.int .i64 (firstBy notName l 0)), m) := by
  simp only [nnFindG, unS_rowsS]
  rw [if_pos h]
def kp_nnFind : Nat → Option (List Nat) := fun _ => some [0, 1, 4, 5, 7, 8, 9, 16]
attribute [go_sem] kp_nnFind
def tab_nnFind_ok : List (FuncId × (List AV → Mem → Option (AV × Mem))) := [(121, notNameG)]
theorem nnFind_ok : FunOk Tryz.prog 153 nnFindG := by
  have hC := table_ok (P := Tryz.prog) (l := tab_nnFind_ok) (table_more notName_ok table_nil)
  have t1 := fun args mm => table_at (l := tab_nnFind_ok) (f := 121) (args := args) (m := mm) rfl
  refine fun_ok mixed hC Tryz.func153 rfl kp_nnFind false rfl fun args m r h => ?_
  unfold nnFindG at h
  split at h
  · rename_i g rows
    split at h
    · rename_i l hl0
      obtain rfl := unS_some hl0
      split at h
      · rename_i hyp
        simp only [Option.some.injEq] at h
        subst h
        refine ⟨Nat.le_of_ble_eq_true rfl, ?_⟩
        simp only [entry, List.length_cons, List.length_nil, List.range, List.range.loop, List.zip_cons_cons, List.zip_nil_right]
        obtain ⟨hlen, hb⟩ := hyp
        have hlen' := hlen
        unfold big40 at hlen'
        refine go0 ?_
        refine runs_loop (fun k e m' => ∃ (i : Nat) (x5 x9 x16 : AV), i ≤ l.length ∧ firstBy notName (l.drop i) i = firstBy notName l 0 ∧ m = m' ∧ k = l.length - i ∧
          e = [(0, AV.lst g 1 (rowsS l)), (1, .fn (.func 121) [] []), (4, .v (.int .i64 0)), (5, x5), (7, .v (.int .i64 l.length)), (8, .v (.int .i64 (i : Int))), (9, x9), (16, x16)]) (k := l.length) ⟨0, _, _, _, Nat.zero_le _, rfl, rfl, rfl, rfl⟩ ?_
        rintro k e m' ⟨i, x5, x9, x16, hi, hf, rfl, rfl, rfl⟩
        refine go0 ?_
        refine runs_cond rfl (fun hc => ?_) (fun hc => ?_)
        · have hi1 : i < l.length := by have := of_decide_eq_true hc; omega
          have f1 := atStrs (g := g) (kk := .i64) hi1
          have f2 := fun mm => notNameG_at (l.getD i ⟨#[]⟩) mm (hb _ (by rw [List.getD, List.getElem?_eq_getElem hi1]; exact List.getElem_mem _))
          refine go1 (jn @f1 (jn @t1 @f2)) ?_
          refine runs_cond rfl (fun hc => ?_) (fun hc => ?_)
          · rw [by_yes hi1 hc hf]
            refine go0 ?_
            exact leaves_v rfl rfl
          · have r6 := next_i64 (i := i) (by omega)
            refine go1 @r6 ?_
            exact ⟨l.length - (i + 1), by omega, i + 1, _, _, _, hi1, by_no hi1 hc hf, rfl, rfl, rfl⟩
        · have hi1 : i = l.length := by have := of_decide_eq_false hc; omega
          subst hi1
          rw [by_end hf]
          refine go0 ?_
          exact leaves_v rfl rfl
      · cases h
    · cases h
  · cases h
def nnAnyG : List AV → Mem → Option (AV × Mem)
  | [.lst _ 1 rows, .fn (.func 121) [] []], m =>
    match unS rows with
    | some l => if l.length ≤ big40 ∧ (∀ x ∈ l, okStr x) then some (.v (.bool (l.any notName)), m) else none
    | none => none
  | _, _ => none
theorem nnAnyG_eq {m : Mem} {g : Grow} {l : List ByteArray} (h : l.length ≤ big40 ∧ (∀ x ∈ l, okStr x)) : nnAnyG [.lst g 1 (rowsS l), .fn (.func 121) [] []] m = some (.v (.bool (l.any notName)), m) := by
  simp only [nnAnyG, unS_rowsS]
  rw [if_pos h]
def kp_nnAny : Nat → Option (List Nat) := fun _ => some [0, 1, 4]
attribute [go_sem] kp_nnAny
def tab_nnAny_ok : List (FuncId × (List AV → Mem → Option (AV × Mem))) := [(153, nnFindG)]
theorem nnAny_ok : FunOk Tryz.prog 120 nnAnyG := by
  have hC := table_ok (P := Tryz.prog) (l := tab_nnAny_ok) (table_more nnFind_ok table_nil)
  have t1 := fun args mm => table_at (l := tab_nnAny_ok) (f := 153) (args := args) (m := mm) rfl
  refine fun_ok mixed hC Tryz.func120 rfl kp_nnAny false rfl fun args m r h => ?_
  unfold nnAnyG at h
  split at h
  · rename_i g rows
    split at h
    · rename_i l hl0
      obtain rfl := unS_some hl0
      split at h
      · rename_i hyp
        simp only [Option.some.injEq] at h
        subst h
        refine ⟨Nat.le_of_ble_eq_true rfl, ?_⟩
        simp only [entry, List.length_cons, List.length_nil, List.range, List.range.loop, List.zip_cons_cons, List.zip_nil_right]
        have f1 := fun mm => nnFindG_eq (m := mm) (g := .no) hyp
        have f3 : decide (firstBy notName l 0 ≥ 0) = l.any notName := firstBy_any notName l 0
        refine go1 (jn @t1 (jn @f1 @f3)) ?_
        exact leaves_v rfl rfl
      · cases h
    · cases h
  · cases h
def namedB (l : List ByteArray) (n : Int) : Bool := decide ((l.length : Int) ≤ n) && !(l.any notName)
def namedG : List AV → Mem → Option (AV × Mem)
  | [.lst _ 1 rows, .v (.int .i64 n)], m =>
    match unS rows with
    | some l => if l.length ≤ big40 ∧ ∀ x ∈ l, okStr x then some (.v (.bool (namedB l n)), m) else none
    | none => none
  | _, _ => none
theorem namedG_eq {m : Mem} {g : Grow} {l : List ByteArray} {n : Int} (h : l.length ≤ big40 ∧ ∀ x ∈ l, okStr x) : namedG [.lst g 1 (rowsS l), .v (.int .i64 n)] m = some (.v (.bool (namedB l n)), m) := by
  simp only [namedG, unS_rowsS]
  rw [if_pos h]
def kpNamed : Nat → Option (List Nat) := fun
  | 0 => some [0, 1]
  | 1 => some [4]
  | _ => none
attribute [go_sem] kpNamed
def tab_named_ok : List (FuncId × (List AV → Mem → Option (AV × Mem))) := [(120, nnAnyG)]
theorem named_ok : FunOk Tryz.prog 73 namedG := by
  have hC := table_ok (P := Tryz.prog) (l := tab_named_ok) (table_more nnAny_ok table_nil)
  have t1 := fun args mm => table_at (l := tab_named_ok) (f := 120) (args := args) (m := mm) rfl
  refine fun_ok mixed hC Tryz.func73 rfl kpNamed false rfl fun args m r h => ?_
  unfold namedG at h
  split at h
  · rename_i g rows n
    split at h
    · rename_i l hl0
      obtain rfl := unS_some hl0
      split at h
      · rename_i hyp
        simp only [Option.some.injEq] at h
        subst h
        refine ⟨Nat.le_of_ble_eq_true rfl, ?_⟩
        simp only [entry, List.length_cons, List.length_nil, List.range, List.range.loop, List.zip_cons_cons, List.zip_nil_right]
        have f1 := fun mm => nnAnyG_eq (m := mm) (g := .no) hyp
        unfold namedB
        cases hb : decide ((l.length : Int) ≤ n) with
        | true =>
          refine go1 (jn @t1 (jn @f1 @hb)) ?_
          exact leaves_v rfl rfl
        | false =>
          refine go1 (jn @t1 (jn @f1 @hb)) ?_
          exact leaves_v rfl rfl
      · cases h
    · cases h
  · cases h
/-! ### sets -/
def setMay (x : Gs) : Bool := isName x.group && (decide (0 ≤ x.param) && (decide (x.param < 3) && (checkT x.nodes == 0)))
def setMayG : List AV → Mem → Option (AV × Mem)
  | [.agg cs], m =>
    match unGs cs with
    | some x => if x.fit then some (.v (.bool (setMay x)), m) else none
    | none => none
  | _, _ => none
theorem setMayG_at (x : Gs) (m : Mem) (h : x.fit) : setMayG [.agg x.row] m = some (.v (.bool (setMay x)), m) := by
  simp only [setMayG, unGs_row]
  rw [if_pos h]
def kpSetMay : Nat → Option (List Nat) := fun
  | 0 => some [1]
  | 1 => some [2]
  | _ => none
attribute [go_sem] kpSetMay
def tab_setMay_ok : List (FuncId × (List AV → Mem → Option (AV × Mem))) := [(122, isNameG), (107, checkTG)]
theorem setMay_ok : FunOk Tryz.prog 125 setMayG := by
  have hC := table_ok (P := Tryz.prog) (l := tab_setMay_ok) (table_more is_ok (table_more checkT_ok table_nil))
  have t1 := fun args mm => table_at (l := tab_setMay_ok) (f := 122) (args := args) (m := mm) rfl
  have t2 := fun args mm => table_at (l := tab_setMay_ok) (f := 107) (args := args) (m := mm) rfl
  refine fun_ok mixed hC Tryz.func125 rfl kpSetMay false rfl fun args m r h => ?_
  unfold setMayG at h
  split at h
  · rename_i cs
    split at h
    · rename_i x hx
      obtain rfl := unGs_some hx
      split at h
      · rename_i hyp
        simp only [Option.some.injEq] at h
        subst h
        refine ⟨Nat.le_of_ble_eq_true rfl, ?_⟩
        simp only [entry, List.length_cons, List.length_nil, List.range, List.range.loop, List.zip_cons_cons, List.zip_nil_right]
        have f1 := fun mm => isNameG_eq (m := mm) hyp.1
        have f2 := fun mm => checkTG_eq (m := mm) (g := .no) hyp.2
        have hv : (m.push x.row).var m.vars.length = some x.row := push_var
        have l1 := lpGsGroup hv
        have l2 := lpGsParam hv
        have l3 := lpGsNodes hv
        unfold setMay
        cases hb : isName x.group with
        | false =>
          rw [hb] at f1
          refine go1 (jn @t1 (jn @f1 @l1)) ?_
          exact leaves_fin rfl rfl fin_push
        | true =>
          rw [hb] at f1
          by_cases h0 : 0 ≤ x.param
          · have b0 : decide (x.param ≥ 0) = true := decide_eq_true h0
            rw [decide_eq_true h0]
            cases h3 : decide (x.param < 3) with
            | false =>
              refine go1 (jn @t1 (jn @f1 (jn @l1 (jn @l2 (jn @b0 @h3))))) ?_
              exact leaves_fin rfl rfl fin_push
            | true =>
              refine go1 (jn @t1 (jn @f1 (jn @l1 (jn @l2 (jn @b0 (jn @h3 (jn @l3 (jn @t2 @f2)))))))) ?_
              exact leaves_fin rfl rfl fin_push
          · have b0 : decide (x.param ≥ 0) = false := decide_eq_false h0
            rw [decide_eq_false h0]
            refine go1 (jn @t1 (jn @f1 (jn @l1 (jn @l2 @b0)))) ?_
            exact leaves_fin rfl rfl fin_push
      · cases h
    · cases h
  · cases h
def setNot (x : Gs) : Bool := !setMay x
def setNotG : List AV → Mem → Option (AV × Mem)
  | [.agg cs], m =>
    match unGs cs with
    | some x => if x.fit then some (.v (.bool (setNot x)), m) else none
    | none => none
  | _, _ => none
theorem setNotG_at (x : Gs) (m : Mem) (h : x.fit) : setNotG [.agg x.row] m = some (.v (.bool (setNot x)), m) := by
  simp only [setNotG, unGs_row]
  rw [if_pos h]
def kpSetNot : Nat → Option (List Nat) := fun
  | 0 => some [1]
  | 1 => some [2]
  | _ => none
attribute [go_sem] kpSetNot
def tab_setNot_ok : List (FuncId × (List AV → Mem → Option (AV × Mem))) := [(125, setMayG)]
theorem setNot_ok : FunOk Tryz.prog 124 setNotG := by
  have hC := table_ok (P := Tryz.prog) (l := tab_setNot_ok) (table_more setMay_ok table_nil)
  have t1 := fun args mm => table_at (l := tab_setNot_ok) (f := 125) (args := args) (m := mm) rfl
  refine fun_ok mixed hC Tryz.func124 rfl kpSetNot false rfl fun args m r h => ?_
  unfold setNotG at h
  split at h
  · rename_i cs
    split at h
    · rename_i x hx
      obtain rfl := unGs_some hx
      split at h
      · rename_i hyp
        simp only [Option.some.injEq] at h
        subst h
        refine ⟨Nat.le_of_ble_eq_true rfl, ?_⟩
        simp only [entry, List.length_cons, List.length_nil, List.range, List.range.loop, List.zip_cons_cons, List.zip_nil_right]
        have f1 := fun mm => setMayG_at x mm hyp
        have l1 := vrGs (x := x) (push_var (m := m))
        refine go1 (jn @t1 (jn @f1 @l1)) ?_
        exact leaves_fin rfl rfl fin_push
      · cases h
    · cases h
  · cases h
def snFindG : List AV → Mem → Option (AV × Mem)
  | [.lst _ 3 rows, .fn (.func 124) [] []], m =>
    match unsGs rows with
    | some l => if l.length ≤ big40 ∧ (∀ x ∈ l, x.fit) then some (.v (.int .i64 (firstBy setNot l 0)), m) else none
    | none => none
  | _, _ => none
theorem snFindG_eq {m : Mem} {g : Grow} {l : List Gs} (h : l.length ≤ big40 ∧ (∀ x ∈ l, x.fit)) : snFindG [.lst g 3 (rowsGs l), .fn (.func 124) [] []] m = some (.v (.int .i64 (firstBy setNot l 0)), m) := by
  simp only [snFindG, unsGs_rowsGs]
  rw [if_pos h]
def kp_snFind : Nat → Option (List Nat) := fun _ => some [0, 1, 4, 5, 7, 8, 9, 16]
attribute [go_sem] kp_snFind
def tab_snFind_ok : List (FuncId × (List AV → Mem → Option (AV × Mem))) := [(124, setNotG)]
theorem snFind_ok : FunOk Tryz.prog 147 snFindG := by
  have hC := table_ok (P := Tryz.prog) (l := tab_snFind_ok) (table_more setNot_ok table_nil)
  have t1 := fun args mm => table_at (l := tab_snFind_ok) (f := 124) (args := args) (m := mm) rfl
  refine fun_ok mixed hC Tryz.func147 rfl kp_snFind false rfl fun args m r h => ?_
  unfold snFindG at h
  split at h
  · rename_i g rows
    split at h
    · rename_i l hl0
      obtain rfl := unsGs_some hl0
      split at h
      · rename_i hyp
        simp only [Option.some.injEq] at h
        subst h
        refine ⟨Nat.le_of_ble_eq_true rfl, ?_⟩
        simp only [entry, List.length_cons, List.length_nil, List.range, List.range.loop, List.zip_cons_cons, List.zip_nil_right]
        obtain ⟨hlen, hb⟩ := hyp
        have hlen' := hlen
        unfold big40 at hlen'
        refine go0 ?_
        refine runs_loop (fun k e m' => ∃ (i : Nat) (x5 x9 x16 : AV), i ≤ l.length ∧ firstBy setNot (l.drop i) i = firstBy setNot l 0 ∧ m = m' ∧ k = l.length - i ∧
          e = [(0, AV.lst g 3 (rowsGs l)), (1, .fn (.func 124) [] []), (4, .v (.int .i64 0)), (5, x5), (7, .v (.int .i64 l.length)), (8, .v (.int .i64 (i : Int))), (9, x9), (16, x16)]) (k := l.length) ⟨0, _, _, _, Nat.zero_le _, rfl, rfl, rfl, rfl⟩ ?_
        rintro k e m' ⟨i, x5, x9, x16, hi, hf, rfl, rfl, rfl⟩
        refine go0 ?_
        refine runs_cond rfl (fun hc => ?_) (fun hc => ?_)
        · have hi1 : i < l.length := by have := of_decide_eq_true hc; omega
          have f1 := atGs (g := g) (kk := .i64) hi1
          have f2 := fun mm => setNotG_at (l.getD i gs0) mm (hb _ (by rw [List.getD, List.getElem?_eq_getElem hi1]; exact List.getElem_mem _))
          refine go1 (jn @f1 (jn @t1 @f2)) ?_
          refine runs_cond rfl (fun hc => ?_) (fun hc => ?_)
          · rw [by_yes hi1 hc hf]
            refine go0 ?_
            exact leaves_v rfl rfl
          · have r6 := next_i64 (i := i) (by omega)
            refine go1 @r6 ?_
            exact ⟨l.length - (i + 1), by omega, i + 1, _, _, _, hi1, by_no hi1 hc hf, rfl, rfl, rfl⟩
        · have hi1 : i = l.length := by have := of_decide_eq_false hc; omega
          subst hi1
          rw [by_end hf]
          refine go0 ?_
          exact leaves_v rfl rfl
      · cases h
    · cases h
  · cases h
def snAnyG : List AV → Mem → Option (AV × Mem)
  | [.lst _ 3 rows, .fn (.func 124) [] []], m =>
    match unsGs rows with
    | some l => if l.length ≤ big40 ∧ (∀ x ∈ l, x.fit) then some (.v (.bool (l.any setNot)), m) else none
    | none => none
  | _, _ => none
theorem snAnyG_eq {m : Mem} {g : Grow} {l : List Gs} (h : l.length ≤ big40 ∧ (∀ x ∈ l, x.fit)) : snAnyG [.lst g 3 (rowsGs l), .fn (.func 124) [] []] m = some (.v (.bool (l.any setNot)), m) := by
  simp only [snAnyG, unsGs_rowsGs]
  rw [if_pos h]
def kp_snAny : Nat → Option (List Nat) := fun _ => some [0, 1, 4]
attribute [go_sem] kp_snAny
def tab_snAny_ok : List (FuncId × (List AV → Mem → Option (AV × Mem))) := [(147, snFindG)]
theorem snAny_ok : FunOk Tryz.prog 112 snAnyG := by
  have hC := table_ok (P := Tryz.prog) (l := tab_snAny_ok) (table_more snFind_ok table_nil)
  have t1 := fun args mm => table_at (l := tab_snAny_ok) (f := 147) (args := args) (m := mm) rfl
  refine fun_ok mixed hC Tryz.func112 rfl kp_snAny false rfl fun args m r h => ?_
  unfold snAnyG at h
  split at h
  · rename_i g rows
    split at h
    · rename_i l hl0
      obtain rfl := unsGs_some hl0
      split at h
      · rename_i hyp
        simp only [Option.some.injEq] at h
        subst h
        refine ⟨Nat.le_of_ble_eq_true rfl, ?_⟩
        simp only [entry, List.length_cons, List.length_nil, List.range, List.range.loop, List.zip_cons_cons, List.zip_nil_right]
        have f1 := fun mm => snFindG_eq (m := mm) (g := .no) hyp
        have f3 : decide (firstBy setNot l 0 ≥ 0) = l.any setNot := firstBy_any setNot l 0
        refine go1 (jn @t1 (jn @f1 @f3)) ?_
        exact leaves_v rfl rfl
      · cases h
    · cases h
  · cases h
/-! ### phases -/
def phMay (x : Ph) : Bool := isName x.name && (decide (lenMay x.lenU x.lenN) && (namedB x.frozen 8 && (decide ((x.sets.length : Int) ≤ 24) && !(x.sets.any setNot))))
def phMayG : List AV → Mem → Option (AV × Mem)
  | [.agg cs], m =>
    match unPh cs with
    | some x => if x.fit then some (.v (.bool (phMay x)), m) else none
    | none => none
  | _, _ => none
theorem phMayG_at (x : Ph) (m : Mem) (h : x.fit) : phMayG [.agg x.row] m = some (.v (.bool (phMay x)), m) := by
  simp only [phMayG, unPh_row]
  rw [if_pos h]
def kpPhMay : Nat → Option (List Nat) := fun
  | 0 => some [1]
  | 1 => some [1, 24]
  | 2 => some [2]
  | 3 => some [2]
  | _ => none
attribute [go_sem] kpPhMay
def tab_phMay_ok : List (FuncId × (List AV → Mem → Option (AV × Mem))) := [(122, isNameG), (104, lenCheckG), (73, namedG), (112, snAnyG)]
theorem phMay_ok : FunOk Tryz.prog 76 phMayG := by
  have hC := table_ok (P := Tryz.prog) (l := tab_phMay_ok) (table_more is_ok (table_more lenCheck_ok (table_more named_ok (table_more snAny_ok table_nil))))
  have t1 := fun args mm => table_at (l := tab_phMay_ok) (f := 122) (args := args) (m := mm) rfl
  have t2 := fun args mm => table_at (l := tab_phMay_ok) (f := 104) (args := args) (m := mm) rfl
  have t3 := fun args mm => table_at (l := tab_phMay_ok) (f := 73) (args := args) (m := mm) rfl
  have t4 := fun args mm => table_at (l := tab_phMay_ok) (f := 112) (args := args) (m := mm) rfl
  refine fun_ok mixed hC Tryz.func76 rfl kpPhMay false rfl fun args m r h => ?_
  unfold phMayG at h
  split at h
  · rename_i cs
    split at h
    · rename_i x hx
      obtain rfl := unPh_some hx
      split at h
      · rename_i hyp
        simp only [Option.some.injEq] at h
        subst h
        refine ⟨Nat.le_of_ble_eq_true rfl, ?_⟩
        simp only [entry, List.length_cons, List.length_nil, List.range, List.range.loop, List.zip_cons_cons, List.zip_nil_right]
        have f1 := fun mm => isNameG_eq (m := mm) hyp.1
        have f2 : ∀ mm, lenCheckG [.agg [.v (.int .i64 x.lenU), .v (.int .i64 x.lenN)]] mm = some (.v (.int .i64 (if lenMay x.lenU x.lenN then 0 else 1)), mm) := fun _ => rfl
        have f3 := fun mm => namedG_eq (m := mm) (g := .no) (n := 8) ⟨hyp.2.1, hyp.2.2.1⟩
        have f4 := fun mm => snAnyG_eq (m := mm) (g := .no) ⟨hyp.2.2.2.1, hyp.2.2.2.2⟩
        have hv : (m.push x.row).var m.vars.length = some x.row := push_var
        have l1 := lpPhName hv
        have l2 := lpPhLen hv
        have l3 := lpPhFrozen hv
        have l4 := lpPhSets hv
        unfold phMay
        have w1 : (!true) = false := rfl
        have w2 : (!false) = true := rfl
        have w3 : ((0 : Int) != 0) = false := rfl
        have w4 : ((1 : Int) != 0) = true := rfl
        cases h1 : isName x.name with
        | false =>
          rw [h1] at f1
          refine go1 (jn @t1 (jn @f1 (jn @l1 @w2))) ?_
          refine runs_cond rfl (fun hc => ?_) (fun hc => by cases hc)
          refine go0 ?_
          exact leaves_fin rfl rfl fin_push
        | true =>
          rw [h1] at f1
          by_cases h2 : lenMay x.lenU x.lenN
          · rw [decide_eq_true h2]
            rw [if_pos h2] at f2
            cases h3 : namedB x.frozen 8 with
            | false =>
              rw [h3] at f3
              refine go1 (jn @t1 (jn @f1 (jn @l1 (jn @w1 (jn @l2 (jn @t2 (jn @f2 (jn @w3 (jn @l3 (jn @t3 (jn @f3 @w2))))))))))) ?_
              refine runs_cond rfl (fun hc => ?_) (fun hc => by cases hc)
              refine go0 ?_
              exact leaves_fin rfl rfl fin_push
            | true =>
              rw [h3] at f3
              by_cases h4 : (x.sets.length : Int) ≤ 24
              · rw [decide_eq_true h4]
                have b4 : decide ((x.sets.length : Int) > 24) = false := decide_eq_false (by omega)
                refine go1 (jn @t1 (jn @f1 (jn @l1 (jn @w1 (jn @l2 (jn @t2 (jn @f2 (jn @w3 (jn @l3 (jn @t3 (jn @f3 (jn @l4 @b4)))))))))))) ?_
                refine runs_cond rfl (fun hc => by cases hc) (fun hc => ?_)
                refine go1 (jn @l4 (jn @t4 @f4)) ?_
                exact leaves_fin rfl rfl fin_push
              · rw [decide_eq_false h4]
                have b4 : decide ((x.sets.length : Int) > 24) = true := decide_eq_true (by omega)
                refine go1 (jn @t1 (jn @f1 (jn @l1 (jn @w1 (jn @l2 (jn @t2 (jn @f2 (jn @w3 (jn @l3 (jn @t3 (jn @f3 (jn @l4 @b4)))))))))))) ?_
                refine runs_cond rfl (fun hc => ?_) (fun hc => by cases hc)
                refine go0 ?_
                exact leaves_fin rfl rfl fin_push
          · rw [decide_eq_false h2]
            rw [if_neg h2] at f2
            refine go1 (jn @t1 (jn @f1 (jn @l1 (jn @w1 (jn @l2 (jn @t2 (jn @f2 @w4))))))) ?_
            refine runs_cond rfl (fun hc => ?_) (fun hc => by cases hc)
            refine go0 ?_
            exact leaves_fin rfl rfl fin_push
      · cases h
    · cases h
  · cases h
def phNot (x : Ph) : Bool := !phMay x
def phNotG : List AV → Mem → Option (AV × Mem)
  | [.agg cs], m =>
    match unPh cs with
    | some x => if x.fit then some (.v (.bool (phNot x)), m) else none
    | none => none
  | _, _ => none
theorem phNotG_at (x : Ph) (m : Mem) (h : x.fit) : phNotG [.agg x.row] m = some (.v (.bool (phNot x)), m) := by
  simp only [phNotG, unPh_row]
  rw [if_pos h]
def kpPhNot : Nat → Option (List Nat) := fun
  | 0 => some [1]
  | 1 => some [2]
  | _ => none
attribute [go_sem] kpPhNot
def tab_phNot_ok : List (FuncId × (List AV → Mem → Option (AV × Mem))) := [(76, phMayG)]
theorem phNot_ok : FunOk Tryz.prog 75 phNotG := by
  have hC := table_ok (P := Tryz.prog) (l := tab_phNot_ok) (table_more phMay_ok table_nil)
  have t1 := fun args mm => table_at (l := tab_phNot_ok) (f := 76) (args := args) (m := mm) rfl
  refine fun_ok mixed hC Tryz.func75 rfl kpPhNot false rfl fun args m r h => ?_
  unfold phNotG at h
  split at h
  · rename_i cs
    split at h
    · rename_i x hx
      obtain rfl := unPh_some hx
      split at h
      · rename_i hyp
        simp only [Option.some.injEq] at h
        subst h
        refine ⟨Nat.le_of_ble_eq_true rfl, ?_⟩
        simp only [entry, List.length_cons, List.length_nil, List.range, List.range.loop, List.zip_cons_cons, List.zip_nil_right]
        have f1 := fun mm => phMayG_at x mm hyp
        have l1 := vrPh (x := x) (push_var (m := m))
        refine go1 (jn @t1 (jn @f1 @l1)) ?_
        exact leaves_fin rfl rfl fin_push
      · cases h
    · cases h
  · cases h
def pnFindG : List AV → Mem → Option (AV × Mem)
  | [.lst _ 5 rows, .fn (.func 75) [] []], m =>
    match unsPh rows with
    | some l => if l.length ≤ big40 ∧ (∀ x ∈ l, x.fit) then some (.v (.int .i64 (firstBy phNot l 0)), m) else none
    | none => none
  | _, _ => none
theorem pnFindG_eq {m : Mem} {g : Grow} {l : List Ph} (h : l.length ≤ big40 ∧ (∀ x ∈ l, x.fit)) : pnFindG [.lst g 5 (rowsPh l), .fn (.func 75) [] []] m = some (.v (.int .i64 (firstBy phNot l 0)), m) := by
  simp only [pnFindG, unsPh_rowsPh]
  rw [if_pos h]
def kp_pnFind : Nat → Option (List Nat) := fun _ => some [0, 1, 4, 5, 7, 8, 9, 16]
attribute [go_sem] kp_pnFind
def tab_pnFind_ok : List (FuncId × (List AV → Mem → Option (AV × Mem))) := [(75, phNotG)]
theorem pnFind_ok : FunOk Tryz.prog 123 pnFindG := by
  have hC := table_ok (P := Tryz.prog) (l := tab_pnFind_ok) (table_more phNot_ok table_nil)
  have t1 := fun args mm => table_at (l := tab_pnFind_ok) (f := 75) (args := args) (m := mm) rfl
  refine fun_ok mixed hC Tryz.func123 rfl kp_pnFind false rfl fun args m r h => ?_
  unfold pnFindG at h
  split at h
  · rename_i g rows
    split at h
    · rename_i l hl0
      obtain rfl := unsPh_some hl0
      split at h
      · rename_i hyp
        simp only [Option.some.injEq] at h
        subst h
        refine ⟨Nat.le_of_ble_eq_true rfl, ?_⟩
        simp only [entry, List.length_cons, List.length_nil, List.range, List.range.loop, List.zip_cons_cons, List.zip_nil_right]
        obtain ⟨hlen, hb⟩ := hyp
        have hlen' := hlen
        unfold big40 at hlen'
        refine go0 ?_
        refine runs_loop (fun k e m' => ∃ (i : Nat) (x5 x9 x16 : AV), i ≤ l.length ∧ firstBy phNot (l.drop i) i = firstBy phNot l 0 ∧ m = m' ∧ k = l.length - i ∧
          e = [(0, AV.lst g 5 (rowsPh l)), (1, .fn (.func 75) [] []), (4, .v (.int .i64 0)), (5, x5), (7, .v (.int .i64 l.length)), (8, .v (.int .i64 (i : Int))), (9, x9), (16, x16)]) (k := l.length) ⟨0, _, _, _, Nat.zero_le _, rfl, rfl, rfl, rfl⟩ ?_
        rintro k e m' ⟨i, x5, x9, x16, hi, hf, rfl, rfl, rfl⟩
        refine go0 ?_
        refine runs_cond rfl (fun hc => ?_) (fun hc => ?_)
        · have hi1 : i < l.length := by have := of_decide_eq_true hc; omega
          have f1 := atPh (g := g) (kk := .i64) hi1
          have f2 := fun mm => phNotG_at (l.getD i ph0) mm (hb _ (by rw [List.getD, List.getElem?_eq_getElem hi1]; exact List.getElem_mem _))
          refine go1 (jn @f1 (jn @t1 @f2)) ?_
          refine runs_cond rfl (fun hc => ?_) (fun hc => ?_)
          · rw [by_yes hi1 hc hf]
            refine go0 ?_
            exact leaves_v rfl rfl
          · have r6 := next_i64 (i := i) (by omega)
            refine go1 @r6 ?_
            exact ⟨l.length - (i + 1), by omega, i + 1, _, _, _, hi1, by_no hi1 hc hf, rfl, rfl, rfl⟩
        · have hi1 : i = l.length := by have := of_decide_eq_false hc; omega
          subst hi1
          rw [by_end hf]
          refine go0 ?_
          exact leaves_v rfl rfl
      · cases h
    · cases h
  · cases h
def pnAnyG : List AV → Mem → Option (AV × Mem)
  | [.lst _ 5 rows, .fn (.func 75) [] []], m =>
    match unsPh rows with
    | some l => if l.length ≤ big40 ∧ (∀ x ∈ l, x.fit) then some (.v (.bool (l.any phNot)), m) else none
    | none => none
  | _, _ => none
theorem pnAnyG_eq {m : Mem} {g : Grow} {l : List Ph} (h : l.length ≤ big40 ∧ (∀ x ∈ l, x.fit)) : pnAnyG [.lst g 5 (rowsPh l), .fn (.func 75) [] []] m = some (.v (.bool (l.any phNot)), m) := by
  simp only [pnAnyG, unsPh_rowsPh]
  rw [if_pos h]
def kp_pnAny : Nat → Option (List Nat) := fun _ => some [0, 1, 4]
attribute [go_sem] kp_pnAny
def tab_pnAny_ok : List (FuncId × (List AV → Mem → Option (AV × Mem))) := [(123, pnFindG)]
theorem pnAny_ok : FunOk Tryz.prog 74 pnAnyG := by
  have hC := table_ok (P := Tryz.prog) (l := tab_pnAny_ok) (table_more pnFind_ok table_nil)
  have t1 := fun args mm => table_at (l := tab_pnAny_ok) (f := 123) (args := args) (m := mm) rfl
  refine fun_ok mixed hC Tryz.func74 rfl kp_pnAny false rfl fun args m r h => ?_
  unfold pnAnyG at h
  split at h
  · rename_i g rows
    split at h
    · rename_i l hl0
      obtain rfl := unsPh_some hl0
      split at h
      · rename_i hyp
        simp only [Option.some.injEq] at h
        subst h
        refine ⟨Nat.le_of_ble_eq_true rfl, ?_⟩
        simp only [entry, List.length_cons, List.length_nil, List.range, List.range.loop, List.zip_cons_cons, List.zip_nil_right]
        have f1 := fun mm => pnFindG_eq (m := mm) (g := .no) hyp
        have f3 : decide (firstBy phNot l 0 ≥ 0) = l.any phNot := firstBy_any phNot l 0
        refine go1 (jn @t1 (jn @f1 @f3)) ?_
        exact leaves_v rfl rfl
      · cases h
    · cases h
  · cases h
/-! ### recipes -/
def Rc.headBad (R : Rc) : Bool := decide ((R.name.size : Int) > 64) || (!countB R.steps || (!countB R.epoch || (!countB R.weights || !countB R.eval)))
def Rc.listBad (R : Rc) : Bool := !namedB R.metrics 4 || (!namedB R.groups 8 || decide (R.groups.length = 0))
def Rc.phBad (R : Rc) : Bool := decide ((R.phases.length : Int) > 16) || (R.phases.any phNot || !R.endsMay)
def Rc.may (R : Rc) : Bool := !R.headBad && (!R.listBad && !R.phBad)
def mayRG : List AV → Mem → Option (AV × Mem)
  | [.agg cs], m =>
    match unRc cs with
    | some R => if R.fit then some (.v (.int .i64 (if R.may then 0 else 1)), m) else none
    | none => none
  | _, _ => none
theorem mayRG_at (R : Rc) (m : Mem) (h : R.fit) : mayRG [.agg R.row] m = some (.v (.int .i64 (if R.may then 0 else 1)), m) := by
  simp only [mayRG, unRc_row]
  rw [if_pos h]
def countWG : List AV → Mem → Option (AV × Mem) := upTo 1099511627776
theorem countW_ok : FunOk Tryz.prog 72 countWG := pcount_ok
def kpMayR : Nat → Option (List Nat) := fun
  | 0 => some [1]
  | 1 => some [1, 3]
  | 2 => some [1, 3]
  | 3 => some [1, 3]
  | 4 => some [1, 3]
  | 5 => some [1, 3]
  | 6 => some [2]
  | 7 => some [1, 24]
  | 8 => some [1, 24]
  | 9 => some [1, 24]
  | 10 => some [2]
  | 11 => some [1, 37]
  | 12 => some [1, 37]
  | 13 => some [37]
  | 14 => some [2]
  | 15 => some [2]
  | _ => none
attribute [go_sem] kpMayR
def tab_mayR_ok : List (FuncId × (List AV → Mem → Option (AV × Mem))) := [(72, countWG), (73, namedG), (74, pnAnyG), (77, endsRG)]
theorem mayR_ok : FunOk Tryz.prog 37 mayRG := by
  have hC := table_ok (P := Tryz.prog) (l := tab_mayR_ok) (table_more countW_ok (table_more named_ok (table_more pnAny_ok (table_more endsR_ok table_nil))))
  have t1 := fun args mm => table_at (l := tab_mayR_ok) (f := 72) (args := args) (m := mm) rfl
  have t2 := fun args mm => table_at (l := tab_mayR_ok) (f := 73) (args := args) (m := mm) rfl
  have t3 := fun args mm => table_at (l := tab_mayR_ok) (f := 74) (args := args) (m := mm) rfl
  have t4 := fun args mm => table_at (l := tab_mayR_ok) (f := 77) (args := args) (m := mm) rfl
  refine fun_ok mixed hC Tryz.func37 rfl kpMayR false rfl fun args m r h => ?_
  unfold mayRG at h
  split at h
  · rename_i cs
    split at h
    · rename_i R hR
      obtain rfl := unRc_some hR
      split at h
      · rename_i hyp
        simp only [Option.some.injEq] at h
        subst h
        refine ⟨Nat.le_of_ble_eq_true rfl, ?_⟩
        simp only [entry, List.length_cons, List.length_nil, List.range, List.range.loop, List.zip_cons_cons, List.zip_nil_right]
        obtain ⟨y0, ⟨y1, y2⟩, ⟨y3, y4⟩, ⟨y5, y6⟩, y7, y8, y9⟩ := hyp
        have fc : ∀ x mm, countWG [.v (.int .i64 x)] mm = some (.v (.bool (countB x)), mm) := fun _ _ => rfl
        have f1 := fun mm => namedG_eq (m := mm) (g := .no) (n := 4) ⟨y1, y2⟩
        have f2 := fun mm => namedG_eq (m := mm) (g := .no) (n := 8) ⟨y3, y4⟩
        have f3 := fun mm => pnAnyG_eq (m := mm) (g := .no) ⟨y5, y6⟩
        have f4 : ∀ mm, endsRG [.agg R.row] mm = some (.v (.bool R.endsMay), mm) := fun mm => by
          simp only [endsRG, unRc_row]
          rw [if_pos ⟨y7, y8, y9⟩]
        have hv : (m.push R.row).var m.vars.length = some R.row := push_var
        have l1 := lpRcName hv
        have l2 := lpRcSteps hv
        have l3 := lpRcEpoch hv
        have l4 := lpRcWeights hv
        have l5 := lpRcEval hv
        have l6 := lpRcMetrics hv
        have l7 := lpRcGroups hv
        have l8 := lpRcPhases hv
        have l9 := vrRc hv
        have e8 : ((R.groups.length : Int) == 0) = decide (R.groups.length = 0) := by
          rw [Bool.eq_iff_iff]
          simp
        have w1 : (!true) = false := rfl
        have w2 : (!false) = true := rfl
        cases q0 : decide ((R.name.size : Int) > 64) with
        | true =>
          have hm : R.may = false := by simp only [Rc.may, Rc.headBad, Rc.listBad, Rc.phBad, q0]; rfl
          rw [hm]
          repeat' (first | refine gos1 (jn @t1 (jn @fc (jn @t2 (jn @f1 (jn @f2 (jn @t3 (jn @f3 (jn @t4 (jn @f4 (jn @l1 (jn @l2 (jn @l3 (jn @l4 (jn @l5 (jn @l6 (jn @l7 (jn @l8 (jn @l9 (jn @e8 (jn @w1 (jn @w2 @q0))))))))))))))))))))) ?_ | (refine ops_here ?_; (fail_if_success (refine ops_case (B := true) rfl rfl rfl ?_ ?_)); (fail_if_success (refine ops_case (B := false) rfl rfl rfl ?_ ?_)); refine ops_case rfl rfl rfl (fun hB => ?_) (fun hB => ?_) <;> rw [hB]) | (refine runs_here ?_; refine runs_cond rfl (fun hc => ?_) (fun hc => ?_) <;> first | (cases hc; done) | skip))
          exact leaves_fin rfl rfl fin_push
        | false =>
          cases q1 : countB R.steps with
          | false =>
            have hm : R.may = false := by simp only [Rc.may, Rc.headBad, Rc.listBad, Rc.phBad, q0, q1]; rfl
            rw [hm]
            repeat' (first | refine gos1 (jn @t1 (jn @fc (jn @t2 (jn @f1 (jn @f2 (jn @t3 (jn @f3 (jn @t4 (jn @f4 (jn @l1 (jn @l2 (jn @l3 (jn @l4 (jn @l5 (jn @l6 (jn @l7 (jn @l8 (jn @l9 (jn @e8 (jn @w1 (jn @w2 (jn @q0 @q1)))))))))))))))))))))) ?_ | (refine ops_here ?_; (fail_if_success (refine ops_case (B := true) rfl rfl rfl ?_ ?_)); (fail_if_success (refine ops_case (B := false) rfl rfl rfl ?_ ?_)); refine ops_case rfl rfl rfl (fun hB => ?_) (fun hB => ?_) <;> rw [hB]) | (refine runs_here ?_; refine runs_cond rfl (fun hc => ?_) (fun hc => ?_) <;> first | (cases hc; done) | skip))
            exact leaves_fin rfl rfl fin_push
          | true =>
            cases q2 : countB R.epoch with
            | false =>
              have hm : R.may = false := by simp only [Rc.may, Rc.headBad, Rc.listBad, Rc.phBad, q0, q1, q2]; rfl
              rw [hm]
              repeat' (first | refine gos1 (jn @t1 (jn @fc (jn @t2 (jn @f1 (jn @f2 (jn @t3 (jn @f3 (jn @t4 (jn @f4 (jn @l1 (jn @l2 (jn @l3 (jn @l4 (jn @l5 (jn @l6 (jn @l7 (jn @l8 (jn @l9 (jn @e8 (jn @w1 (jn @w2 (jn @q0 (jn @q1 @q2))))))))))))))))))))))) ?_ | (refine ops_here ?_; (fail_if_success (refine ops_case (B := true) rfl rfl rfl ?_ ?_)); (fail_if_success (refine ops_case (B := false) rfl rfl rfl ?_ ?_)); refine ops_case rfl rfl rfl (fun hB => ?_) (fun hB => ?_) <;> rw [hB]) | (refine runs_here ?_; refine runs_cond rfl (fun hc => ?_) (fun hc => ?_) <;> first | (cases hc; done) | skip))
              exact leaves_fin rfl rfl fin_push
            | true =>
              cases q3 : countB R.weights with
              | false =>
                have hm : R.may = false := by simp only [Rc.may, Rc.headBad, Rc.listBad, Rc.phBad, q0, q1, q2, q3]; rfl
                rw [hm]
                repeat' (first | refine gos1 (jn @t1 (jn @fc (jn @t2 (jn @f1 (jn @f2 (jn @t3 (jn @f3 (jn @t4 (jn @f4 (jn @l1 (jn @l2 (jn @l3 (jn @l4 (jn @l5 (jn @l6 (jn @l7 (jn @l8 (jn @l9 (jn @e8 (jn @w1 (jn @w2 (jn @q0 (jn @q1 (jn @q2 @q3)))))))))))))))))))))))) ?_ | (refine ops_here ?_; (fail_if_success (refine ops_case (B := true) rfl rfl rfl ?_ ?_)); (fail_if_success (refine ops_case (B := false) rfl rfl rfl ?_ ?_)); refine ops_case rfl rfl rfl (fun hB => ?_) (fun hB => ?_) <;> rw [hB]) | (refine runs_here ?_; refine runs_cond rfl (fun hc => ?_) (fun hc => ?_) <;> first | (cases hc; done) | skip))
                exact leaves_fin rfl rfl fin_push
              | true =>
                cases q4 : countB R.eval with
                | false =>
                  have hm : R.may = false := by simp only [Rc.may, Rc.headBad, Rc.listBad, Rc.phBad, q0, q1, q2, q3, q4]; rfl
                  rw [hm]
                  repeat' (first | refine gos1 (jn @t1 (jn @fc (jn @t2 (jn @f1 (jn @f2 (jn @t3 (jn @f3 (jn @t4 (jn @f4 (jn @l1 (jn @l2 (jn @l3 (jn @l4 (jn @l5 (jn @l6 (jn @l7 (jn @l8 (jn @l9 (jn @e8 (jn @w1 (jn @w2 (jn @q0 (jn @q1 (jn @q2 (jn @q3 @q4))))))))))))))))))))))))) ?_ | (refine ops_here ?_; (fail_if_success (refine ops_case (B := true) rfl rfl rfl ?_ ?_)); (fail_if_success (refine ops_case (B := false) rfl rfl rfl ?_ ?_)); refine ops_case rfl rfl rfl (fun hB => ?_) (fun hB => ?_) <;> rw [hB]) | (refine runs_here ?_; refine runs_cond rfl (fun hc => ?_) (fun hc => ?_) <;> first | (cases hc; done) | skip))
                  exact leaves_fin rfl rfl fin_push
                | true =>
                  cases q5 : namedB R.metrics 4 with
                  | false =>
                    have hm : R.may = false := by simp only [Rc.may, Rc.headBad, Rc.listBad, Rc.phBad, q0, q1, q2, q3, q4, q5]; rfl
                    rw [hm]
                    repeat' (first | refine gos1 (jn @t1 (jn @fc (jn @t2 (jn @f1 (jn @f2 (jn @t3 (jn @f3 (jn @t4 (jn @f4 (jn @l1 (jn @l2 (jn @l3 (jn @l4 (jn @l5 (jn @l6 (jn @l7 (jn @l8 (jn @l9 (jn @e8 (jn @w1 (jn @w2 (jn @q0 (jn @q1 (jn @q2 (jn @q3 (jn @q4 @q5)))))))))))))))))))))))))) ?_ | (refine ops_here ?_; (fail_if_success (refine ops_case (B := true) rfl rfl rfl ?_ ?_)); (fail_if_success (refine ops_case (B := false) rfl rfl rfl ?_ ?_)); refine ops_case rfl rfl rfl (fun hB => ?_) (fun hB => ?_) <;> rw [hB]) | (refine runs_here ?_; refine runs_cond rfl (fun hc => ?_) (fun hc => ?_) <;> first | (cases hc; done) | skip))
                    exact leaves_fin rfl rfl fin_push
                  | true =>
                    cases q6 : namedB R.groups 8 with
                    | false =>
                      have hm : R.may = false := by simp only [Rc.may, Rc.headBad, Rc.listBad, Rc.phBad, q0, q1, q2, q3, q4, q5, q6]; rfl
                      rw [hm]
                      repeat' (first | refine gos1 (jn @t1 (jn @fc (jn @t2 (jn @f1 (jn @f2 (jn @t3 (jn @f3 (jn @t4 (jn @f4 (jn @l1 (jn @l2 (jn @l3 (jn @l4 (jn @l5 (jn @l6 (jn @l7 (jn @l8 (jn @l9 (jn @e8 (jn @w1 (jn @w2 (jn @q0 (jn @q1 (jn @q2 (jn @q3 (jn @q4 (jn @q5 @q6))))))))))))))))))))))))))) ?_ | (refine ops_here ?_; (fail_if_success (refine ops_case (B := true) rfl rfl rfl ?_ ?_)); (fail_if_success (refine ops_case (B := false) rfl rfl rfl ?_ ?_)); refine ops_case rfl rfl rfl (fun hB => ?_) (fun hB => ?_) <;> rw [hB]) | (refine runs_here ?_; refine runs_cond rfl (fun hc => ?_) (fun hc => ?_) <;> first | (cases hc; done) | skip))
                      exact leaves_fin rfl rfl fin_push
                    | true =>
                      cases q7 : decide (R.groups.length = 0) with
                      | true =>
                        have hm : R.may = false := by simp only [Rc.may, Rc.headBad, Rc.listBad, Rc.phBad, q0, q1, q2, q3, q4, q5, q6, q7]; rfl
                        rw [hm]
                        repeat' (first | refine gos1 (jn @t1 (jn @fc (jn @t2 (jn @f1 (jn @f2 (jn @t3 (jn @f3 (jn @t4 (jn @f4 (jn @l1 (jn @l2 (jn @l3 (jn @l4 (jn @l5 (jn @l6 (jn @l7 (jn @l8 (jn @l9 (jn @e8 (jn @w1 (jn @w2 (jn @q0 (jn @q1 (jn @q2 (jn @q3 (jn @q4 (jn @q5 (jn @q6 @q7)))))))))))))))))))))))))))) ?_ | (refine ops_here ?_; (fail_if_success (refine ops_case (B := true) rfl rfl rfl ?_ ?_)); (fail_if_success (refine ops_case (B := false) rfl rfl rfl ?_ ?_)); refine ops_case rfl rfl rfl (fun hB => ?_) (fun hB => ?_) <;> rw [hB]) | (refine runs_here ?_; refine runs_cond rfl (fun hc => ?_) (fun hc => ?_) <;> first | (cases hc; done) | skip))
                        exact leaves_fin rfl rfl fin_push
                      | false =>
                        cases q8 : decide ((R.phases.length : Int) > 16) with
                        | true =>
                          have hm : R.may = false := by simp only [Rc.may, Rc.headBad, Rc.listBad, Rc.phBad, q0, q1, q2, q3, q4, q5, q6, q7, q8]; rfl
                          rw [hm]
                          repeat' (first | refine gos1 (jn @t1 (jn @fc (jn @t2 (jn @f1 (jn @f2 (jn @t3 (jn @f3 (jn @t4 (jn @f4 (jn @l1 (jn @l2 (jn @l3 (jn @l4 (jn @l5 (jn @l6 (jn @l7 (jn @l8 (jn @l9 (jn @e8 (jn @w1 (jn @w2 (jn @q0 (jn @q1 (jn @q2 (jn @q3 (jn @q4 (jn @q5 (jn @q6 (jn @q7 @q8))))))))))))))))))))))))))))) ?_ | (refine ops_here ?_; (fail_if_success (refine ops_case (B := true) rfl rfl rfl ?_ ?_)); (fail_if_success (refine ops_case (B := false) rfl rfl rfl ?_ ?_)); refine ops_case rfl rfl rfl (fun hB => ?_) (fun hB => ?_) <;> rw [hB]) | (refine runs_here ?_; refine runs_cond rfl (fun hc => ?_) (fun hc => ?_) <;> first | (cases hc; done) | skip))
                          exact leaves_fin rfl rfl fin_push
                        | false =>
                          cases q9 : R.phases.any phNot with
                          | true =>
                            have hm : R.may = false := by simp only [Rc.may, Rc.headBad, Rc.listBad, Rc.phBad, q0, q1, q2, q3, q4, q5, q6, q7, q8, q9]; rfl
                            rw [hm]
                            repeat' (first | refine gos1 (jn @t1 (jn @fc (jn @t2 (jn @f1 (jn @f2 (jn @t3 (jn @f3 (jn @t4 (jn @f4 (jn @l1 (jn @l2 (jn @l3 (jn @l4 (jn @l5 (jn @l6 (jn @l7 (jn @l8 (jn @l9 (jn @e8 (jn @w1 (jn @w2 (jn @q0 (jn @q1 (jn @q2 (jn @q3 (jn @q4 (jn @q5 (jn @q6 (jn @q7 (jn @q8 @q9)))))))))))))))))))))))))))))) ?_ | (refine ops_here ?_; (fail_if_success (refine ops_case (B := true) rfl rfl rfl ?_ ?_)); (fail_if_success (refine ops_case (B := false) rfl rfl rfl ?_ ?_)); refine ops_case rfl rfl rfl (fun hB => ?_) (fun hB => ?_) <;> rw [hB]) | (refine runs_here ?_; refine runs_cond rfl (fun hc => ?_) (fun hc => ?_) <;> first | (cases hc; done) | skip))
                            exact leaves_fin rfl rfl fin_push
                          | false =>
                            cases q10 : R.endsMay with
                            | false =>
                              have hm : R.may = false := by simp only [Rc.may, Rc.headBad, Rc.listBad, Rc.phBad, q0, q1, q2, q3, q4, q5, q6, q7, q8, q9, q10]; rfl
                              rw [hm]
                              repeat' (first | refine gos1 (jn @t1 (jn @fc (jn @t2 (jn @f1 (jn @f2 (jn @t3 (jn @f3 (jn @t4 (jn @f4 (jn @l1 (jn @l2 (jn @l3 (jn @l4 (jn @l5 (jn @l6 (jn @l7 (jn @l8 (jn @l9 (jn @e8 (jn @w1 (jn @w2 (jn @q0 (jn @q1 (jn @q2 (jn @q3 (jn @q4 (jn @q5 (jn @q6 (jn @q7 (jn @q8 (jn @q9 @q10))))))))))))))))))))))))))))))) ?_ | (refine ops_here ?_; (fail_if_success (refine ops_case (B := true) rfl rfl rfl ?_ ?_)); (fail_if_success (refine ops_case (B := false) rfl rfl rfl ?_ ?_)); refine ops_case rfl rfl rfl (fun hB => ?_) (fun hB => ?_) <;> rw [hB]) | (refine runs_here ?_; refine runs_cond rfl (fun hc => ?_) (fun hc => ?_) <;> first | (cases hc; done) | skip))
                              exact leaves_fin rfl rfl fin_push
                            | true =>
                              have hm : R.may = true := by simp only [Rc.may, Rc.headBad, Rc.listBad, Rc.phBad, q0, q1, q2, q3, q4, q5, q6, q7, q8, q9, q10]; rfl
                              rw [hm]
                              repeat' (first | refine gos1 (jn @t1 (jn @fc (jn @t2 (jn @f1 (jn @f2 (jn @t3 (jn @f3 (jn @t4 (jn @f4 (jn @l1 (jn @l2 (jn @l3 (jn @l4 (jn @l5 (jn @l6 (jn @l7 (jn @l8 (jn @l9 (jn @e8 (jn @w1 (jn @w2 (jn @q0 (jn @q1 (jn @q2 (jn @q3 (jn @q4 (jn @q5 (jn @q6 (jn @q7 (jn @q8 (jn @q9 @q10))))))))))))))))))))))))))))))) ?_ | (refine ops_here ?_; (fail_if_success (refine ops_case (B := true) rfl rfl rfl ?_ ?_)); (fail_if_success (refine ops_case (B := false) rfl rfl rfl ?_ ?_)); refine ops_case rfl rfl rfl (fun hB => ?_) (fun hB => ?_) <;> rw [hB]) | (refine runs_here ?_; refine runs_cond rfl (fun hc => ?_) (fun hc => ?_) <;> first | (cases hc; done) | skip))
                              exact leaves_fin rfl rfl fin_push
      · cases h
    · cases h
  · cases h
end Go.Proofs.YtojaokhkbmiidaaGreat.Ev

namespace Go.Proofs.YtojaokhkbmiidaaGreat.Ev
open Go Go.Proofs
set_option maxRecDepth 10000
set_option maxHeartbeats 8000000
set_option linter.unusedVariables false
set_option linter.unusedSimpArgs false
attribute [local irreducible] Next Inside Runs Ops table
/-! ### one list that grows, and variables beside it -/
def GrowsA (m : Mem) (g : Grow) (m' : Mem) : Prop := ∃ m1, Grows m g m1 ∧ Above m1 m'
theorem growsA_full {m : Mem} : GrowsA m .full m := ⟨m, grows_full, above_self m⟩
theorem growsA_push {m m' : Mem} {g : Grow} {cs : List AV} (h : GrowsA m g m') : GrowsA m g (m'.push cs) :=
  let ⟨m1, h1, h2⟩ := h; ⟨m1, h1, above_push h2⟩
theorem growsA_fin {m m' : Mem} {g : Grow} (h : GrowsA m g m') : finMem m m' = m := by
  obtain ⟨m1, h1, L, rfl⟩ := h
  rcases h1 with ⟨_, rfl⟩ | ⟨v, _, rfl⟩
  · exact above_fin ⟨L, rfl⟩
  · unfold finMem Mem.tk
    rw [if_pos (by simp)]
    simp
theorem app_growsA {P : Program} {m : Mem} {t t2 : TypeId} {k : Nat} (ha : appB P t t2 k = true) {g : Grow} {m' : Mem} (hG : GrowsA m g m') {y : AV} {g2 : Grow} {xs ys : List (List AV)} (hy : asList k y = some (g2, ys)) (hl : xs.length + ys.length ≤ lim) :
    ∃ g' m'', evAppend P t t2 m' (.lst g k xs) y = some (.lst g' k (xs ++ ys), m'') ∧ GrowsA m g' m'' := by
  obtain ⟨m1, h1, L, rfl⟩ := hG
  rcases h1 with ⟨rfl, rfl⟩ | ⟨v, rfl, rfl⟩
  · refine ⟨_, _, app_of ha asList_lst hy hl, m1.tk [0], grows_tok, L, rfl⟩
  · refine ⟨_, { vars := m.vars ++ L, toks := m.toks ++ [v + 1] }, ?_, m.tk [v + 1], grows_tok, L, rfl⟩
    rw [app_of ha asList_lst hy hl]
    have h : ({ vars := (m.tk [v]).vars ++ L, toks := (m.tk [v]).toks } : Mem).toks[m.toks.length]? = some v := by simp [Mem.tk]
    simp only [h, if_true]
    simp [Mem.tk, List.set_append]
theorem app_strA {P : Program} {m : Mem} {t t2 : TypeId} (ha : appB P t t2 1 = true) {g g2 : Grow} {m' : Mem} (hG : GrowsA m g m') (xs : List ByteArray) (y : ByteArray) (hl : xs.length + 1 ≤ lim) :
    ∃ g' m'', evAppend P t t2 m' (.lst g 1 (rowsS xs)) (.lst g2 1 [[.v (.string y)]]) = some (.lst g' 1 (rowsS (xs ++ [y])), m'') ∧ GrowsA m g' m'' := by
  rw [← rowsS_app]
  exact app_growsA ha hG asList_lst (by rw [rowsS_len]; exact hl)
end Go.Proofs.YtojaokhkbmiidaaGreat.Ev

namespace Go.Proofs.YtojaokhkbmiidaaGreat.Ev
open Go Go.Proofs
set_option maxRecDepth 10000
set_option maxHeartbeats 8000000
set_option linter.unusedVariables false
set_option linter.unusedSimpArgs false
attribute [local irreducible] Next Inside Runs Ops table
attribute [local go_sem] szStr szInt Option.getD_some isNil evStr len0 len1 loadOne loadLen cellsLen newLen Nat.zero_add List.drop_zero List.drop_succ_cons List.head?_cons evMinMax evFoldI
def lenV (u n of ep : Int) : Int := if u = 0 then n else if u = 1 then n * ep else if u = 2 then (of * n).tdiv 100 else of
def inS (x : Int) : Prop := 0 ≤ x ∧ x ≤ 1048576
instance (x : Int) : Decidable (inS x) := by unfold inS; exact inferInstance
theorem mul_in {a b A B : Int} (h0 : 0 ≤ a) (h1 : a ≤ A) (h2 : 0 ≤ b) (h3 : b ≤ B) : 0 ≤ a * b ∧ a * b ≤ A * B :=
  ⟨Int.mul_nonneg h0 h2, Int.mul_le_mul h1 h3 h2 (by omega)⟩
theorem tdiv_in {a : Int} (h0 : 0 ≤ a) : a.tdiv 100 = a / 100 := Int.tdiv_eq_ediv_of_nonneg h0
theorem lenV_in {u n of ep : Int} (h : lenMay u n) (h1 : inS of) (h2 : inS ep) : 0 ≤ lenV u n of ep ∧ lenV u n of ep ≤ 1152921504606846976 := by
  unfold lenMay at h
  unfold inS at h1 h2
  unfold lenV
  split
  · omega
  · split
    · exact (mul_in (B := 1048576) h.1 h.2.1 h2.1 h2.2)
    · split
      · rename_i h3
        have := mul_in (B := 100) h1.1 h1.2 h.1 (h.2.2.2.2.1 h3)
        rw [tdiv_in this.1]
        omega
      · omega
def stepsLG : List AV → Mem → Option (AV × Mem)
  | [.agg [.v (.int .i64 u), .v (.int .i64 n)], .v (.int .i64 of), .v (.int .i64 ep)], m =>
    some (if lenMay u n ∧ inS of ∧ inS ep then (if lenV u n of ep > 1099511627776 then .tup [.v (.int .i64 0), .v (.int .i64 4)] else .tup [.v (.int .i64 (lenV u n of ep)), .v (.int .i64 0)]) else .tup [.v (.int .i64 0), .v (.int .i64 1)], m)
  | _, _ => none
def kpStepsL : Nat → Option (List Nat) := fun
  | 0 => some [1, 2, 3]
  | 1 => some [1, 2, 3, 21]
  | 2 => some [6, 7]
  | 3 => some [1, 2, 3, 8]
  | 4 => some [1, 2, 3, 8, 24]
  | 5 => some [1, 2, 3, 8, 24, 25]
  | 6 => some [8]
  | 7 => some [1, 2, 3, 8, 24, 29]
  | 8 => some [8]
  | 9 => some [1, 3, 8, 35]
  | 10 => some [8]
  | 11 => some [8, 43]
  | 12 => some [6, 7]
  | 13 => some [6, 7]
  | _ => none
attribute [go_sem] kpStepsL
def tab_stepsL_ok : List (FuncId × (List AV → Mem → Option (AV × Mem))) := [(104, lenCheckG), (105, withinG)]
theorem stepsL_ok : FunOk Tryz.prog 48 stepsLG := by
  have hC := table_ok (P := Tryz.prog) (l := tab_stepsL_ok) (table_more lenCheck_ok (table_more lenWithin_ok table_nil))
  have t1 := fun args mm => table_at (l := tab_stepsL_ok) (f := 104) (args := args) (m := mm) rfl
  have t2 := fun args mm => table_at (l := tab_stepsL_ok) (f := 105) (args := args) (m := mm) rfl
  refine fun_ok mixed hC Tryz.func48 rfl kpStepsL false rfl fun args m r h => ?_
  unfold stepsLG at h
  split at h
  · rename_i u n of ep
    simp only [Option.some.injEq] at h
    subst h
    refine ⟨Nat.le_of_ble_eq_true rfl, ?_⟩
    simp only [entry, List.length_cons, List.length_nil, List.range, List.range.loop, List.zip_cons_cons, List.zip_nil_right]
    have fw : ∀ x lo hi mm, withinG [.v (.int .i64 x), .v (.int .i64 lo), .v (.int .i64 hi)] mm = some (.v (.bool (decide (lo ≤ x ∧ x ≤ hi))), mm) := fun _ _ _ _ => rfl
    by_cases hl : lenMay u n
    · have f1 : ∀ mm, lenCheckG [.agg [.v (.int .i64 u), .v (.int .i64 n)]] mm = some (.v (.int .i64 0), mm) := fun mm => by simp only [lenCheckG]; rw [if_pos hl]
      have b1 : ((0 : Int) != 0) = false := rfl
      by_cases h1 : inS of
      · have b2 : (!decide ((0 : Int) ≤ of ∧ of ≤ 1048576)) = false := by rw [decide_eq_true (show 0 ≤ of ∧ of ≤ 1048576 from h1)]; rfl
        by_cases h2 : inS ep
        · have b3 : (!decide ((0 : Int) ≤ ep ∧ ep ≤ 1048576)) = false := by rw [decide_eq_true (show 0 ≤ ep ∧ ep ≤ 1048576 from h2)]; rfl
          have hV := lenV_in hl h1 h2
          rw [if_pos ⟨hl, h1, h2⟩]
          have fin : ∀ (e : Env) (v : Int), v = lenV u n of ep → Ev.get e 6 = .v (.int .i64 0) → Ev.get e 7 = .v (.int .i64 4) → v > 1099511627776 → Leaves Tryz.prog false Tryz.f48 m ((if lenV u n of ep > 1099511627776 then .tup [.v (.int .i64 0), .v (.int .i64 4)] else .tup [.v (.int .i64 (lenV u n of ep)), .v (.int .i64 0)]), m) .ret e (m.push [.v (.int .i64 u), .v (.int .i64 n)]) := fun e v hv g1 g2 hgt => by
            rw [if_pos (by omega)]
            exact leaves_two rfl (by rw [g1]; rfl) (by rw [g2]; rfl) fin_push
          have fin2 : ∀ (e : Env) (v : Int), v = lenV u n of ep → Ev.get e 6 = .v (.int .i64 v) → Ev.get e 7 = .v (.int .i64 0) → ¬ v > 1099511627776 → Leaves Tryz.prog false Tryz.f48 m ((if lenV u n of ep > 1099511627776 then .tup [.v (.int .i64 0), .v (.int .i64 4)] else .tup [.v (.int .i64 (lenV u n of ep)), .v (.int .i64 0)]), m) .ret e (m.push [.v (.int .i64 u), .v (.int .i64 n)]) := fun e v hv g1 g2 hgt => by
            rw [if_neg (by omega), ← hv]
            exact leaves_two rfl (by rw [g1]; rfl) (by rw [g2]; rfl) fin_push
          have hl' := hl
          unfold lenMay at hl'
          have hu : u = 0 ∨ u = 1 ∨ u = 2 ∨ u = 3 := by omega
          unfold inS at h1 h2
          have w1 : IntKind.i64.wrap (n * ep) = n * ep := by have := mul_in (A := 1099511627776) (B := 1048576) hl'.1 hl'.2.1 h2.1 h2.2; exact i64_wrap (by omega) (by omega)
          rcases hu with rfl | rfl | rfl | rfl
          · have e1 : lenV 0 n of ep = n := rfl
            repeat' (first | refine gos1 (jn @t1 (jn @f1 (jn @b1 (jn @t2 (jn @fw (jn @b2 @b3)))))) ?_ | (refine ops_here ?_; (fail_if_success (refine ops_case (B := true) rfl rfl rfl ?_ ?_)); (fail_if_success (refine ops_case (B := false) rfl rfl rfl ?_ ?_)); refine ops_case rfl rfl rfl (fun hB => ?_) (fun hB => ?_) <;> rw [hB]) | (refine runs_here ?_; refine runs_cond rfl (fun hc => ?_) (fun hc => ?_) <;> first | (cases hc; done) | skip))
            all_goals first | exact fin _ n e1.symm rfl rfl (of_decide_eq_true (by assumption)) | exact fin2 _ n e1.symm rfl rfl (of_decide_eq_false (by assumption))
          · have e1 : lenV 1 n of ep = n * ep := rfl
            repeat' (first | refine gos1 (jn @t1 (jn @f1 (jn @b1 (jn @t2 (jn @fw (jn @b2 (jn @b3 @w1))))))) ?_ | (refine ops_here ?_; (fail_if_success (refine ops_case (B := true) rfl rfl rfl ?_ ?_)); (fail_if_success (refine ops_case (B := false) rfl rfl rfl ?_ ?_)); refine ops_case rfl rfl rfl (fun hB => ?_) (fun hB => ?_) <;> rw [hB]) | (refine runs_here ?_; refine runs_cond rfl (fun hc => ?_) (fun hc => ?_) <;> first | (cases hc; done) | skip))
            all_goals first | exact fin _ _ e1.symm rfl rfl (of_decide_eq_true (by assumption)) | exact fin2 _ _ e1.symm rfl rfl (of_decide_eq_false (by assumption))
          · have e1 : lenV 2 n of ep = (of * n).tdiv 100 := rfl
            have h100 := hl'.2.2.2.2.1 rfl
            have hm := mul_in (A := 1048576) (B := 100) h1.1 h1.2 hl'.1 h100
            have hd := tdiv_in hm.1
            have w2 : IntKind.i64.wrap (of * n) = of * n := i64_wrap (by omega) (by omega)
            have w3 : IntKind.i64.wrap ((of * n).tdiv 100) = (of * n).tdiv 100 := i64_wrap (by omega) (by omega)
            have n100 : (100 : Int) ≠ 0 := by decide
            repeat' (first | refine gos1 (jn @t1 (jn @f1 (jn @b1 (jn @t2 (jn @fw (jn @b2 (jn @b3 (jn @w2 (jn @w3 @n100))))))))) ?_ | (refine ops_here ?_; (fail_if_success (refine ops_case (B := true) rfl rfl rfl ?_ ?_)); (fail_if_success (refine ops_case (B := false) rfl rfl rfl ?_ ?_)); refine ops_case rfl rfl rfl (fun hB => ?_) (fun hB => ?_) <;> rw [hB]) | (refine runs_here ?_; refine runs_cond rfl (fun hc => ?_) (fun hc => ?_) <;> first | (cases hc; done) | skip))
            all_goals first | exact fin _ _ e1.symm rfl rfl (of_decide_eq_true (by assumption)) | exact fin2 _ _ e1.symm rfl rfl (of_decide_eq_false (by assumption))
          · have e1 : lenV 3 n of ep = of := rfl
            repeat' (first | refine gos1 (jn @t1 (jn @f1 (jn @b1 (jn @t2 (jn @fw (jn @b2 @b3)))))) ?_ | (refine ops_here ?_; (fail_if_success (refine ops_case (B := true) rfl rfl rfl ?_ ?_)); (fail_if_success (refine ops_case (B := false) rfl rfl rfl ?_ ?_)); refine ops_case rfl rfl rfl (fun hB => ?_) (fun hB => ?_) <;> rw [hB]) | (refine runs_here ?_; refine runs_cond rfl (fun hc => ?_) (fun hc => ?_) <;> first | (cases hc; done) | skip))
            all_goals first | exact fin _ _ e1.symm rfl rfl (of_decide_eq_true (by assumption)) | exact fin2 _ _ e1.symm rfl rfl (of_decide_eq_false (by assumption))
        · have b3 : (!decide ((0 : Int) ≤ ep ∧ ep ≤ 1048576)) = true := by rw [decide_eq_false (show ¬ (0 ≤ ep ∧ ep ≤ 1048576) from h2)]; rfl
          rw [if_neg (fun h => h2 h.2.2)]
          refine go1 (jn @t1 (jn @f1 (jn @b1 (jn @t2 (jn @fw (jn @b2 @b3)))))) ?_
          refine runs_cond rfl (fun hc => ?_) (fun hc => by cases hc)
          refine go0 ?_
          exact leaves_two rfl rfl rfl fin_push
      · have b2 : (!decide ((0 : Int) ≤ of ∧ of ≤ 1048576)) = true := by rw [decide_eq_false (show ¬ (0 ≤ of ∧ of ≤ 1048576) from h1)]; rfl
        rw [if_neg (fun h => h1 h.2.1)]
        refine go1 (jn @t1 (jn @f1 (jn @b1 (jn @t2 (jn @fw @b2))))) ?_
        refine runs_cond rfl (fun hc => ?_) (fun hc => by cases hc)
        refine go0 ?_
        exact leaves_two rfl rfl rfl fin_push
    · have f1 : ∀ mm, lenCheckG [.agg [.v (.int .i64 u), .v (.int .i64 n)]] mm = some (.v (.int .i64 1), mm) := fun mm => by simp only [lenCheckG]; rw [if_neg hl]
      have b1 : ((1 : Int) != 0) = true := rfl
      rw [if_neg (fun h => hl h.1)]
      refine go1 (jn @t1 (jn @f1 (jn @b1 (jn @t2 @fw)))) ?_
      refine runs_cond rfl (fun hc => ?_) (fun hc => by cases hc)
      refine go0 ?_
      exact leaves_two rfl rfl rfl fin_push
  · cases h
/-! ### the document's -/
def stepsRG : List AV → Mem → Option (AV × Mem)
  | [.agg [.v (.int .i64 u), .v (.int .i64 n)], .v (.int .i64 of), .v (.int .i64 ep)], m =>
    if lenMay u n ∧ inS of ∧ inS ep then some (if lenV u n of ep > 1099511627776 then .tup [.v (.int .i64 0), .v (.int .i64 4)] else .tup [.v (.int .i64 (lenV u n of ep)), .v (.int .i64 0)], m) else none
  | _, _ => none
def kpStepsR : Nat → Option (List Nat) := fun
  | 0 => some [1, 2, 3]
  | 1 => some [1, 2, 3, 8]
  | 2 => some [1, 2, 3, 8, 12]
  | 3 => some [1, 2, 3, 8]
  | 4 => some [1, 2, 3, 8, 17]
  | 5 => some [1, 2, 3, 26]
  | 6 => some [6, 7]
  | 7 => some [1, 3, 8]
  | 8 => some [1, 3, 8, 33]
  | 9 => some [8]
  | 10 => some [6, 7]
  | _ => none
attribute [go_sem] kpStepsR
theorem stepsR_ok : FunOk Tryz.prog 106 stepsRG := by
  have hC := table_ok (P := Tryz.prog) (l := []) table_nil
  refine fun_ok mixed hC Tryz.func106 rfl kpStepsR false rfl fun args m r h => ?_
  unfold stepsRG at h
  split at h
  · rename_i u n of ep
    split at h
    · rename_i hb
      obtain ⟨hl, h1, h2⟩ := hb
      simp only [Option.some.injEq] at h
      subst h
      refine ⟨Nat.le_of_ble_eq_true rfl, ?_⟩
      simp only [entry, List.length_cons, List.length_nil, List.range, List.range.loop, List.zip_cons_cons, List.zip_nil_right]
      have fin : ∀ (e : Env), lenV u n of ep > 1099511627776 → Ev.get e 6 = .v (.int .i64 0) → Ev.get e 7 = .v (.int .i64 4) → Leaves Tryz.prog false Tryz.f106 m ((if lenV u n of ep > 1099511627776 then .tup [.v (.int .i64 0), .v (.int .i64 4)] else .tup [.v (.int .i64 (lenV u n of ep)), .v (.int .i64 0)]), m) .ret e (m.push [.v (.int .i64 u), .v (.int .i64 n)]) := fun e hgt g1 g2 => by
        rw [if_pos hgt]
        exact leaves_two rfl (by rw [g1]; rfl) (by rw [g2]; rfl) fin_push
      have fin2 : ∀ (e : Env) (v : Int), v = lenV u n of ep → Ev.get e 6 = .v (.int .i64 v) → Ev.get e 7 = .v (.int .i64 0) → ¬ v > 1099511627776 → Leaves Tryz.prog false Tryz.f106 m ((if lenV u n of ep > 1099511627776 then .tup [.v (.int .i64 0), .v (.int .i64 4)] else .tup [.v (.int .i64 (lenV u n of ep)), .v (.int .i64 0)]), m) .ret e (m.push [.v (.int .i64 u), .v (.int .i64 n)]) := fun e v hv g1 g2 hgt => by
        rw [if_neg (by omega), ← hv]
        exact leaves_two rfl (by rw [g1]; rfl) (by rw [g2]; rfl) fin_push
      have hl' := hl
      unfold lenMay at hl'
      have hu : u = 0 ∨ u = 1 ∨ u = 2 ∨ u = 3 := by omega
      unfold inS at h1 h2
      rcases hu with rfl | rfl | rfl | rfl
      · have e1 : lenV 0 n of ep = n := rfl
        repeat' (first | refine gos0 ?_ | (refine ops_here ?_; (fail_if_success (refine ops_case (B := true) rfl rfl rfl ?_ ?_)); (fail_if_success (refine ops_case (B := false) rfl rfl rfl ?_ ?_)); refine ops_case rfl rfl rfl (fun hB => ?_) (fun hB => ?_) <;> rw [hB]) | (refine runs_here ?_; refine runs_cond rfl (fun hc => ?_) (fun hc => ?_) <;> first | (cases hc; done) | skip))
        all_goals exact fin2 _ n e1.symm rfl rfl (by omega)
      · have e1 : lenV 1 n of ep = n * ep := rfl
        have w1 : IntKind.i64.wrap (n * ep) = n * ep := by have := mul_in (A := 1099511627776) (B := 1048576) hl'.1 hl'.2.1 h2.1 h2.2; exact i64_wrap (by omega) (by omega)
        refine go0 ?_
        refine runs_cond rfl (fun hc => by cases hc) (fun hc => ?_)
        refine go0 ?_
        refine runs_cond rfl (fun hc => ?_) (fun hc => by cases hc)
        refine go0 ?_
        refine runs_ops_drawn_kept (by kernel_rfl) ?_
        by_cases h0 : ep > 0
        · have b0 : decide (ep > 0) = true := decide_eq_true h0
          have n0 : ep ≠ 0 := by omega
          have hq : (1099511627776 : Int).tdiv ep = 1099511627776 / ep := Int.tdiv_eq_ediv_of_nonneg (by decide)
          have hle : (1099511627776 : Int) / ep ≤ 1099511627776 := Int.ediv_le_self _ (by decide)
          have hge : 0 ≤ (1099511627776 : Int) / ep := Int.ediv_nonneg (by decide) (by omega)
          have w2 : IntKind.i64.wrap ((1099511627776 : Int).tdiv ep) = 1099511627776 / ep := by rw [hq]; exact i64_wrap (by omega) (by omega)
          have hiff : (n > 1099511627776 / ep) ↔ (n * ep > 1099511627776) := by
            constructor
            · intro hh
              exact Int.lt_mul_of_ediv_lt h0 hh
            · intro hh
              exact Int.ediv_lt_of_lt_mul h0 hh
          repeat' (first | refine gos1 (jn @b0 (jn @n0 (jn @w1 @w2))) ?_ | (refine ops_here ?_; (fail_if_success (refine ops_case (B := true) rfl rfl rfl ?_ ?_)); (fail_if_success (refine ops_case (B := false) rfl rfl rfl ?_ ?_)); refine ops_case rfl rfl rfl (fun hB => ?_) (fun hB => ?_) <;> rw [hB]) | (refine runs_here ?_; refine runs_cond rfl (fun hc => ?_) (fun hc => ?_) <;> first | (cases hc; done) | skip))
          all_goals first
            | exact fin _ (by rw [e1]; exact hiff.1 (of_decide_eq_true (by assumption))) rfl rfl
            | exact fin2 _ _ e1.symm rfl rfl (fun h => absurd (hiff.2 h) (of_decide_eq_false (by assumption)))
        · have b0 : decide (ep > 0) = false := decide_eq_false h0
          have h00 : ep = 0 := by omega
          subst h00
          repeat' (first | refine gos1 (jn @b0 @w1) ?_ | (refine ops_here ?_; (fail_if_success (refine ops_case (B := true) rfl rfl rfl ?_ ?_)); (fail_if_success (refine ops_case (B := false) rfl rfl rfl ?_ ?_)); refine ops_case rfl rfl rfl (fun hB => ?_) (fun hB => ?_) <;> rw [hB]) | (refine runs_here ?_; refine runs_cond rfl (fun hc => ?_) (fun hc => ?_) <;> first | (cases hc; done) | skip))
          all_goals exact fin2 _ _ e1.symm rfl rfl (by omega)
      · have e1 : lenV 2 n of ep = (of * n).tdiv 100 := rfl
        have h100 := hl'.2.2.2.2.1 rfl
        have hm := mul_in (A := 1048576) (B := 100) h1.1 h1.2 hl'.1 h100
        have hd := tdiv_in hm.1
        have w2 : IntKind.i64.wrap (of * n) = of * n := i64_wrap (by omega) (by omega)
        have w3 : IntKind.i64.wrap ((of * n).tdiv 100) = (of * n).tdiv 100 := i64_wrap (by omega) (by omega)
        have n100 : (100 : Int) ≠ 0 := by decide
        repeat' (first | refine gos1 (jn @w2 (jn @w3 @n100)) ?_ | (refine ops_here ?_; (fail_if_success (refine ops_case (B := true) rfl rfl rfl ?_ ?_)); (fail_if_success (refine ops_case (B := false) rfl rfl rfl ?_ ?_)); refine ops_case rfl rfl rfl (fun hB => ?_) (fun hB => ?_) <;> rw [hB]) | (refine runs_here ?_; refine runs_cond rfl (fun hc => ?_) (fun hc => ?_) <;> first | (cases hc; done) | skip))
        all_goals exact fin2 _ _ e1.symm rfl rfl (by omega)
      · have e1 : lenV 3 n of ep = of := rfl
        repeat' (first | refine gos0 ?_ | (refine ops_here ?_; (fail_if_success (refine ops_case (B := true) rfl rfl rfl ?_ ?_)); (fail_if_success (refine ops_case (B := false) rfl rfl rfl ?_ ?_)); refine ops_case rfl rfl rfl (fun hB => ?_) (fun hB => ?_) <;> rw [hB]) | (refine runs_here ?_; refine runs_cond rfl (fun hc => ?_) (fun hc => ?_) <;> first | (cases hc; done) | skip))
        all_goals exact fin2 _ _ e1.symm rfl rfl (by omega)
    · cases h
  · cases h
def inW (x : Int) : Prop := 0 ≤ x ∧ x ≤ 1000000
instance (x : Int) : Decidable (inW x) := by unfold inW; exact inferInstance
def kpWithinL : Nat → Option (List Nat) := fun
  | 0 => some [1, 2, 3]
  | 1 => some [1, 7, 8]
  | 2 => some [1, 7, 8, 17]
  | 3 => some [6]
  | 4 => some [1, 7, 20]
  | 5 => some [6]
  | 6 => some [6]
  | _ => none
attribute [go_sem] kpWithinL
def kpWithinR : Nat → Option (List Nat) := fun
  | 0 => some [1, 2, 3]
  | 1 => some [1, 7, 8]
  | 2 => some [1, 7, 22]
  | 3 => some [6]
  | 4 => some [6]
  | _ => none
attribute [go_sem] kpWithinR
end Go.Proofs.YtojaokhkbmiidaaGreat.Ev

namespace Go.Proofs.YtojaokhkbmiidaaGreat.Ev
open Go Go.Proofs
set_option maxRecDepth 10000
set_option maxHeartbeats 8000000
set_option linter.unusedVariables false
set_option linter.unusedSimpArgs false
attribute [local irreducible] Next Inside Runs Ops table
noncomputable section
attribute [local go_sem] szStr szInt Option.getD_some isNil evStr iv loadStr loadInt rowsS_len rowsN_len rowsGs_len rowsPh_len mapGs mapPh mapRc ldNode ldGs ldPh cellsGs cellsPh cellsRc newGs newPh newRc fpGsGroup fpGsParam fpGsNodes fpPhName fpPhLen fpPhLenU fpPhFrozen fpPhSets fpRcName fpRcSteps fpRcEpoch fpRcWeights fpRcMetrics fpRcGroups fpRcEval fpRcPhases fpRcSwa fpRcSwaOn fpRcSwaFrom fpRcSwaFromU
/-! ### epochs -/
def epN (x : Nd) : Bool := x.u == 1
def epNG : List AV → Mem → Option (AV × Mem)
  | [.agg cs], m =>
    match unNd cs with
    | some x => some (.v (.bool (epN x)), m)
    | none => none
  | _, _ => none
theorem epNG_at (x : Nd) (m : Mem) : epNG [.agg x.row] m = some (.v (.bool (epN x)), m) := by
  simp only [epNG, unNd_of]
theorem cellsNd {x : Nd} : cellsOf (.agg x.row) = some x.row := rfl
theorem newNd {m : Mem} {x : Nd} : newVar m m.vars.length x.row = some (m.push x.row) := newVar_push rfl
theorem mapNd {x : Nd} : List.map argCell x.row = x.row := rfl
theorem fpNdLen {r : Nat} : evFieldAddr Tryz.prog 102 (.ptr r 0) 5 = some (.ptr r 5) := by kernel_rfl
theorem fpNdLenU {r : Nat} : evFieldAddr Tryz.prog 33 (.ptr r 5) 0 = some (.ptr r 5) := by kernel_rfl
theorem lpNdU {m : Mem} {r : Nat} {x : Nd} (hv : m.var r = some x.row) : evLoad Tryz.prog m 3 (.ptr r 5) = some (.v (.int .i64 x.u)) := by
  unfold evLoad
  simp only [ptrCells, hv, Option.map_some, szInt, agInt]
  rfl
def kpEp1 : Nat → Option (List Nat) := fun
  | 0 => some [1]
  | 1 => some [2]
  | _ => none
attribute [go_sem] kpEp1
theorem epN_ok : FunOk Tryz.prog 127 epNG := by
  have hC := table_ok (P := Tryz.prog) (l := []) table_nil
  refine fun_ok mixed hC Tryz.func127 rfl kpEp1 false rfl fun args m r h => ?_
  unfold epNG at h
  split at h
  · rename_i cs
    split at h
    · rename_i x hx
      obtain rfl := unNd_row hx
      simp only [Option.some.injEq] at h
      subst h
      refine ⟨Nat.le_of_ble_eq_true rfl, ?_⟩
      simp only [entry, List.length_cons, List.length_nil, List.range, List.range.loop, List.zip_cons_cons, List.zip_nil_right]
      have l1 := lpNdU (x := x) (push_var (m := m))
      rw [show nrow x.op x.a x.b x.c x.k x.u x.n = x.row from rfl]
      refine go1 (jn @cellsNd (jn @newNd (jn @fpNdLen (jn @fpNdLenU @l1)))) ?_
      exact leaves_fin rfl rfl fin_push
    · cases h
  · cases h
def enFindG : List AV → Mem → Option (AV × Mem)
  | [.lst _ 7 rows, .fn (.func 127) [] []], m =>
    match unN rows with
    | some l => if l.length ≤ big40 then some (.v (.int .i64 (firstBy epN l 0)), m) else none
    | none => none
  | _, _ => none
theorem enFindG_eq {m : Mem} {g : Grow} {l : List Nd} (h : l.length ≤ big40) : enFindG [.lst g 7 (rowsN l), .fn (.func 127) [] []] m = some (.v (.int .i64 (firstBy epN l 0)), m) := by
  simp only [enFindG, unN_rowsN]
  rw [if_pos h]
def kp_enFind : Nat → Option (List Nat) := fun _ => some [0, 1, 4, 5, 7, 8, 9, 16]
attribute [go_sem] kp_enFind
def tab_enFind_ok : List (FuncId × (List AV → Mem → Option (AV × Mem))) := [(127, epNG)]
theorem enFind_ok : FunOk Tryz.prog 133 enFindG := by
  have hC := table_ok (P := Tryz.prog) (l := tab_enFind_ok) (table_more epN_ok table_nil)
  have t1 := fun args mm => table_at (l := tab_enFind_ok) (f := 127) (args := args) (m := mm) rfl
  refine fun_ok mixed hC Tryz.func133 rfl kp_enFind false rfl fun args m r h => ?_
  unfold enFindG at h
  split at h
  · rename_i g rows
    split at h
    · rename_i l hl0
      obtain rfl := unN_some hl0
      split at h
      · rename_i hyp
        simp only [Option.some.injEq] at h
        subst h
        refine ⟨Nat.le_of_ble_eq_true rfl, ?_⟩
        simp only [entry, List.length_cons, List.length_nil, List.range, List.range.loop, List.zip_cons_cons, List.zip_nil_right]
        have hlen := hyp
        have hlen' := hlen
        unfold big40 at hlen'
        refine go0 ?_
        refine runs_loop (fun k e m' => ∃ (i : Nat) (x5 x9 x16 : AV), i ≤ l.length ∧ firstBy epN (l.drop i) i = firstBy epN l 0 ∧ m = m' ∧ k = l.length - i ∧
          e = [(0, AV.lst g 7 (rowsN l)), (1, .fn (.func 127) [] []), (4, .v (.int .i64 0)), (5, x5), (7, .v (.int .i64 l.length)), (8, .v (.int .i64 (i : Int))), (9, x9), (16, x16)]) (k := l.length) ⟨0, _, _, _, Nat.zero_le _, rfl, rfl, rfl, rfl⟩ ?_
        rintro k e m' ⟨i, x5, x9, x16, hi, hf, rfl, rfl, rfl⟩
        refine go0 ?_
        refine runs_cond rfl (fun hc => ?_) (fun hc => ?_)
        · have hi1 : i < l.length := by have := of_decide_eq_true hc; omega
          have f1 := atNodes (g := g) (kk := .i64) hi1
          have f2 := fun mm => epNG_at (l.getD i nd0) mm
          refine go1 (jn @f1 (jn @t1 @f2)) ?_
          refine runs_cond rfl (fun hc => ?_) (fun hc => ?_)
          · rw [by_yes hi1 hc hf]
            refine go0 ?_
            exact leaves_v rfl rfl
          · have r6 := next_i64 (i := i) (by omega)
            refine go1 @r6 ?_
            exact ⟨l.length - (i + 1), by omega, i + 1, _, _, _, hi1, by_no hi1 hc hf, rfl, rfl, rfl⟩
        · have hi1 : i = l.length := by have := of_decide_eq_false hc; omega
          subst hi1
          rw [by_end hf]
          refine go0 ?_
          exact leaves_v rfl rfl
      · cases h
    · cases h
  · cases h
def enAnyG : List AV → Mem → Option (AV × Mem)
  | [.lst _ 7 rows, .fn (.func 127) [] []], m =>
    match unN rows with
    | some l => if l.length ≤ big40 then some (.v (.bool (l.any epN)), m) else none
    | none => none
  | _, _ => none
theorem enAnyG_eq {m : Mem} {g : Grow} {l : List Nd} (h : l.length ≤ big40) : enAnyG [.lst g 7 (rowsN l), .fn (.func 127) [] []] m = some (.v (.bool (l.any epN)), m) := by
  simp only [enAnyG, unN_rowsN]
  rw [if_pos h]
def kp_enAny : Nat → Option (List Nat) := fun _ => some [0, 1, 4]
attribute [go_sem] kp_enAny
def tab_enAny_ok : List (FuncId × (List AV → Mem → Option (AV × Mem))) := [(133, enFindG)]
theorem enAny_ok : FunOk Tryz.prog 89 enAnyG := by
  have hC := table_ok (P := Tryz.prog) (l := tab_enAny_ok) (table_more enFind_ok table_nil)
  have t1 := fun args mm => table_at (l := tab_enAny_ok) (f := 133) (args := args) (m := mm) rfl
  refine fun_ok mixed hC Tryz.func89 rfl kp_enAny false rfl fun args m r h => ?_
  unfold enAnyG at h
  split at h
  · rename_i g rows
    split at h
    · rename_i l hl0
      obtain rfl := unN_some hl0
      split at h
      · rename_i hyp
        simp only [Option.some.injEq] at h
        subst h
        refine ⟨Nat.le_of_ble_eq_true rfl, ?_⟩
        simp only [entry, List.length_cons, List.length_nil, List.range, List.range.loop, List.zip_cons_cons, List.zip_nil_right]
        have f1 := fun mm => enFindG_eq (m := mm) (g := .no) hyp
        have f3 : decide (firstBy epN l 0 ≥ 0) = l.any epN := firstBy_any epN l 0
        refine go1 (jn @t1 (jn @f1 @f3)) ?_
        exact leaves_v rfl rfl
      · cases h
    · cases h
  · cases h
/-- A function in a variable. -/
def fnN : AV := .fn (.func 127) [] []
def fnS (p : Nat) : AV := .fn (.func 128) [] [.ptr p 0]
def epS (x : Gs) : Bool := x.nodes.any epN
def epP (x : Ph) : Bool := (x.lenU == 1) || x.sets.any epS
theorem ldFn58 {m : Mem} {q : Nat} {c : AV} (hv : m.var q = some [c]) : evLoad Tryz.prog m 126 (.ptr q 0) = some c := by
  unfold evLoad
  simp only [ptrCells, hv, Option.map_some]
  rw [show tAgg Tryz.prog 126 = some false by kernel_rfl, show tSize Tryz.prog 126 = some 1 by kernel_rfl]
  rfl
theorem ldFn119 {m : Mem} {q : Nat} {c : AV} (hv : m.var q = some [c]) : evLoad Tryz.prog m 127 (.ptr q 0) = some c := by
  unfold evLoad
  simp only [ptrCells, hv, Option.map_some]
  rw [show tAgg Tryz.prog 127 = some false by kernel_rfl, show tSize Tryz.prog 127 = some 1 by kernel_rfl]
  rfl
def epSG : List AV → Mem → Option (AV × Mem)
  | [.agg cs, .ptr q 0], m =>
    match unGs cs with
    | some x => open Classical in if x.fit ∧ m.var q = some [fnN] then some (.v (.bool (epS x)), m) else none
    | none => none
  | _, _ => none
theorem epSG_at (x : Gs) (m : Mem) {q : Nat} (h : x.fit) (hq : m.var q = some [fnN]) : epSG [.agg x.row, .ptr q 0] m = some (.v (.bool (epS x)), m) := by
  simp only [epSG, unGs_row]
  rw [if_pos ⟨h, hq⟩]
def kpEp2 : Nat → Option (List Nat) := fun
  | 0 => some [1, 2]
  | 1 => some [3]
  | _ => none
attribute [go_sem] kpEp2
def tab_epS_ok : List (FuncId × (List AV → Mem → Option (AV × Mem))) := [(89, enAnyG)]
theorem epS_ok : FunOk Tryz.prog 128 epSG := by
  have hC := table_ok (P := Tryz.prog) (l := tab_epS_ok) (table_more enAny_ok table_nil)
  have t1 := fun args mm => table_at (l := tab_epS_ok) (f := 89) (args := args) (m := mm) rfl
  refine fun_ok mixed hC Tryz.func128 rfl kpEp2 false rfl fun args m r h => ?_
  unfold epSG at h
  split at h
  · rename_i cs q
    split at h
    · rename_i x hx
      obtain rfl := unGs_some hx
      split at h
      · rename_i hyp
        simp only [Option.some.injEq] at h
        subst h
        refine ⟨Nat.le_of_ble_eq_true rfl, ?_⟩
        simp only [entry, List.length_cons, List.length_nil, List.range, List.range.loop, List.zip_cons_cons, List.zip_nil_right]
        have hv : (m.push x.row).var m.vars.length = some x.row := push_var
        have l1 := lpGsNodes hv
        have l2 := ldFn58 (push_old (cs' := x.row) hyp.2)
        unfold fnN at l2
        have f1 := fun mm => enAnyG_eq (m := mm) (g := .no) hyp.1.2
        refine go1 (jn @l1 (jn @l2 (jn @t1 @f1))) ?_
        exact leaves_fin rfl rfl fin_push
      · cases h
    · cases h
  · cases h
def esFindG : List AV → Mem → Option (AV × Mem)
  | [.lst _ 3 rows, .fn (.func 128) [] [.ptr q 0]], m =>
    match unsGs rows with
    | some l => open Classical in if l.length ≤ big40 ∧ (∀ x ∈ l, x.fit) ∧ m.var q = some [fnN] then some (.v (.int .i64 (firstBy epS l 0)), m) else none
    | none => none
  | _, _ => none
theorem esFindG_eq {m : Mem} {g : Grow} {l : List Gs} {q : Nat} (h : l.length ≤ big40 ∧ (∀ x ∈ l, x.fit) ∧ m.var q = some [fnN]) : esFindG [.lst g 3 (rowsGs l), .fn (.func 128) [] [.ptr q 0]] m = some (.v (.int .i64 (firstBy epS l 0)), m) := by
  simp only [esFindG, unsGs_rowsGs]
  rw [if_pos h]
def kp_esFind : Nat → Option (List Nat) := fun _ => some [0, 1, 4, 5, 7, 8, 9, 16]
attribute [go_sem] kp_esFind
def tab_esFind_ok : List (FuncId × (List AV → Mem → Option (AV × Mem))) := [(128, epSG)]
attribute [local go_sem] List.cons_append
theorem esFind_ok : FunOk Tryz.prog 147 esFindG := by
  have hC := table_ok (P := Tryz.prog) (l := tab_esFind_ok) (table_more epS_ok table_nil)
  have t1 := fun args mm => table_at (l := tab_esFind_ok) (f := 128) (args := args) (m := mm) rfl
  refine fun_ok mixed hC Tryz.func147 rfl kp_esFind false rfl fun args m r h => ?_
  unfold esFindG at h
  split at h
  · rename_i g rows q
    split at h
    · rename_i l hl0
      obtain rfl := unsGs_some hl0
      split at h
      · rename_i hyp
        simp only [Option.some.injEq] at h
        subst h
        refine ⟨Nat.le_of_ble_eq_true rfl, ?_⟩
        simp only [entry, List.length_cons, List.length_nil, List.range, List.range.loop, List.zip_cons_cons, List.zip_nil_right]
        obtain ⟨hlen, hb, hfree⟩ := hyp
        have hlen' := hlen
        unfold big40 at hlen'
        refine go0 ?_
        refine runs_loop (fun k e m' => ∃ (i : Nat) (x5 x9 x16 : AV), i ≤ l.length ∧ firstBy epS (l.drop i) i = firstBy epS l 0 ∧ m = m' ∧ k = l.length - i ∧
          e = [(0, AV.lst g 3 (rowsGs l)), (1, .fn (.func 128) [] [.ptr q 0]), (4, .v (.int .i64 0)), (5, x5), (7, .v (.int .i64 l.length)), (8, .v (.int .i64 (i : Int))), (9, x9), (16, x16)]) (k := l.length) ⟨0, _, _, _, Nat.zero_le _, rfl, rfl, rfl, rfl⟩ ?_
        rintro k e m' ⟨i, x5, x9, x16, hi, hf, rfl, rfl, rfl⟩
        refine go0 ?_
        refine runs_cond rfl (fun hc => ?_) (fun hc => ?_)
        · have hi1 : i < l.length := by have := of_decide_eq_true hc; omega
          have f1 := atGs (g := g) (kk := .i64) hi1
          have f2 := epSG_at (l.getD i gs0) m (hb _ (by rw [List.getD, List.getElem?_eq_getElem hi1]; exact List.getElem_mem _)) hfree
          refine go1 (jn @f1 (jn @t1 @f2)) ?_
          refine runs_cond rfl (fun hc => ?_) (fun hc => ?_)
          · rw [by_yes hi1 hc hf]
            refine go0 ?_
            exact leaves_v rfl rfl
          · have r6 := next_i64 (i := i) (by omega)
            refine go1 @r6 ?_
            exact ⟨l.length - (i + 1), by omega, i + 1, _, _, _, hi1, by_no hi1 hc hf, rfl, rfl, rfl⟩
        · have hi1 : i = l.length := by have := of_decide_eq_false hc; omega
          subst hi1
          rw [by_end hf]
          refine go0 ?_
          exact leaves_v rfl rfl
      · cases h
    · cases h
  · cases h
def esAnyG : List AV → Mem → Option (AV × Mem)
  | [.lst _ 3 rows, .fn (.func 128) [] [.ptr q 0]], m =>
    match unsGs rows with
    | some l => open Classical in if l.length ≤ big40 ∧ (∀ x ∈ l, x.fit) ∧ m.var q = some [fnN] then some (.v (.bool (l.any epS)), m) else none
    | none => none
  | _, _ => none
theorem esAnyG_eq {m : Mem} {g : Grow} {l : List Gs} {q : Nat} (h : l.length ≤ big40 ∧ (∀ x ∈ l, x.fit) ∧ m.var q = some [fnN]) : esAnyG [.lst g 3 (rowsGs l), .fn (.func 128) [] [.ptr q 0]] m = some (.v (.bool (l.any epS)), m) := by
  simp only [esAnyG, unsGs_rowsGs]
  rw [if_pos h]
def kp_esAny : Nat → Option (List Nat) := fun _ => some [0, 1, 4]
attribute [go_sem] kp_esAny
def tab_esAny_ok : List (FuncId × (List AV → Mem → Option (AV × Mem))) := [(147, esFindG)]
theorem esAny_ok : FunOk Tryz.prog 112 esAnyG := by
  have hC := table_ok (P := Tryz.prog) (l := tab_esAny_ok) (table_more esFind_ok table_nil)
  have t1 := fun args mm => table_at (l := tab_esAny_ok) (f := 147) (args := args) (m := mm) rfl
  refine fun_ok mixed hC Tryz.func112 rfl kp_esAny false rfl fun args m r h => ?_
  unfold esAnyG at h
  split at h
  · rename_i g rows q
    split at h
    · rename_i l hl0
      obtain rfl := unsGs_some hl0
      split at h
      · rename_i hyp
        simp only [Option.some.injEq] at h
        subst h
        refine ⟨Nat.le_of_ble_eq_true rfl, ?_⟩
        simp only [entry, List.length_cons, List.length_nil, List.range, List.range.loop, List.zip_cons_cons, List.zip_nil_right]
        have f1 := esFindG_eq (m := m) (g := .no) hyp
        have f3 : decide (firstBy epS l 0 ≥ 0) = l.any epS := firstBy_any epS l 0
        refine go1 (jn @t1 (jn @f1 @f3)) ?_
        exact leaves_v rfl rfl
      · cases h
    · cases h
  · cases h
def epPG : List AV → Mem → Option (AV × Mem)
  | [.agg cs, .ptr q 0], m =>
    match unPh cs with
    | some x => open Classical in if x.fit ∧ ∃ p, m.var q = some [fnS p] ∧ m.var p = some [fnN] then some (.v (.bool (epP x)), m) else none
    | none => none
  | _, _ => none
theorem epPG_at (x : Ph) (m : Mem) {q : Nat} (h : x.fit) (hq : ∃ p, m.var q = some [fnS p] ∧ m.var p = some [fnN]) : epPG [.agg x.row, .ptr q 0] m = some (.v (.bool (epP x)), m) := by
  simp only [epPG, unPh_row]
  rw [if_pos ⟨h, hq⟩]
def kpEp3 : Nat → Option (List Nat) := fun
  | 0 => some [1, 2]
  | 1 => some [3]
  | _ => none
attribute [go_sem] kpEp3
def tab_epP_ok : List (FuncId × (List AV → Mem → Option (AV × Mem))) := [(112, esAnyG)]
theorem epP_ok : FunOk Tryz.prog 129 epPG := by
  have hC := table_ok (P := Tryz.prog) (l := tab_epP_ok) (table_more esAny_ok table_nil)
  have t1 := fun args mm => table_at (l := tab_epP_ok) (f := 112) (args := args) (m := mm) rfl
  refine fun_ok mixed hC Tryz.func129 rfl kpEp3 false rfl fun args m r h => ?_
  unfold epPG at h
  split at h
  · rename_i cs q
    split at h
    · rename_i x hx
      obtain rfl := unPh_some hx
      split at h
      · rename_i hyp
        simp only [Option.some.injEq] at h
        subst h
        refine ⟨Nat.le_of_ble_eq_true rfl, ?_⟩
        simp only [entry, List.length_cons, List.length_nil, List.range, List.range.loop, List.zip_cons_cons, List.zip_nil_right]
        obtain ⟨hfit, p, hq, hp⟩ := hyp
        have hv : (m.push x.row).var m.vars.length = some x.row := push_var
        have l1 := lpPhLenU hv
        have l2 := lpPhSets hv
        have l3 := ldFn119 (push_old (cs' := x.row) hq)
        unfold fnS at l3
        have f1 := esAnyG_eq (m := m.push x.row) (g := .no) (l := x.sets) (q := p) ⟨hfit.2.2.2.1, hfit.2.2.2.2, push_old hp⟩
        unfold epP
        cases hu : (x.lenU == 1) with
        | true =>
          refine go1 (jn @l1 @hu) ?_
          exact leaves_fin rfl rfl fin_push
        | false =>
          refine go1 (jn @l1 (jn @hu (jn @l2 (jn @l3 (jn @t1 @f1))))) ?_
          exact leaves_fin rfl rfl fin_push
      · cases h
    · cases h
  · cases h
def epFindG : List AV → Mem → Option (AV × Mem)
  | [.lst _ 5 rows, .fn (.func 129) [] [.ptr q 0]], m =>
    match unsPh rows with
    | some l => open Classical in if l.length ≤ big40 ∧ (∀ x ∈ l, x.fit) ∧ (∃ p, m.var q = some [fnS p] ∧ m.var p = some [fnN]) then some (.v (.int .i64 (firstBy epP l 0)), m) else none
    | none => none
  | _, _ => none
theorem epFindG_eq {m : Mem} {g : Grow} {l : List Ph} {q : Nat} (h : l.length ≤ big40 ∧ (∀ x ∈ l, x.fit) ∧ (∃ p, m.var q = some [fnS p] ∧ m.var p = some [fnN])) : epFindG [.lst g 5 (rowsPh l), .fn (.func 129) [] [.ptr q 0]] m = some (.v (.int .i64 (firstBy epP l 0)), m) := by
  simp only [epFindG, unsPh_rowsPh]
  rw [if_pos h]
def kp_epFind : Nat → Option (List Nat) := fun _ => some [0, 1, 4, 5, 7, 8, 9, 16]
attribute [go_sem] kp_epFind
def tab_epFind_ok : List (FuncId × (List AV → Mem → Option (AV × Mem))) := [(129, epPG)]
theorem epFind_ok : FunOk Tryz.prog 123 epFindG := by
  have hC := table_ok (P := Tryz.prog) (l := tab_epFind_ok) (table_more epP_ok table_nil)
  have t1 := fun args mm => table_at (l := tab_epFind_ok) (f := 129) (args := args) (m := mm) rfl
  refine fun_ok mixed hC Tryz.func123 rfl kp_epFind false rfl fun args m r h => ?_
  unfold epFindG at h
  split at h
  · rename_i g rows q
    split at h
    · rename_i l hl0
      obtain rfl := unsPh_some hl0
      split at h
      · rename_i hyp
        simp only [Option.some.injEq] at h
        subst h
        refine ⟨Nat.le_of_ble_eq_true rfl, ?_⟩
        simp only [entry, List.length_cons, List.length_nil, List.range, List.range.loop, List.zip_cons_cons, List.zip_nil_right]
        obtain ⟨hlen, hb, hfree⟩ := hyp
        have hlen' := hlen
        unfold big40 at hlen'
        refine go0 ?_
        refine runs_loop (fun k e m' => ∃ (i : Nat) (x5 x9 x16 : AV), i ≤ l.length ∧ firstBy epP (l.drop i) i = firstBy epP l 0 ∧ m = m' ∧ k = l.length - i ∧
          e = [(0, AV.lst g 5 (rowsPh l)), (1, .fn (.func 129) [] [.ptr q 0]), (4, .v (.int .i64 0)), (5, x5), (7, .v (.int .i64 l.length)), (8, .v (.int .i64 (i : Int))), (9, x9), (16, x16)]) (k := l.length) ⟨0, _, _, _, Nat.zero_le _, rfl, rfl, rfl, rfl⟩ ?_
        rintro k e m' ⟨i, x5, x9, x16, hi, hf, rfl, rfl, rfl⟩
        refine go0 ?_
        refine runs_cond rfl (fun hc => ?_) (fun hc => ?_)
        · have hi1 : i < l.length := by have := of_decide_eq_true hc; omega
          have f1 := atPh (g := g) (kk := .i64) hi1
          have f2 := epPG_at (l.getD i ph0) m (hb _ (by rw [List.getD, List.getElem?_eq_getElem hi1]; exact List.getElem_mem _)) hfree
          refine go1 (jn @f1 (jn @t1 @f2)) ?_
          refine runs_cond rfl (fun hc => ?_) (fun hc => ?_)
          · rw [by_yes hi1 hc hf]
            refine go0 ?_
            exact leaves_v rfl rfl
          · have r6 := next_i64 (i := i) (by omega)
            refine go1 @r6 ?_
            exact ⟨l.length - (i + 1), by omega, i + 1, _, _, _, hi1, by_no hi1 hc hf, rfl, rfl, rfl⟩
        · have hi1 : i = l.length := by have := of_decide_eq_false hc; omega
          subst hi1
          rw [by_end hf]
          refine go0 ?_
          exact leaves_v rfl rfl
      · cases h
    · cases h
  · cases h
def epAnyG : List AV → Mem → Option (AV × Mem)
  | [.lst _ 5 rows, .fn (.func 129) [] [.ptr q 0]], m =>
    match unsPh rows with
    | some l => open Classical in if l.length ≤ big40 ∧ (∀ x ∈ l, x.fit) ∧ (∃ p, m.var q = some [fnS p] ∧ m.var p = some [fnN]) then some (.v (.bool (l.any epP)), m) else none
    | none => none
  | _, _ => none
theorem epAnyG_eq {m : Mem} {g : Grow} {l : List Ph} {q : Nat} (h : l.length ≤ big40 ∧ (∀ x ∈ l, x.fit) ∧ (∃ p, m.var q = some [fnS p] ∧ m.var p = some [fnN])) : epAnyG [.lst g 5 (rowsPh l), .fn (.func 129) [] [.ptr q 0]] m = some (.v (.bool (l.any epP)), m) := by
  simp only [epAnyG, unsPh_rowsPh]
  rw [if_pos h]
def kp_epAny : Nat → Option (List Nat) := fun _ => some [0, 1, 4]
attribute [go_sem] kp_epAny
def tab_epAny_ok : List (FuncId × (List AV → Mem → Option (AV × Mem))) := [(123, epFindG)]
theorem epAny_ok : FunOk Tryz.prog 74 epAnyG := by
  have hC := table_ok (P := Tryz.prog) (l := tab_epAny_ok) (table_more epFind_ok table_nil)
  have t1 := fun args mm => table_at (l := tab_epAny_ok) (f := 123) (args := args) (m := mm) rfl
  refine fun_ok mixed hC Tryz.func74 rfl kp_epAny false rfl fun args m r h => ?_
  unfold epAnyG at h
  split at h
  · rename_i g rows q
    split at h
    · rename_i l hl0
      obtain rfl := unsPh_some hl0
      split at h
      · rename_i hyp
        simp only [Option.some.injEq] at h
        subst h
        refine ⟨Nat.le_of_ble_eq_true rfl, ?_⟩
        simp only [entry, List.length_cons, List.length_nil, List.range, List.range.loop, List.zip_cons_cons, List.zip_nil_right]
        have f1 := epFindG_eq (m := m) (g := .no) hyp
        have f3 : decide (firstBy epP l 0 ≥ 0) = l.any epP := firstBy_any epP l 0
        refine go1 (jn @t1 (jn @f1 @f3)) ?_
        exact leaves_v rfl rfl
      · cases h
    · cases h
  · cases h
def Rc.epochs (R : Rc) : Bool := R.phases.any epP || (R.swaOn && (R.swaFromU == 1))
def epochsG : List AV → Mem → Option (AV × Mem)
  | [.agg cs], m =>
    match unRc cs with
    | some R => if R.fit then some (.v (.bool R.epochs), m) else none
    | none => none
  | _, _ => none
theorem epochsG_at (R : Rc) (m : Mem) (h : R.fit) : epochsG [.agg R.row] m = some (.v (.bool R.epochs), m) := by
  simp only [epochsG, unRc_row]
  rw [if_pos h]
theorem zrF58 : zeroCells Tryz.prog 126 = some [.v .nilFunc] := by kernel_rfl
theorem zrF119 : zeroCells Tryz.prog 127 = some [.v .nilFunc] := by kernel_rfl
theorem zoF : ([AV.v .nilFunc].all okCell) = true := rfl
theorem znF {m : Mem} : newVar m m.vars.length [.v .nilFunc] = some (m.push [.v .nilFunc]) := newVar_push rfl
theorem szF58 : tSize Tryz.prog 126 = some 1 := by kernel_rfl
theorem szF119 : tSize Tryz.prog 127 = some 1 := by kernel_rfl
theorem zsF58 {m : Mem} : evStore Tryz.prog (m.push [.v .nilFunc]) 126 (.ptr m.vars.length 0) fnN = some (m.push [fnN]) := by
  rw [store_push (cs := [fnN]) rfl szF58 (Nat.le_refl _) rfl]
  rfl
theorem zsF119 {m : Mem} {p : Nat} (hp : p < m.vars.length) : evStore Tryz.prog (m.push [.v .nilFunc]) 127 (.ptr m.vars.length 0) (fnS p) = some (m.push [fnS p]) := by
  rw [store_push (cs := [fnS p]) rfl szF119 (Nat.le_refl _) (by simp [fnS, refLe, refLe.okArg]; omega)]
  rfl
def kpEpochs : Nat → Option (List Nat) := fun
  | 0 => some [1]
  | 1 => some [1, 3]
  | 2 => some [1, 4]
  | 3 => some [1, 5]
  | 4 => some [2]
  | _ => none
attribute [go_sem] kpEpochs
def tab_epochs_ok : List (FuncId × (List AV → Mem → Option (AV × Mem))) := [(74, epAnyG)]
theorem epochs_ok : FunOk Tryz.prog 80 epochsG := by
  have hC := table_ok (P := Tryz.prog) (l := tab_epochs_ok) (table_more epAny_ok table_nil)
  have t1 := fun args mm => table_at (l := tab_epochs_ok) (f := 74) (args := args) (m := mm) rfl
  refine fun_ok mixed hC Tryz.func80 rfl kpEpochs false rfl fun args m r h => ?_
  unfold epochsG at h
  split at h
  · rename_i cs
    split at h
    · rename_i R hR
      obtain rfl := unRc_some hR
      split at h
      · rename_i hyp
        simp only [Option.some.injEq] at h
        subst h
        refine ⟨Nat.le_of_ble_eq_true rfl, ?_⟩
        simp only [entry, List.length_cons, List.length_nil, List.range, List.range.loop, List.zip_cons_cons, List.zip_nil_right]
        have hA := above_push (cs := R.row) (above_self m)
        have hv : (m.push R.row).var m.vars.length = some R.row := push_var
        generalize hm1 : m.push R.row = m1 at hA hv
        have s1 := zsF58 (m := m1)
        have hA2 := above_push (cs := [fnN]) hA
        have hv2 := push_old (cs' := [fnN]) hv
        have hp2 : (m1.push [fnN]).var m1.vars.length = some [fnN] := push_var
        have hlt : m1.vars.length < (m1.push [fnN]).vars.length := by rw [push_len]; omega
        generalize m1.push [fnN] = m2 at s1 hA2 hv2 hp2 hlt
        have s2 := zsF119 hlt
        have hA3 := above_push (cs := [fnS m1.vars.length]) hA2
        have hv3 := push_old (cs' := [fnS m1.vars.length]) hv2
        have hp3 := push_old (cs' := [fnS m1.vars.length]) hp2
        have hq3 : (m2.push [fnS m1.vars.length]).var m2.vars.length = some [fnS m1.vars.length] := push_var
        generalize m2.push [fnS m1.vars.length] = m3 at s2 hA3 hv3 hp3 hq3
        have f1 := epAnyG_eq (m := m3) (g := .no) (l := R.phases) (q := m2.vars.length) ⟨hyp.2.2.2.1.1, hyp.2.2.2.1.2, _, hq3, hp3⟩
        have l1 := lpRcPhases hv3
        have l2 := lpRcSwaOn hv3
        have l3 := lpRcSwaFromU hv3
        unfold fnN at s1
        unfold fnS at s2
        have nr := newRc (m := m) (x := R)
        rw [hm1] at nr
        unfold Rc.epochs
        cases h1 : R.phases.any epP with
        | true =>
          refine go1 (jn @nr (jn @zrF58 (jn @zoF (jn @znF (jn @s1 (jn @zrF119 (jn @s2 (jn @l1 (jn @t1 (jn @f1 @h1)))))))))) ?_
          exact leaves_fin rfl rfl (above_fin hA3)
        | false =>
          cases h2 : R.swaOn with
          | false =>
            refine go1 (jn @nr (jn @zrF58 (jn @zoF (jn @znF (jn @s1 (jn @zrF119 (jn @s2 (jn @l1 (jn @t1 (jn @f1 (jn @h1 (jn @l2 @h2)))))))))))) ?_
            exact leaves_fin rfl rfl (above_fin hA3)
          | true =>
            refine go1 (jn @nr (jn @zrF58 (jn @zoF (jn @znF (jn @s1 (jn @zrF119 (jn @s2 (jn @l1 (jn @t1 (jn @f1 (jn @h1 (jn @l2 (jn @h2 @l3))))))))))))) ?_
            exact leaves_fin rfl rfl (above_fin hA3)
      · cases h
    · cases h
  · cases h
end
end Go.Proofs.YtojaokhkbmiidaaGreat.Ev

namespace Go.Proofs.YtojaokhkbmiidaaGreat.Ev
open Go Go.Proofs
set_option maxRecDepth 10000
set_option maxHeartbeats 8000000
set_option linter.unusedVariables false
set_option linter.unusedSimpArgs false
attribute [local irreducible] Next Inside Runs Ops table
attribute [local go_sem] szStr szInt Option.getD_some isNil evStr iv loadStr loadInt rowsS_len rowsN_len rowsGs_len rowsPh_len mapGs mapPh mapRc ldNode ldGs ldPh cellsGs cellsPh cellsRc newGs newPh newRc zrPh zoPh znPh zsPh zrGs zoGs znGs zsGs fpGsGroup fpGsParam fpGsNodes fpPhName fpPhLen fpPhLenU fpPhFrozen fpPhSets fpRcName fpRcSteps fpRcEpoch fpRcWeights fpRcMetrics fpRcGroups fpRcEval fpRcPhases mkStrs1
/-! ### twins -/
def twinsL (rule : Int) (l : List ByteArray) : List Fl := upto l.length fun i => flawIf (decide (placeOf l (l.getD i ⟨#[]⟩) < (i : Int))) rule i 0
def twinsG : List AV → Mem → Option (AV × Mem)
  | [.ptr r 0, .lst _ 1 rows], m =>
    match unS rows, m.var r with
    | some l, some [.v (.int .i64 rule), .lst .full 3 []] => if l.length ≤ 64 then some (.tup [], flMem m r rule (twinsL rule l)) else none
    | _, _ => none
  | _, _ => none
theorem twinsG_at {m : Mem} {r : Nat} {g : Grow} {rule : Int} {l : List ByteArray} (hv : m.var r = some [.v (.int .i64 rule), .lst .full 3 []]) (h : l.length ≤ 64) : twinsG [.ptr r 0, .lst g 1 (rowsS l)] m = some (.tup [], flMem m r rule (twinsL rule l)) := by
  simp only [twinsG, unS_rowsS, hv]
  rw [if_pos h]
def kpTwins : Nat → Option (List Nat) := fun
  | 0 => some [0, 1, 6, 7, 8]
  | 1 => some [0, 1, 6, 7, 8, 9]
  | 2 => some [0, 1, 4, 5, 6, 7, 8]
  | 3 => some [0, 1, 6, 7, 8]
  | 4 => some [0, 1, 6, 7, 8]
  | _ => none
attribute [go_sem] kpTwins
def tab_twins_ok : List (FuncId × (List AV → Mem → Option (AV × Mem))) := [(130, placeG), (78, noteG)]
theorem twins_ok : FunOk Tryz.prog 81 twinsG := by
  have hC := table_ok (P := Tryz.prog) (l := tab_twins_ok) (table_more index_ok (table_more note_ok table_nil))
  have t1 := fun args mm => table_at (l := tab_twins_ok) (f := 130) (args := args) (m := mm) rfl
  have t2 := fun args mm => table_at (l := tab_twins_ok) (f := 78) (args := args) (m := mm) rfl
  refine fun_ok mixed hC Tryz.func81 rfl kpTwins false rfl fun args m r h => ?_
  unfold twinsG at h
  split at h
  · rename_i r0 g rows
    split at h
    · rename_i l rule hl hv
      obtain rfl := unS_some hl
      split at h
      · rename_i h64
        simp only [Option.some.injEq] at h
        subst h
        have hr0 := (var_lt hv).1
        refine ⟨Nat.le_of_ble_eq_true rfl, ?_⟩
        simp only [entry, List.length_cons, List.length_nil, List.range, List.range.loop, List.zip_cons_cons, List.zip_nil_right]
        refine go0 ?_
        refine runs_loop (fun k e m' => ∃ (i : Nat), i ≤ l.length ∧ Above (flMem m r0 rule (upto i fun i => flawIf (decide (placeOf l (l.getD i ⟨#[]⟩) < (i : Int))) rule i 0)) m' ∧ k = l.length - i ∧
          e = [(0, AV.ptr r0 0), (1, .lst g 1 (rowsS l)), (6, .lst g 1 (rowsS l)), (7, .v (.int .i64 (l.length : Int))), (8, .v (.int .i64 (i : Int)))]) (k := l.length) ⟨0, Nat.zero_le _, by rw [upto_zero, flMem_nil]; exact above_self m, rfl, rfl⟩ ?_
        rintro k e m' ⟨i, hi0, hA, rfl, rfl⟩
        refine go0 ?_
        refine runs_cond rfl (fun hc => ?_) (fun hc => ?_)
        · have hi1 : i < l.length := by have := of_decide_eq_true hc; omega
          have f1 := atStrs (g := g) (kk := .i64) hi1
          have f2 := fun mm => placeG_eq (m := mm) (g := .no) (s := l.getD i ⟨#[]⟩) (show l.length ≤ 9223372036854775807 by omega)
          have hN := @upto_next i (fun i => flawIf (decide (placeOf l (l.getD i ⟨#[]⟩) < (i : Int))) rule i 0)
          have hB := @upto_len (fun i => flawIf (decide (placeOf l (l.getD i ⟨#[]⟩) < (i : Int))) rule i 0) 1 i fun k _ => flawIf_len ..
          generalize hfl : (upto i fun i => flawIf (decide (placeOf l (l.getD i ⟨#[]⟩) < (i : Int))) rule i 0) = fl at hA hN hB
          obtain ⟨m2, n1, n2, n3⟩ := note_step hv hA (by omega) (decide (placeOf l (l.getD i ⟨#[]⟩) < (i : Int))) i 0
          rw [flawIf_app, ← hN] at n2
          have r6 := next_i64 (i := i) (by omega)
          refine go1 (jn @f1 (jn @t1 (jn @f2 (jn @t2 (jn @n1 @r6))))) ?_
          exact ⟨l.length - (i + 1), by omega, i + 1, hi1, n2, rfl, rfl⟩
        · have hi1 : i = l.length := by have := of_decide_eq_false hc; omega
          subst hi1
          refine go0 ?_
          exact leaves_none rfl (fin_flMem hv hA)
      · cases h
    · cases h
  · cases h
/-! ### names -/
def namesG : List AV → Mem → Option (AV × Mem)
  | [.agg cs], m =>
    match unRc cs with
    | some R => if R.small then some (.lst .no 1 (rowsS (R.phases.map Ph.name)), m) else none
    | none => none
  | _, _ => none
theorem namesG_at (R : Rc) (m : Mem) (h : R.small) : namesG [.agg R.row] m = some (.lst .no 1 (rowsS (R.phases.map Ph.name)), m) := by
  simp only [namesG, unRc_row]
  rw [if_pos h]
def kpNames : Nat → Option (List Nat) := fun
  | 0 => some [1]
  | 1 => some [1, 3]
  | 2 => some [3, 7, 8, 9]
  | 3 => some [3, 7, 8, 9, 10]
  | 4 => some [3, 5, 7, 8, 9]
  | 5 => some [3, 7, 8, 9]
  | 6 => some [3, 7, 8, 9]
  | 7 => some [2]
  | _ => none
attribute [go_sem] kpNames
theorem names_ok : FunOk Tryz.prog 82 namesG := by
  have hC := table_ok (P := Tryz.prog) (l := []) table_nil
  refine fun_ok mixed hC Tryz.func82 rfl kpNames false rfl fun args m r h => ?_
  unfold namesG at h
  split at h
  · rename_i cs
    split at h
    · rename_i R hR
      obtain rfl := unRc_some hR
      split at h
      · rename_i hsm
        simp only [Option.some.injEq] at h
        subst h
        have hP64 := hsm.2.2.1
        refine ⟨Nat.le_of_ble_eq_true rfl, ?_⟩
        simp only [entry, List.length_cons, List.length_nil, List.range, List.range.loop, List.zip_cons_cons, List.zip_nil_right]
        have hv3 : (m.push R.row).var m.vars.length = some R.row := push_var
        have f1 := lpRcPhases hv3
        refine go1 @f1 ?_
        refine runs_loop (fun k e m' => ∃ (i : Nat) (gr : Grow), i ≤ R.phases.length ∧ GrowsA m gr m' ∧ k = R.phases.length - i ∧
          e = [(3, AV.lst gr 1 (rowsS ((R.phases.take i).map Ph.name))), (7, .lst .no 5 (rowsPh R.phases)), (8, .v (.int .i64 (R.phases.length : Int))), (9, .v (.int .i64 (i : Int)))]) (k := R.phases.length) ⟨0, _, Nat.zero_le _, growsA_push growsA_full, rfl, rfl⟩ ?_
        rintro k e m' ⟨i, gr, hi0, hG, rfl, rfl⟩
        refine go0 ?_
        refine runs_cond rfl (fun hc => ?_) (fun hc => ?_)
        · have hi1 : i < R.phases.length := by have := of_decide_eq_true hc; omega
          have f2 := atPh (g := .no) (kk := .i64) hi1
          have htk : (R.phases.take (i + 1)).map Ph.name = (R.phases.take i).map Ph.name ++ [(R.phases.getD i ph0).name] := by rw [take_next (d := ph0) hi1, List.map_append]; rfl
          have hlen : ((R.phases.take i).map Ph.name).length ≤ 64 := by rw [List.length_map, List.length_take]; omega
          generalize R.phases.getD i ph0 = p at f2 htk
          generalize (R.phases.take i).map Ph.name = acc at htk hlen
          have hG1 := growsA_push (cs := p.row) hG
          have hp5 : (m'.push p.row).var m'.vars.length = some p.row := push_var
          have l1 := lpPhName hp5
          obtain ⟨g2, m2, a1, hG2⟩ := app_strA (g2 := .full) appStrs hG1 acc p.name (by unfold lim; omega)
          have r6 := next_i64 (i := i) (by omega)
          refine go1 (jn @f2 (jn @l1 (jn @a1 @r6))) ?_
          exact ⟨R.phases.length - (i + 1), by omega, i + 1, _, hi1, hG2, rfl, by rw [htk]⟩
        · have hi1 : i = R.phases.length := by have := of_decide_eq_false hc; omega
          subst hi1
          rw [List.take_length]
          refine go0 ?_
          exact leaves_lst rfl rfl (growsA_fin hG)
      · cases h
    · cases h
  · cases h
/-! ### lasts -/
def stepsP (u n of ep : Int) : Int × Int := if lenMay u n ∧ inS of ∧ inS ep then (if lenV u n of ep > 1099511627776 then (0, 4) else (lenV u n of ep, 0)) else (0, 1)
theorem stepsLG_eq {u n of ep : Int} {m : Mem} : stepsLG [.agg [.v (.int .i64 u), .v (.int .i64 n)], .v (.int .i64 of), .v (.int .i64 ep)] m = some (.tup [.v (.int .i64 (stepsP u n of ep).1), .v (.int .i64 (stepsP u n of ep).2)], m) := by
  simp only [stepsLG, stepsP]
  split
  · split <;> rfl
  · rfl
def Rc.stepsOf (R : Rc) (p : Ph) : Int × Int := stepsP p.lenU p.lenN R.steps R.epoch
def Rc.lastBad (R : Rc) (i : Nat) : Bool := if (R.phases.getD i ph0).lenU = 3 then decide (((i + 1 : Nat) : Int) < (R.phases.length : Int)) else ((R.stepsOf (R.phases.getD i ph0)).2 != 0) || ((R.stepsOf (R.phases.getD i ph0)).1 == 0)
def lastsL (rule : Int) (R : Rc) : List Fl := upto R.phases.length fun i => flawIf (R.lastBad i) rule i 0
def rlastsG : List AV → Mem → Option (AV × Mem)
  | [.ptr r 0, .agg cs], m =>
    match unRc cs, m.var r with
    | some R, some [.v (.int .i64 rule), .lst .full 3 []] => if R.small then some (.tup [], flMem m r rule (lastsL rule R)) else none
    | _, _ => none
  | _, _ => none
theorem rlastsG_at {m : Mem} {r : Nat} {rule : Int} {R : Rc} (hv : m.var r = some [.v (.int .i64 rule), .lst .full 3 []]) (h : R.small) : rlastsG [.ptr r 0, .agg R.row] m = some (.tup [], flMem m r rule (lastsL rule R)) := by
  simp only [rlastsG, unRc_row, hv]
  rw [if_pos h]
def kpRLasts : Nat → Option (List Nat) := fun
  | 0 => some [0, 3]
  | 1 => some [0, 3, 9, 10, 11]
  | 2 => some [0, 3, 9, 10, 11, 12]
  | 3 => some [0, 3, 4, 5, 9, 10, 11]
  | 4 => some [0, 3, 4, 5, 9, 10, 11, 19]
  | 5 => some [0, 3, 9, 10, 11]
  | 6 => some [0, 3, 4, 6, 7, 9, 10, 11]
  | 7 => some [0, 3, 9, 10, 11]
  | 8 => some [0, 3, 9, 10, 11]
  | _ => none
attribute [go_sem] kpRLasts
def tab_rlasts_ok : List (FuncId × (List AV → Mem → Option (AV × Mem))) := [(78, noteG), (48, stepsLG)]
theorem rlasts_ok : FunOk Tryz.prog 83 rlastsG := by
  have hC := table_ok (P := Tryz.prog) (l := tab_rlasts_ok) (table_more note_ok (table_more stepsL_ok table_nil))
  have t1 := fun args mm => table_at (l := tab_rlasts_ok) (f := 78) (args := args) (m := mm) rfl
  have t2 := fun args mm => table_at (l := tab_rlasts_ok) (f := 48) (args := args) (m := mm) rfl
  refine fun_ok mixed hC Tryz.func83 rfl kpRLasts false rfl fun args m r h => ?_
  unfold rlastsG at h
  split at h
  · rename_i r0 cs
    split at h
    · rename_i R rule hR hv
      obtain rfl := unRc_some hR
      split at h
      · rename_i hsm
        simp only [Option.some.injEq] at h
        subst h
        have hr0 := (var_lt hv).1
        have hP64 := hsm.2.2.1
        refine ⟨Nat.le_of_ble_eq_true rfl, ?_⟩
        simp only [entry, List.length_cons, List.length_nil, List.range, List.range.loop, List.zip_cons_cons, List.zip_nil_right]
        have hv3 : (m.push R.row).var m.vars.length = some R.row := push_var
        have f1 := lpRcPhases hv3
        refine go1 @f1 ?_
        refine runs_loop (fun k e m' => ∃ (i : Nat), i ≤ R.phases.length ∧ Above (flMem m r0 rule (upto i fun i => flawIf (R.lastBad i) rule i 0)) m' ∧ m'.var m.vars.length = some R.row ∧ k = R.phases.length - i ∧
          e = [(0, AV.ptr r0 0), (3, .ptr m.vars.length 0), (9, .lst .no 5 (rowsPh R.phases)), (10, .v (.int .i64 (R.phases.length : Int))), (11, .v (.int .i64 (i : Int)))]) (k := R.phases.length)
          ⟨0, Nat.zero_le _, by rw [upto_zero, flMem_nil]; exact above_push (above_self m), hv3, rfl, rfl⟩ ?_
        rintro k e m' ⟨i, hi0, hA, hw3, rfl, rfl⟩
        refine go0 ?_
        refine runs_cond rfl (fun hc => ?_) (fun hc => ?_)
        · have hi1 : i < R.phases.length := by have := of_decide_eq_true hc; omega
          have f2 := atPh (g := .no) (kk := .i64) hi1
          have hN := @upto_next i (fun i => flawIf (R.lastBad i) rule i 0)
          have hB := @upto_len (fun i => flawIf (R.lastBad i) rule i 0) 1 i fun k _ => flawIf_len ..
          generalize hfl : (upto i fun i => flawIf (R.lastBad i) rule i 0) = fl at hA hN hB
          have hbad : R.lastBad i = if (R.phases.getD i ph0).lenU = 3 then decide (((i + 1 : Nat) : Int) < (R.phases.length : Int)) else ((R.stepsOf (R.phases.getD i ph0)).2 != 0) || ((R.stepsOf (R.phases.getD i ph0)).1 == 0) := rfl
          generalize hp : R.phases.getD i ph0 = p at f2 hbad
          have hA1 := above_push (cs := p.row) hA
          have hp5 : (m'.push p.row).var m'.vars.length = some p.row := push_var
          have hw3' := push_old (cs' := p.row) hw3
          have l1 := lpPhLenU hp5
          have l2 := lpPhLen hp5
          have l3 := lpRcPhases hw3'
          have l4 := lpRcSteps hw3'
          have l5 := lpRcEpoch hw3'
          have r6 := next_i64 (i := i) (by omega)
          have hne : m.vars.length ≠ r0 := by omega
          by_cases h3 : p.lenU = 3
          · have b3 : (p.lenU == 3) = true := by simpa using h3
            rw [if_pos h3] at hbad
            obtain ⟨m2, n1, n2, n3⟩ := note_step hv hA1 (by omega) (decide (((i + 1 : Nat) : Int) < (R.phases.length : Int))) i 0
            rw [flawIf_app, ← hbad, ← hN] at n2
            refine go1 (jn @f2 (jn @l1 @b3)) ?_
            refine runs_cond rfl (fun hc => ?_) (fun hc => by cases hc)
            refine go1 (jn @l3 (jn @r6 (jn @t1 @n1))) ?_
            exact ⟨R.phases.length - (i + 1), by omega, i + 1, hi1, n2, n3 _ _ hne hw3', rfl, rfl⟩
          · have b3 : (p.lenU == 3) = false := by simpa using h3
            rw [if_neg h3] at hbad
            have f3 := fun mm => stepsLG_eq (u := p.lenU) (n := p.lenN) (of := R.steps) (ep := R.epoch) (m := mm)
            rw [show stepsP p.lenU p.lenN R.steps R.epoch = R.stepsOf p from rfl] at f3
            generalize R.stepsOf p = s at f3 hbad
            cases hs : (s.2 != 0) with
            | true =>
              rw [hs, Bool.true_or] at hbad
              obtain ⟨m2, n1, n2, n3⟩ := note_step hv hA1 (by omega) true i 0
              rw [flawIf_app, ← hbad, ← hN] at n2
              refine go1 (jn @f2 (jn @l1 @b3)) ?_
              refine runs_cond rfl (fun hc => by cases hc) (fun hc => ?_)
              refine go1 (jn @l2 (jn @l4 (jn @l5 (jn @t2 (jn @f3 (jn @hs (jn @t1 (jn @n1 @r6)))))))) ?_
              exact ⟨R.phases.length - (i + 1), by omega, i + 1, hi1, n2, n3 _ _ hne hw3', rfl, rfl⟩
            | false =>
              rw [hs, Bool.false_or] at hbad
              obtain ⟨m2, n1, n2, n3⟩ := note_step hv hA1 (by omega) (s.1 == 0) i 0
              rw [flawIf_app, ← hbad, ← hN] at n2
              refine go1 (jn @f2 (jn @l1 @b3)) ?_
              refine runs_cond rfl (fun hc => by cases hc) (fun hc => ?_)
              refine go1 (jn @l2 (jn @l4 (jn @l5 (jn @t2 (jn @f3 (jn @hs (jn @t1 (jn @n1 @r6)))))))) ?_
              exact ⟨R.phases.length - (i + 1), by omega, i + 1, hi1, n2, n3 _ _ hne hw3', rfl, rfl⟩
        · have hi1 : i = R.phases.length := by have := of_decide_eq_false hc; omega
          subst hi1
          refine go0 ?_
          exact leaves_none rfl (fin_flMem hv hA)
      · cases h
    · cases h
  · cases h
end Go.Proofs.YtojaokhkbmiidaaGreat.Ev

namespace Go.Proofs.YtojaokhkbmiidaaGreat.Ev
open Go Go.Proofs
set_option maxRecDepth 10000
set_option maxHeartbeats 8000000
set_option linter.unusedVariables false
set_option linter.unusedSimpArgs false
attribute [local irreducible] Next Inside Runs Ops table
attribute [local go_sem] szStr szInt Option.getD_some isNil evStr iv loadStr loadInt mapRc cellsRc newRc fpRcSteps fpRcEpoch fpRcMetrics fpRcEval rowsS_len
def lenRow (u n : Int) : List AV := [.v (.int .i64 u), .v (.int .i64 n)]
theorem cellsLen2 {u n : Int} : cellsOf (.agg (lenRow u n)) = some (lenRow u n) := rfl
theorem newLen2 {m : Mem} {u n : Int} : newVar m m.vars.length (lenRow u n) = some (m.push (lenRow u n)) := newVar_push rfl
theorem vrLen2 {m : Mem} {r : Nat} {u n : Int} (hv : m.var r = some (lenRow u n)) : evLoad Tryz.prog m 33 (.ptr r 0) = some (.agg [.v (.int .i64 u), .v (.int .i64 n)]) := by
  unfold evLoad
  simp only [ptrCells, hv, Option.map_some]
  rw [show tAgg Tryz.prog 33 = some true by kernel_rfl, show tSize Tryz.prog 33 = some 2 by kernel_rfl]
  rfl
def rstepsG : List AV → Mem → Option (AV × Mem)
  | [.agg cs, .agg [.v (.int .i64 u), .v (.int .i64 n)]], m =>
    match unRc cs with
    | some R => if lenMay u n ∧ 0 ≤ R.steps ∧ 0 ≤ R.epoch then some (.tup [.v (.int .i64 (stepsP u n R.steps R.epoch).1), .v (.int .i64 (stepsP u n R.steps R.epoch).2)], m) else none
    | none => none
  | _, _ => none
theorem rstepsG_at {R : Rc} {u n : Int} {m : Mem} (h : lenMay u n) (h1 : 0 ≤ R.steps) (h2 : 0 ≤ R.epoch) : rstepsG [.agg R.row, .agg [.v (.int .i64 u), .v (.int .i64 n)]] m = some (.tup [.v (.int .i64 (stepsP u n R.steps R.epoch).1), .v (.int .i64 (stepsP u n R.steps R.epoch).2)], m) := by
  simp only [rstepsG, unRc_row]
  rw [if_pos ⟨h, h1, h2⟩]
def kpRSteps : Nat → Option (List Nat) := fun
  | 0 => some [2, 3]
  | 1 => some [2, 3, 13]
  | 2 => some [4, 5]
  | 3 => some [4, 5]
  | _ => none
attribute [go_sem] kpRSteps
def tab_rsteps_ok : List (FuncId × (List AV → Mem → Option (AV × Mem))) := [(106, stepsRG)]
theorem rsteps_ok : FunOk Tryz.prog 49 rstepsG := by
  have hC := table_ok (P := Tryz.prog) (l := tab_rsteps_ok) (table_more stepsR_ok table_nil)
  have t1 := fun args mm => table_at (l := tab_rsteps_ok) (f := 106) (args := args) (m := mm) rfl
  refine fun_ok mixed hC Tryz.func49 rfl kpRSteps false rfl fun args m r h => ?_
  unfold rstepsG at h
  split at h
  · rename_i cs u n
    split at h
    · rename_i R hR
      obtain rfl := unRc_some hR
      split at h
      · rename_i hyp
        obtain ⟨hl, h1, h2⟩ := hyp
        simp only [Option.some.injEq] at h
        subst h
        refine ⟨Nat.le_of_ble_eq_true rfl, ?_⟩
        simp only [entry, List.length_cons, List.length_nil, List.range, List.range.loop, List.zip_cons_cons, List.zip_nil_right]
        rw [show ([.v (.int .i64 u), .v (.int .i64 n)] : List AV) = lenRow u n from rfl]
        have hA := above_push (cs := lenRow u n) (above_push (cs := R.row) (above_self m))
        have hv := push_old (cs' := lenRow u n) (show (m.push R.row).var m.vars.length = some R.row from push_var)
        have hw : ((m.push R.row).push (lenRow u n)).var (m.push R.row).vars.length = some (lenRow u n) := push_var
        have l1 := lpRcSteps hv
        have l2 := lpRcEpoch hv
        have l3 := vrLen2 hw
        by_cases b1 : R.steps > 1048576
        · have c1 : decide (R.steps > 1048576) = true := decide_eq_true b1
          have e : stepsP u n R.steps R.epoch = (0, 1) := if_neg (fun h => by have := h.2.1; unfold inS at this; omega)
          rw [e]
          repeat' (first | refine gos1 (jn @cellsLen2 (jn @newLen2 (jn @l1 @c1))) ?_ | (refine ops_here ?_; (fail_if_success (refine ops_case (B := true) rfl rfl rfl ?_ ?_)); (fail_if_success (refine ops_case (B := false) rfl rfl rfl ?_ ?_)); refine ops_case rfl rfl rfl (fun hB => ?_) (fun hB => ?_) <;> rw [hB]) | (refine runs_here ?_; refine runs_cond rfl (fun hc => ?_) (fun hc => ?_) <;> first | (cases hc; done) | skip))
          exact leaves_two rfl rfl rfl (above_fin hA)
        · have c1 : decide (R.steps > 1048576) = false := decide_eq_false b1
          by_cases b2 : R.epoch > 1048576
          · have c2 : decide (R.epoch > 1048576) = true := decide_eq_true b2
            have e : stepsP u n R.steps R.epoch = (0, 1) := if_neg (fun h => by have := h.2.2; unfold inS at this; omega)
            rw [e]
            repeat' (first | refine gos1 (jn @cellsLen2 (jn @newLen2 (jn @l1 (jn @l2 (jn @c1 @c2))))) ?_ | (refine ops_here ?_; (fail_if_success (refine ops_case (B := true) rfl rfl rfl ?_ ?_)); (fail_if_success (refine ops_case (B := false) rfl rfl rfl ?_ ?_)); refine ops_case rfl rfl rfl (fun hB => ?_) (fun hB => ?_) <;> rw [hB]) | (refine runs_here ?_; refine runs_cond rfl (fun hc => ?_) (fun hc => ?_) <;> first | (cases hc; done) | skip))
            exact leaves_two rfl rfl rfl (above_fin hA)
          · have c2 : decide (R.epoch > 1048576) = false := decide_eq_false b2
            have hb : lenMay u n ∧ inS R.steps ∧ inS R.epoch := ⟨hl, ⟨h1, by omega⟩, ⟨h2, by omega⟩⟩
            have f1 : ∀ mm, stepsRG [.agg [.v (.int .i64 u), .v (.int .i64 n)], .v (.int .i64 R.steps), .v (.int .i64 R.epoch)] mm = some (.tup [.v (.int .i64 (stepsP u n R.steps R.epoch).1), .v (.int .i64 (stepsP u n R.steps R.epoch).2)], mm) := fun mm => by
              simp only [stepsRG, stepsP]
              rw [if_pos hb, if_pos hb]
              split <;> rfl
            repeat' (first | refine gos1 (jn @cellsLen2 (jn @newLen2 (jn @l1 (jn @l2 (jn @l3 (jn @c1 (jn @c2 (jn @t1 @f1)))))))) ?_ | (refine ops_here ?_; (fail_if_success (refine ops_case (B := true) rfl rfl rfl ?_ ?_)); (fail_if_success (refine ops_case (B := false) rfl rfl rfl ?_ ?_)); refine ops_case rfl rfl rfl (fun hB => ?_) (fun hB => ?_) <;> rw [hB]) | (refine runs_here ?_; refine runs_cond rfl (fun hc => ?_) (fun hc => ?_) <;> first | (cases hc; done) | skip))
            exact leaves_two rfl rfl rfl (above_fin hA)
      · cases h
    · cases h
  · cases h
/-! ### first, seen -/
def firstG : List AV → Mem → Option (AV × Mem)
  | [.lst _ 1 rows, .v (.int .i64 i)], m =>
    match unS rows with
    | some l => if l.length ≤ 1000 ∧ 0 ≤ i ∧ i < (l.length : Int) then some (.v (.bool (placeOf l (l.getD i.toNat ⟨#[]⟩) == i)), m) else none
    | none => none
  | _, _ => none
theorem firstG_at {m : Mem} {g : Grow} {l : List ByteArray} {i : Nat} (h : l.length ≤ 1000) (h1 : i < l.length) : firstG [.lst g 1 (rowsS l), .v (.int .i64 (i : Int))] m = some (.v (.bool (placeOf l (l.getD i ⟨#[]⟩) == (i : Int))), m) := by
  simp only [firstG, unS_rowsS]
  rw [if_pos ⟨h, by omega, by omega⟩, Int.toNat_natCast]
def kpFirst20 : Nat → Option (List Nat) := fun
  | 0 => some [0, 1]
  | 1 => some [4]
  | _ => none
attribute [go_sem] kpFirst20
def tab_first20_ok : List (FuncId × (List AV → Mem → Option (AV × Mem))) := [(93, placeG)]
theorem first20_ok : FunOk Tryz.prog 99 firstG := by
  have hC := table_ok (P := Tryz.prog) (l := tab_first20_ok) (table_more refPlace_ok table_nil)
  have t1 := fun args mm => table_at (l := tab_first20_ok) (f := 93) (args := args) (m := mm) rfl
  refine fun_ok mixed hC Tryz.func99 rfl kpFirst20 false rfl fun args m r h => ?_
  unfold firstG at h
  split at h
  · rename_i g rows i
    split at h
    · rename_i l hl
      obtain rfl := unS_some hl
      split at h
      · rename_i hyp
        obtain ⟨h0, h1, h2⟩ := hyp
        obtain ⟨j, rfl⟩ := Int.eq_ofNat_of_zero_le h1
        simp only [Option.some.injEq, Int.toNat_natCast] at h
        subst h
        refine ⟨Nat.le_of_ble_eq_true rfl, ?_⟩
        simp only [entry, List.length_cons, List.length_nil, List.range, List.range.loop, List.zip_cons_cons, List.zip_nil_right]
        have f1 := atStrs (g := g) (kk := .i64) (l := l) (i := j) (by omega)
        have f2 := fun mm => placeG_eq (m := mm) (g := .no) (s := l.getD j ⟨#[]⟩) (show l.length ≤ 9223372036854775807 by omega)
        refine go1 (jn @f1 (jn @t1 @f2)) ?_
        exact leaves_v rfl rfl
      · cases h
    · cases h
  · cases h
def Rc.seen (R : Rc) (s : ByteArray) : Bool := decide (placeOf R.metrics s ≥ 0) && decide (R.eval > 0)
def seenG : List AV → Mem → Option (AV × Mem)
  | [.agg cs, .v (.string s)], m =>
    match unRc cs with
    | some R => if R.metrics.length ≤ 64 then some (.v (.bool (R.seen s)), m) else none
    | none => none
  | _, _ => none
theorem seenG_at {R : Rc} {s : ByteArray} {m : Mem} (h : R.metrics.length ≤ 64) : seenG [.agg R.row, .v (.string s)] m = some (.v (.bool (R.seen s)), m) := by
  simp only [seenG, unRc_row]
  rw [if_pos h]
def kpSeen20 : Nat → Option (List Nat) := fun
  | 0 => some [1, 2]
  | 1 => some [4]
  | _ => none
attribute [go_sem] kpSeen20
def tab_seen20_ok : List (FuncId × (List AV → Mem → Option (AV × Mem))) := [(93, placeG)]
theorem seen20_ok : FunOk Tryz.prog 140 seenG := by
  have hC := table_ok (P := Tryz.prog) (l := tab_seen20_ok) (table_more refPlace_ok table_nil)
  have t1 := fun args mm => table_at (l := tab_seen20_ok) (f := 93) (args := args) (m := mm) rfl
  refine fun_ok mixed hC Tryz.func140 rfl kpSeen20 false rfl fun args m r h => ?_
  unfold seenG at h
  split at h
  · rename_i cs s
    split at h
    · rename_i R hR
      obtain rfl := unRc_some hR
      split at h
      · rename_i h64
        simp only [Option.some.injEq] at h
        subst h
        refine ⟨Nat.le_of_ble_eq_true rfl, ?_⟩
        simp only [entry, List.length_cons, List.length_nil, List.range, List.range.loop, List.zip_cons_cons, List.zip_nil_right]
        have hv : (m.push R.row).var m.vars.length = some R.row := push_var
        have l1 := lpRcMetrics hv
        have l2 := lpRcEval hv
        have f2 := fun mm => placeG_eq (m := mm) (g := .no) (s := s) (show R.metrics.length ≤ 9223372036854775807 by omega)
        unfold Rc.seen
        cases hb : decide (placeOf R.metrics s ≥ 0) with
        | true =>
          refine go1 (jn @l1 (jn @t1 (jn @f2 (jn @hb @l2)))) ?_
          exact leaves_fin rfl rfl fin_push
        | false =>
          refine go1 (jn @l1 (jn @t1 (jn @f2 (jn @hb @l2)))) ?_
          exact leaves_fin rfl rfl fin_push
      · cases h
    · cases h
  · cases h
end Go.Proofs.YtojaokhkbmiidaaGreat.Ev

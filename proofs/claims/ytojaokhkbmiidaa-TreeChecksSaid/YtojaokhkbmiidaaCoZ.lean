/- Nodes: the document's test of one node, kind by kind. -/
import Derived.Test.YtojaokhkbmiidaaCoY
namespace Go.Proofs.Ytojaokhkbmiidaa.Ev
open Go Go.Proofs
set_option maxRecDepth 10000
set_option maxHeartbeats 16000000
set_option linter.unusedVariables false
set_option linter.unusedSimpArgs false
def inQ (x : Int) : Prop := 0 ≤ x ∧ x ≤ 4503599627370496
instance (x : Int) : Decidable (inQ x) := by unfold inQ; exact inferInstance
def mayN (x : Nd) : Prop := 1 ≤ x.op ∧ x.op ≤ 9 ∧ inQ x.a ∧ inQ x.b ∧ inQ x.c ∧ 0 ≤ x.k ∧ (x.op = 9 → x.a = 0) ∧ ((x.op < 2 ∨ 7 < x.op) → x.b = 0) ∧ (x.op ≠ 6 → x.c = 0) ∧
  ((x.op ≠ 3 ∧ x.op ≠ 4 ∧ x.op ≠ 6 ∧ x.op ≠ 7) → x.k = 0) ∧ (x.op < 7 → x.u = 0 ∧ x.n = 0) ∧ ((x.op = 3 ∨ x.op = 7) → x.k ≤ 1099511627776) ∧ (x.op = 4 → x.k ≤ 4503599627370496) ∧ (x.op = 6 → x.k ≤ 100) ∧ lenMay x.u x.n ∧ x.u ≠ 3
instance (x : Nd) : Decidable (mayN x) := by unfold mayN; exact inferInstance
def mayAt (p : Int → Bool) : List AV → Mem → Option (AV × Mem)
  | [.agg cs], m =>
    match unNd cs with
    | some x => if p x.op = true then some (.v (.bool (decide (mayN x))), m) else none
    | none => none
  | _, _ => none
def mayG : List AV → Mem → Option (AV × Mem) := mayAt fun _ => true
theorem may_all {P : Program} {f : FuncId} (h : ∀ op, ∃ p : Int → Bool, p op = true ∧ FunOk P f (mayAt p)) : FunOk P f mayG := by
  intro args m r m' hg
  unfold mayG mayAt at hg
  split at hg
  · rename_i cs
    split at hg
    · rename_i x hx
      obtain ⟨p, hp, hok⟩ := h x.op
      refine hok _ m r m' ?_
      simp only [mayAt, hx]
      rw [if_pos hp]
      simpa using hg
    · cases hg
  · cases hg
theorem nf0 {r : Nat} : evFieldAddr Try.prog 56 (.ptr r 0) 0 = some (.ptr r 0) := by kernel_rfl
theorem nf1 {r : Nat} : evFieldAddr Try.prog 56 (.ptr r 0) 1 = some (.ptr r (0 + 1)) := by kernel_rfl
theorem nf2 {r : Nat} : evFieldAddr Try.prog 56 (.ptr r 0) 2 = some (.ptr r (0 + 2)) := by kernel_rfl
theorem nf3 {r : Nat} : evFieldAddr Try.prog 56 (.ptr r 0) 3 = some (.ptr r (0 + 3)) := by kernel_rfl
theorem nf4 {r : Nat} : evFieldAddr Try.prog 56 (.ptr r 0) 4 = some (.ptr r (0 + 4)) := by kernel_rfl
theorem nf5 {r : Nat} : evFieldAddr Try.prog 56 (.ptr r 0) 5 = some (.ptr r (0 + 5)) := by kernel_rfl
theorem lf0 {r : Nat} : evFieldAddr Try.prog 54 (.ptr r 5) 0 = some (.ptr r 5) := by kernel_rfl
def nrow (op a b c k u n : Int) : List AV := [.v (.int .i64 op), .v (.int .i64 a), .v (.int .i64 b), .v (.int .i64 c), .v (.int .i64 k), .v (.int .i64 u), .v (.int .i64 n)]
theorem nh0 {op a b c k u n : Int} : ((nrow op a b c k u n).drop 0).head? = some (.v (.int .i64 op)) := rfl
theorem nh1 {op a b c k u n : Int} : ((nrow op a b c k u n).drop 1).head? = some (.v (.int .i64 a)) := rfl
theorem nh2 {op a b c k u n : Int} : ((nrow op a b c k u n).drop 2).head? = some (.v (.int .i64 b)) := rfl
theorem nh3 {op a b c k u n : Int} : ((nrow op a b c k u n).drop 3).head? = some (.v (.int .i64 c)) := rfl
theorem nh4 {op a b c k u n : Int} : ((nrow op a b c k u n).drop 4).head? = some (.v (.int .i64 k)) := rfl
theorem nh5 {op a b c k u n : Int} : ((nrow op a b c k u n).drop 5).head? = some (.v (.int .i64 u)) := rfl
theorem newNode {m : Mem} {op a b c k u n : Int} : newVar m m.vars.length (nrow op a b c k u n) = some (m.push (nrow op a b c k u n)) := newVar_push rfl
theorem cellsNode {op a b c k u n : Int} : cellsOf (.agg (nrow op a b c k u n)) = some (nrow op a b c k u n) := rfl
theorem loadNodeLen {m : Mem} {op a b c k u n : Int} : evLoad Try.prog (m.push (nrow op a b c k u n)) 54 (.ptr m.vars.length 5) = some (.agg [.v (.int .i64 u), .v (.int .i64 n)]) := by
  unfold evLoad
  simp only [ptrCells, push_var, Option.map_some]
  rw [show tAgg Try.prog 54 = some true by kernel_rfl, show tSize Try.prog 54 = some 2 by kernel_rfl]
  rfl
theorem zeroLen : evBuild Try.prog 54 [] = some (.agg [.v (.int .i64 0), .v (.int .i64 0)]) := by kernel_rfl
theorem niLen : noIface Try.prog 8 54 = true := by kernel_rfl
theorem eqLen {u n u2 n2 : Int} : eqTy Try.prog 8 54 (.agg [.v (.int .i64 u), .v (.int .i64 n)]) (.agg [.v (.int .i64 u2), .v (.int .i64 n2)]) = some ((u == u2) && ((n == n2) && true)) := by kernel_rfl
theorem unNd_row {cs : List AV} {x : Nd} (h : unNd cs = some x) : cs = nrow x.op x.a x.b x.c x.k x.u x.n := unNd_some h
attribute [local irreducible] Next Inside Runs Ops table nrow
def kpRefMay : Nat → Option (List Nat) := fun _ => some [0, 1, 2, 3, 4, 5, 65, 111, 145]
def tabRefMay : List (FuncId × (List AV → Mem → Option (AV × Mem))) := [(54, upTo 4503599627370496), (55, lenMayG)]
theorem q_eq (c x : Int) (mm : Mem) : upTo c [.v (.int .i64 x)] mm = some (.v (.bool (decide (0 ≤ x ∧ x ≤ c))), mm) := rfl
theorem lm_eq (u n : Int) (mm : Mem) : lenMayG [.agg [.v (.int .i64 u), .v (.int .i64 n)]] mm = some (.v (.bool (decide (lenMay u n))), mm) := rfl
end Go.Proofs.Ytojaokhkbmiidaa.Ev

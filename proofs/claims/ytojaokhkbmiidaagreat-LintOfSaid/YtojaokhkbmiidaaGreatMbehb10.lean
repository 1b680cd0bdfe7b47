/- Trees over steps: how many steps each node has, which ones are reached. -/
import Derived.Test.YtojaokhkbmiidaaGreatMbehb6
import Derived.Test.YtojaokhkbmiidaaGreatMbehb9
import Derived.Test.YtojaokhkbmiidaaGreatMbehb8
import Derived.Test.YtojaokhkbmiidaaGreatMbehb1
namespace Go.Proofs.YtojaokhkbmiidaaGreat.Ev
open Go Go.Proofs
set_option maxRecDepth 10000
set_option maxHeartbeats 8000000
set_option linter.unusedVariables false
set_option linter.unusedSimpArgs false
section
attribute [local irreducible] Next Inside Runs Ops table
section
variable {l : List Nd} {ep : Int}
theorem end_leaf {p : Nat} (h : 0 ≤ endOf l (p : Int)) (h1 : 1 ≤ (l.getD p nd0).op) (h2 : (l.getD p nd0).op ≤ 7) : endOf l (p : Int) = ((p + 1 : Nat) : Int) := by
 obtain ⟨hp, hA⟩ := end_arity h
 have ha : arAt l (p : Int) = 0 := by
  unfold arAt arityOf
  rw [Int.toNat_natCast, if_neg (by omega), if_pos (by omega)]
  rfl
 rw [ha] at hA
 rw [hA]
 unfold endW
 rfl
theorem end_one {p : Nat} (h : 0 ≤ endOf l (p : Int)) (h8 : (l.getD p nd0).op = 8) : endOf l ((p + 1 : Nat) : Int) = endOf l (p : Int) := by
 obtain ⟨hp, hA⟩ := end_arity h
 have ha : arAt l (p : Int) = 1 := by
  unfold arAt arityOf
  rw [Int.toNat_natCast, h8]
  rfl
 rw [ha] at hA
 rw [endOf_nat, hA]
theorem end_two {p : Nat} (h : 0 ≤ endOf l (p : Int)) (h9 : (l.getD p nd0).op = 9) : ∃ q : Nat, endOf l ((p + 1 : Nat) : Int) = (q : Int) ∧ p + 1 < q ∧ endOf l (q : Int) = endOf l (p : Int) := by
 obtain ⟨hp, hA⟩ := end_arity h
 have ha : arAt l (p : Int) = 2 := by
  unfold arAt arityOf
  rw [Int.toNat_natCast, h9]
  rfl
 rw [ha] at hA
 have h2 := endW_add l (l.drop (p + 1)) 1 1 (p + 1) rfl
 rw [show 1 + 1 = 2 from rfl, ← hA, ← endOf_nat] at h2
 have hin := endOf_in l ((p + 1 : Nat) : Int)
 by_cases hn : endOf l ((p + 1 : Nat) : Int) < 0
 ·rw [if_pos hn] at h2
  omega
 ·rw [if_neg hn] at h2
  obtain ⟨q, hq⟩ := Int.eq_ofNat_of_zero_le (by omega : 0 ≤ endOf l ((p + 1 : Nat) : Int))
  rw [hq, Int.toNat_natCast, ← endOf_nat] at h2
  exact ⟨q, hq, by omega, h2.symm⟩
def stepsF (l : List Nd) (ep : Int) : Nat → Nat → Int → List Int
 | 0, _, _ => []
 | f + 1, p, n =>
  let x := l.getD p nd0
  let w := withinV x.u x.n n ep
  if x.op = 8 then n :: stepsF l ep f (p + 1) (n - w)
  else if x.op = 9 then n :: (stepsF l ep f (p + 1) w ++ stepsF l ep f (endOf l ((p + 1 : Nat) : Int)).toNat (n - w))
  else [n]
def reachF (l : List Nd) (ep : Int) : Nat → Nat → Int → List Bool → List Bool
 | 0, _, _, b => b
 | f + 1, p, n, b =>
  if n = 0 then b else
  let x := l.getD p nd0
  let w := withinV x.u x.n n ep
  if x.op = 8 then reachF l ep f (p + 1) (n - w) (b.set p true)
  else if x.op = 9 then reachF l ep f (endOf l ((p + 1 : Nat) : Int)).toNat (n - w) (reachF l ep f (p + 1) w (b.set p true))
  else b.set p true
theorem stepsF_fuel : ∀ (f f' p : Nat) (n : Int), 0 ≤ endOf l (p : Int) → endOf l (p : Int) - (p : Int) ≤ (f : Int) → endOf l (p : Int) - (p : Int) ≤ (f' : Int) → stepsF l ep f p n = stepsF l ep f' p n
 | 0, f', p, n, h, h1, _ => by have := endOf_in l (p : Int); omega
 | f + 1, 0, p, n, h, _, h2 => by have := endOf_in l (p : Int); omega
 | f + 1, f' + 1, p, n, h, h1, h2 => by
  simp only [stepsF]
  split
  ·rename_i h8
   have e := end_one h h8
   rw [stepsF_fuel f f' (p + 1) _ (by omega) (by omega) (by omega)]
  ·split
   ·rename_i h9
    obtain ⟨q, e1, e2, e3⟩ := end_two h h9
    have hin := endOf_in l (q : Int)
    rw [e1, Int.toNat_natCast, stepsF_fuel f f' (p + 1) _ (by omega) (by omega) (by omega), stepsF_fuel f f' q _ (by omega) (by omega) (by omega)]
   ·rfl
theorem reachF_fuel : ∀ (f f' p : Nat) (n : Int) (b : List Bool), 0 ≤ endOf l (p : Int) → endOf l (p : Int) - (p : Int) ≤ (f : Int) → endOf l (p : Int) - (p : Int) ≤ (f' : Int) → reachF l ep f p n b = reachF l ep f' p n b
 | 0, f', p, n, b, h, h1, _ => by have := endOf_in l (p : Int); omega
 | f + 1, 0, p, n, b, h, _, h2 => by have := endOf_in l (p : Int); omega
 | f + 1, f' + 1, p, n, b, h, h1, h2 => by
  simp only [reachF]
  split
  ·rfl
  split
  ·rename_i h8
   have e := end_one h h8
   rw [reachF_fuel f f' (p + 1) _ _ (by omega) (by omega) (by omega)]
  ·split
   ·rename_i h9
    obtain ⟨q, e1, e2, e3⟩ := end_two h h9
    have hin := endOf_in l (q : Int)
    rw [e1, Int.toNat_natCast, reachF_fuel f f' (p + 1) _ _ (by omega) (by omega) (by omega), reachF_fuel f f' q _ _ (by omega) (by omega) (by omega)]
   ·rfl
theorem stepsF_len (hm : ∀ x ∈ l, mayN x) : ∀ (f p : Nat) (n : Int), 0 ≤ endOf l (p : Int) → endOf l (p : Int) - (p : Int) ≤ (f : Int) → (stepsF l ep f p n).length = (endOf l (p : Int)).toNat - p
 | 0, p, n, h, h1 => by have := endOf_in l (p : Int); omega
 | f + 1, p, n, h, h1 => by
  have hin := endOf_in l (p : Int)
  simp only [stepsF]
  split
  ·rename_i h8
   have e := end_one h h8
   rw [List.length_cons, stepsF_len hm f (p + 1) _ (by omega) (by omega)]
   have hin2 := endOf_in l ((p + 1 : Nat) : Int)
   omega
  ·split
   ·rename_i h9
    obtain ⟨q, e1, e2, e3⟩ := end_two h h9
    have hin2 := endOf_in l (q : Int)
    rw [List.length_cons, List.length_append, e1, Int.toNat_natCast, stepsF_len hm f (p + 1) _ (by omega) (by omega), stepsF_len hm f q _ (by omega) (by omega)]
    omega
   ·rename_i h8 h9
    have hx : mayN (l.getD p nd0) := hm _ (by rw [List.getD, List.getElem?_eq_getElem (show p < l.length by omega)]; exact List.getElem_mem _)
    unfold mayN at hx
    rw [end_leaf h (by omega) (by omega)]
    simp
theorem within_zero {u n : Int} (h : lenMay u n) (he : inW ep) : withinV u n 0 ep = 0 := by
 have := withinV_in (of := 0) h ⟨by omega, by omega⟩ he
 omega
theorem stepsF_zero (hm : ∀ x ∈ l, mayN x) (he : inW ep) : ∀ (f p j : Nat), (stepsF l ep f p 0).getD j 0 = 0
 | 0, p, j => by simp [stepsF]
 | f + 1, p, j => by
  have hx : withinV (l.getD p nd0).u (l.getD p nd0).n 0 ep = 0 := by
   by_cases hp : p < l.length
   ·have hx : mayN (l.getD p nd0) := hm _ (by rw [List.getD, List.getElem?_eq_getElem hp]; exact List.getElem_mem _)
    unfold mayN at hx
    exact within_zero hx.2.2.2.2.2.2.2.2.2.2.2.2.2.2.1 he
   ·rw [List.getD, List.getElem?_eq_none (by omega)]
    exact within_zero (by decide) he
  simp only [stepsF, hx, Int.sub_zero]
  split
  ·cases j with
   | zero => rfl
   | succ j => rw [List.getD_cons_succ]; exact stepsF_zero hm he f (p + 1) j
  ·split
   ·cases j with
    | zero => rfl
    | succ j =>
     rw [List.getD_cons_succ]
     simp only [List.getD, List.getElem?_append]
     split
     ·exact stepsF_zero hm he f (p + 1) j
     ·exact stepsF_zero hm he f _ _
   ·cases j with
    | zero => rfl
    | succ j => simp
theorem getD_setB {b : List Bool} {p i : Nat} (hp : p < b.length) : (b.set p true).getD i false = (decide (i = p) || b.getD i false) := by
 simp only [List.getD, List.getElem?_set]
 by_cases h : p = i
 ·subst h; simp [hp]
 ·have h' : ¬ i = p := fun e => h e.symm
  simp [h, h']
/-- Reached just where there are steps. -/
theorem reach_marks (hm : ∀ x ∈ l, mayN x) (he : inW ep) : ∀ (f p : Nat) (n : Int) (b : List Bool), 0 ≤ endOf l (p : Int) → endOf l (p : Int) - (p : Int) ≤ (f : Int) → inW n → b.length = l.length →
  (reachF l ep f p n b).length = b.length ∧ ∀ i, (reachF l ep f p n b).getD i false = (b.getD i false || (decide (p ≤ i) && decide (0 < (stepsF l ep f p n).getD (i - p) 0)))
 | 0, p, n, b, h, h1, _, _ => by have := endOf_in l (p : Int); omega
 | f + 1, p, n, b, h, h1, hn, hb => by
  have hin := endOf_in l (p : Int)
  have hpl : p < l.length := by omega
  have hx : mayN (l.getD p nd0) := hm _ (by rw [List.getD, List.getElem?_eq_getElem hpl]; exact List.getElem_mem _)
  unfold mayN at hx
  have hlen : lenMay (l.getD p nd0).u (l.getD p nd0).n := hx.2.2.2.2.2.2.2.2.2.2.2.2.2.2.1
  have hw := withinV_in hlen hn he
  by_cases h0 : n = 0
  ·subst h0
   have e : reachF l ep (f + 1) p 0 b = b := by simp only [reachF]; rw [if_pos trivial]
   rw [e]
   refine ⟨rfl, fun i => ?_⟩
   rw [stepsF_zero hm he]
   simp
  ·have hn0 : 0 < n := by unfold inW at hn; omega
   have hs : (b.set p true).length = l.length := by rw [List.length_set]; exact hb
   have hg := fun i => getD_setB (b := b) (p := p) (i := i) (by omega)
   simp only [reachF, stepsF]
   rw [if_neg h0]
   obtain ⟨w, hwd⟩ : ∃ w, w = withinV (l.getD p nd0).u (l.getD p nd0).n n ep := ⟨_, rfl⟩
   simp only [← hwd] at hw ⊢
   unfold inW at hn
   by_cases h8 : (l.getD p nd0).op = 8
   ·rw [if_pos h8, if_pos h8]
    have e := end_one h h8
    obtain ⟨g1, g2⟩ := reach_marks hm he f (p + 1) (n - w) (b.set p true) (by omega) (by omega) ⟨by omega, by omega⟩ hs
    refine ⟨by rw [g1, List.length_set], fun i => ?_⟩
    rw [g2 i, hg i]
    rcases Nat.lt_trichotomy i p with hlt | rfl | hgt
    ·simp [show ¬ i = p by omega, show ¬ p + 1 ≤ i by omega, show ¬ p ≤ i by omega]
    ·simp [hn0]
    ·obtain ⟨j, rfl⟩ : ∃ j, i = p + 1 + j := ⟨i - (p + 1), by omega⟩
     rw [show p + 1 + j - p = j + 1 by omega, List.getD_cons_succ, show p + 1 + j - (p + 1) = j by omega]
     simp [show ¬ p + 1 + j = p by omega, show p ≤ p + 1 + j by omega]
   ·rw [if_neg h8, if_neg h8]
    by_cases h9 : (l.getD p nd0).op = 9
    ·rw [if_pos h9, if_pos h9]
     obtain ⟨q, e1, e2, e3⟩ := end_two h h9
     have hin2 := endOf_in l (q : Int)
     rw [e1, Int.toNat_natCast]
     obtain ⟨g1, g2⟩ := reach_marks hm he f (p + 1) w (b.set p true) (by omega) (by omega) ⟨by omega, by omega⟩ hs
     obtain ⟨k1, k2⟩ := reach_marks hm he f q (n - w) (reachF l ep f (p + 1) w (b.set p true)) (by omega) (by omega) ⟨by omega, by omega⟩ (by rw [g1]; exact hs)
     have hS := stepsF_len (ep := ep) hm f (p + 1) w (by omega) (by omega)
     rw [e1, Int.toNat_natCast] at hS
     refine ⟨by rw [k1, g1, List.length_set], fun i => ?_⟩
     rw [k2 i, g2 i, hg i]
     rcases Nat.lt_trichotomy i p with hlt | rfl | hgt
     ·simp [show ¬ i = p by omega, show ¬ p + 1 ≤ i by omega, show ¬ p ≤ i by omega, show ¬ q ≤ i by omega]
     ·simp [hn0]
     ·obtain ⟨j, rfl⟩ : ∃ j, i = p + 1 + j := ⟨i - (p + 1), by omega⟩
      rw [show p + 1 + j - p = j + 1 by omega, List.getD_cons_succ, show p + 1 + j - (p + 1) = j by omega]
      have ga : ∀ (A B : List Int), (A ++ B).getD j 0 = if j < A.length then A.getD j 0 else B.getD (j - A.length) 0 := fun A B => by
       simp only [List.getD, List.getElem?_append]
       split <;> rfl
      by_cases hj : j < (stepsF l ep f (p + 1) w).length
      ·simp only [ga, if_pos hj]
       rw [hS] at hj
       simp [show ¬ p + 1 + j = p by omega, show p ≤ p + 1 + j by omega, show ¬ q ≤ p + 1 + j by omega]
      ·have hz : (stepsF l ep f (p + 1) w).getD j 0 = 0 := by rw [List.getD, List.getElem?_eq_none (by omega)]; rfl
       simp only [ga, if_neg hj, hz, hS]
       rw [hS] at hj
       rw [show p + 1 + j - q = j - (q - (p + 1)) by omega]
       simp [show ¬ p + 1 + j = p by omega, show p ≤ p + 1 + j by omega, show q ≤ p + 1 + j by omega, hj]
    ·rw [if_neg h9, if_neg h9]
     refine ⟨List.length_set, fun i => ?_⟩
     rw [hg i]
     rcases Nat.lt_trichotomy i p with hlt | rfl | hgt
     ·simp [show ¬ i = p by omega, show ¬ p ≤ i by omega]
     ·simp [hn0]
     ·obtain ⟨j, rfl⟩ : ∃ j, i = p + 1 + j := ⟨i - (p + 1), by omega⟩
      rw [show p + 1 + j - p = j + 1 by omega, List.getD_cons_succ]
      simp [show ¬ p + 1 + j = p by omega]
end
end
section
attribute [local irreducible] Next Inside Runs Ops table
attribute [local go_sem] szStr szInt Option.getD_some isNil evStr loadStr loadInt fldOp ldOp evMinMax evFoldI
theorem leaves_void {P : Program} {fn : Func} {m m' m2 : Mem} {e : Env} (h : fn.results = #[]) (hm : finMem m m' = m2) : Leaves P false fn m (.tup [], m2) .ret e m' := by
 show evRet P false fn m e m' = _
 unfold evRet
 rw [h]
 simp [hm]
theorem fldLen {x : Nd} : evFieldAddr Tryz.prog 102 (.eptr x.row) 5 = some (.eptr [iv x.u, iv x.n]) := by kernel_rfl
theorem ldLen {m : Mem} {u n : Int} : evLoad Tryz.prog m 33 (.eptr [iv u, iv n]) = some (.agg [.v (.int .i64 u), .v (.int .i64 n)]) := by kernel_rfl
theorem at_k1 {a : Int} : evIndexAddr Tryz.prog 77 (.lst .no 1 (rowsI [a])) (.v (.int .i64 0)) = some (.eptr [.v (.int .i64 a)]) := by kernel_rfl
theorem at_k20 {a b : Int} : evIndexAddr Tryz.prog 77 (.lst .no 1 (rowsI [a, b])) (.v (.int .i64 0)) = some (.eptr [.v (.int .i64 a)]) := by kernel_rfl
theorem at_k21 {a b : Int} : evIndexAddr Tryz.prog 77 (.lst .no 1 (rowsI [a, b])) (.v (.int .i64 1)) = some (.eptr [.v (.int .i64 b)]) := by kernel_rfl
/-! ### whether a number is within -/
def withinIG : List AV → Mem → Option (AV × Mem)
 | [.v (.int .i64 x)], m => some (.v (.bool (decide (inW x))), m)
 | _, _ => none
def kpWithinI : Nat → Option (List Nat) := fun
 | 0 => some [0]
 | 1 => some [2]
 | _ => none
attribute [go_sem] kpWithinI
theorem withinI_ok : FunOk Tryz.prog 108 withinIG := by
 have hC := table_ok (P := Tryz.prog) (l := []) table_nil
 refine fun_ok mixed hC Tryz.func108 rfl kpWithinI false rfl fun args m r h => ?_
 unfold withinIG at h
 split at h
 ·rename_i x
  simp only [Option.some.injEq] at h
  subst h
  refine ⟨Nat.le_of_ble_eq_true rfl, ?_⟩
  refine en ?_
  by_cases h0 : x ≥ 0
  ·have b0 : decide (x ≥ 0) = true := decide_eq_true h0
   by_cases h1 : x ≤ 1000000
   ·have b1 : decide (x ≤ 1000000) = true := decide_eq_true h1
    rw [decide_eq_true (show inW x from ⟨h0, h1⟩)]
    refine go1 (jn @b0 @b1) ?_
    exact leaves_v rfl rfl
   ·have b1 : decide (x ≤ 1000000) = false := decide_eq_false h1
    rw [decide_eq_false (fun h : inW x => h1 h.2)]
    refine go1 (jn @b0 @b1) ?_
    exact leaves_v rfl rfl
  ·have b0 : decide (x ≥ 0) = false := decide_eq_false h0
   rw [decide_eq_false (fun h : inW x => h0 h.1)]
   refine go1 @b0 ?_
   exact leaves_v rfl rfl
 ·cases h
/-! ### what is below -/
theorem below8 {l : List Nd} {p : Nat} (h : 0 ≤ endOf l (p : Int)) (h8 : (l.getD p nd0).op = 8) : belowOf l (p : Int) = [((p + 1 : Nat) : Int)] := by
 have hin := endOf_in l (p : Int)
 have ha : arAt l (p : Int) = 1 := by
  unfold arAt arityOf
  rw [Int.toNat_natCast, h8]
  rfl
 unfold belowOf
 rw [if_neg (by omega), ha]
 rfl
theorem below9 {l : List Nd} {p q : Nat} (h : 0 ≤ endOf l (p : Int)) (h9 : (l.getD p nd0).op = 9) (hq : endOf l ((p + 1 : Nat) : Int) = (q : Int)) : belowOf l (p : Int) = [((p + 1 : Nat) : Int), (q : Int)] := by
 have hin := endOf_in l (p : Int)
 have ha : arAt l (p : Int) = 2 := by
  unfold arAt arityOf
  rw [Int.toNat_natCast, h9]
  rfl
 unfold belowOf
 rw [if_neg (by omega), ha, ← hq]
 rfl
/-! ### reach -/
def reachGk (n : Nat) : List AV → Mem → Option (AV × Mem)
 | [.lst _ 7 rows, .v (.int .i64 at_), .v (.int .i64 k), .v (.int .i64 ep), .vs r 0 1 c d], m =>
  match unN rows, (m.var r).bind unBC with
  | some l, some b => if ((l.length ≤ big40 ∧ 0 ≤ at_ ∧ 0 ≤ endOf l at_ ∧ ∀ x ∈ l, mayN x) ∧ inW k ∧ inW ep ∧ c = l.length ∧ d = l.length ∧ b.length = l.length) ∧ (l.length : Int) - at_ < (n : Int) then some (.tup [], setB m r (reachF l ep l.length at_.toNat k b)) else none
  | _, _ => none
 | _, _ => none
theorem reachGk_eq {n : Nat} {m : Mem} {g : Grow} {l : List Nd} {p : Nat} {k ep : Int} {r : Nat} {b : List Bool} (h : l.length ≤ big40) (h2 : 0 ≤ endOf l (p : Int)) (hm : ∀ x ∈ l, mayN x) (hk : inW k) (he : inW ep) (hv : m.var r = some (bC b)) (hb : b.length = l.length) (h3 : (l.length : Int) - (p : Int) < (n : Int)) :
  reachGk n [.lst g 7 (rowsN l), .v (.int .i64 (p : Int)), .v (.int .i64 k), .v (.int .i64 ep), .vs r 0 1 l.length l.length] m = some (.tup [], setB m r (reachF l ep l.length p k b)) := by
 simp only [reachGk, unN_rowsN, hv, Option.bind_some, unBC_bC]
 rw [if_pos ⟨⟨⟨h, by omega, h2, hm⟩, hk, he, trivial, trivial, hb⟩, h3⟩, Int.toNat_natCast]
theorem reachF_succ {l : List Nd} {ep : Int} {p : Nat} {k : Int} {b : List Bool} (h : 0 ≤ endOf l (p : Int)) : reachF l ep l.length p k b = reachF l ep (l.length + 1) p k b := by
 have := endOf_in l (p : Int)
 exact reachF_fuel _ _ _ _ _ h (by omega) (by omega)
theorem reachF_len {l : List Nd} {ep : Int} : ∀ (f p : Nat) (k : Int) (b : List Bool), (reachF l ep f p k b).length = b.length
 | 0, p, k, b => rfl
 | f + 1, p, k, b => by
  simp only [reachF]
  split
  ·rfl
  ·split
   ·rw [reachF_len f, List.length_set]
   ·split
    ·rw [reachF_len f, reachF_len f, List.length_set]
    ·rw [List.length_set]
def kpReach : Nat → Option (List Nat) := fun
 | 0 => some [0, 1, 2, 3, 4, 13]
 | 1 => some [0, 1, 2, 3, 4]
 | 2 => some [0, 1, 2, 3, 4, 10]
 | 3 => some [0, 1, 2, 3, 4, 10, 11]
 | 4 => some [0, 2, 3, 4, 10, 11, 32]
 | 5 => some [0, 2, 3, 4, 10, 11, 32, 33]
 | 6 => some []
 | 7 => some [0, 2, 3, 4, 10, 11, 45]
 | 8 => some [0, 2, 3, 4, 10, 11]
 | 9 => some []
 | _ => none
attribute [go_sem] kpReach
theorem reach_k : ∀ n, FunOk Tryz.prog 109 (reachGk n) := prev_ok fun n ih => by
 have hC := table_ok (P := Tryz.prog) (l := [(109, prevG reachGk n), (146, belowG), (145, withinLG)]) (table_more ih (table_more below_ok (table_more withinL_ok table_nil)))
 have t1 := fun args mm => table_at (l := [(109, prevG reachGk n), (146, belowG), (145, withinLG)]) (f := 109) (args := args) (m := mm) rfl
 have t2 := fun args mm => table_at (l := [(109, prevG reachGk n), (146, belowG), (145, withinLG)]) (f := 146) (args := args) (m := mm) rfl
 have t3 := fun args mm => table_at (l := [(109, prevG reachGk n), (146, belowG), (145, withinLG)]) (f := 145) (args := args) (m := mm) rfl
 refine fun_ok mixed hC Tryz.func109 rfl kpReach false rfl fun args m r h => ?_
 unfold reachGk at h
 split at h
 ·rename_i g rows at_ k ep r c d
  split at h
  ·rename_i l b hl0 hb0
   obtain rfl := unN_some hl0
   split at h
   ·rename_i hb
    obtain ⟨⟨⟨hlen, h0, he, hmay⟩, hk, hep, rfl, rfl, hbl⟩, hn⟩ := hb
    obtain ⟨cs, hv, hcs⟩ := Option.bind_eq_some_iff.1 hb0
    obtain rfl := unBC_some hcs
    obtain ⟨p, rfl⟩ := Int.eq_ofNat_of_zero_le h0
    simp only [Option.some.injEq, Int.toNat_natCast] at h
    subst h
    refine ⟨Nat.le_of_ble_eq_true rfl, ?_⟩
    refine en ?_
    have hin := endOf_in l (p : Int)
    have hlen' := hlen
    unfold big40 at hlen
    have hrl := (var_lt hv).1
    rw [reachF_succ he]
    simp only [reachF]
    by_cases hk0 : k = 0
    ·subst hk0
     rw [if_pos rfl, setB_self hv]
     refine go0 ?_
     refine runs_cond rfl (fun hc => ?_) (fun hc => by cases hc)
     refine go0 ?_
     exact leaves_void rfl (finMem_self _)
    ·rw [if_neg hk0]
     have b0 : (k == 0) = false := by simpa using hk0
     have hp : p < l.length := by omega
     have f1 := vsAtB (r := r) (kk := .i64) hp
     have f2 := storeB (v := true) hv (show p < b.length by omega)
     have f3 := atNodes (g := g) (kk := .i64) hp
     have hx : mayN (l.getD p nd0) := hmay _ (by rw [List.getD, List.getElem?_eq_getElem hp]; exact List.getElem_mem _)
     unfold mayN at hx
     have hlm : lenMay (l.getD p nd0).u (l.getD p nd0).n := hx.2.2.2.2.2.2.2.2.2.2.2.2.2.2.1
     have f4 := fun mm => withinLG_eq (m := mm) hlm hk hep
     have hw := withinV_in hlm hk hep
     have f5 := fun mm => belowG_eq (m := mm) (g := .no) (at_ := (p : Int)) hlen' ⟨by omega, by omega⟩
     have hv2 := setB_var (b := b.set p true) hrl
     have hsl : (b.set p true).length = l.length := by rw [List.length_set]; exact hbl
     obtain ⟨n', rfl⟩ : ∃ n', n = n' + 1 := ⟨n - 1, by omega⟩
     generalize withinV (l.getD p nd0).u (l.getD p nd0).n k ep = w at f4 hw
     have hk' := hk
     unfold inW at hk'
     have r1 : IntKind.i64.wrap (k - w) = k - w := i64_wrap (by omega) (by omega)
     by_cases h8 : (l.getD p nd0).op = 8
     ·rw [if_pos h8, below8 he h8] at *
      have hE := end_one he h8
      have c1 : ∀ g, prevG reachGk (n' + 1) [.lst g 7 (rowsN l), .v (.int .i64 ((p + 1 : Nat) : Int)), .v (.int .i64 (k - w)), .v (.int .i64 ep), .vs r 0 1 l.length l.length] (setB m r (b.set p true)) = _ := fun g => reachGk_eq (g := g) hlen' (by omega) hmay ⟨by omega, by omega⟩ hep hv2 hsl (by omega)
      rw [setB_setB] at c1
      generalize ((p + 1 : Nat) : Int) = p1 at f5 c1
      generalize l.getD p nd0 = x at f3 f4 h8
      have b8 : (x.op == 8) = true := by simpa using h8
      refine go1 @b0 ?_
      refine runs_cond rfl (fun hc => by cases hc) (fun hc => ?_)
      refine go1 (jn @f1 (jn @f2 (jn @f3 (jn @fldLen (jn @ldLen (jn @t3 (jn @f4 (jn @t2 (jn @f5 @b8))))))))) ?_
      refine runs_cond rfl (fun hc => ?_) (fun hc => by cases hc)
      refine go1 (jn @at_k1 (jn @r1 (jn @t1 @c1))) ?_
      exact leaves_none rfl fin_setB
     ·have b8 : ((l.getD p nd0).op == 8) = false := by simpa using h8
      rw [if_neg h8]
      by_cases h9 : (l.getD p nd0).op = 9
      ·rw [if_pos h9]
       have b9 : ((l.getD p nd0).op == 9) = true := by simpa using h9
       obtain ⟨q, e1, e2, e3⟩ := end_two he h9
       have hin2 := endOf_in l (q : Int)
       have e4 := below9 he h9 e1
       rw [e4] at f5
       rw [e1, Int.toNat_natCast]
       have c1 : ∀ g, prevG reachGk (n' + 1) [.lst g 7 (rowsN l), .v (.int .i64 ((p + 1 : Nat) : Int)), .v (.int .i64 w), .v (.int .i64 ep), .vs r 0 1 l.length l.length] (setB m r (b.set p true)) = _ := fun g => reachGk_eq (g := g) hlen' (by omega) hmay ⟨by omega, by omega⟩ hep hv2 hsl (by omega)
       rw [setB_setB] at c1
       have hv3 := setB_var (b := reachF l ep l.length (p + 1) w (b.set p true)) hrl
       have c2 : ∀ g, prevG reachGk (n' + 1) [.lst g 7 (rowsN l), .v (.int .i64 (q : Int)), .v (.int .i64 (k - w)), .v (.int .i64 ep), .vs r 0 1 l.length l.length] (setB m r (reachF l ep l.length (p + 1) w (b.set p true))) = _ := fun g => reachGk_eq (g := g) hlen' (by omega) hmay ⟨by omega, by omega⟩ hep hv3 (by rw [reachF_len]; exact hsl) (by omega)
       rw [setB_setB] at c2
       generalize ((p + 1 : Nat) : Int) = p1 at f5 c1
       generalize (q : Int) = q1 at f5 c2
       generalize l.getD p nd0 = x at f3 f4 b8 b9
       refine go1 @b0 ?_
       refine runs_cond rfl (fun hc => by cases hc) (fun hc => ?_)
       refine go1 (jn @f1 (jn @f2 (jn @f3 (jn @fldLen (jn @ldLen (jn @t3 (jn @f4 (jn @t2 (jn @f5 @b8))))))))) ?_
       refine runs_cond rfl (fun hc => by cases hc) (fun hc => ?_)
       refine go1 @b9 ?_
       refine runs_cond rfl (fun hc => ?_) (fun hc => by cases hc)
       refine go1 (jn @at_k20 (jn @at_k21 (jn @r1 (jn @t1 (jn @c1 @c2))))) ?_
       exact leaves_none rfl fin_setB
      ·rw [if_neg h9]
       have b9 : ((l.getD p nd0).op == 9) = false := by simpa using h9
       generalize l.getD p nd0 = x at f3 f4 b8 b9
       refine go1 @b0 ?_
       refine runs_cond rfl (fun hc => by cases hc) (fun hc => ?_)
       refine go1 (jn @f1 (jn @f2 (jn @f3 (jn @fldLen (jn @ldLen (jn @t3 (jn @f4 (jn @t2 (jn @f5 @b8))))))))) ?_
       refine runs_cond rfl (fun hc => by cases hc) (fun hc => ?_)
       refine go1 @b9 ?_
       refine runs_cond rfl (fun hc => by cases hc) (fun hc => ?_)
       refine go0 ?_
       exact leaves_none rfl fin_setB
   ·cases h
  ·cases h
 ·cases h
end
section
attribute [local irreducible] Next Inside Runs Ops table
attribute [local go_sem] szStr szInt Option.getD_some isNil evStr loadStr loadInt fldOp ldOp mkInts1 rowsN_len evMinMax evFoldI
theorem checkT_sound {l : List Nd} (h : checkT l = 0) : 0 < l.length ∧ l.length ≤ 64 ∧ endOf l 0 = (l.length : Int) ∧ ∀ x ∈ l, mayN x := by
 unfold checkT at h
 split at h
 ·cases h
 ·split at h
  ·cases h
  ·split at h
   ·cases h
   ·rename_i h1 h2 h3
    have hw : wholeB l = true := by
     cases hw : wholeB l with
     | true => rfl
     | false => exact absurd (.inl hw) h2
    have hb : l.any badN = false := by
     cases hb : l.any badN with
     | false => rfl
     | true => exact absurd (.inr hb) h2
    unfold wholeB at hw
    simp only [Bool.and_eq_true, decide_eq_true_eq] at hw
    refine ⟨by omega, by omega, hw.2, fun x hx => ?_⟩
    have := List.any_eq_false.1 hb x hx
    simpa [badN] using this
theorem endW_zeroI {l : List Nd} (h : checkT l = 0) : 0 ≤ endOf l ((0 : Nat) : Int) := by
 have := (checkT_sound h).2.2.1
 show 0 ≤ endOf l 0
 omega
def reachG : List AV → Mem → Option (AV × Mem)
 | [.lst _ 7 rows, .v (.int .i64 at_), .v (.int .i64 k), .v (.int .i64 ep), .vs r 0 1 c d], m =>
  match unN rows, (m.var r).bind unBC with
  | some l, some b => if ((l.length ≤ big40 ∧ 0 ≤ at_ ∧ 0 ≤ endOf l at_ ∧ ∀ x ∈ l, mayN x) ∧ inW k ∧ inW ep ∧ c = l.length ∧ d = l.length ∧ b.length = l.length) then some (.tup [], setB m r (reachF l ep l.length at_.toNat k b)) else none
  | _, _ => none
 | _, _ => none
theorem reachG_eq {m : Mem} {g : Grow} {l : List Nd} {p : Nat} {k ep : Int} {r : Nat} {b : List Bool} (h : l.length ≤ big40) (h2 : 0 ≤ endOf l (p : Int)) (hm : ∀ x ∈ l, mayN x) (hk : inW k) (he : inW ep) (hv : m.var r = some (bC b)) (hb : b.length = l.length) :
  reachG [.lst g 7 (rowsN l), .v (.int .i64 (p : Int)), .v (.int .i64 k), .v (.int .i64 ep), .vs r 0 1 l.length l.length] m = some (.tup [], setB m r (reachF l ep l.length p k b)) := by
 simp only [reachG, unN_rowsN, hv, Option.bind_some, unBC_bC]
 rw [if_pos ⟨⟨h, by omega, h2, hm⟩, hk, he, trivial, trivial, hb⟩, Int.toNat_natCast]
theorem reach_ok : FunOk Tryz.prog 109 reachG := by
 intro args m r m' h
 unfold reachG at h
 split at h
 ·rename_i g rows at_ k ep q c d
  split at h
  ·rename_i l b hl0 hb0
   split at h
   ·rename_i hb
    refine reach_k (((l.length : Int) - at_).toNat + 1) _ m r m' ?_
    unfold reachGk
    simp only [hl0, hb0]
    rw [if_pos ⟨hb, by omega⟩]
    exact h
   ·cases h
  ·cases h
 ·cases h
/-! ### Reached -/
def marks (l : List Nd) (ep n : Int) : List Bool := if checkT l = 0 ∧ inW n ∧ inW ep then reachF l ep l.length 0 n (List.replicate l.length false) else []
def reachedG : List AV → Mem → Option (AV × Mem)
 | [.lst _ 7 rows, .v (.int .i64 n), .v (.int .i64 ep)], m =>
  match unN rows with
  | some l => if l.length ≤ big40 then some (.lst .no 1 (rowsBo (marks l ep n)), m) else none
  | none => none
 | _, _ => none
theorem reachedG_eq {m : Mem} {g : Grow} {l : List Nd} {n ep : Int} (h : l.length ≤ big40) : reachedG [.lst g 7 (rowsN l), .v (.int .i64 n), .v (.int .i64 ep)] m = some (.lst .no 1 (rowsBo (marks l ep n)), m) := by
 simp only [reachedG, unN_rowsN]
 rw [if_pos h]
def kpReached : Nat → Option (List Nat) := fun
 | 0 => some [0, 1, 2]
 | 1 => some [0, 1, 2, 20]
 | 2 => some [6]
 | 3 => some [0, 1, 2, 7]
 | 4 => some [7]
 | 5 => some [6]
 | _ => none
attribute [go_sem] kpReached
def tab_reached_ok : List (FuncId × (List AV → Mem → Option (AV × Mem))) := [(107, checkTG), (108, withinIG), (109, reachG)]
theorem reached_ok : FunOk Tryz.prog 58 reachedG := by
 have hC := table_ok (P := Tryz.prog) (l := tab_reached_ok) (table_more checkT_ok (table_more withinI_ok (table_more reach_ok table_nil)))
 have t1 := fun args mm => table_at (l := tab_reached_ok) (f := 107) (args := args) (m := mm) rfl
 have t2 := fun args mm => table_at (l := tab_reached_ok) (f := 108) (args := args) (m := mm) rfl
 have t3 := fun args mm => table_at (l := tab_reached_ok) (f := 109) (args := args) (m := mm) rfl
 refine fun_ok mixed hC Tryz.func58 rfl kpReached false rfl fun args m r h => ?_
 unfold reachedG at h
 split at h
 ·rename_i g rows n ep
  split at h
  ·rename_i l hl0
   obtain rfl := unN_some hl0
   split at h
   ·rename_i hlen
    simp only [Option.some.injEq] at h
    subst h
    refine ⟨Nat.le_of_ble_eq_true rfl, ?_⟩
    refine en ?_
    have f1 := fun mm => checkTG_eq (m := mm) (g := .no) hlen
    have fw : ∀ x mm, withinIG [.v (.int .i64 x)] mm = some (.v (.bool (decide (inW x))), mm) := fun _ _ => rfl
    unfold marks
    by_cases hall : checkT l = 0 ∧ inW n ∧ inW ep
    ·rw [if_pos hall]
     obtain ⟨hc0, hn, hep⟩ := hall
     have b1 : (checkT l != 0) = false := by rw [hc0]; rfl
     have b2 : (!decide (inW n)) = false := by rw [decide_eq_true hn]; rfl
     have b3 : (!decide (inW ep)) = false := by rw [decide_eq_true hep]; rfl
     obtain ⟨s1, s2, s3, s4⟩ := checkT_sound hc0
     have mk := makeBools (n := l.length) (by omega)
     have nv := newBools (m := m) (l := List.replicate l.length false)
     have c1 : ∀ g, reachG [.lst g 7 (rowsN l), .v (.int .i64 0), .v (.int .i64 n), .v (.int .i64 ep), .vs m.vars.length 0 1 l.length l.length] (m.push (bC (List.replicate l.length false))) = _ := fun g => reachG_eq (g := g) (p := 0) hlen (endW_zeroI hc0) s4 hn hep push_var (by simp)
     rw [setB_push] at c1
     have he : l.length = (reachF l ep l.length 0 n (List.replicate l.length false)).length := by rw [reachF_len, List.length_replicate]
     refine go1 (jn @t1 (jn @f1 (jn @t2 (jn @fw (jn @b1 (jn @b2 @b3)))))) ?_
     refine runs_cond rfl (fun hc => by cases hc) (fun hc => ?_)
     refine go1 (jn @mk (jn @nv (jn @t3 @c1))) ?_
     exact leaves_bools rfl rfl he
    ·rw [if_neg hall]
     repeat' (first | refine gos1 (jn @t1 (jn @f1 (jn @t2 @fw))) ?_ | (refine ops_here ?_; (fail_if_success (refine ops_case (B := true) rfl rfl rfl ?_ ?_)); (fail_if_success (refine ops_case (B := false) rfl rfl rfl ?_ ?_)); refine ops_case rfl rfl rfl (fun hB => ?_) (fun hB => ?_) <;> rw [hB]) | (refine runs_here ?_; refine runs_cond rfl (fun hc => ?_) (fun hc => ?_) <;> first | (cases hc; done) | skip))
     all_goals first
      | exact leaves_lst rfl rfl (finMem_self _)
      | (exfalso; apply hall; simp only [Bool.not_eq_true', Bool.not_eq_false', decide_eq_true_eq, decide_eq_false_iff_not, bne_iff_ne, ne_eq, bne_eq_false_iff_eq] at *; first | (refine ⟨by assumption, by assumption, by assumption⟩) | (simp_all; done))
   ·cases h
  ·cases h
 ·cases h
/-! ### Steps -/
def stepsTGk (n : Nat) : List AV → Mem → Option (AV × Mem)
 | [.lst _ 7 rows, .v (.int .i64 at_), .v (.int .i64 k), .v (.int .i64 ep)], m =>
  match unN rows with
  | some l => if ((l.length ≤ 64 ∧ 0 ≤ at_ ∧ 0 ≤ endOf l at_ ∧ ∀ x ∈ l, mayN x) ∧ inW k ∧ inW ep) ∧ (l.length : Int) - at_ < (n : Int) then some (.lst .no 1 (rowsI (stepsF l ep l.length at_.toNat k)), m) else none
  | none => none
 | _, _ => none
theorem stepsTGk_eq {n : Nat} {m : Mem} {g : Grow} {l : List Nd} {p : Nat} {k ep : Int} (h : l.length ≤ 64) (h2 : 0 ≤ endOf l (p : Int)) (hm : ∀ x ∈ l, mayN x) (hk : inW k) (he : inW ep) (h3 : (l.length : Int) - (p : Int) < (n : Int)) :
  stepsTGk n [.lst g 7 (rowsN l), .v (.int .i64 (p : Int)), .v (.int .i64 k), .v (.int .i64 ep)] m = some (.lst .no 1 (rowsI (stepsF l ep l.length p k)), m) := by
 simp only [stepsTGk, unN_rowsN]
 rw [if_pos ⟨⟨⟨h, by omega, h2, hm⟩, hk, he⟩, h3⟩, Int.toNat_natCast]
theorem stepsF_succ {l : List Nd} {ep : Int} {p : Nat} {k : Int} (h : 0 ≤ endOf l (p : Int)) : stepsF l ep l.length p k = stepsF l ep (l.length + 1) p k := by
 have := endOf_in l (p : Int)
 exact stepsF_fuel _ _ _ _ h (by omega) (by omega)
theorem stepsF_le {l : List Nd} {ep : Int} (hm : ∀ x ∈ l, mayN x) {p : Nat} {k : Int} (h : 0 ≤ endOf l (p : Int)) : (stepsF l ep l.length p k).length ≤ l.length := by
 have := endOf_in l (p : Int)
 rw [stepsF_len hm _ _ _ h (by omega)]
 omega
def kpStepsT : Nat → Option (List Nat) := fun
 | 0 => some [0, 1, 2, 3]
 | 1 => some [0, 1, 2, 3, 9]
 | 2 => some [0, 1, 2, 3, 9, 10]
 | 3 => some [0, 1, 2, 3, 9, 10, 26]
 | 4 => some [8]
 | 5 => some [0, 1, 2, 3, 9, 10, 42]
 | 6 => some [0, 1, 2, 3, 9, 10]
 | 7 => some [8]
 | 8 => some [8]
 | _ => none
attribute [go_sem] kpStepsT
theorem stepsT_k : ∀ n, FunOk Tryz.prog 117 (stepsTGk n) := prev_ok fun n ih => by
 have hC := table_ok (P := Tryz.prog) (l := [(117, prevG stepsTGk n), (135, endG), (151, withinLG)]) (table_more ih (table_more refEnd_ok (table_more withinR_ok table_nil)))
 have t1 := fun args mm => table_at (l := [(117, prevG stepsTGk n), (135, endG), (151, withinLG)]) (f := 117) (args := args) (m := mm) rfl
 have t2 := fun args mm => table_at (l := [(117, prevG stepsTGk n), (135, endG), (151, withinLG)]) (f := 135) (args := args) (m := mm) rfl
 have t3 := fun args mm => table_at (l := [(117, prevG stepsTGk n), (135, endG), (151, withinLG)]) (f := 151) (args := args) (m := mm) rfl
 refine fun_ok mixed hC Tryz.func117 rfl kpStepsT false rfl fun args m r h => ?_
 unfold stepsTGk at h
 split at h
 ·rename_i g rows at_ k ep
  split at h
  ·rename_i l hl0
   obtain rfl := unN_some hl0
   split at h
   ·rename_i hb
    obtain ⟨⟨⟨hlen, h0, he, hmay⟩, hk, hep⟩, hn⟩ := hb
    obtain ⟨p, rfl⟩ := Int.eq_ofNat_of_zero_le h0
    simp only [Option.some.injEq, Int.toNat_natCast] at h
    subst h
    refine ⟨Nat.le_of_ble_eq_true rfl, ?_⟩
    refine en ?_
    have hin := endOf_in l (p : Int)
    have hlen' : l.length ≤ big40 := by unfold big40; omega
    rw [stepsF_succ he]
    simp only [stepsF]
    have hp : p < l.length := by omega
    have f3 := atNodes (g := g) (kk := .i64) hp
    have hx : mayN (l.getD p nd0) := hmay _ (by rw [List.getD, List.getElem?_eq_getElem hp]; exact List.getElem_mem _)
    unfold mayN at hx
    have hlm : lenMay (l.getD p nd0).u (l.getD p nd0).n := hx.2.2.2.2.2.2.2.2.2.2.2.2.2.2.1
    have f4 := fun mm => withinLG_eq (m := mm) hlm hk hep
    have hw := withinV_in hlm hk hep
    obtain ⟨n', rfl⟩ : ∃ n', n = n' + 1 := ⟨n - 1, by omega⟩
    generalize withinV (l.getD p nd0).u (l.getD p nd0).n k ep = w at f4 hw
    have hk' := hk
    unfold inW at hk'
    have r1 : IntKind.i64.wrap (k - w) = k - w := i64_wrap (by omega) (by omega)
    have r2 : IntKind.i64.wrap ((p : Int) + 1) = ((p + 1 : Nat) : Int) := i64_wrap (by omega) (by omega)
    by_cases h8 : (l.getD p nd0).op = 8
    ·rw [if_pos h8]
     have hE := end_one he h8
     have c1 : ∀ g mm, prevG stepsTGk (n' + 1) [.lst g 7 (rowsN l), .v (.int .i64 ((p + 1 : Nat) : Int)), .v (.int .i64 (k - w)), .v (.int .i64 ep)] mm = _ := fun g mm => stepsTGk_eq (g := g) (m := mm) hlen (by omega) hmay ⟨by omega, by omega⟩ hep (by omega)
     have hle := stepsF_le (ep := ep) hmay (p := p + 1) (k := k - w) (by omega)
     obtain ⟨g1, m1, ha1, hG1⟩ := app_ints (g2 := .no) appInts (grows_full (m := m)) [k] (stepsF l ep l.length (p + 1) (k - w)) (by unfold lim; simp only [List.length_cons, List.length_nil]; omega)
     simp only [show rowsI [k] = [[.v (.int .i64 k)]] from rfl] at ha1
     have b8 : ((l.getD p nd0).op == 8) = true := by simpa using h8
     generalize ((p + 1 : Nat) : Int) = p1 at r2 c1
     generalize l.getD p nd0 = x at f3 f4 b8
     refine go1 (jn @f3 (jn @fldLen (jn @ldLen (jn @t3 (jn @f4 @b8))))) ?_
     refine runs_cond rfl (fun hc => ?_) (fun hc => by cases hc)
     refine go1 (jn @r1 (jn @r2 (jn @t1 (jn @c1 @ha1)))) ?_
     exact leaves_lst rfl rfl (fin_grows hG1)
    ·have b8 : ((l.getD p nd0).op == 8) = false := by simpa using h8
     rw [if_neg h8]
     by_cases h9 : (l.getD p nd0).op = 9
     ·rw [if_pos h9]
      have b9 : ((l.getD p nd0).op == 9) = true := by simpa using h9
      obtain ⟨q, e1, e2, e3⟩ := end_two he h9
      have hin2 := endOf_in l (q : Int)
      have f5 := fun mm => endG_eq (m := mm) (g := .no) (at_ := ((p + 1 : Nat) : Int)) hlen' ⟨by omega, by omega⟩
      rw [e1] at f5
      rw [e1, Int.toNat_natCast]
      have c1 : ∀ g mm, prevG stepsTGk (n' + 1) [.lst g 7 (rowsN l), .v (.int .i64 ((p + 1 : Nat) : Int)), .v (.int .i64 w), .v (.int .i64 ep)] mm = _ := fun g mm => stepsTGk_eq (g := g) (m := mm) hlen (by omega) hmay ⟨by omega, by omega⟩ hep (by omega)
      have c2 : ∀ g mm, prevG stepsTGk (n' + 1) [.lst g 7 (rowsN l), .v (.int .i64 (q : Int)), .v (.int .i64 (k - w)), .v (.int .i64 ep)] mm = _ := fun g mm => stepsTGk_eq (g := g) (m := mm) hlen (by omega) hmay ⟨by omega, by omega⟩ hep (by omega)
      have hle := stepsF_le (ep := ep) hmay (p := p + 1) (k := w) (by omega)
      have hle2 := stepsF_le (ep := ep) hmay (p := q) (k := k - w) (by omega)
      obtain ⟨g1, m1, ha1, hG1⟩ := app_ints (g2 := .no) appInts (grows_full (m := m)) [k] (stepsF l ep l.length (p + 1) w) (by unfold lim; simp only [List.length_cons, List.length_nil]; omega)
      obtain ⟨g2, m2, ha2, hG2⟩ := app_ints (g2 := .no) appInts hG1 ([k] ++ stepsF l ep l.length (p + 1) w) (stepsF l ep l.length q (k - w)) (by unfold lim; simp only [List.length_append, List.length_cons, List.length_nil]; omega)
      simp only [show rowsI [k] = [[.v (.int .i64 k)]] from rfl] at ha1
      generalize ((p + 1 : Nat) : Int) = p1 at r2 f5 c1
      generalize (q : Int) = q1 at f5 c2
      generalize l.getD p nd0 = x at f3 f4 b8 b9
      refine go1 (jn @f3 (jn @fldLen (jn @ldLen (jn @t3 (jn @f4 @b8))))) ?_
      refine runs_cond rfl (fun hc => by cases hc) (fun hc => ?_)
      refine go1 (jn @f3 @b9) ?_
      refine runs_cond rfl (fun hc => ?_) (fun hc => by cases hc)
      refine go1 (jn @r1 (jn @r2 (jn @t1 (jn @t2 (jn @f5 (jn @c1 (jn @c2 (jn @ha1 @ha2)))))))) ?_
      exact leaves_lst (g := g2) rfl (by simp only [Ev.get, reduceIte, Nat.reduceEqDiff]; simp only [List.append_assoc, List.cons_append, List.nil_append]) (fin_grows hG2)
     ·rw [if_neg h9]
      have b9 : ((l.getD p nd0).op == 9) = false := by simpa using h9
      generalize l.getD p nd0 = x at f3 f4 b8 b9
      refine go1 (jn @f3 (jn @fldLen (jn @ldLen (jn @t3 (jn @f4 @b8))))) ?_
      refine runs_cond rfl (fun hc => by cases hc) (fun hc => ?_)
      refine go1 (jn @f3 @b9) ?_
      refine runs_cond rfl (fun hc => by cases hc) (fun hc => ?_)
      refine go0 ?_
      exact leaves_lst rfl rfl (finMem_self _)
   ·cases h
  ·cases h
 ·cases h
def stepsTG : List AV → Mem → Option (AV × Mem)
 | [.lst _ 7 rows, .v (.int .i64 at_), .v (.int .i64 k), .v (.int .i64 ep)], m =>
  match unN rows with
  | some l => if ((l.length ≤ 64 ∧ 0 ≤ at_ ∧ 0 ≤ endOf l at_ ∧ ∀ x ∈ l, mayN x) ∧ inW k ∧ inW ep) then some (.lst .no 1 (rowsI (stepsF l ep l.length at_.toNat k)), m) else none
  | none => none
 | _, _ => none
theorem stepsTG_eq {m : Mem} {g : Grow} {l : List Nd} {p : Nat} {k ep : Int} (h : l.length ≤ 64) (h2 : 0 ≤ endOf l (p : Int)) (hm : ∀ x ∈ l, mayN x) (hk : inW k) (he : inW ep) :
  stepsTG [.lst g 7 (rowsN l), .v (.int .i64 (p : Int)), .v (.int .i64 k), .v (.int .i64 ep)] m = some (.lst .no 1 (rowsI (stepsF l ep l.length p k)), m) := by
 simp only [stepsTG, unN_rowsN]
 rw [if_pos ⟨⟨h, by omega, h2, hm⟩, hk, he⟩, Int.toNat_natCast]
theorem stepsT_ok : FunOk Tryz.prog 117 stepsTG := by
 intro args m r m' h
 unfold stepsTG at h
 split at h
 ·rename_i g rows at_ k ep
  split at h
  ·rename_i l hl0
   split at h
   ·rename_i hb
    refine stepsT_k (((l.length : Int) - at_).toNat + 1) _ m r m' ?_
    unfold stepsTGk
    simp only [hl0]
    rw [if_pos ⟨hb, by omega⟩]
    exact h
   ·cases h
  ·cases h
 ·cases h
end
section
attribute [local irreducible] Next Inside Runs Ops table
attribute [local go_sem] szStr szInt Option.getD_some isNil evStr iv loadStr loadInt mapRc cellsRc newRc fpRcSteps fpRcEpoch fpRcMetrics fpRcEval rowsS_len
def lenRow (u n : Int) : List AV := [.v (.int .i64 u), .v (.int .i64 n)]
theorem cellsLen2 {u n : Int} : cellsOf (.agg (lenRow u n)) = some (lenRow u n) := rfl
theorem newLen2 {m : Mem} {u n : Int} : newVar m m.vars.length (lenRow u n) = some (m.push (lenRow u n)) := newVar_push rfl
theorem vrLen2 {m : Mem} {r : Nat} {u n : Int} (hv : m.var r = some (lenRow u n)) : evLoad Tryz.prog m 33 (.ptr r 0) = some (.agg [.v (.int .i64 u), .v (.int .i64 n)]) := by
 unfold evLoad
 simp only [ptrCells, hv, Option.map_some]
 rw [show tAgg Tryz.prog 33 = some true by kernel_rfl, show tSize Tryz.prog 33 = some 2 by kernel_rfl]
 rfl
def rstepsG : List AV → Mem → Option (AV × Mem)
 | [.agg cs, .agg [.v (.int .i64 u), .v (.int .i64 n)]], m =>
  match unRc cs with
  | some R => if lenMay u n ∧ 0 ≤ R.steps ∧ 0 ≤ R.epoch then some (.tup [.v (.int .i64 (stepsP u n R.steps R.epoch).1), .v (.int .i64 (stepsP u n R.steps R.epoch).2)], m) else none
  | none => none
 | _, _ => none
theorem rstepsG_at {R : Rc} {u n : Int} {m : Mem} (h : lenMay u n) (h1 : 0 ≤ R.steps) (h2 : 0 ≤ R.epoch) : rstepsG [.agg R.row, .agg [.v (.int .i64 u), .v (.int .i64 n)]] m = some (.tup [.v (.int .i64 (stepsP u n R.steps R.epoch).1), .v (.int .i64 (stepsP u n R.steps R.epoch).2)], m) := by
 simp only [rstepsG, unRc_row]
 rw [if_pos ⟨h, h1, h2⟩]
def kpRSteps : Nat → Option (List Nat) := fun
 | 0 => some [2, 3]
 | 1 => some [2, 3, 13]
 | 2 => some [4, 5]
 | 3 => some [4, 5]
 | _ => none
attribute [go_sem] kpRSteps
def tab_rsteps_ok : List (FuncId × (List AV → Mem → Option (AV × Mem))) := [(106, stepsRG)]
theorem rsteps_ok : FunOk Tryz.prog 49 rstepsG := by
 have hC := table_ok (P := Tryz.prog) (l := tab_rsteps_ok) (table_more stepsR_ok table_nil)
 have t1 := fun args mm => table_at (l := tab_rsteps_ok) (f := 106) (args := args) (m := mm) rfl
 refine fun_ok mixed hC Tryz.func49 rfl kpRSteps false rfl fun args m r h => ?_
 unfold rstepsG at h
 split at h
 ·rename_i cs u n
  split at h
  ·rename_i R hR
   obtain rfl := unRc_some hR
   split at h
   ·rename_i hyp
    obtain ⟨hl, h1, h2⟩ := hyp
    simp only [Option.some.injEq] at h
    subst h
    refine ⟨Nat.le_of_ble_eq_true rfl, ?_⟩
    refine en ?_
    rw [show ([.v (.int .i64 u), .v (.int .i64 n)] : List AV) = lenRow u n from rfl]
    have hA := above_push (cs := lenRow u n) (above_push (cs := R.row) (above_self m))
    have hv := push_old (cs' := lenRow u n) (show (m.push R.row).var m.vars.length = some R.row from push_var)
    have hw : ((m.push R.row).push (lenRow u n)).var (m.push R.row).vars.length = some (lenRow u n) := push_var
    have l1 := lpRcSteps hv
    have l2 := lpRcEpoch hv
    have l3 := vrLen2 hw
    by_cases b1 : R.steps > 1048576
    ·have c1 : decide (R.steps > 1048576) = true := decide_eq_true b1
     have e : stepsP u n R.steps R.epoch = (0, 1) := if_neg (fun h => by have := h.2.1; unfold inS at this; omega)
     rw [e]
     repeat' (first | refine gos1 (jn @cellsLen2 (jn @newLen2 (jn @l1 @c1))) ?_ | (refine ops_here ?_; (fail_if_success (refine ops_case (B := true) rfl rfl rfl ?_ ?_)); (fail_if_success (refine ops_case (B := false) rfl rfl rfl ?_ ?_)); refine ops_case rfl rfl rfl (fun hB => ?_) (fun hB => ?_) <;> rw [hB]) | (refine runs_here ?_; refine runs_cond rfl (fun hc => ?_) (fun hc => ?_) <;> first | (cases hc; done) | skip))
     exact leaves_two rfl rfl rfl (above_fin hA)
    ·have c1 : decide (R.steps > 1048576) = false := decide_eq_false b1
     by_cases b2 : R.epoch > 1048576
     ·have c2 : decide (R.epoch > 1048576) = true := decide_eq_true b2
      have e : stepsP u n R.steps R.epoch = (0, 1) := if_neg (fun h => by have := h.2.2; unfold inS at this; omega)
      rw [e]
      repeat' (first | refine gos1 (jn @cellsLen2 (jn @newLen2 (jn @l1 (jn @l2 (jn @c1 @c2))))) ?_ | (refine ops_here ?_; (fail_if_success (refine ops_case (B := true) rfl rfl rfl ?_ ?_)); (fail_if_success (refine ops_case (B := false) rfl rfl rfl ?_ ?_)); refine ops_case rfl rfl rfl (fun hB => ?_) (fun hB => ?_) <;> rw [hB]) | (refine runs_here ?_; refine runs_cond rfl (fun hc => ?_) (fun hc => ?_) <;> first | (cases hc; done) | skip))
      exact leaves_two rfl rfl rfl (above_fin hA)
     ·have c2 : decide (R.epoch > 1048576) = false := decide_eq_false b2
      have hb : lenMay u n ∧ inS R.steps ∧ inS R.epoch := ⟨hl, ⟨h1, by omega⟩, ⟨h2, by omega⟩⟩
      have f1 : ∀ mm, stepsRG [.agg [.v (.int .i64 u), .v (.int .i64 n)], .v (.int .i64 R.steps), .v (.int .i64 R.epoch)] mm = some (.tup [.v (.int .i64 (stepsP u n R.steps R.epoch).1), .v (.int .i64 (stepsP u n R.steps R.epoch).2)], mm) := fun mm => by
       simp only [stepsRG, stepsP]
       rw [if_pos hb, if_pos hb]
       split <;> rfl
      repeat' (first | refine gos1 (jn @cellsLen2 (jn @newLen2 (jn @l1 (jn @l2 (jn @l3 (jn @c1 (jn @c2 (jn @t1 @f1)))))))) ?_ | (refine ops_here ?_; (fail_if_success (refine ops_case (B := true) rfl rfl rfl ?_ ?_)); (fail_if_success (refine ops_case (B := false) rfl rfl rfl ?_ ?_)); refine ops_case rfl rfl rfl (fun hB => ?_) (fun hB => ?_) <;> rw [hB]) | (refine runs_here ?_; refine runs_cond rfl (fun hc => ?_) (fun hc => ?_) <;> first | (cases hc; done) | skip))
      exact leaves_two rfl rfl rfl (above_fin hA)
   ·cases h
  ·cases h
 ·cases h
/-! ### first, seen -/
def firstG : List AV → Mem → Option (AV × Mem)
 | [.lst _ 1 rows, .v (.int .i64 i)], m =>
  match unS rows with
  | some l => if l.length ≤ 1000 ∧ 0 ≤ i ∧ i < (l.length : Int) then some (.v (.bool (placeOf l (l.getD i.toNat ⟨#[]⟩) == i)), m) else none
  | none => none
 | _, _ => none
theorem firstG_at {m : Mem} {g : Grow} {l : List ByteArray} {i : Nat} (h : l.length ≤ 1000) (h1 : i < l.length) : firstG [.lst g 1 (rowsS l), .v (.int .i64 (i : Int))] m = some (.v (.bool (placeOf l (l.getD i ⟨#[]⟩) == (i : Int))), m) := by
 simp only [firstG, unS_rowsS]
 rw [if_pos ⟨h, by omega, by omega⟩, Int.toNat_natCast]
def kpFirst20 : Nat → Option (List Nat) := fun
 | 0 => some [0, 1]
 | 1 => some [4]
 | _ => none
attribute [go_sem] kpFirst20
def tab_first20_ok : List (FuncId × (List AV → Mem → Option (AV × Mem))) := [(93, placeG)]
theorem first20_ok : FunOk Tryz.prog 99 firstG := by
 have hC := table_ok (P := Tryz.prog) (l := tab_first20_ok) (table_more refPlace_ok table_nil)
 have t1 := fun args mm => table_at (l := tab_first20_ok) (f := 93) (args := args) (m := mm) rfl
 refine fun_ok mixed hC Tryz.func99 rfl kpFirst20 false rfl fun args m r h => ?_
 unfold firstG at h
 split at h
 ·rename_i g rows i
  split at h
  ·rename_i l hl
   obtain rfl := unS_some hl
   split at h
   ·rename_i hyp
    obtain ⟨h0, h1, h2⟩ := hyp
    obtain ⟨j, rfl⟩ := Int.eq_ofNat_of_zero_le h1
    simp only [Option.some.injEq, Int.toNat_natCast] at h
    subst h
    refine ⟨Nat.le_of_ble_eq_true rfl, ?_⟩
    refine en ?_
    have f1 := atStrs (g := g) (kk := .i64) (l := l) (i := j) (by omega)
    have f2 := fun mm => placeG_eq (m := mm) (g := .no) (s := l.getD j ⟨#[]⟩) (show l.length ≤ 9223372036854775807 by omega)
    refine go1 (jn @f1 (jn @t1 @f2)) ?_
    exact leaves_v rfl rfl
   ·cases h
  ·cases h
 ·cases h
def Rc.seen (R : Rc) (s : ByteArray) : Bool := decide (placeOf R.metrics s ≥ 0) && decide (R.eval > 0)
def seenG : List AV → Mem → Option (AV × Mem)
 | [.agg cs, .v (.string s)], m =>
  match unRc cs with
  | some R => if R.metrics.length ≤ 64 then some (.v (.bool (R.seen s)), m) else none
  | none => none
 | _, _ => none
theorem seenG_at {R : Rc} {s : ByteArray} {m : Mem} (h : R.metrics.length ≤ 64) : seenG [.agg R.row, .v (.string s)] m = some (.v (.bool (R.seen s)), m) := by
 simp only [seenG, unRc_row]
 rw [if_pos h]
def kpSeen20 : Nat → Option (List Nat) := fun
 | 0 => some [1, 2]
 | 1 => some [4]
 | _ => none
attribute [go_sem] kpSeen20
def tab_seen20_ok : List (FuncId × (List AV → Mem → Option (AV × Mem))) := [(93, placeG)]
theorem seen20_ok : FunOk Tryz.prog 140 seenG := by
 have hC := table_ok (P := Tryz.prog) (l := tab_seen20_ok) (table_more refPlace_ok table_nil)
 have t1 := fun args mm => table_at (l := tab_seen20_ok) (f := 93) (args := args) (m := mm) rfl
 refine fun_ok mixed hC Tryz.func140 rfl kpSeen20 false rfl fun args m r h => ?_
 unfold seenG at h
 split at h
 ·rename_i cs s
  split at h
  ·rename_i R hR
   obtain rfl := unRc_some hR
   split at h
   ·rename_i h64
    simp only [Option.some.injEq] at h
    subst h
    refine ⟨Nat.le_of_ble_eq_true rfl, ?_⟩
    refine en ?_
    have hv : (m.push R.row).var m.vars.length = some R.row := push_var
    have l1 := lpRcMetrics hv
    have l2 := lpRcEval hv
    have f2 := fun mm => placeG_eq (m := mm) (g := .no) (s := s) (show R.metrics.length ≤ 9223372036854775807 by omega)
    unfold Rc.seen
    cases hb : decide (placeOf R.metrics s ≥ 0) with
    | true =>
     refine go1 (jn @l1 (jn @t1 (jn @f2 (jn @hb @l2)))) ?_
     exact leaves_fin rfl rfl fin_push
    | false =>
     refine go1 (jn @l1 (jn @t1 (jn @f2 (jn @hb @l2)))) ?_
     exact leaves_fin rfl rfl fin_push
   ·cases h
  ·cases h
 ·cases h
end
section
attribute [local irreducible] Next Inside Runs Ops table
attribute [local go_sem] szStr szInt Option.getD_some isNil evStr iv loadStr loadInt mapRc cellsRc newRc fpRcSteps fpRcEpoch fpRcPhases rowsS_len rowsPh_len
theorem zrLen : zeroCells Tryz.prog 33 = some (lenRow 0 0) := by kernel_rfl
theorem zoLen {a b : Int} : (lenRow a b).all okCell = true := rfl
theorem zsLen {m : Mem} {u n : Int} : evStore Tryz.prog (m.push (lenRow 0 0)) 33 (.ptr m.vars.length 0) (.agg [.v (.int .i64 u), .v (.int .i64 n)]) = some (m.push (lenRow u n)) := by
 rw [store_push (cs := lenRow u n) rfl (show tSize Tryz.prog 33 = some 2 by kernel_rfl) (Nat.le_refl _) rfl]
 rfl
theorem fpLenU {r : Nat} : evFieldAddr Tryz.prog 33 (.ptr r 0) 0 = some (.ptr r 0) := by kernel_rfl
theorem lpLenU {m : Mem} {r : Nat} {u n : Int} (hv : m.var r = some (lenRow u n)) : evLoad Tryz.prog m 3 (.ptr r 0) = some (.v (.int .i64 u)) := by
 unfold evLoad
 simp only [ptrCells, hv, Option.map_some, szInt, agInt]
 rfl
def rlastG : List AV → Mem → Option (AV × Mem)
 | [.agg cs, .v (.int .i64 i)], m =>
  match unRc cs with
  | some R => if R.phases.length ≤ 64 ∧ 0 ≤ i ∧ i < (R.phases.length : Int) ∧ lenMay (R.phases.getD i.toNat ph0).lenU (R.phases.getD i.toNat ph0).lenN ∧ 0 ≤ R.steps ∧ 0 ≤ R.epoch then some (.v (.bool (!R.lastBad i.toNat)), m) else none
  | none => none
 | _, _ => none
theorem rlastG_at {R : Rc} {i : Nat} {m : Mem} (h : R.phases.length ≤ 64) (h1 : i < R.phases.length) (h2 : lenMay (R.phases.getD i ph0).lenU (R.phases.getD i ph0).lenN) (h3 : 0 ≤ R.steps) (h4 : 0 ≤ R.epoch) : rlastG [.agg R.row, .v (.int .i64 (i : Int))] m = some (.v (.bool (!R.lastBad i)), m) := by
 simp only [rlastG, unRc_row]
 rw [if_pos ⟨h, by omega, by omega, by rw [Int.toNat_natCast]; exact h2, h3, h4⟩, Int.toNat_natCast]
def kpRLast20 : Nat → Option (List Nat) := fun
 | 0 => some [1, 2]
 | 1 => some [1, 2, 5]
 | 2 => some [1, 2, 5, 16]
 | 3 => some [4]
 | 4 => some [6, 7]
 | 5 => some [4]
 | _ => none
attribute [go_sem] kpRLast20
def tab_rlast_ok : List (FuncId × (List AV → Mem → Option (AV × Mem))) := [(49, rstepsG)]
theorem rlast_ok : FunOk Tryz.prog 100 rlastG := by
 have hC := table_ok (P := Tryz.prog) (l := tab_rlast_ok) (table_more rsteps_ok table_nil)
 have t1 := fun args mm => table_at (l := tab_rlast_ok) (f := 49) (args := args) (m := mm) rfl
 refine fun_ok mixed hC Tryz.func100 rfl kpRLast20 false rfl fun args m r h => ?_
 unfold rlastG at h
 split at h
 ·rename_i cs i
  split at h
  ·rename_i R hR
   obtain rfl := unRc_some hR
   split at h
   ·rename_i hyp
    obtain ⟨h64, h0, h1, hl, hs, he⟩ := hyp
    obtain ⟨j, rfl⟩ := Int.eq_ofNat_of_zero_le h0
    simp only [Int.toNat_natCast] at hl h
    simp only [Option.some.injEq] at h
    subst h
    refine ⟨Nat.le_of_ble_eq_true rfl, ?_⟩
    refine en ?_
    have hj : j < R.phases.length := by omega
    have hA := above_push (cs := R.row) (above_self m)
    have hv : (m.push R.row).var m.vars.length = some R.row := push_var
    have f1 := atPh (g := .no) (kk := .i64) hj
    have l1 := lpRcPhases hv
    have nr := newRc (m := m) (x := R)
    generalize m.push R.row = m1 at hA hv l1 nr
    have hbad : R.lastBad j = if (R.phases.getD j ph0).lenU = 3 then decide (((j + 1 : Nat) : Int) < (R.phases.length : Int)) else ((R.stepsOf (R.phases.getD j ph0)).2 != 0) || ((R.stepsOf (R.phases.getD j ph0)).1 == 0) := rfl
    generalize R.phases.getD j ph0 = p at f1 hl hbad
    have z1 := newLen2 (m := m1) (u := 0) (n := 0)
    have z2 := zsLen (m := m1) (u := p.lenU) (n := p.lenN)
    have hA2 := above_push (cs := lenRow p.lenU p.lenN) hA
    have hv2 := push_old (cs' := lenRow p.lenU p.lenN) hv
    have hw2 : (m1.push (lenRow p.lenU p.lenN)).var m1.vars.length = some (lenRow p.lenU p.lenN) := push_var
    have l2 := lpLenU hw2
    have l3 := lpRcPhases hv2
    have l4 := vrRc hv2
    have l5 := vrLen2 hw2
    by_cases h3 : p.lenU = 3
    ·have b3 : (p.lenU == 3) = true := by simpa using h3
     rw [if_pos h3] at hbad
     have r1 : IntKind.i64.wrap ((R.phases.length : Int) - 1) = (R.phases.length : Int) - 1 := i64_wrap (by omega) (by omega)
     have e : (!R.lastBad j) = ((j : Int) == (R.phases.length : Int) - 1) := by
      rw [hbad, Bool.eq_iff_iff]
      simp only [Bool.not_eq_true', decide_eq_false_iff_not, beq_iff_eq]
      omega
     rw [e]
     repeat' (first | refine gos1 (jn @nr (jn @l1 (jn @f1 (jn @fePhLen (jn @lePhLen (jn @zrLen (jn @zoLen (jn @z1 (jn @z2 (jn @fpLenU (jn @l2 (jn @b3 (jn @l3 @r1))))))))))))) ?_ | (refine ops_here ?_; (fail_if_success (refine ops_case (B := true) rfl rfl rfl ?_ ?_)); (fail_if_success (refine ops_case (B := false) rfl rfl rfl ?_ ?_)); refine ops_case rfl rfl rfl (fun hB => ?_) (fun hB => ?_) <;> rw [hB]) | (refine runs_here ?_; refine runs_cond rfl (fun hc => ?_) (fun hc => ?_) <;> first | (cases hc; done) | skip))
     exact leaves_fin rfl rfl (above_fin hA2)
    ·have b3 : (p.lenU == 3) = false := by simpa using h3
     rw [if_neg h3] at hbad
     have f3 := fun mm => rstepsG_at (m := mm) (R := R) hl hs he
     rw [show stepsP p.lenU p.lenN R.steps R.epoch = R.stepsOf p from rfl] at f3
     have hin := stepsP_in (u := p.lenU) (n := p.lenN) (of := R.steps) (ep := R.epoch)
     rw [show stepsP p.lenU p.lenN R.steps R.epoch = R.stepsOf p from rfl] at hin
     generalize R.stepsOf p = s at f3 hbad hin
     have e : (!R.lastBad j) = ((s.2 == 0) && decide (s.1 > 0)) := by
      rw [hbad, Bool.eq_iff_iff]
      simp only [Bool.not_eq_true', Bool.or_eq_false_iff, bne_eq_false_iff_eq, beq_eq_false_iff_ne, Bool.and_eq_true, beq_iff_eq, decide_eq_true_eq]
      omega
     rw [e]
     cases hz : (s.2 == 0) with
     | true =>
      repeat' (first | refine gos1 (jn @nr (jn @l1 (jn @f1 (jn @fePhLen (jn @lePhLen (jn @zrLen (jn @zoLen (jn @z1 (jn @z2 (jn @fpLenU (jn @l2 (jn @b3 (jn @l4 (jn @l5 (jn @t1 (jn @f3 @hz)))))))))))))))) ?_ | (refine ops_here ?_; (fail_if_success (refine ops_case (B := true) rfl rfl rfl ?_ ?_)); (fail_if_success (refine ops_case (B := false) rfl rfl rfl ?_ ?_)); refine ops_case rfl rfl rfl (fun hB => ?_) (fun hB => ?_) <;> rw [hB]) | (refine runs_here ?_; refine runs_cond rfl (fun hc => ?_) (fun hc => ?_) <;> first | (cases hc; done) | skip))
      exact leaves_fin rfl rfl (above_fin hA2)
     | false =>
      repeat' (first | refine gos1 (jn @nr (jn @l1 (jn @f1 (jn @fePhLen (jn @lePhLen (jn @zrLen (jn @zoLen (jn @z1 (jn @z2 (jn @fpLenU (jn @l2 (jn @b3 (jn @l4 (jn @l5 (jn @t1 (jn @f3 @hz)))))))))))))))) ?_ | (refine ops_here ?_; (fail_if_success (refine ops_case (B := true) rfl rfl rfl ?_ ?_)); (fail_if_success (refine ops_case (B := false) rfl rfl rfl ?_ ?_)); refine ops_case rfl rfl rfl (fun hB => ?_) (fun hB => ?_) <;> rw [hB]) | (refine runs_here ?_; refine runs_cond rfl (fun hc => ?_) (fun hc => ?_) <;> first | (cases hc; done) | skip))
      exact leaves_fin rfl rfl (above_fin hA2)
   ·cases h
  ·cases h
 ·cases h
end
section
attribute [local irreducible] Next Inside Runs Ops table
attribute [local go_sem] szStr szInt Option.getD_some isNil evStr iv loadStr loadInt mapRc cellsRc newRc fpRcSteps fpRcEpoch fpRcPhases rowsS_len rowsPh_len fePhLen lePhLen
theorem feLenU {x : Ph} : evFieldAddr Tryz.prog 33 (.eptr (x.row.drop 1)) 0 = some (.eptr (x.row.drop 1)) := by kernel_rfl
theorem leLenU {m : Mem} {x : Ph} : evLoad Tryz.prog m 3 (.eptr (x.row.drop 1)) = some (.v (.int .i64 x.lenU)) := by kernel_rfl
def Rc.lensOk (R : Rc) : Prop := R.phases.length ≤ 64 ∧ (∀ p ∈ R.phases, lenMay p.lenU p.lenN) ∧ 0 ≤ R.steps ∧ 0 ≤ R.epoch
instance (R : Rc) : Decidable R.lensOk := by unfold Rc.lensOk; exact inferInstance
def rsumG : List AV → Mem → Option (AV × Mem)
 | [.agg cs], m =>
  match unRc cs with
  | some R => if R.lensOk then some (.v (.bool (!R.sumBad)), m) else none
  | none => none
 | _, _ => none
theorem rsumG_at (R : Rc) (m : Mem) (h : R.lensOk) : rsumG [.agg R.row] m = some (.v (.bool (!R.sumBad)), m) := by
 simp only [rsumG, unRc_row]
 rw [if_pos h]
def kpRSum20 : Nat → Option (List Nat) := fun
 | 0 => some [1]
 | 1 => some [1, 3]
 | 2 => some [1, 3, 4]
 | 3 => some [1, 3, 4, 11]
 | 4 => some [1, 3, 4]
 | 5 => some [1, 3, 4, 21]
 | 6 => some [2]
 | 7 => some [1, 3, 4, 5]
 | 8 => some [1, 3, 4]
 | 9 => some [2]
 | _ => none
attribute [go_sem] kpRSum20
def tab_rsum_ok : List (FuncId × (List AV → Mem → Option (AV × Mem))) := [(49, rstepsG)]
theorem rsum_ok : FunOk Tryz.prog 139 rsumG := by
 have hC := table_ok (P := Tryz.prog) (l := tab_rsum_ok) (table_more rsteps_ok table_nil)
 have t1 := fun args mm => table_at (l := tab_rsum_ok) (f := 49) (args := args) (m := mm) rfl
 refine fun_ok mixed hC Tryz.func139 rfl kpRSum20 false rfl fun args m r h => ?_
 unfold rsumG at h
 split at h
 ·rename_i cs
  split at h
  ·rename_i R hR
   obtain rfl := unRc_some hR
   split at h
   ·rename_i hyp
    obtain ⟨h64, hl, hs, he⟩ := hyp
    simp only [Option.some.injEq] at h
    subst h
    refine ⟨Nat.le_of_ble_eq_true rfl, ?_⟩
    refine en ?_
    have hv : (m.push R.row).var m.vars.length = some R.row := push_var
    have l1 := lpRcPhases hv
    have l2 := lpRcSteps hv
    have l4 := vrRc hv
    refine go0 ?_
    refine runs_loop (fun k e m' => ∃ (i : Nat), i ≤ R.phases.length ∧ firstBy restP (R.phases.drop i) i = firstBy restP R.phases 0 ∧ m' = m.push R.row ∧ k = R.phases.length - i ∧
     e = [(1, AV.ptr m.vars.length 0), (3, .v (.int .i64 (accS R i))), (4, .v (.int .i64 (i : Int)))]) (k := R.phases.length) ⟨0, Nat.zero_le _, rfl, rfl, rfl, rfl⟩ ?_
    rintro k e m' ⟨i, hi0, hf, rfl, rfl, rfl⟩
    refine go1 @l1 ?_
    refine runs_cond rfl (fun hc => ?_) (fun hc => ?_)
    ·have hi1 : i < R.phases.length := by have := of_decide_eq_true hc; omega
     have f2 := atPh (g := .no) (kk := .i64) hi1
     have eA : accS R (i + 1) = accS R i + (R.stepsOf (R.phases.getD i ph0)).1 := rfl
     have hin := accS_in R (i + 1)
     have hyes := fun hp => by_yes (d := ph0) hi1 hp hf
     have hno := fun hp => by_no (d := ph0) hi1 hp hf
     have hp := hl (R.phases.getD i ph0) (by rw [List.getD, List.getElem?_eq_getElem hi1]; exact List.getElem_mem _)
     generalize R.phases.getD i ph0 = p at f2 eA hyes hno hp
     have r6 := next_i64 (i := i) (by omega)
     cases h3 : (p.lenU == 3) with
     | true =>
      have hx := hyes h3
      have hb : (!R.sumBad) = decide (accS R i < R.steps) := by
       unfold Rc.sumBad
       rw [hx, if_neg (by omega), Int.toNat_natCast, Bool.eq_iff_iff]
       simp only [Bool.not_eq_true', decide_eq_false_iff_not, decide_eq_true_eq]
       omega
      rw [hb]
      refine go1 (jn @l1 (jn @f2 (jn @feLenU (jn @leLenU @h3)))) ?_
      refine runs_cond rfl (fun hc => ?_) (fun hc => by cases hc)
      refine go1 @l2 ?_
      exact leaves_fin rfl rfl fin_push
     | false =>
      have hx := hno h3
      have f3 := fun mm => rstepsG_at (m := mm) (R := R) hp hs he
      rw [show stepsP p.lenU p.lenN R.steps R.epoch = R.stepsOf p from rfl] at f3
      rw [eA] at hin
      have r1 : IntKind.i64.wrap (accS R i + (R.stepsOf p).1) = accS R i + (R.stepsOf p).1 := i64_wrap (by omega) (by omega)
      rw [← eA] at r1
      refine go1 (jn @l1 (jn @f2 (jn @feLenU (jn @leLenU @h3)))) ?_
      refine runs_cond rfl (fun hc => by cases hc) (fun hc => ?_)
      refine go0 ?_
      refine runs_ops_drawn_kept (by kernel_rfl) ?_
      refine go1 (jn @l1 (jn @l4 (jn @f2 (jn @t1 (jn @f3 @r6))))) ?_
      rw [← eA, r1]
      exact ⟨R.phases.length - (i + 1), by omega, i + 1, hi1, hx, rfl, rfl, rfl⟩
    ·have hi1 : i = R.phases.length := by have := of_decide_eq_false hc; omega
     subst hi1
     have hx := by_end hf
     have hb : (!R.sumBad) = (accS R R.phases.length == R.steps) := by
      unfold Rc.sumBad
      rw [hx, if_pos (by decide), bne, Bool.not_not]
     rw [hb]
     refine go1 @l2 ?_
     exact leaves_fin rfl rfl fin_push
   ·cases h
  ·cases h
 ·cases h
end
section
attribute [local irreducible] Next Inside Runs Ops table
/-! ### api.Len -/
structure Ln where
 U : Int
 N : Int
def ln0 : Ln := ⟨0, 0⟩
def Ln.row (x : Ln) : List AV := [iv x.U, iv x.N]
def rowsLn (l : List Ln) : List (List AV) := l.map Ln.row
theorem rowsLn_len (l : List Ln) : (rowsLn l).length = l.length := List.length_map ..
theorem rowsLn_app (l l2 : List Ln) : rowsLn l ++ rowsLn l2 = rowsLn (l ++ l2) := List.map_append.symm
theorem rowsLn_get {l : List Ln} {i : Nat} (hi : i < l.length) : (rowsLn l)[i]? = some (l.getD i ln0).row := by
 simp [rowsLn, List.getD, List.getElem?_eq_getElem hi]
theorem elLn : tElem Tryz.prog 151 = some 33 := by simp only [tElem, Tryz.underlying151]
theorem naLn : tArr Tryz.prog 151 = none := by simp only [tArr, Tryz.underlying151]
theorem appLn : appB Tryz.prog 151 151 2 = true := by kernel_rfl
theorem szLn : tSize Tryz.prog 33 = some 2 := by kernel_rfl
theorem atLn {g : Grow} {kk : IntKind} {l : List Ln} {i : Nat} (hi : i < l.length) : evIndexAddr Tryz.prog 151 (.lst g 2 (rowsLn l)) (.v (.int kk (i : Int))) = some (.eptr (l.getD i ln0).row) := at_list elLn naLn szLn (rowsLn_get hi)
theorem feLnU {x : Ln} : evFieldAddr Tryz.prog 33 (.eptr x.row) 0 = some (.eptr x.row) := by kernel_rfl
theorem leLnU {m : Mem} {x : Ln} : evLoad Tryz.prog m 3 (.eptr x.row) = some (iv x.U) := by kernel_rfl
end
section
attribute [local irreducible] Next Inside Runs Ops table
attribute [local go_sem] szStr szInt Option.getD_some isNil evStr loadStr loadInt mapRc cellsRc newRc fpRcPhases fpRcSwa fpRcSwaOn fpRcSwaFrom rowsPh_len rowsGs_len rowsN_len fePhLen lePhLen fePhSets lePhSets feGsNodes leGsNodes iv
theorem feNdLen {x : Nd} : evFieldAddr Tryz.prog 102 (.eptr x.row) 5 = some (.eptr [iv x.u, iv x.n]) := by kernel_rfl
attribute [local go_sem] feNdLen
theorem leNdLen {m : Mem} {u n : Int} : evLoad Tryz.prog m 33 (.eptr [.v (.int .i64 u), .v (.int .i64 n)]) = some (.agg [.v (.int .i64 u), .v (.int .i64 n)]) := by kernel_rfl
attribute [local go_sem] leNdLen
theorem mkLn0 : evBuildSlice Tryz.prog 151 0 [] = some (.lst .full 2 []) := build_nil appLn
attribute [local go_sem] mkLn0
theorem mkLn1 {u n : Int} : evBuildSlice Tryz.prog 151 1 [(0, .agg [.v (.int .i64 u), .v (.int .i64 n)])] = some (.lst .full 2 [[.v (.int .i64 u), .v (.int .i64 n)]]) := build_rows appLn rfl rfl (by decide)
attribute [local go_sem] mkLn1
def setLens (s : Gs) : List Ln := s.nodes.map fun x => ⟨x.u, x.n⟩
def phLens (p : Ph) : List Ln := ⟨p.lenU, p.lenN⟩ :: p.sets.flatMap setLens
def Rc.lens (R : Rc) : List Ln := R.phases.flatMap phLens ++ (if R.swaOn then [⟨R.swaFromU, R.swaFromN⟩] else [])
theorem flat_len {α β : Type} {f : α → List β} {c : Nat} : ∀ (l : List α), (∀ x ∈ l, (f x).length ≤ c) → (l.flatMap f).length ≤ l.length * c
 | [], _ => by simp
 | x :: l, h => by
  have h1 := h x (List.mem_cons_self ..)
  have h2 := flat_len l fun y hy => h y (List.mem_cons_of_mem _ hy)
  rw [List.flatMap_cons, List.length_append, List.length_cons, Nat.add_mul]
  omega
theorem setLens_len {s : Gs} (h : s.nodes.length ≤ 100) : (setLens s).length ≤ 100 := by unfold setLens; rw [List.length_map]; exact h
theorem take_len {α β : Type} {f : α → List β} {c : Nat} {l : List α} {i : Nat} (h : ∀ x ∈ l, (f x).length ≤ c) (hi : i ≤ l.length) : ((l.take i).flatMap f).length ≤ i * c := by
 have := flat_len (l.take i) fun x hx => h x (List.mem_of_mem_take hx)
 rw [List.length_take, Nat.min_eq_left hi] at this
 exact this
theorem phLens_len {R : Rc} (h : R.small) : ∀ p ∈ R.phases, (phLens p).length ≤ 6401 := fun p hp => by
 have := h.2.2.2 p hp
 have h2 := flat_len (f := setLens) p.sets fun s hs => setLens_len (this.2.2 s hs)
 have h3 := Nat.mul_le_mul_right 100 this.2.1
 unfold phLens
 rw [List.length_cons]
 omega
theorem rowsLn1 {u n : Int} : ([[.v (.int .i64 u), .v (.int .i64 n)]] : List (List AV)) = rowsLn [⟨u, n⟩] := rfl
def lensG : List AV → Mem → Option (AV × Mem)
 | [.agg cs], m =>
  match unRc cs with
  | some R => if R.small then some (.lst .no 2 (rowsLn R.lens), m) else none
  | none => none
 | _, _ => none
theorem lensG_at (R : Rc) (m : Mem) (h : R.small) : lensG [.agg R.row] m = some (.lst .no 2 (rowsLn R.lens), m) := by
 simp only [lensG, unRc_row]
 rw [if_pos h]
theorem app_ln {m m' : Mem} {g g2 : Grow} (hG : GrowsA m g m') (xs : List Ln) (u n : Int) (hl : xs.length ≤ 1000000) :
  ∃ g' m'', evAppend Tryz.prog 151 151 m' (.lst g 2 (rowsLn xs)) (.lst g2 2 [[.v (.int .i64 u), .v (.int .i64 n)]]) = some (.lst g' 2 (rowsLn (xs ++ [⟨u, n⟩])), m'') ∧ GrowsA m g' m'' ∧ ∀ q, m''.var q = m'.var q := by
 have := app_growsV appLn hG (y := .lst g2 2 [[.v (.int .i64 u), .v (.int .i64 n)]]) asList_lst (xs := rowsLn xs) (by rw [rowsLn_len]; unfold lim; simp; omega)
 rwa [rowsLn1, rowsLn_app] at this
def kpLens20 : Nat → Option (List Nat) := fun
 | 0 => some [1]
 | 1 => some [1, 3]
 | 2 => some [1, 3, 4]
 | 3 => some [1, 3, 4, 12]
 | 4 => some [1, 3, 4]
 | 5 => some [1, 3, 4]
 | 6 => some [1, 3, 4, 5]
 | 7 => some [1, 3, 4, 5, 32]
 | 8 => some [1, 3, 4, 5]
 | 9 => some [1, 3, 4, 5, 6]
 | 10 => some [1, 3, 4, 5, 6, 47]
 | 11 => some [1, 3, 4, 5, 6]
 | 12 => some [1, 3, 4, 5, 6]
 | 13 => some [1, 3, 69]
 | 14 => some [3]
 | 15 => some [2]
 | _ => none
attribute [go_sem] kpLens20
theorem lens_ok : FunOk Tryz.prog 138 lensG := by
 have hC := table_ok (P := Tryz.prog) (l := []) table_nil
 refine fun_ok mixed hC Tryz.func138 rfl kpLens20 false rfl fun args m r h => ?_
 unfold lensG at h
 split at h
 ·rename_i cs
  split at h
  ·rename_i R hR
   obtain rfl := unRc_some hR
   split at h
   ·rename_i hsm
    simp only [Option.some.injEq] at h
    subst h
    have hP64 := hsm.2.2.1
    refine ⟨Nat.le_of_ble_eq_true rfl, ?_⟩
    refine en ?_
    have hv : (m.push R.row).var m.vars.length = some R.row := push_var
    have hG0 : GrowsA m .full (m.push R.row) := growsA_push growsA_full
    refine go0 ?_
    refine runs_loop (fun k e m' => ∃ (i : Nat) (gr : Grow), i ≤ R.phases.length ∧ GrowsA m gr m' ∧ m'.var m.vars.length = some R.row ∧ k = R.phases.length - i ∧
     e = [(1, AV.ptr m.vars.length 0), (3, .lst gr 2 (rowsLn ((R.phases.take i).flatMap phLens))), (4, .v (.int .i64 (i : Int)))]) (k := R.phases.length) ⟨0, _, Nat.zero_le _, hG0, hv, rfl, rfl⟩ ?_
    rintro k e m' ⟨i, gr, hi0, hG, hw, rfl, rfl⟩
    have l1 := lpRcPhases hw
    refine go1 @l1 ?_
    refine runs_cond rfl (fun hc => ?_) (fun hc => ?_)
    ·have hi1 : i < R.phases.length := by have := of_decide_eq_true hc; omega
     have f2 := atPh (g := .no) (kk := .i64) hi1
     have hp := hsm.phase i
     have hN := flat_next (f := phLens) (d := ph0) hi1
     have hB := take_len (phLens_len hsm) hi0
     have hph : phLens (R.phases.getD i ph0) = ⟨(R.phases.getD i ph0).lenU, (R.phases.getD i ph0).lenN⟩ :: (R.phases.getD i ph0).sets.flatMap setLens := rfl
     generalize R.phases.getD i ph0 = p at f2 hp hN hph
     generalize (R.phases.take i).flatMap phLens = acc at hG hN hB
     obtain ⟨g1, m1, a1, hG1, hV1⟩ := app_ln (g2 := .full) hG acc p.lenU p.lenN (by omega)
     have hw1 : m1.var m.vars.length = some R.row := by rw [hV1]; exact hw
     refine go1 (jn @l1 (jn @f2 @a1)) ?_
     refine runs_loop (fun k e m' => ∃ (j : Nat) (gr : Grow), j ≤ p.sets.length ∧ GrowsA m gr m' ∧ m'.var m.vars.length = some R.row ∧ k = p.sets.length - j ∧
      e = [(1, AV.ptr m.vars.length 0), (3, .lst gr 2 (rowsLn (acc ++ [⟨p.lenU, p.lenN⟩] ++ (p.sets.take j).flatMap setLens))), (4, .v (.int .i64 (i : Int))), (5, .v (.int .i64 (j : Int)))]) (k := p.sets.length) ⟨0, _, Nat.zero_le _, hG1, hw1, rfl, by rw [List.take_zero, List.flatMap_nil, List.append_nil]; rfl⟩ ?_
     rintro k e m2 ⟨j, gr2, hj0, hG2, hw2, rfl, rfl⟩
     have l2 := lpRcPhases hw2
     refine go1 (jn @l2 @f2) ?_
     refine runs_cond rfl (fun hc => ?_) (fun hc => ?_)
     ·have hj1 : j < p.sets.length := by have := of_decide_eq_true hc; omega
      have f3 := atGs (g := .no) (kk := .i64) hj1
      have hN2 := flat_next (f := setLens) (d := gs0) hj1
      have hB2 := take_len (fun s hs => setLens_len (hp.2.2 s hs)) hj0
      have hs : (p.sets.getD j gs0).nodes.length ≤ 100 := hp.2.2 _ (by rw [List.getD, List.getElem?_eq_getElem hj1]; exact List.getElem_mem _)
      have hse : setLens (p.sets.getD j gs0) = (p.sets.getD j gs0).nodes.map fun x => ⟨x.u, x.n⟩ := rfl
      generalize p.sets.getD j gs0 = s at f3 hN2 hs hse
      generalize (p.sets.take j).flatMap setLens = acc2 at hG2 hN2 hB2
      have hp2 := hp.2.1
      refine go0 ?_
      refine runs_loop (fun k e m' => ∃ (t : Nat) (gr : Grow), t ≤ s.nodes.length ∧ GrowsA m gr m' ∧ m'.var m.vars.length = some R.row ∧ k = s.nodes.length - t ∧
       e = [(1, AV.ptr m.vars.length 0), (3, .lst gr 2 (rowsLn (acc ++ [⟨p.lenU, p.lenN⟩] ++ acc2 ++ (s.nodes.take t).map fun x => ⟨x.u, x.n⟩))), (4, .v (.int .i64 (i : Int))), (5, .v (.int .i64 (j : Int))), (6, .v (.int .i64 (t : Int)))]) (k := s.nodes.length) ⟨0, _, Nat.zero_le _, hG2, hw2, rfl, by rw [List.take_zero, List.map_nil, List.append_nil]; rfl⟩ ?_
      rintro k e m3 ⟨t, gr3, ht0, hG3, hw3, rfl, rfl⟩
      have l3 := lpRcPhases hw3
      refine go1 (jn @l3 (jn @f2 @f3)) ?_
      refine runs_cond rfl (fun hc => ?_) (fun hc => ?_)
      ·have ht1 : t < s.nodes.length := by have := of_decide_eq_true hc; omega
       have f4 := atNodes (g := .no) (kk := .i64) ht1
       have hN3 : (s.nodes.take (t + 1)).map (fun x => (⟨x.u, x.n⟩ : Ln)) = (s.nodes.take t).map (fun x => ⟨x.u, x.n⟩) ++ [⟨(s.nodes.getD t nd0).u, (s.nodes.getD t nd0).n⟩] := by rw [take_next (d := nd0) ht1, List.map_append]; rfl
       have hB3 : ((s.nodes.take t).map (fun x => (⟨x.u, x.n⟩ : Ln))).length ≤ 100 := by rw [List.length_map, List.length_take]; omega
       generalize s.nodes.getD t nd0 = x at f4 hN3
       generalize (s.nodes.take t).map (fun x => (⟨x.u, x.n⟩ : Ln)) = acc3 at hG3 hN3 hB3
       obtain ⟨g4, m4, a4, hG4, hV4⟩ := app_ln (g2 := .full) hG3 (acc ++ [⟨p.lenU, p.lenN⟩] ++ acc2 ++ acc3) x.u x.n (by simp only [List.length_append, List.length_cons, List.length_nil]; omega)
       have r6 := next_i64 (i := t) (by omega)
       refine go1 (jn @l3 (jn @f2 (jn @f3 (jn @f4 (jn @a4 @r6))))) ?_
       exact ⟨s.nodes.length - (t + 1), by omega, t + 1, _, ht1, hG4, by rw [hV4]; exact hw3, rfl, by rw [hN3, ← List.append_assoc]⟩
      ·have ht1 : t = s.nodes.length := by have := of_decide_eq_false hc; omega
       subst ht1
       have r6 := next_i64 (i := j) (by omega)
       rw [List.take_length, ← hse, List.append_assoc _ acc2, ← hN2]
       refine go1 @r6 ?_
       exact ⟨p.sets.length - (j + 1), by omega, j + 1, _, hj1, hG3, hw3, rfl, rfl⟩
     ·have hj1 : j = p.sets.length := by have := of_decide_eq_false hc; omega
      subst hj1
      have r6 := next_i64 (i := i) (by omega)
      rw [List.take_length, List.append_assoc acc, List.singleton_append, ← hph, ← hN]
      refine go1 @r6 ?_
      exact ⟨R.phases.length - (i + 1), by omega, i + 1, _, hi1, hG2, hw2, rfl, rfl⟩
    ·have hi1 : i = R.phases.length := by have := of_decide_eq_false hc; omega
     subst hi1
     rw [List.take_length]
     have hB := flat_len R.phases (phLens_len hsm)
     have y1 := lpRcSwaOn hw
     have y2 := lpRcSwaFrom hw
     unfold Rc.lens
     cases hq : R.swaOn with
     | true =>
      obtain ⟨g4, m4, a4, hG4, hV4⟩ := app_ln (g2 := .full) hG (R.phases.flatMap phLens) R.swaFromU R.swaFromN (by omega)
      repeat' (first | refine gos1 (jn @y1 (jn @hq (jn @y2 @a4))) ?_ | (refine ops_here ?_; (fail_if_success (refine ops_case (B := true) rfl rfl rfl ?_ ?_)); (fail_if_success (refine ops_case (B := false) rfl rfl rfl ?_ ?_)); refine ops_case rfl rfl rfl (fun hB => ?_) (fun hB => ?_) <;> rw [hB]) | (refine runs_here ?_; refine runs_cond rfl (fun hc => ?_) (fun hc => ?_) <;> first | (cases hc; done) | skip))
      exact leaves_lst rfl rfl (growsA_fin hG4)
     | false =>
      rw [if_neg (by decide), List.append_nil]
      repeat' (first | refine gos1 (jn @y1 @hq) ?_ | (refine ops_here ?_; (fail_if_success (refine ops_case (B := true) rfl rfl rfl ?_ ?_)); (fail_if_success (refine ops_case (B := false) rfl rfl rfl ?_ ?_)); refine ops_case rfl rfl rfl (fun hB => ?_) (fun hB => ?_) <;> rw [hB]) | (refine runs_here ?_; refine runs_cond rfl (fun hc => ?_) (fun hc => ?_) <;> first | (cases hc; done) | skip))
      exact leaves_lst rfl rfl (growsA_fin hG)
   ·cases h
  ·cases h
 ·cases h
end
end Go.Proofs.YtojaokhkbmiidaaGreat.Ev

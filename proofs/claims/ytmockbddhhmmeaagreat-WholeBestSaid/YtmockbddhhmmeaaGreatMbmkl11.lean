/- slices.Insert at rows of two cells. -/
import Derived.Test.YtmockbddhhmmeaaGreatMbmkl10
import Derived.Test.YtmockbddhhmmeaaGreatMa8
import Derived.Test.YtmockbddhhmmeaaGreatMbmkl8
import Derived.Test.YtmockbddhhmmeaaGreatMbmkl9
namespace Go.Proofs.YtmockbddhhmmeaaGreat.Ev
open Go Go.Proofs
set_option maxRecDepth 10000
set_option maxHeartbeats 8000000
set_option linter.unusedVariables false
set_option linter.unusedSimpArgs false
noncomputable section
attribute [local irreducible] Next Inside Runs Ops table
attribute [local irreducible] XRuns XOps XLin
attribute [local go_sem] szStr szInt Option.getD_some isNil evMinMax evFoldI iv
theorem ret_one {P : Program} {fn : Func} {m m1 m2 : Mem} {e : Env} {t : Tmp} {a r : AV} (h : fn.results = #[.tmp t]) (hg : Ev.get e t = a) (ha : resAV m.vars.length m1 a = some r) (hm : finMem m m1 = m2) : evRet P false fn m e m1 = some (r, m2) := by
 unfold evRet
 rw [h]
 simp [evResult, hg, growRes, ha, hm]
def insC (A : List AV) (i : Nat) (R : List AV) : List AV := A.take (i * 2) ++ R ++ A.drop (i * 2)
theorem ins_of {cs R cs' : List AV} {n i : Nat} (hl : n * 2 ≤ cs.length) (hi : i ≤ n) (hR : R.length = 2) (h1 : ∀ j, j < i * 2 → cs'[j]? = cs[j]?) (h2 : ∀ j, j < 2 → cs'[i * 2 + j]? = R[j]?) (h3 : ∀ j, i * 2 ≤ j → j < n * 2 → cs'[j + 2]? = cs[j]?) :
  cs'.take ((n + 1) * 2) = insC (cs.take (n * 2)) i R := by
 apply List.ext_getElem?
 intro j
 unfold insC
 rw [List.getElem?_take, List.append_assoc, List.getElem?_append, List.getElem?_append]
 have e1 : ((cs.take (n * 2)).take (i * 2)).length = i * 2 := by simp; omega
 rw [e1, hR]
 by_cases c1 : j < i * 2
 ·rw [if_pos (by omega), if_pos c1, h1 j c1, List.getElem?_take, if_pos c1, List.getElem?_take, if_pos (by omega)]
 ·rw [if_neg c1]
  by_cases c2 : j - i * 2 < 2
  ·rw [if_pos (by omega), if_pos c2, ← h2 (j - i * 2) c2, show i * 2 + (j - i * 2) = j by omega]
  ·rw [if_neg c2, List.getElem?_drop, List.getElem?_take, show i * 2 + (j - i * 2 - 2) = j - 2 by omega]
   by_cases c3 : j < (n + 1) * 2
   ·rw [if_pos c3, if_pos (by omega), ← h3 (j - 2) (by omega) (by omega), show j - 2 + 2 = j by omega]
   ·rw [if_neg c3, if_neg (by omega)]
theorem splice_at {cs R : List AV} {off : Nat} (h : off + R.length ≤ cs.length) (j : Nat) : (splice cs off R)[j]? = if off ≤ j ∧ j < off + R.length then R[j - off]? else cs[j]? := getElem?_splice h j
def insOk (n i : Nat) (cs R : List AV) (r : AV) (F' : Objs) : Prop := ∃ b' c' cs', r = .v (rawSl b' 0 (n + 1) c') ∧ (b', XOb.arr cs') ∈ F' ∧ n + 1 ≤ c' ∧ c' * 2 ≤ cs'.length ∧ cs'.take ((n + 1) * 2) = insC (cs.take (n * 2)) i R
theorem mem_other {F : Objs} {b v : Nat} {o o' : XOb} (h : (v, o) ∈ F) (hne : v ≠ b) : (v, o) ∈ setObjs F b o' := List.mem_map.2 ⟨_, h, by simp [hne]⟩
theorem zrK : zeroCells Tryz.prog 54 = some zeroKt := zrKt
theorem byKt : tBytes Tryz.prog 54 = some 16 := by kernel_rfl
theorem intU : Tryz.prog.underlying 3 = some (.int .i64) := by simp only [Tryz.underlying3]
def kpIns : Nat → Option (List Nat) := fun
 | 0 => some [0, 1, 2]
 | 1 => some [0, 1, 2]
 | 2 => some [0, 1, 2, 7]
 | 3 => some [0, 1, 2, 7, 16]
 | 4 => some [6]
 | 5 => some [0, 1, 2, 7, 8]
 | 6 => some [0, 1, 2, 7, 8, 22]
 | 7 => some [6]
 | 8 => some [0, 1, 2, 7, 8, 31]
 | 9 => some [0, 1, 2, 7, 9]
 | 10 => some [0, 1, 7, 9]
 | 11 => some [9]
 | 12 => some [6]
 | 13 => some [0, 1, 2, 7, 8]
 | 14 => some [0, 1, 2, 7, 8, 68]
 | 15 => some [0, 1, 2]
 | 16 => some [0]
 | 17 => some [6]
 | 18 => some [0, 1, 7]
 | 19 => some [0]
 | 20 => some [6]
 | _ => none
attribute [go_sem] kpIns
theorem ins_ok {b c vb n i : Nat} {cs R : List AV} (hR : R.length = 2) (hi : i ≤ n) (hn : n ≤ c) (hcl : c * 2 ≤ cs.length) (hbv : b ≠ vb) (hn6 : n ≤ 1000000) :
  FunOkI Tryz.prog 170 (fun args _ F => args = [.v (rawSl b 0 n c), .v (.int .i64 (i : Int)), .v (rawSl vb 0 1 1)] ∧ (b, XOb.arr cs) ∈ F ∧ (vb, XOb.arr R) ∈ F) fun _ m _ r m' F' => m' = m ∧ insOk n i cs R r F' := by
 have hC := table_ok (P := Tryz.prog) (l := []) table_nil
 refine fun_okI Tryz.func170 rfl rfl fun args m F h => ?_
 obtain ⟨rfl, hb, hv⟩ := h
 refine ⟨Nat.le_of_ble_eq_true rfl, fun φ wd => ?_⟩
 refine en ?_
 have hRt : (R.drop 0).take (1 * 2) = R := by rw [List.drop_zero, List.take_of_length_le (by omega)]
 refine xq ?_
 refine x_region (kp := kpIns) mixed hC ?_
 refine go0 ?_
 refine xq ?_
 refine x_ops (l2 := kpIns 1) ?_
 refine gox0 hC ?_
 refine xops_step (xs_sliceRaw (t1 := 0) (t2 := 0) rfl rfl elKt szKt rfl bound_nat rfl hi hn hn rfl ?_)
 refine gox0 hC ?_
 refine xq ?_
 refine x_ops (l2 := kpIns 2) ?_
 refine gox0 hC ?_
 refine xops_step (xs_lenRaw rfl rfl rfl rfl rfl elKt rfl rfl ?_)
 refine gox0 hC ?_
 refine xq ?_
 have z1 : (((1 : Nat) : Int) == 0) = false := rfl
 refine x_region (kp := kpIns) mixed hC ?_
 refine go1 @z1 ?_
 refine xq ?_
 refine x_cond rfl (fun hc => by cases hc) (fun hc => ?_)
 refine xq ?_
 refine x_ops (l2 := kpIns 5) ?_
 refine gox0 hC ?_
 refine xops_step (xs_lenRaw rfl rfl rfl rfl rfl elKt rfl rfl ?_)
 refine gox0 hC ?_
 refine xq ?_
 refine x_region (kp := kpIns) mixed hC ?_
 refine go0 ?_
 refine xq ?_
 refine x_cond rfl (fun hc => ?_) (fun hc => ?_)
 ·have hin : i = n := by have := eq_of_beq hc; omega
  subst hin
  refine xq ?_
  refine x_ops (l2 := kpIns 7) ?_
  refine gox0 hC ?_
  refine xops_step (xs_appendRaws rfl rfl (by decide) rfl rfl rfl rfl appKt hb rfl (by omega) hn hv rfl (by omega) (by unfold lim; omega) (fun hr => ?_) fun hr b' c' vs g1 g2 g3 => ?_)
  ·rw [hRt]
   refine gox0 hC ?_
   refine xq ?_
   refine ⟨_, _, ret_one rfl rfl rfl (finMem_self _), rfl, b, c, _, rfl, set_mem hb, hr, by rw [splice_length (by omega)]; exact hcl, ins_of (by omega) (Nat.le_refl _) hR (fun j hj => ?_) (fun j hj => ?_) fun j h1 h2 => by omega⟩
   ·rw [splice_at (by omega), if_neg (by omega)]
   ·rw [splice_at (by omega), if_pos (by omega)]
    congr 1
    omega
  ·rw [hRt]
   refine gox0 hC ?_
   refine xq ?_
   refine ⟨_, _, ret_one rfl rfl rfl (finMem_self _), rfl, b', c', _, rfl, List.mem_cons_self, g1, by simp; omega, ins_of (by omega) (Nat.le_refl _) hR (fun j hj => ?_) (fun j hj => ?_) fun j h1 h2 => by omega⟩
   ·rw [List.append_assoc, List.getElem?_append, if_pos (by simp; omega), List.drop_zero, List.getElem?_take, if_pos (by omega)]
   ·have e1 : ((cs.drop 0).take (i * 2)).length = i * 2 := by simp; omega
    rw [List.append_assoc, List.getElem?_append, e1, if_neg (by omega), List.getElem?_append, if_pos (by omega)]
    congr 1
    omega
 ·have hin : i < n := by
   have : (i : Int) ≠ (n : Int) := by simpa using hc
   omega
  have w1 : IntKind.i64.wrap ((n : Int) + ((1 : Nat) : Int)) = ((n + 1 : Nat) : Int) := by rw [wrap_i64 (by omega) (by omega)]; omega
  have w2 : IntKind.i64.wrap (((n + 1 : Nat) : Int) - (i : Int)) = ((n + 1 - i : Nat) : Int) := by rw [wrap_i64 (by omega) (by omega)]; omega
  have w3 : IntKind.i64.wrap ((i : Int) + ((1 : Nat) : Int)) = ((i + 1 : Nat) : Int) := by rw [wrap_i64 (by omega) (by omega)]; omega
  refine xq ?_
  refine x_ops (l2 := kpIns 8) ?_
  refine gox1 hC @w1 ?_
  refine xops_step (xs_capRaw rfl rfl rfl rfl rfl elKt rfl rfl ?_)
  refine gox0 hC ?_
  refine xq ?_
  refine x_cond rfl (fun hc => ?_) (fun hc => ?_)
  ·have hg : c < n + 1 := by have := of_decide_eq_true hc; omega
   refine xq ?_
   refine x_ops (l2 := kpIns 9) ?_
   refine gox0 hC ?_
   refine xops_step (xs_sliceRaw (t1 := 0) (t2 := 0) (l := 0) (h := i) rfl rfl elKt szKt rfl rfl bound_nat (by omega) (by omega) hn rfl ?_)
   refine gox1 hC (jn @w1 @w2) ?_
   have heq : rawSl b (if c = 0 then 0 else 0 + 0 * 2) (i - 0) (c - 0) = rawSl b 0 i c := by
    rw [show (if c = 0 then 0 else 0 + 0 * 2) = 0 by split <;> rfl, Nat.sub_zero, Nat.sub_zero]
   refine xops_step (xs_appendMake rfl rfl (by decide) rfl rfl rfl rfl elKt intU szKt byKt (by decide) zrKt rfl (by decide) rfl hb (congrArg AV.v heq) (by omega) rfl (by omega) (by omega) (by unfold lim; omega) fun b' c' vs g1 g2 g3 => ?_)
   have hbb : b ≠ b' := g2 _ hb
   have hvb : vb ≠ b' := g2 _ hv
   refine gox0 hC ?_
   refine xq ?_
   have hni : i + (n + 1 - i) = n + 1 := by omega
   rw [hni] at g1 ⊢
   have hL0 : ((cs.drop 0).take (i * 2) ++ vs.map AV.v).length = c' * 2 := by
    rw [List.length_append, List.length_take, List.length_drop, List.length_map, g3]
    omega
   have hL0a : ∀ j, j < i * 2 → ((cs.drop 0).take (i * 2) ++ vs.map AV.v)[j]? = cs[j]? := fun j hj => by
    rw [List.getElem?_append, if_pos (by simp; omega), List.drop_zero, List.getElem?_take, if_pos hj]
   generalize (cs.drop 0).take (i * 2) ++ vs.map AV.v = L0 at hL0 hL0a ⊢
   have hm0 : (b', XOb.arr L0) ∈ (b', XOb.arr L0) :: F := List.mem_cons_self
   refine x_ops (l2 := kpIns 10) ?_
   refine gox0 hC ?_
   refine xops_step (xs_sliceRaw (t1 := 0) (t2 := 0) (l := i) (h := n + 1) rfl rfl elKt szKt rfl bound_nat rfl (by omega) g1 g1 rfl ?_)
   have heq2 : rawSl b' (if c' = i then 0 else 0 + i * 2) (n + 1 - i) (c' - i) = rawSl b' (i * 2) (n + 1 - i) (c' - i) := by
    rw [if_neg (by omega), Nat.zero_add]
   refine gox0 hC ?_
   refine xops_step (xs_copyRaw (k := 2) (q := 1) rfl rfl (by decide) rfl rfl rfl rfl elKt szKt hm0 (List.mem_cons_of_mem _ hv) (congrArg AV.v heq2) rfl (by show min 1 (n + 1 - i) = 1; omega) (by omega) (by omega) ?_)
   rw [hRt]
   have hm1 := set_mem (o' := XOb.arr (splice L0 (i * 2) R)) hm0
   have hb1 := mem_other (o' := XOb.arr (splice L0 (i * 2) R)) (List.mem_cons_of_mem (b', XOb.arr L0) hb) hbb
   have hL1 : (splice L0 (i * 2) R).length = c' * 2 := by rw [splice_length (by omega), hL0]
   have hL1a : ∀ j, (splice L0 (i * 2) R)[j]? = if i * 2 ≤ j ∧ j < i * 2 + R.length then R[j - i * 2]? else L0[j]? := splice_at (by omega)
   generalize splice L0 (i * 2) R = L1 at hm1 hb1 hL1 hL1a ⊢
   generalize setObjs ((b', XOb.arr L0) :: F) b' (XOb.arr L1) = F1 at hm1 hb1 ⊢
   refine gox0 hC ?_
   refine xq ?_
   refine x_drawnX mixed (l2 := kpIns 11) (by kernel_rfl) (by kernel_rfl) ?_
   refine goxl1 hC @w3 ?_
   refine xl_step rfl (xra_sliceFrom (t1 := 0) (t2 := 0) (l := i + 1) (n := n + 1) (k := 2) rfl elKt szKt rfl rfl (by omega) g1) rfl ?_
   refine goxl0 hC ?_
   refine xl_step rfl (xra_sliceFrom (t1 := 0) (t2 := 0) (l := i) (n := n) (k := 2) rfl elKt szKt rfl rfl (by omega) hn) rfl ?_
   have heq3 : rawSl b (if c = i then 0 else 0 + i * 2) (n - i) (c - i) = rawSl b (i * 2) (n - i) (c - i) := by
    rw [if_neg (by omega), Nat.zero_add]
   by_cases hlastc : c' = i + 1
   ·omega
   have heq4 : rawSl b' (if c' = i + 1 then 0 else 0 + (i + 1) * 2) (n + 1 - (i + 1)) (c' - (i + 1)) = rawSl b' ((i + 1) * 2) (n + 1 - (i + 1)) (c' - (i + 1)) := by
    rw [if_neg hlastc, Nat.zero_add]
   refine xl_last (m1 := m) rfl (xra_copyRaw (k := 2) (q := n - i) rfl rfl rfl rfl elKt szKt hm1 hb1 (congrArg AV.v heq4) (congrArg AV.v heq3) (by show min (n - i) (n + 1 - (i + 1)) = n - i; omega) (by omega) (by omega)) rfl ?_
   intro e2 h2
   simp only [go_sem, reduceIte, Nat.reduceEqDiff] at h2
   subst h2
   refine xq ?_
   refine x_region (kp := kpIns) mixed hC ?_
   refine go0 ?_
   refine xq ?_
   have hpl : ((cs.drop (i * 2)).take ((n - i) * 2)).length = (n - i) * 2 := by simp; omega
   refine ⟨_, _, ret_one rfl rfl rfl (finMem_self _), rfl, b', c', _, rfl, set_mem hm1, g1, by rw [splice_length (by omega)]; omega, ins_of (by omega) hi hR (fun j hj => ?_) (fun j hj => ?_) fun j h1 h2 => ?_⟩
   ·rw [splice_at (by omega), if_neg (by omega), hL1a, if_neg (by omega), hL0a j hj]
   ·rw [splice_at (by omega), if_neg (by omega), hL1a, if_pos (by omega)]
    congr 1
    omega
   ·rw [splice_at (by omega), if_pos (by omega), List.getElem?_take, if_pos (by omega), List.getElem?_drop]
    congr 1
    omega
  ·have hg : n + 1 ≤ c := by have := of_decide_eq_false hc; omega
   refine xq ?_
   refine x_ops (l2 := kpIns 13) ?_
   refine gox1 hC @w1 ?_
   refine xops_step (xs_sliceRaw (t1 := 0) (t2 := 0) (l := 0) (h := n + 1) rfl rfl elKt szKt rfl rfl bound_nat (by omega) hg hn rfl ?_)
   have heq : rawSl b (if c = 0 then 0 else 0 + 0 * 2) (n + 1 - 0) (c - 0) = rawSl b 0 (n + 1) c := by
    rw [show (if c = 0 then 0 else 0 + 0 * 2) = 0 by split <;> rfl, Nat.sub_zero, Nat.sub_zero]
   rw [heq]
   refine gox0 hC ?_
   refine xq ?_
   refine x_ops (l2 := kpIns 14) ?_
   refine gox1 hC @w3 ?_
   refine xops_step (xs_sliceRaw (t1 := 0) (t2 := 0) (l := i + 1) (h := n + 1) rfl rfl elKt szKt rfl bound_nat rfl (by omega) hg hg rfl ?_)
   refine gox0 hC ?_
   refine xops_step (xs_apart (k := 2) (el := 54) (tR := 4) rfl rfl (by decide) rfl rfl rfl Tryz.func177 rfl rfl (by kernel_rfl) (by kernel_rfl) elKt szKt hv hb (fun e => hbv e.symm) (by omega) rfl rfl ?_)
   have k2 : (!false) = true := rfl
   refine gox1 hC @k2 ?_
   refine xq ?_
   refine x_cond rfl (fun hc => ?_) (fun hc => by cases hc)
   have heq3 : rawSl b (if c = i then 0 else 0 + i * 2) (n + 1 - i) (c - i) = rawSl b (i * 2) (n + 1 - i) (c - i) := by
    rw [if_neg (by omega), Nat.zero_add]
   by_cases hlastc : c = i + 1
   ·omega
   have heq4 : rawSl b (if c = i + 1 then 0 else 0 + (i + 1) * 2) (n + 1 - (i + 1)) (c - (i + 1)) = rawSl b ((i + 1) * 2) (n + 1 - (i + 1)) (c - (i + 1)) := by
    rw [if_neg hlastc, Nat.zero_add]
   refine xq ?_
   refine x_drawnX mixed (l2 := kpIns 15) (by kernel_rfl) (by kernel_rfl) ?_
   refine goxl1 hC @w3 ?_
   refine xl_step rfl (xra_sliceFrom (t1 := 0) (t2 := 0) (l := i + 1) (n := n + 1) (k := 2) rfl elKt szKt rfl rfl (by omega) hg) rfl ?_
   refine goxl0 hC ?_
   refine xl_step rfl (xra_sliceFrom (t1 := 0) (t2 := 0) (l := i) (n := n + 1) (k := 2) rfl elKt szKt rfl rfl (by omega) hg) rfl ?_
   refine xl_last (m1 := m) rfl (xra_copyRaw (k := 2) (q := n - i) rfl rfl rfl rfl elKt szKt hb hb (congrArg AV.v heq4) (congrArg AV.v heq3) (by show min (n + 1 - i) (n + 1 - (i + 1)) = n - i; omega) (by omega) (by omega)) rfl ?_
   intro e2 h2
   simp only [go_sem, reduceIte, Nat.reduceEqDiff] at h2
   subst h2
   have hpl : ((cs.drop (i * 2)).take ((n - i) * 2)).length = (n - i) * 2 := by simp; omega
   have hm1 := set_mem (o' := XOb.arr (splice cs ((i + 1) * 2) ((cs.drop (i * 2)).take ((n - i) * 2)))) hb
   have hv1 := mem_other (o' := XOb.arr (splice cs ((i + 1) * 2) ((cs.drop (i * 2)).take ((n - i) * 2)))) hv (fun e => hbv e.symm)
   have hL1 : (splice cs ((i + 1) * 2) ((cs.drop (i * 2)).take ((n - i) * 2))).length = cs.length := splice_length (by omega)
   have hL1a : ∀ j, (splice cs ((i + 1) * 2) ((cs.drop (i * 2)).take ((n - i) * 2)))[j]? = if (i + 1) * 2 ≤ j ∧ j < (i + 1) * 2 + ((cs.drop (i * 2)).take ((n - i) * 2)).length then ((cs.drop (i * 2)).take ((n - i) * 2))[j - (i + 1) * 2]? else cs[j]? := splice_at (by omega)
   generalize splice cs ((i + 1) * 2) ((cs.drop (i * 2)).take ((n - i) * 2)) = L1 at hm1 hv1 hL1 hL1a ⊢
   generalize setObjs F b (XOb.arr L1) = F1 at hm1 hv1 ⊢
   refine xq ?_
   refine x_ops (l2 := kpIns 16) ?_
   refine gox0 hC ?_
   refine xops_step (xs_sliceRaw (t1 := 0) (t2 := 0) (l := i) (h := n + 1) rfl rfl elKt szKt rfl bound_nat rfl (by omega) hg hg rfl ?_)
   refine gox0 hC ?_
   refine xops_step (xs_copyRaw (k := 2) (q := 1) rfl rfl (by decide) rfl rfl rfl rfl elKt szKt hm1 hv1 (congrArg AV.v heq3) rfl (by show min 1 (n + 1 - i) = 1; omega) (by omega) (by omega) ?_)
   rw [hRt]
   refine gox0 hC ?_
   refine xq ?_
   refine x_region (kp := kpIns) mixed hC ?_
   refine go0 ?_
   refine xq ?_
   refine ⟨_, _, ret_one rfl rfl rfl (finMem_self _), rfl, b, c, _, rfl, set_mem hm1, hg, by rw [splice_length (by omega)]; omega, ins_of (by omega) hi hR (fun j hj => ?_) (fun j hj => ?_) fun j h1 h2 => ?_⟩
   ·rw [splice_at (by omega), if_neg (by omega), hL1a, if_neg (by omega)]
   ·rw [splice_at (by omega), if_pos (by omega)]
    congr 1
    omega
   ·rw [splice_at (by omega), if_neg (by omega), hL1a, if_pos (by omega), List.getElem?_take, if_pos (by omega), List.getElem?_drop]
    congr 1
    omega
end
noncomputable section
attribute [local irreducible] Next Inside Runs Ops table
attribute [local irreducible] XRuns XOps XLin
attribute [local go_sem] szStr szInt Option.getD_some isNil evMinMax evFoldI iv
theorem insN_ok {vb : Nat} {R : List AV} (hR : R.length = 2) :
  FunOkI Tryz.prog 170 (fun args _ F => args = [.v (.slice none 0 0), .v (.int .i64 ((0 : Nat) : Int)), .v (rawSl vb 0 1 1)] ∧ (vb, XOb.arr R) ∈ F) fun _ m _ r m' F' => m' = m ∧ insOk 0 0 [] R r F' := by
 have hC := table_ok (P := Tryz.prog) (l := []) table_nil
 refine fun_okI Tryz.func170 rfl rfl fun args m F h => ?_
 obtain ⟨rfl, hv⟩ := h
 refine ⟨Nat.le_of_ble_eq_true rfl, fun φ wd => ?_⟩
 refine en ?_
 have hRt : (R.drop 0).take (1 * 2) = R := by rw [List.drop_zero, List.take_of_length_le (by omega)]
 refine xq ?_
 refine x_region (kp := kpIns) mixed hC ?_
 refine go0 ?_
 refine xq ?_
 refine x_ops (l2 := kpIns 1) ?_
 refine gox0 hC ?_
 refine xops_step (xs_sliceNil (t1 := 0) (t2 := 0) rfl rfl (by decide) rfl elKt szKt rfl rfl ?_)
 refine gox0 hC ?_
 refine xq ?_
 refine x_ops (l2 := kpIns 2) ?_
 refine gox0 hC ?_
 refine xops_step (xs_lenRaw rfl rfl rfl rfl rfl elKt rfl rfl ?_)
 refine gox0 hC ?_
 refine xq ?_
 have z1 : (((1 : Nat) : Int) == 0) = false := rfl
 have z2 : (((0 : Nat) : Int) == 0) = true := rfl
 refine x_region (kp := kpIns) mixed hC ?_
 refine go1 @z1 ?_
 refine xq ?_
 refine x_cond rfl (fun hc => by cases hc) (fun hc => ?_)
 refine xq ?_
 refine x_ops (l2 := kpIns 5) ?_
 refine gox0 hC ?_
 refine xq ?_
 refine x_region (kp := kpIns) mixed hC ?_
 refine go1 @z2 ?_
 refine xq ?_
 refine x_cond rfl (fun hc => ?_) (fun hc => by cases hc)
 refine xq ?_
 refine x_ops (l2 := kpIns 7) ?_
 refine gox0 hC ?_
 refine xops_step (xs_appendNils (n2 := 1) (off2 := 0) rfl rfl (by decide) rfl rfl rfl rfl appKt rfl hv rfl (by omega) (Nat.lt_succ_self 0) (by unfold lim; omega) fun b' c' vs g1 g2 g3 => ?_)
 rw [hRt]
 refine gox0 hC ?_
 refine xq ?_
 refine ⟨_, _, ret_one rfl rfl rfl (finMem_self _), rfl, b', c', _, rfl, List.mem_cons_self, g1, by simp; omega, ins_of (by simp) (Nat.le_refl _) hR (fun j hj => by omega) (fun j hj => ?_) fun j h1 h2 => by omega⟩
 rw [List.getElem?_append, if_pos (by omega), Nat.zero_mul, Nat.zero_add]
/-! ### slices.Clone -/
def kPost (rows : List (List AV)) (m : Mem) (r : AV) (m' : Mem) (F : Objs) : Prop :=
 m' = m ∧ ((rows = [] ∧ r = .v (.slice none 0 0) ∧ F = []) ∨ ∃ (b c : Nat) (vs : List Value), rows.length ≤ c ∧ vs.length = (c - rows.length) * 2 ∧ r = .v (rawSl b 0 rows.length c) ∧ (b, XOb.arr (rows.flatten ++ vs.map .v)) ∈ F)
def kpClone : Nat → Option (List Nat) := fun
 | 0 => some [0]
 | 1 => some [0, 4]
 | _ => some [2]
attribute [go_sem] kpClone
theorem cloneK_nil : FunOkF Tryz.prog 171 (fun args _ => args = [.v (.slice none 0 0)]) fun _ m r m' F => kPost [] m r m' F := by
 have hC := table_ok (P := Tryz.prog) (l := []) table_nil
 refine fun_okF Tryz.func171 rfl rfl fun args m h => ?_
 subst h
 refine ⟨Nat.le_of_ble_eq_true rfl, fun φ w => ?_⟩
 refine en ?_
 refine xq ?_
 refine x_region (kp := kpClone) mixed hC ?_
 refine go0 ?_
 refine xq ?_
 refine x_region (kp := kpClone) mixed hC ?_
 refine go0 ?_
 refine xq ?_
 refine x_cond rfl (fun hc => ?_) (fun hc => by cases hc)
 refine xq ?_
 refine x_ops (l2 := kpClone 2) ?_
 refine xops_step (xs_nilC rfl rfl (by decide) rfl ?_)
 refine gox0 hC ?_
 refine xq ?_
 exact ⟨_, _, ret_one rfl rfl rfl (finMem_self _), rfl, .inl ⟨rfl, rfl, rfl⟩⟩
theorem cloneK_here (rows : List (List AV)) (hl : rows.length ≤ 1000000) : FunOkF Tryz.prog 171 (fun args _ => args = [.lst .here 2 rows]) fun _ m r m' F => kPost rows m r m' F := by
 have hC := table_ok (P := Tryz.prog) (l := []) table_nil
 refine fun_okF Tryz.func171 rfl rfl fun args m h => ?_
 subst h
 refine ⟨Nat.le_of_ble_eq_true rfl, fun φ w => ?_⟩
 refine en ?_
 refine xq ?_
 refine x_region (kp := kpClone) mixed hC ?_
 refine go0 ?_
 refine xq ?_
 refine x_region (kp := kpClone) mixed hC ?_
 refine go0 ?_
 refine xq ?_
 refine x_cond rfl (fun hc => by cases hc) (fun hc => ?_)
 refine xq ?_
 refine x_ops (l2 := kpClone 3) ?_
 refine xops_step (xs_build0 rfl rfl (by decide) rfl elKt szKt fun b0 hb0 => ?_)
 refine gox0 hC ?_
 refine xops_step (xs_appendRaw rfl rfl (by decide) rfl rfl rfl rfl appKt List.mem_cons_self rfl (Nat.zero_le _) (Nat.le_refl _) rfl (by unfold lim; omega) (fun h1 => ?_) fun h1 b c vs h2 h3 h4 => ?_)
 ·have hr0 : rows = [] := List.eq_nil_of_length_eq_zero (by omega)
  subst hr0
  refine gox0 hC ?_
  refine xq ?_
  exact ⟨_, _, ret_one rfl rfl rfl (finMem_self _), rfl, .inr ⟨b0, 0, [], Nat.le_refl _, rfl, rfl, set_mem List.mem_cons_self⟩⟩
 ·rw [Nat.zero_add] at h2 h4 ⊢
  refine gox0 hC ?_
  refine xq ?_
  exact ⟨_, _, ret_one rfl rfl rfl (finMem_self _), rfl, .inr ⟨b, c, vs, h2, h4, rfl, List.mem_cons_self⟩⟩
def kClonePre (args : List AV) (_ : Mem) : Prop := ∃ g rows, args = [.lst g 2 rows] ∧ rows.length ≤ 1000000
def kCloneP (args : List AV) (m : Mem) (r : AV) (m' : Mem) (F : Objs) : Prop := ∀ g rows, args = [.lst g 2 rows] → kPost rows m r m' F
theorem cloneK_ok : FunOkF Tryz.prog 171 kClonePre kCloneP := by
 rintro args m ⟨g, rows, rfl, hl⟩
 refine ⟨(cloneK_nil _ m rfl).1, fun φ w vals hR hA => ?_⟩
 have hs : vals.size = 1 := hA.1
 obtain ⟨v, rfl⟩ : ∃ v, vals = #[v] := ⟨vals[0], by apply Array.ext <;> simp_all⟩
 have hv := hA.2 0 _ v rfl rfl
 have out : ∀ {r : AV} {m' : Mem} {F : Objs}, kPost rows m r m' F → kCloneP [.lst g 2 rows] m r m' F := fun h g2 rows2 e => by cases e; exact h
 cases hv with
 | lst _ _ _ a c val hcc hr ha hsp hcell hrep hg =>
  cases a with
  | none =>
   have hc0 := ha rfl
   have hr0 : rows = [] := List.eq_nil_of_length_eq_zero (by omega)
   subst hr0
   subst hc0
   refine ((cloneK_nil _ m rfl).2 φ w _ hR ⟨rfl, fun i a u e1 e2 => ?_⟩).mono fun e w' ⟨x, φ', r, m', F, h1, h2, h3, h4, h5, h6⟩ => ⟨x, φ', r, m', F, h1, h2, h3, h4, h5, out h6⟩
   cases i with
   | zero => simp at e1 e2; subst e1; subst e2; exact .v _
   | succ i => simp at e1
  | some ad =>
   refine ((cloneK_here rows hl _ m rfl).2 φ w _ hR ⟨rfl, fun i a u e1 e2 => ?_⟩).mono fun e w' ⟨x, φ', r, m', F, h1, h2, h3, h4, h5, h6⟩ => ⟨x, φ', r, m', F, h1, h2, h3, h4, h5, out h6⟩
   cases i with
   | zero =>
    simp at e1 e2; subst e1; subst e2
    exact .lst .here 2 rows (some ad) c val hcc hr ha hsp hcell hrep (by intro e; cases e)
   | succ i => simp at e1
end
noncomputable section
attribute [local irreducible] Next Inside Runs Ops table
attribute [local irreducible] XRuns XOps XLin
attribute [local go_sem] szStr szInt Option.getD_some isNil evMinMax evFoldI iv mapKt cellsKt newKt ldKt rowsKt_len List.cons_append
def findCall (f r1 r2 : Nat) (m : Mem) (y : Kt) : Option (AV × Mem) := if f = 169 then putG [.agg y.row, .ptr r1 0, .ptr r2 0] m else if f = 89 then keptBadG [.agg y.row, .ptr r1 0, .ptr r2 0] m else none
open Classical in
def findKtG : List AV → Mem → Option (AV × Mem)
 | [.lst _ 2 rows, .fn (.func f) [] [.ptr r1 0, .ptr r2 0]], m =>
  match unsKt rows with
  | some l => if h : l.length ≤ 1000000 ∧ ∃ pr : Kt → Bool, ∀ y ∈ l, findCall f r1 r2 m y = some (.v (.bool (pr y)), m) then some (iv (firstBy h.2.choose l 0), m) else none
  | none => none
 | _, _ => none
theorem firstBy_congr {α : Type} {p q : α → Bool} : ∀ {l : List α} (i : Nat), (∀ y ∈ l, p y = q y) → firstBy p l i = firstBy q l i
 | [], i, h => rfl
 | y :: l, i, h => by
  rw [firstBy, firstBy, h y List.mem_cons_self, firstBy_congr (i + 1) fun z hz => h z (List.mem_cons_of_mem _ hz)]
theorem find_of {l : List Kt} {g : Grow} {m : Mem} {f r1 r2 : Nat} {q : Kt → Bool} (hl : l.length ≤ 1000000) (hp : ∀ y ∈ l, findCall f r1 r2 m y = some (.v (.bool (q y)), m)) :
  findKtG [.lst g 2 (rowsKt l), .fn (.func f) [] [.ptr r1 0, .ptr r2 0]] m = some (.v (.int .i64 (firstBy q l 0)), m) := by
 simp only [findKtG, unsKt_rowsKt]
 have hh : l.length ≤ 1000000 ∧ ∃ pr : Kt → Bool, ∀ y ∈ l, findCall f r1 r2 m y = some (.v (.bool (pr y)), m) := ⟨hl, _, hp⟩
 rw [dif_pos hh]
 have := firstBy_congr (p := hh.2.choose) (q := q) (l := l) 0 fun y hm => by
  have e := hh.2.choose_spec y hm
  rw [hp y hm] at e
  simp only [Option.some.injEq, Prod.mk.injEq, AV.v.injEq, Value.bool.injEq, and_true] at e
  exact e.symm
 rw [this]
 rfl
theorem findKt_put {l : List Kt} {g : Grow} {x : Kt} {b : Bool} {n : Int} {m : Mem} {r1 r2 : Nat} (hl : l.length ≤ 1000000) (h1 : m.var r1 = some (shelfRow n b)) (h2 : m.var r2 = some x.row) (hx : inI x.val) (hy : ∀ y ∈ l, inI y.val) :
  findKtG [.lst g 2 (rowsKt l), .fn (.func 169) [] [.ptr r1 0, .ptr r2 0]] m = some (.v (.int .i64 (firstBy (aheadB b x) l 0)), m) :=
 find_of hl fun y hm => by
  unfold findCall
  rw [if_pos rfl]
  exact put_eq h1 h2 ⟨hx, hy y hm⟩
theorem findKt_bad {l : List Kt} {g : Grow} {p : Pn} {s : Ss} {m : Mem} {r1 r2 : Nat} (hl : l.length ≤ 1000000) (h1 : m.var r1 = some s.row) (h2 : m.var r2 = some p.row) (hz : p.eval ≠ 0) :
  findKtG [.lst g 2 (rowsKt l), .fn (.func 89) [] [.ptr r1 0, .ptr r2 0]] m = some (.v (.int .i64 (firstBy (keptBad p s) l 0)), m) :=
 find_of hl fun y hm => by
  unfold findCall
  rw [if_neg (by decide), if_pos rfl]
  exact keptBad_eq h1 h2 hz
def kpFindKt : Nat → Option (List Nat) := fun
 | 0 => some [0, 1]
 | 1 => some [0, 1, 7, 8]
 | 2 => some [0, 1, 7, 8, 9]
 | 3 => some [0, 1, 5, 7, 8]
 | 4 => some [0, 1, 5, 7, 8, 16]
 | 5 => some [4]
 | 6 => some [0, 1, 7, 8]
 | 7 => some [4]
 | _ => none
attribute [go_sem] kpFindKt
def tab_findKt_ok : List (FuncId × (List AV → Mem → Option (AV × Mem))) := [(169, putG), (89, keptBadG)]
theorem findKt_ok : FunOk Tryz.prog 109 findKtG := by
 have hC := table_ok (P := Tryz.prog) (l := tab_findKt_ok) (table_more put1_ok (table_more keptBad_ok table_nil))
 have t1 := fun args mm => table_at (l := tab_findKt_ok) (f := 169) (args := args) (m := mm) rfl
 have t2 := fun args mm => table_at (l := tab_findKt_ok) (f := 89) (args := args) (m := mm) rfl
 refine fun_ok mixed hC Tryz.func109 rfl kpFindKt false rfl fun args m r h => ?_
 unfold findKtG at h
 split at h
 ·rename_i g rows f r1 r2
  split at h
  ·rename_i l hl0
   obtain rfl := unsKt_some hl0
   split at h
   ·rename_i hyp
    have hsp := hyp.2.choose_spec
    have hlen := hyp.1
    generalize hyp.2.choose = pr at h hsp
    simp only [Option.some.injEq] at h
    subst h
    have hcall : ∀ y ∈ l, table tab_findKt_ok f [.agg y.row, .ptr r1 0, .ptr r2 0] m = some (.v (.bool (pr y)), m) := fun y hm => by
     have := hsp y hm
     unfold findCall at this
     split at this
     ·rename_i e
      subst e
      rw [t1]
      exact this
     ·split at this
      ·rename_i e
       subst e
       rw [t2]
       exact this
      ·cases this
    refine ⟨Nat.le_of_ble_eq_true rfl, ?_⟩
    refine en ?_
    refine go0 ?_
    refine runs_loop (fun k e m' => ∃ (i : Nat), i ≤ l.length ∧ firstBy pr (l.drop i) i = firstBy pr l 0 ∧ m = m' ∧ k = l.length - i ∧
     e = [(0, AV.lst g 2 (rowsKt l)), (1, .fn (.func f) [] [.ptr r1 0, .ptr r2 0]), (7, .v (.int .i64 l.length)), (8, .v (.int .i64 (i : Int)))]) (k := l.length) ⟨0, Nat.zero_le _, rfl, rfl, rfl, rfl⟩ ?_
    rintro k e m' ⟨i, hi, hf, rfl, rfl, rfl⟩
    refine go0 ?_
    refine runs_cond rfl (fun hc => ?_) (fun hc => ?_)
    ·have hi1 : i < l.length := by have := of_decide_eq_true hc; omega
     have f1 := atKt (g := g) (kk := .i64) hi1
     have f2 := hcall (l.getD i kt0) (getD_in hi1)
     refine go1 (jn @f1 @f2) ?_
     refine runs_cond rfl (fun hc => ?_) (fun hc => ?_)
     ·rw [by_yes hi1 hc hf]
      refine go0 ?_
      exact leaves_v rfl rfl
     ·have r6 := next_i64 (i := i) (by omega)
      refine go1 @r6 ?_
      exact ⟨l.length - (i + 1), by omega, i + 1, hi1, by_no hi1 hc hf, rfl, rfl, rfl⟩
    ·have hi1 : i = l.length := by have := of_decide_eq_false hc; omega
     subst hi1
     rw [by_end hf]
     refine go0 ?_
     exact leaves_v rfl rfl
   ·cases h
  ·cases h
 ·cases h
end
noncomputable section
attribute [local irreducible] Next Inside Runs Ops table
attribute [local irreducible] XRuns XOps XLin
attribute [local go_sem] szStr szInt Option.getD_some isNil evMinMax evFoldI iv mapKt cellsKt newKt ldKt rowsKt_len List.cons_append
def anyKtG : List AV → Mem → Option (AV × Mem)
 | [.lst _ 2 rows, .fn (.func 89) [] [.ptr r1 0, .ptr r2 0]], m =>
  match unsKt rows, (m.var r1).bind unSs, (m.var r2).bind unPn with
  | some l, some s, some p => if l.length ≤ 1000000 ∧ p.eval ≠ 0 then some (.v (.bool (l.any (keptBad p s))), m) else none
  | _, _, _ => none
 | _, _ => none
theorem anyKt_eq {l : List Kt} {g : Grow} {p : Pn} {s : Ss} {m : Mem} {r1 r2 : Nat} (hl : l.length ≤ 1000000) (h1 : m.var r1 = some s.row) (h2 : m.var r2 = some p.row) (hz : p.eval ≠ 0) :
  anyKtG [.lst g 2 (rowsKt l), .fn (.func 89) [] [.ptr r1 0, .ptr r2 0]] m = some (.v (.bool (l.any (keptBad p s))), m) := by
 simp only [anyKtG, unsKt_rowsKt, h1, h2, Option.bind_some, unSs_row, unPn_row]
 exact if_pos ⟨hl, hz⟩
def kpAnyKt : Nat → Option (List Nat) := fun
 | 0 => some [0, 1]
 | 1 => some [4]
 | _ => none
attribute [go_sem] kpAnyKt
def tab_anyKt_ok : List (FuncId × (List AV → Mem → Option (AV × Mem))) := [(109, findKtG)]
theorem anyKt_ok : FunOk Tryz.prog 88 anyKtG := by
 have hC := table_ok (P := Tryz.prog) (l := tab_anyKt_ok) (table_more findKt_ok table_nil)
 have t1 := fun args mm => table_at (l := tab_anyKt_ok) (f := 109) (args := args) (m := mm) rfl
 refine fun_ok mixed hC Tryz.func88 rfl kpAnyKt false rfl fun args m r h => ?_
 unfold anyKtG at h
 split at h
 ·rename_i g rows r1 r2
  split at h
  ·rename_i l s p hl0 hs0 hp0
   obtain rfl := unsKt_some hl0
   obtain ⟨ss, vs0, hs1⟩ := bind_var hs0
   obtain ⟨ps, vp0, hp1⟩ := bind_var hp0
   obtain rfl := unSs_some hs1
   obtain rfl := unPn_some hp1
   split at h
   ·rename_i hyp
    simp only [Option.some.injEq] at h
    subst h
    refine ⟨Nat.le_of_ble_eq_true rfl, ?_⟩
    refine en ?_
    have f1 := findKt_bad (g := .no) hyp.1 vs0 vp0 hyp.2
    have e : decide (firstBy (keptBad p s) l 0 ≥ 0) = l.any (keptBad p s) := firstBy_any (keptBad p s) l 0
    refine go1 (jn @t1 (jn @f1 @e)) ?_
    exact leaves_v rfl rfl
   ·cases h
  ·cases h
 ·cases h
end
noncomputable section
attribute [local irreducible] Next Inside Runs Ops table
attribute [local irreducible] XRuns XOps XLin XAny
attribute [local go_sem] szStr szInt Option.getD_some isNil evMinMax evFoldI iv mapKt cellsKt newKt ldKt rowsKt_len mapSf cellsSf newSf fpSfCount zrKt zoKt znKt List.cons_append
theorem xs_callF1 {P : Program} {nt : Nat} {φ₀ : Phi} {m₀ : Mem} {w₀ : World} {ops : Array Oper} {o : Oper} {e : Env} {m : Mem} {F : Objs} {K : Env → Mem → Objs → Prop} {f : FuncId} {Pre : List AV → Mem → Prop} {Post : List AV → Mem → AV → Mem → Objs → Prop}
  (hf : FunOkF P f Pre Post) {c : Call} {x : Operand} {av : AV} {d : Nat} (hg : wantedAV ops e o = some true) (hd : o.dst = some d) (hlt : d < nt) (ho : o.op = .call c) (hc : c.callee = .value (.func f)) (ha : c.args = #[x]) (hx : opd P e 0 x = av) (hpre : Pre [argAV av] m)
  (h : ∀ r m' F', Post [argAV av] m r m' F' → (∀ p ∈ F', ∀ q ∈ F, p.1 ≠ q.1) → K ((d, r) :: e) m' (F' ++ F)) : XStep P φ₀ m₀ w₀ nt ops o e m F K :=
 xs_callF hf (args := [av]) hg hd hlt ho hc (fun φ w a hE => by
  rw [ha]
  refine ⟨by simp, fun i b u e1 e2 => ?_⟩
  cases i with
  | zero =>
   have hb : av = b := by simpa using e1
   have hu : a.eval x = u := by simpa using e2
   subst hb
   subst hu
   have := rep_opd (P := P) hE 0 x
   rw [hx] at this
   exact this
  | succ i => simp at e1) hpre h
theorem xs_callI3 {P : Program} {nt : Nat} {φ₀ : Phi} {w₀ : World} {ops : Array Oper} {o : Oper} {e : Env} {m : Mem} {F : Objs} {K : Env → Mem → Objs → Prop} {f : FuncId} {Pre : List AV → Mem → Objs → Prop} {Post : List AV → Mem → Objs → AV → Mem → Objs → Prop}
  (hf : FunOkI P f Pre Post) (hR₀ : RM φ₀ m w₀) {c : Call} {x y z : Operand} {av bv cv : AV} {d : Nat} (hg : wantedAV ops e o = some true) (hd : o.dst = some d) (hlt : d < nt) (ho : o.op = .call c) (hc : c.callee = .value (.func f)) (ha : c.args = #[x, y, z]) (hx : opd P e 0 x = av) (hy : opd P e 0 y = bv) (hz : opd P e 0 z = cv) (hpre : Pre [argAV av, argAV bv, argAV cv] m F)
  (h : ∀ r m' F', Post [argAV av, argAV bv, argAV cv] m F r m' F' → K ((d, r) :: keepEnv e) m' F') : XStep P φ₀ m w₀ nt ops o e m F K :=
 xs_callI hf hR₀ (args := [av, bv, cv]) hg hd hlt ho hc (fun φ w a hE => by
  rw [ha]
  refine ⟨by simp, fun i b u e1 e2 => ?_⟩
  have key : ∀ {q : Operand} {qv : AV}, opd P e 0 q = qv → Rep φ m w qv (a.eval q) := fun {q qv} hq => by
   have := rep_opd (P := P) hE 0 q
   rw [hq] at this
   exact this
  match i with
  | 0 =>
   have hb : av = b := by simpa using e1
   have hu : a.eval x = u := by simpa using e2
   subst hb
   subst hu
   exact key hx
  | 1 =>
   have hb : bv = b := by simpa using e1
   have hu : a.eval y = u := by simpa using e2
   subst hb
   subst hu
   exact key hy
  | 2 =>
   have hb : cv = b := by simpa using e1
   have hu : a.eval z = u := by simpa using e2
   subst hb
   subst hu
   exact key hz
  | i + 3 => simp at e1) hpre h
end
noncomputable section
attribute [local irreducible] Next Inside Runs Ops table
attribute [local irreducible] XRuns XOps XLin XAny
attribute [local go_sem] szStr szInt Option.getD_some isNil evMinMax evFoldI iv mapKt cellsKt newKt ldKt rowsKt_len mapSf cellsSf newSf fpSfCount zrKt zoKt znKt List.cons_append
theorem flat2_get : ∀ {rows : List (List AV)}, (∀ r ∈ rows, r.length = 2) → ∀ i j, j < 2 → rows.flatten[i * 2 + j]? = (rows[i]?).bind (·[j]?)
 | [], _, i, j, _ => by simp
 | r :: rs, h, 0, j, hj => by
  have := h r (List.mem_cons_self ..)
  rw [List.flatten_cons, List.getElem?_append_left (by omega)]
  simp
 | r :: rs, h, i + 1, j, hj => by
  have := h r (List.mem_cons_self ..)
  rw [List.flatten_cons, List.getElem?_append_right (by omega), show (i + 1) * 2 + j - r.length = i * 2 + j by omega, flat2_get (fun q hq => h q (List.mem_cons_of_mem _ hq)) i j hj]
  simp
theorem flat2_take : ∀ {rows : List (List AV)}, (∀ r ∈ rows, r.length = 2) → ∀ i, rows.flatten.take (i * 2) = (rows.take i).flatten
 | [], _, i => by simp
 | r :: rs, h, 0 => by simp
 | r :: rs, h, i + 1 => by
  have := h r (List.mem_cons_self ..)
  rw [List.flatten_cons, List.take_append, show (i + 1) * 2 - r.length = i * 2 by omega, List.take_of_length_le (by omega), flat2_take (fun q hq => h q (List.mem_cons_of_mem _ hq)) i]
  simp
theorem flat2_drop : ∀ {rows : List (List AV)}, (∀ r ∈ rows, r.length = 2) → ∀ i, rows.flatten.drop (i * 2) = (rows.drop i).flatten
 | [], _, i => by simp
 | r :: rs, h, 0 => by simp
 | r :: rs, h, i + 1 => by
  have := h r (List.mem_cons_self ..)
  rw [List.flatten_cons, List.drop_append, show (i + 1) * 2 - r.length = i * 2 by omega, List.drop_of_length_le (by omega), flat2_drop (fun q hq => h q (List.mem_cons_of_mem _ hq)) i]
  simp
theorem rowsKt_two (l : List Kt) : ∀ r ∈ rowsKt l, r.length = 2 := fun r hr => by
 obtain ⟨x, _, rfl⟩ := List.mem_map.1 hr
 rfl
theorem flatKt_len (l : List Kt) : (rowsKt l).flatten.length = l.length * 2 := by
 induction l with
 | nil => rfl
 | cons x l ih =>
  show (x.row ++ (rowsKt l).flatten).length = _
  rw [List.length_append, ih, List.length_cons]
  show 2 + _ = _
  omega
theorem ins_rows (l : List Kt) (i : Nat) (x : Kt) : insC (rowsKt l).flatten i x.row = (rowsKt (l.take i ++ x :: l.drop i)).flatten := by
 unfold insC
 rw [flat2_take (rowsKt_two l), flat2_drop (rowsKt_two l)]
 simp [rowsKt, List.map_take, List.map_drop]
theorem fz_kt {F : Objs} {b c : Nat} {cs : List AV} {L : List Kt} (hb : (b, XOb.arr cs) ∈ F) (hc : L.length ≤ c) (h : cs.take (L.length * 2) = (rowsKt L).flatten) : Fz F (.v (rawSl b 0 L.length c)) (.lst .no 2 (rowsKt L)) := by
 refine .list b 0 2 L.length c cs (rowsKt L) (fun i j => ((rowsKt L).getD i []).getD j .junk) hb (rowsKt_len L) hc (fun i row hr => ?_) (fun i row j x h1 h2 => ?_) fun i row j x h1 h2 => ?_
 ·obtain ⟨n, _, rfl⟩ := List.mem_map.1 (List.mem_of_getElem? hr)
  exact ⟨rfl, rfl⟩
 ·have hi : i < L.length := by have := (List.getElem?_eq_some_iff.1 h1).1; rwa [rowsKt_len] at this
  have hj : j < 2 := by have := (List.getElem?_eq_some_iff.1 h2).1; rwa [rowsKt_two L row (List.mem_of_getElem? h1)] at this
  have e2 := flat2_get (rowsKt_two L) i j hj
  rw [← h, List.getElem?_take, if_pos (by omega), h1] at e2
  rw [Nat.zero_add, e2]
  simp [List.getD, h1, h2]
 ·simp only [List.getD, h1, h2, Option.getD_some]
  exact .same _
def putAt (b : Bool) (l : List Kt) (x : Kt) : Nat := if firstBy (aheadB b x) l 0 < 0 then l.length else (firstBy (aheadB b x) l 0).toNat
def putOut (b : Bool) (l : List Kt) (x : Kt) : List Kt := l.take (putAt b l x) ++ x :: l.drop (putAt b l x)
def putV (cnt : Int) (b : Bool) (l : List Kt) (x : Kt) : List Kt × Kt × Bool := if ((putOut b l x).length : Int) ≤ cnt then (putOut b l x, kt0, false) else ((putOut b l x).take ((putOut b l x).length - 1), (putOut b l x).getD ((putOut b l x).length - 1) kt0, true)
def putDom (l : List Kt) (x : Kt) : Prop := l.length ≤ 1000000 ∧ inI x.val ∧ ∀ y ∈ l, inI y.val
open Classical in
def putSG : List AV → Mem → Option (AV × Mem)
 | [.agg [.v (.int .i64 cnt), .fn (.func 125) [] [.eptr [.v (.bool b)]]], .lst _ 2 rows, .agg xs], m =>
  match unsKt rows, unKt xs with
  | some l, some x => if putDom l x then some (.tup [.lst .no 2 (rowsKt (putV cnt b l x).1), .agg (putV cnt b l x).2.1.row, .v (.bool (putV cnt b l x).2.2)], m) else none
  | _, _ => none
 | _, _ => none
theorem x_drop {P : Program} {φ₀ : Phi} {m₀ : Mem} {w₀ : World} {nt : Nat} {c : Code} {e : Env} {m : Mem} {F : Objs} {Q : PostF} (l2 : Option (List Nat)) (h : XRuns P φ₀ m₀ w₀ nt c (Ev.restr l2 e) m F Q) : XRuns P φ₀ m₀ w₀ nt c e m F Q := by
 unfold XRuns at *
 exact fun a w hs => h a w (hs.restr l2)
theorem x_icut {P : Program} {φ₀ : Phi} {m₀ : Mem} {w₀ : World} {nt : Nat} {x : Code} {e : Env} {m : Mem} {F : Objs} {Q : PostF} (I : Env → Mem → Objs → Prop) (h : XRuns P φ₀ m₀ w₀ nt x e m F fun z e m F => match z with | .normal => I e m F | _ => False) (hk : ∀ e m F, I e m F → Q .normal e m F) :
  XRuns P φ₀ m₀ w₀ nt x e m F Q :=
 x_mono h fun z e m F hz => by
  cases z with
  | normal => exact hk e m F hz
  | exit id => exact hz.elim
  | ret => exact hz.elim
theorem firstBy_lt {α : Type} {p : α → Bool} : ∀ (l : List α) (i : Nat), firstBy p l i < (l.length : Int) + i
 | [], i => by simp [firstBy]; omega
 | s :: l, i => by
  rw [firstBy]
  have := firstBy_lt (p := p) l (i + 1)
  split
  ·simp; omega
  ·simp at this ⊢; omega
theorem putAt_le (b : Bool) (l : List Kt) (x : Kt) : putAt b l x ≤ l.length := by
 unfold putAt
 have := firstBy_lt (p := aheadB b x) l 0
 split <;> omega
def PIK (m2 : Mem) (g : Grow) (l : List Kt) (x : Kt) (at_ : Nat) (r3 r5 r7 : Nat) (a b c : Nat) (e : Env) (m' : Mem) (F : Objs) : Prop :=
 m' = m2 ∧ Ev.get e 1 = .lst g 2 (rowsKt l) ∧ Ev.get e 3 = .ptr r3 0 ∧ Ev.get e 5 = .ptr r5 0 ∧ Ev.get e 7 = .ptr r7 0 ∧ Ev.get e 9 = .v (.int .i64 ((at_ : Nat) : Int)) ∧
 (1 ≤ a → Ev.get e 19 = .lst g 2 (rowsKt l)) ∧
 (2 ≤ a → (l = [] ∧ Ev.get e 20 = .v (.slice none 0 0)) ∨ ∃ (bb cc : Nat) (vs : List Value), l.length ≤ cc ∧ vs.length = (cc - l.length) * 2 ∧ Ev.get e 20 = .v (rawSl bb 0 l.length cc) ∧ (bb, XOb.arr ((rowsKt l).flatten ++ vs.map .v)) ∈ F) ∧
 (1 ≤ b → Ev.get e 21 = .v (.int .i64 ((at_ : Nat) : Int))) ∧ (1 ≤ c → Ev.get e 22 = .agg x.row) ∧ (2 ≤ c → ∃ vb, Ev.get e 23 = .v (rawSl vb 0 1 1) ∧ (vb, XOb.arr x.row) ∈ F) ∧
 (2 ≤ a → 2 ≤ c → ∀ bb n cc vb, Ev.get e 20 = .v (rawSl bb 0 n cc) → Ev.get e 23 = .v (rawSl vb 0 1 1) → bb ≠ vb)
def PJK (m2 : Mem) (l : List Kt) (x : Kt) (at_ : Nat) (r3 r7 : Nat) (e : Env) (m' : Mem) (F : Objs) : Prop :=
 m' = m2 ∧ Ev.get e 3 = .ptr r3 0 ∧ Ev.get e 7 = .ptr r7 0 ∧ ∃ r, Ev.get e 24 = r ∧ insOk l.length at_ (rowsKt l).flatten x.row r F
theorem slKt {m : Mem} {g : Grow} {l : List Kt} {k : Nat} (hk : k ≤ l.length) : evSlice Tryz.prog m 41 (.lst g 2 (rowsKt l)) none (some (.v (.int .i64 (k : Int)))) none = some (.lst .no 2 (rowsKt (l.take k))) := by
 unfold evSlice
 simp only [elKt, szKt, evBound, rowsKt_len]
 show (if 2 = 2 ∧ 0 ≤ k ∧ k ≤ l.length then _ else _) = _
 rw [if_pos ⟨rfl, Nat.zero_le _, hk⟩, List.drop_zero, rowsKt_take]
 rfl
theorem stKt {m : Mem} {x : Kt} : evStore Tryz.prog (m.push zeroKt) 54 (.ptr m.vars.length 0) (.agg x.row) = some (m.push x.row) := by
 rw [store_push (cs := x.row) rfl szKt (Nat.le_refl _) rfl]
 rfl
theorem zKt : cellsOf (.agg zeroKt) = some zeroKt := rfl
def kpPutS : Nat → Option (List Nat) := fun
 | 0 => some [1, 3, 5, 7]
 | 1 => some [1, 3, 5, 7, 9]
 | 2 => some [1, 3, 5, 7, 9, 16]
 | 3 => some [1, 3, 5, 7, 9]
 | 4 => some [3, 7, 10]
 | 5 => some [7, 10, 29]
 | 6 => some [6, 7, 8]
 | 7 => some [7, 10, 11]
 | 8 => some [6, 7, 8]
 | _ => none
attribute [go_sem] kpPutS
theorem putS_ok : FunOk Tryz.prog 156 putSG := by
 have hC := table_ok (P := Tryz.prog) (l := [(109, findKtG)]) (table_more findKt_ok table_nil)
 have t1 := fun args mm => table_at (l := [(109, findKtG)]) (f := 109) (args := args) (m := mm) rfl
 refine fun_okX Tryz.func156 rfl false rfl fun args m r h => ?_
 unfold putSG at h
 split at h
 ·rename_i cnt b g rows xs
  split at h
  ·rename_i l x hl0 hx0
   obtain rfl := unsKt_some hl0
   obtain rfl := unKt_some hx0
   split at h
   ·rename_i hd
    obtain ⟨hlen, hxi, hli⟩ := hd
    simp only [Option.some.injEq] at h
    subst h
    refine ⟨Nat.le_of_ble_eq_true rfl, fun φ wd => ?_⟩
    refine en ?_
    have v3 : (((m.push (shelfRow cnt b)).push x.row).push zeroKt).var m.vars.length = some (shelfRow cnt b) := push_old (push_old push_var)
    have v5 : (((m.push (shelfRow cnt b)).push x.row).push zeroKt).var (m.push (shelfRow cnt b)).vars.length = some x.row := push_old push_var
    have v7 : (((m.push (shelfRow cnt b)).push x.row).push zeroKt).var ((m.push (shelfRow cnt b)).push x.row).vars.length = some zeroKt := push_var
    have n1 : newVar m m.vars.length [.v (.int .i64 cnt), .fn (.func 125) [] [.eptr [.v (.bool b)]]] = some (m.push (shelfRow cnt b)) := newSf (m := m) (n := cnt) (b := b)
    have cc : cellsOf (.agg [.v (.int .i64 cnt), .fn (.func 125) [] [.eptr [.v (.bool b)]]]) = some [.v (.int .i64 cnt), .fn (.func 125) [] [.eptr [.v (.bool b)]]] := rfl
    have n2 := newKt (m := m.push (shelfRow cnt b)) (x := x)
    have n3 := znKt (m := (m.push (shelfRow cnt b)).push x.row)
    have hA := above_push (cs := zeroKt) (above_push (cs := x.row) (above_push (cs := shelfRow cnt b) (above_self m)))
    refine xq ?_
    refine x_region (kp := kpPutS) mixed hC ?_
    refine go1 (jn @n1 (jn @cc (jn @n2 @n3))) ?_
    refine xq ?_
    have hge : m.vars.length ≤ ((m.push (shelfRow cnt b)).push x.row).vars.length := by rw [push_len, push_len]; omega
    generalize ((m.push (shelfRow cnt b)).push x.row).push zeroKt = m2 at v3 v5 v7 hA
    generalize ((m.push (shelfRow cnt b)).push x.row).vars.length = r7 at v7 hge
    generalize (m.push (shelfRow cnt b)).vars.length = r5 at v5
    generalize m.vars.length = r3 at v3
    have f1 := findKt_put (g := .no) hlen v3 v5 hxi hli
    have l5 := vrKt v5
    refine x_region (kp := kpPutS) mixed hC ?_
    refine go1 (jn @t1 @f1) ?_
    refine xq ?_
    refine x_region (kp := kpPutS) mixed hC ?_
    refine go0 ?_
    refine xq ?_
    refine x_icut (fun e m' F => m' = m2 ∧ F = [] ∧ Ev.restr (some [1, 3, 5, 7, 9]) e = [(1, AV.lst g 2 (rowsKt l)), (3, .ptr r3 0), (5, .ptr r5 0), (7, .ptr r7 0), (9, .v (.int .i64 ((putAt b l x : Nat) : Int)))]) ?_ ?_
    ·by_cases hneg : firstBy (aheadB b x) l 0 < 0
     ·refine x_cond rfl (fun hc => ?_) (fun hc => absurd hneg (of_decide_eq_false hc))
      refine xq ?_
      refine x_region (kp := kpPutS) mixed hC ?_
      refine go0 ?_
      refine xq ?_
      refine ⟨rfl, rfl, ?_⟩
      unfold putAt
      rw [if_pos hneg]
      rfl
     ·refine x_cond rfl (fun hc => absurd (of_decide_eq_true hc) hneg) (fun hc => ?_)
      refine xq ?_
      refine ⟨rfl, rfl, ?_⟩
      have e1 : ((putAt b l x : Nat) : Int) = firstBy (aheadB b x) l 0 := by
       unfold putAt
       rw [if_neg hneg]
       omega
      rw [e1]
      rfl
    ·rintro e m' F ⟨rfl, rfl, hE⟩
     refine xq ?_
     refine x_drop (some [1, 3, 5, 7, 9]) ?_
     rw [hE]
     refine x_rebase fun φ1 w1 hR1 => ?_
     have hnn : (rowsKt l).length = l.length := rowsKt_len l
     have hat : putAt b l x ≤ l.length := putAt_le b l x
     refine x_icut (fun e m'' F => m'' = m' ∧ ∃ r, e = [(3, AV.ptr r3 0), (7, .ptr r7 0), (10, r)] ∧ insOk l.length (putAt b l x) (rowsKt l).flatten x.row r F) ?_ ?_
     ·refine x_any7 (l2 := kpPutS 4) mixed (by decide +kernel) (PIK m' g l x (putAt b l x) r3 r5 r7) (PJK m' l x (putAt b l x) r3 r7) (fun b' c' e1 m1 F1 h => ?_) (fun b' c' e1 m1 F1 h => ?_) (fun a' c' e1 m1 F1 h => ?_) (fun a' b' e1 m1 F1 h => ?_) (fun a' b' e1 m1 F1 h => ?_) (fun e1 m1 F1 h => ?_) (fun e1 m1 F1 h => ?_) ?_
      ·obtain ⟨rfl, h1, h3, h5, h7, h9, ha1, ha2, hb1, hc1, hc2, hap⟩ := h
       refine xs_op hC (m1 := m1) rfl (by simp only [go_sem, reduceIte, Nat.reduceEqDiff, reduceCtorEq, Int.reduceEq, h1]; rfl) rfl ⟨rfl, ?_⟩
       exact ⟨h1, h3, h5, h7, h9, fun _ => rfl, fun q => absurd q (by decide), hb1, hc1, hc2, fun q => absurd q (by decide)⟩
      ·obtain ⟨rfl, h1, h3, h5, h7, h9, ha1, ha2, hb1, hc1, hc2, hap⟩ := h
       refine xs_callF1 (x := .tmp 19) (av := .lst g 2 (rowsKt l)) cloneK_ok rfl rfl (by decide) rfl rfl rfl (ha1 (Nat.le_refl 1)) ⟨_, _, rfl, by rw [hnn]; exact hlen⟩ fun r m2' F' hp hF' => ?_
       obtain ⟨hm2, hq⟩ := hp _ _ rfl
       clear hp
       subst hm2
       refine ⟨rfl, h1, h3, h5, h7, h9, fun _ => ha1 (Nat.le_refl 1), fun _ => ?_, hb1, hc1, fun q => ?_, fun _ q => ?_⟩
       ·rcases hq with ⟨hn, rfl, rfl⟩ | ⟨bb, cc, vs, g1, g2, rfl, g4⟩
        ·exact .inl ⟨List.map_eq_nil_iff.1 hn, rfl⟩
        ·exact .inr ⟨bb, cc, vs, by rw [← hnn]; exact g1, by rw [← hnn]; exact g2, by rw [← hnn]; rfl, List.mem_append_left _ g4⟩
       ·obtain ⟨vb, k1, k2⟩ := hc2 q
        exact ⟨vb, k1, List.mem_append_right _ k2⟩
       ·intro bb n cc vb k1 k2
        obtain ⟨vb', k3, k4⟩ := hc2 q
        rcases hq with ⟨hn, rfl, rfl⟩ | ⟨bb', cc', vs, g1, g2, rfl, g4⟩
        ·cases k1
        ·cases k1
         have e2 : AV.v (rawSl vb 0 1 1) = AV.v (rawSl vb' 0 1 1) := k2.symm.trans k3
         cases e2
         exact hF' _ g4 _ k4
      ·obtain ⟨rfl, h1, h3, h5, h7, h9, ha1, ha2, hb1, hc1, hc2, hap⟩ := h
       refine xs_op hC (m1 := m1) rfl (by simp only [go_sem, reduceIte, Nat.reduceEqDiff, reduceCtorEq, Int.reduceEq, h9]; rfl) rfl ⟨rfl, ?_⟩
       exact ⟨h1, h3, h5, h7, h9, ha1, ha2, fun _ => rfl, hc1, hc2, hap⟩
      ·obtain ⟨rfl, h1, h3, h5, h7, h9, ha1, ha2, hb1, hc1, hc2, hap⟩ := h
       refine xs_op hC (m1 := m1) rfl (by simp only [go_sem, reduceIte, Nat.reduceEqDiff, reduceCtorEq, Int.reduceEq, h5, l5]; rfl) rfl ⟨rfl, ?_⟩
       exact ⟨h1, h3, h5, h7, h9, ha1, ha2, hb1, fun _ => rfl, fun q => absurd q (by decide), fun _ q => absurd q (by decide)⟩
      ·obtain ⟨rfl, h1, h3, h5, h7, h9, ha1, ha2, hb1, hc1, hc2, hap⟩ := h
       refine xs_build1 (av := .agg x.row) (row := x.row) rfl rfl (by decide) rfl elKt szKt zrK (by decide) (by decide) (hc1 (Nat.le_refl 1)) rfl rfl fun vb hvb => ?_
       refine ⟨rfl, h1, h3, h5, h7, h9, ha1, fun q => ?_, hb1, fun _ => hc1 (Nat.le_refl 1), fun _ => ⟨vb, rfl, List.mem_cons_self⟩, fun q _ => ?_⟩
       ·rcases ha2 q with ⟨k1, k2⟩ | ⟨bb, cc, vs, k1, k2, k3, k4⟩
        ·exact .inl ⟨k1, k2⟩
        ·exact .inr ⟨bb, cc, vs, k1, k2, k3, List.mem_cons_of_mem _ k4⟩
       ·intro bb n cc vb' k1 k2
        cases k2
        rcases ha2 q with ⟨_, k3⟩ | ⟨bb', cc', vs, _, _, k3, k4⟩
        ·have e2 := k1.symm.trans k3
         cases e2
        ·have e2 := k1.symm.trans k3
         cases e2
         exact hvb _ k4
      ·obtain ⟨rfl, h1, h3, h5, h7, h9, ha1, ha2, hb1, hc1, hc2, hap⟩ := h
       obtain ⟨vb, k1, k2⟩ := hc2 (Nat.le_refl 2)
       have fin : ∀ {r : AV} {F' : Objs}, insOk l.length (putAt b l x) (rowsKt l).flatten x.row r F' → PJK m1 l x (putAt b l x) r3 r7 ((24, r) :: keepEnv e1) m1 F' := fun {r F'} hp => by
        refine ⟨rfl, ?_, ?_, r, rfl, hp⟩
        ·show Ev.get (keepEnv e1) 3 = _
         rw [get_keep, h3]
         rfl
        ·show Ev.get (keepEnv e1) 7 = _
         rw [get_keep, h7]
         rfl
       rcases ha2 (Nat.le_refl 2) with ⟨q1, q2⟩ | ⟨bb, cc, vs, q1, q2, q3, q4⟩
       ·subst q1
        refine xs_callI3 (x := .tmp 20) (y := .tmp 21) (z := .tmp 23) (insN_ok (vb := vb) (R := x.row) rfl) hR1 rfl rfl (by decide) rfl rfl rfl q2 (hb1 (Nat.le_refl 1)) k1 ⟨?_, k2⟩ fun r m2' F' hp => ?_
        ·have : putAt b [] x = 0 := Nat.le_zero.1 hat
         rw [this]
         rfl
        ·obtain ⟨rfl, hp⟩ := hp
         have : putAt b [] x = 0 := Nat.le_zero.1 hat
         refine fin ?_
         rw [this]
         exact hp
       ·refine xs_callI3 (x := .tmp 20) (y := .tmp 21) (z := .tmp 23) (ins_ok (b := bb) (c := cc) (vb := vb) (n := l.length) (i := putAt b l x) (cs := (rowsKt l).flatten ++ vs.map .v) (R := x.row) rfl hat q1 (by rw [List.length_append, flatKt_len, List.length_map, q2]; omega) (hap (Nat.le_refl 2) (Nat.le_refl 2) _ _ _ _ q3 k1) hlen) hR1 rfl rfl (by decide) rfl rfl rfl q3 (hb1 (Nat.le_refl 1)) k1 ⟨rfl, q4, k2⟩ fun r m2' F' hp => ?_
        obtain ⟨rfl, b', c', cs', w1, w2, w3, w4, w5⟩ := hp
        refine fin ⟨b', c', cs', w1, w2, w3, w4, ?_⟩
        rw [w5]
        congr 1
        rw [List.take_append_of_le_length (by rw [flatKt_len]; exact Nat.le_refl _)]
      ·obtain ⟨rfl, h3, h7, r, hr, hp⟩ := h
       refine xs_op hC (m1 := m1) rfl (by simp only [go_sem, reduceIte, Nat.reduceEqDiff, reduceCtorEq, Int.reduceEq, hr]; rfl) rfl ?_
       intro e2 he2
       refine ⟨rfl, r, ?_, hp⟩
       rw [← he2]
       show [(3, Ev.get e1 3), (7, Ev.get e1 7), (10, r)] = _
       rw [h3, h7]
      ·exact ⟨rfl, rfl, rfl, rfl, rfl, rfl, fun q => absurd q (by decide), fun q => absurd q (by decide), fun q => absurd q (by decide), fun q => absurd q (by decide), fun q => absurd q (by decide), fun q => absurd q (by decide)⟩
     ·rintro e m'' F ⟨rfl, r, rfl, b', c', cs', rfl, w2, w3, w4, w5⟩
      have hol : (putOut b l x).length = l.length + 1 := by unfold putOut; simp; omega
      have hfz := fz_kt (L := putOut b l x) (c := c') w2 (by omega) (by
       rw [hol, w5, List.take_of_length_le (by rw [flatKt_len]; exact Nat.le_refl _), ins_rows]
       rfl)
      rw [hol] at hfz
      refine xq ?_
      refine x_rest (FzEnv.cons _ (.same _) (FzEnv.cons _ (.same _) (FzEnv.cons _ hfz .nil))) ?_
      have l3 := lpSfCount v3
      have hln : (((rowsKt (putOut b l x)).length : Nat) : Int) = ((putOut b l x).length : Int) := by rw [rowsKt_len]
      unfold putV
      generalize putOut b l x = L at hol
      refine x_region (kp := kpPutS) mixed hC ?_
      refine go1 @l3 ?_
      refine xq ?_
      refine x_cond rfl (fun hc => ?_) (fun hc => ?_)
      ·have hle := of_decide_eq_true hc
       rw [if_pos hle]
       have st : evStore Tryz.prog m'' 54 (.ptr r7 0) (.agg zeroKt) = some (setv m'' r7 kt0.row) := store_part v7 szKt rfl rfl (Nat.le_refl _) rfl rfl
       refine xq ?_
       refine x_region (kp := kpPutS) mixed hC ?_
       refine go1 (jn @mk0Kt (jn @zKt @st)) ?_
       refine xq ?_
       exact x_leaves (leaves_tct rfl rfl (vrKt (setv_var v7)) rfl rfl (above_fin (above_setv hA hge)))
      ·have hle := of_decide_eq_false hc
       rw [if_neg hle]
       have w1 : IntKind.i64.wrap ((L.length : Int) - 1) = ((L.length - 1 : Nat) : Int) := by rw [wrap_i64 (by omega) (by omega)]; omega
       have hi1 : L.length - 1 < L.length := by omega
       have f1 := atKt (g := .no) (kk := .i64) hi1
       have sl := fun mm => slKt (m := mm) (g := .no) (l := L) (k := L.length - 1) (by omega)
       generalize L.getD (L.length - 1) kt0 = y at f1
       have n11 := newKt (m := m'') (x := y)
       have st := stKt (m := m'') (x := y)
       have v11 : (m''.push y.row).var m''.vars.length = some y.row := push_var
       have l11 := vrKt v11
       have v7b : (m''.push y.row).var r7 = some zeroKt := push_old v7
       have st7 : evStore Tryz.prog (m''.push y.row) 54 (.ptr r7 0) (.agg y.row) = some (setv (m''.push y.row) r7 y.row) := store_part v7b szKt rfl rfl (Nat.le_refl _) rfl rfl
       refine xq ?_
       refine x_region (kp := kpPutS) mixed hC ?_
       refine go1 (jn @w1 (jn @f1 @st)) ?_
       refine xq ?_
       refine x_walk0 (l2 := kpPutS 8) mixed hC (by kernel_rfl) ?_
       refine gof1 (jn @w1 (jn @sl (jn @l11 @st7))) ?_
       refine xq ?_
       exact x_leaves (leaves_tct rfl rfl (vrKt (setv_var v7b)) rfl rfl (above_fin (above_setv (above_push hA) hge)))
   ·cases h
  ·cases h
 ·cases h
end
noncomputable section
attribute [local irreducible] Next Inside Runs Ops table
attribute [local irreducible] XRuns XOps XLin XAny
attribute [local go_sem] szStr szInt Option.getD_some isNil evMinMax evFoldI iv fpTnP fpTnS fpTnX fpTnStep fpTnPhase fpTnEvents fpTnSSwa fpTnSSwaCount fpTnSEma fpTnXWeights fpTnPEma fpTnPEmaOn fpTnPEmaDecay List.cons_append mapSm cellsSm zrSm zoSm znSm szSm
def Tn.setSwa (T : Tn) (x : Sm) : Tn := { T with s := { T.s with swa := x } }
def Tn.setEma (T : Tn) (l : List Int) : Tn := { T with s := { T.s with ema := l } }
def wSum (T : Tn) : Sm × Int := swaV T.s.swa T.x.weights
def Tn.emaT (T : Tn) : Tn := if T.p.ema.On = true then T.setEma (emaV T.s.ema T.x.weights T.p.ema.Decay).1 else T
def Tn.wts (T : Tn) : Tn × Bool :=
 if summedB T = true then (if (wSum T).2 ≠ 0 then (T.tell 5 0, false) else ((((T.tell 4 T.s.swa.count).setSwa (wSum T).1).emaT), true)) else (T.emaT, true)
def wtsDom (T : Tn) : Prop := (T.s.swa.sums.length ≤ 1000000 ∧ T.x.weights.length ≤ 1000000) ∧ emaDom T.s.ema T.x.weights ∧ T.events.length < evLim
def wtsG : List AV → Mem → Option (AV × Mem)
 | [.ptr r 0], m => turnM r m wtsDom (fun T => T.wts.1) fun T => .v (.bool T.wts.2)
 | _, _ => none
theorem emaT_events (T : Tn) : T.emaT.events = T.events := by unfold Tn.emaT; split <;> rfl
theorem wts_events (T : Tn) : ∃ l, T.wts.1.events = T.events ++ l ∧ l.length ≤ 1 := by
 unfold Tn.wts
 split
 ·split
  ·exact ⟨[⟨T.step, 5, 0⟩], rfl, Nat.le_refl _⟩
  ·exact ⟨[⟨T.step, 4, T.s.swa.count⟩], emaT_events _, Nat.le_refl _⟩
 ·exact ⟨[], by rw [List.append_nil]; exact emaT_events _, Nat.zero_le _⟩
theorem wts_eq {m0 m : Mem} {r : Nat} {T0 T : Tn} {g0 g : Grow} (h : TAt m0 r T0 g0 T g m) (hd : wtsDom T) : wtsG [.ptr r 0] m = some (.v (.bool T.wts.2), putT m r T.wts.1 (T.wts.1.events.length - T.events.length) g) :=
 turnM_eq (dom := wtsDom) (f := fun T => T.wts.1) (res := fun T => .v (.bool T.wts.2)) h hd
theorem TAt.wts {m0 m : Mem} {r : Nat} {T0 T : Tn} {g0 g : Grow} (h : TAt m0 r T0 g0 T g m) : TAt m0 r T0 g0 T.wts.1 (growN (T.wts.1.events.length - T.events.length) g m.toks).1 (putT m r T.wts.1 (T.wts.1.events.length - T.events.length) g) := by
 obtain ⟨l, hl, _⟩ := wts_events T
 exact h.put (l := l) hl (by rw [hl, List.length_append]; omega)
theorem stSm {m : Mem} {x : Sm} : evStore Tryz.prog (m.push zeroSm) 44 (.ptr m.vars.length 0) (.agg x.row) = some (m.push x.row) := by
 rw [store_push (cs := x.row) rfl szSm (Nat.le_refl _) rfl]
 rfl
theorem x_cutN {P : Program} {φ₀ : Phi} {m₀ : Mem} {w₀ : World} {nt : Nat} {c : Code} {e : Env} {m : Mem} {F : Objs} {Q : PostF} {K : Env → Mem → Objs → Prop} (J : Env → Mem → Objs → Prop) (h : XRuns P φ₀ m₀ w₀ nt c e m F (XNext J Q)) (hk : ∀ e m F, J e m F → K e m F) :
  XRuns P φ₀ m₀ w₀ nt c e m F (XNext K Q) :=
 x_mono h fun z e m F hz => by
  cases z with
  | normal => exact hk e m F hz
  | exit id => exact hz
  | ret => exact hz
def kpWts : Nat → Option (List Nat) := fun
 | 0 => some [0]
 | 1 => some [0, 6]
 | 2 => some [0, 3, 4]
 | 3 => some [0, 3, 22]
 | 4 => some []
 | 5 => some [2]
 | 6 => some [0, 3]
 | 7 => some [0]
 | 8 => some [0, 43]
 | 9 => some []
 | 10 => some [2]
 | _ => none
attribute [go_sem] kpWts
def tabWts : List (FuncId × (List AV → Mem → Option (AV × Mem))) := [(102, tellG), (116, summedG), (117, swaG), (118, emaG)]
theorem wts_ok : FunOk Tryz.prog 99 wtsG := by
 have hC := table_ok (P := Tryz.prog) (l := tabWts) (table_more tell_ok (table_more summed_ok (table_more swa_ok (table_more ema_ok table_nil))))
 have t1 := fun args mm => table_at (l := tabWts) (f := 102) (args := args) (m := mm) rfl
 have t2 := fun args mm => table_at (l := tabWts) (f := 116) (args := args) (m := mm) rfl
 have t3 := fun args mm => table_at (l := tabWts) (f := 117) (args := args) (m := mm) rfl
 have t4 := fun args mm => table_at (l := tabWts) (f := 118) (args := args) (m := mm) rfl
 refine fun_okX Tryz.func99 rfl false rfl fun args m r h => ?_
 unfold wtsG at h
 split at h
 ·rename_i r0
  obtain ⟨T, g, hT, ⟨hd1, hd2, hd3⟩, rfl⟩ := turnM_some h
  refine ⟨Nat.le_of_ble_eq_true rfl, fun φ wd => ?_⟩
  refine en ?_
  have c1 := summed_eq hT.hv
  refine xq ?_
  refine x_region (kp := kpWts) mixed hC ?_
  refine go0 ?_
  refine xq ?_
  refine x_region (kp := kpWts) mixed hC ?_
  refine go1 (jn @t2 @c1) ?_
  refine xq ?_
  refine x_cutN (fun e m' F => ∃ (U : Tn) (gu : Grow), TAt m r0 T g U gu m' ∧ emaDom U.s.ema U.x.weights ∧ T.wts = (U.emaT, true) ∧ Ev.get e 0 = AV.ptr r0 0 ∧ F = []) ?_ ?_
  ·cases hs : summedB T with
   | false =>
    refine x_cond rfl (fun hc => by first | (cases hc; done) | (rw [hs] at hc; cases hc)) (fun hc => ?_)
    refine xq ?_
    exact ⟨T, g, hT, hd2, by unfold Tn.wts; rw [if_neg (by rw [hs]; decide)], rfl, rfl⟩
   | true =>
    have hw : T.wts = if (wSum T).2 ≠ 0 then (T.tell 5 0, false) else ((((T.tell 4 T.s.swa.count).setSwa (wSum T).1).emaT), true) := by unfold Tn.wts; rw [if_pos hs]
    have l1 := lpTnSSwa hT.hv
    have l2 := lpTnXWeights hT.hv
    have c3 := swa_eq (s := T.s.swa) (w := T.x.weights) (g := .no) hd1
    rw [show swaV T.s.swa T.x.weights = wSum T from rfl] at c3
    generalize wSum T = S at c3 hw
    have n3 := znSm (m := m)
    have st := stSm (m := m) (x := S.1)
    have v3 : (m.push S.1.row).var m.vars.length = some S.1.row := push_var
    have hT3 := hT.push (cs := S.1.row)
    refine x_cond rfl (fun hc => ?_) (fun hc => by first | (cases hc; done) | (rw [hs] at hc; cases hc))
    refine xq ?_
    refine x_walk0 (l2 := kpWts 2) mixed hC (by kernel_rfl) ?_
    refine gof1 (jn @l1 (jn @l2 (jn @t3 @c3))) ?_
    refine xq ?_
    have hr3 : r0 ≠ m.vars.length := by have := hT.lt; omega
    generalize m.push S.1.row = m3 at v3 hT3
    generalize hr : m.vars.length = r3 at v3 hr3
    refine x_region (kp := kpWts) mixed hC ?_
    refine go0 ?_
    refine xq ?_
    refine x_cond rfl (fun hc => ?_) (fun hc => ?_)
    ·have hz : S.2 ≠ 0 := by simpa using hc
     rw [if_pos hz] at hw
     have c5 := tell_eq hT3 hd3 5 0
     have hT5 := hT3.tell 5 0
     refine xq ?_
     refine x_region (kp := kpWts) mixed hC ?_
     refine go1 (jn @t1 @c5) ?_
     refine xq ?_
     refine x_region (kp := kpWts) mixed hC ?_
     refine go0 ?_
     refine xq ?_
     rw [show T.wts.2 = false by rw [hw]]
     exact x_leaves (leaves_turnB (f := fun T => T.wts.1) rfl rfl (by rw [show T.wts.1 = T.tell 5 0 by rw [hw]]; exact hT5))
    ·have hz : S.2 = 0 := by simpa using hc
     rw [if_neg (by omega)] at hw
     have c5 := tell_eq hT3 hd3 4 T.s.swa.count
     have hT5 := hT3.tell 4 T.s.swa.count
     have l3 := lpTnSSwaCount hT3.hv
     refine xq ?_
     refine x_region (kp := kpWts) mixed hC ?_
     refine go1 (jn @l3 (jn @t1 @c5)) ?_
     refine xq ?_
     have v3' : (putT m3 r0 (T.tell 4 T.s.swa.count) 1 g).var r3 = some S.1.row := by rw [putT_other (fun h => hr3 h.symm)]; exact v3
     generalize putT m3 r0 (T.tell 4 T.s.swa.count) 1 g = m5 at hT5 v3'
     generalize (growN 1 g m3.toks).1 = g5 at hT5
     have l4 := vrSm v3'
     have st5 : evStore Tryz.prog m5 44 (.ptr r0 46) (.agg S.1.row) = some (setv m5 r0 (((T.tell 4 T.s.swa.count).setSwa S.1).rowG g5)) := store_part hT5.hv szSm rfl rfl (Nat.le_of_ble_eq_true rfl) rfl rfl
     have hT6 := hT5.set (T2 := (T.tell 4 T.s.swa.count).setSwa S.1) rfl
     refine x_region (kp := kpWts) mixed hC ?_
     refine go1 (jn @l4 @st5) ?_
     refine xq ?_
     exact ⟨_, _, hT6, hd2, hw, rfl, rfl⟩
  ·rintro e m' F ⟨U, gu, hU, hdom, hw, he, rfl⟩
   refine x_drop (some [0]) ?_
   rw [show Ev.restr (some [0]) e = [(0, AV.ptr r0 0)] by simp only [Ev.restr, List.map_cons, List.map_nil, he]]
   have l1 := lpTnPEmaOn hU.hv
   have hw1 : T.wts.1 = U.emaT := by rw [hw]
   rw [show T.wts.2 = true by rw [hw]]
   refine xq ?_
   refine x_region (kp := kpWts) mixed hC ?_
   refine go1 @l1 ?_
   refine xq ?_
   cases ho : U.p.ema.On with
   | false =>
    rw [show U.emaT = U by unfold Tn.emaT; rw [if_neg (by rw [ho]; decide)]] at hw1
    refine x_cond rfl (fun hc => by first | (cases hc; done) | (rw [ho] at hc; cases hc)) (fun hc => ?_)
    refine xq ?_
    refine x_region (kp := kpWts) mixed hC ?_
    refine go0 ?_
    refine xq ?_
    exact x_leaves (leaves_turnB (f := fun T => T.wts.1) rfl rfl (by rw [hw1]; exact hU))
   | true =>
    rw [show U.emaT = U.setEma (emaV U.s.ema U.x.weights U.p.ema.Decay).1 by unfold Tn.emaT; rw [if_pos ho]] at hw1
    have l2 := lpTnSEma hU.hv
    have l3 := lpTnXWeights hU.hv
    have l4 := lpTnPEmaDecay hU.hv
    have c4 := ema_eq (g := .no) (g2 := .no) (d := U.p.ema.Decay) hdom
    generalize emaV U.s.ema U.x.weights U.p.ema.Decay = E at c4 hw1
    have st : evStore Tryz.prog m' 42 (.ptr r0 45) (.lst .no 1 (rowsI E.1)) = some (setv m' r0 ((U.setEma E.1).rowG gu)) := store_part hU.hv szInts rfl rfl (Nat.le_of_ble_eq_true rfl) rfl rfl
    have hU2 := hU.set (T2 := U.setEma E.1) rfl
    refine x_cond rfl (fun hc => ?_) (fun hc => by first | (cases hc; done) | (rw [ho] at hc; cases hc))
    refine xq ?_
    refine x_walk0 (l2 := kpWts 9) mixed hC (by kernel_rfl) ?_
    refine gof1 (jn @l2 (jn @l3 (jn @l4 (jn @t4 (jn @c4 @st))))) ?_
    refine xq ?_
    refine x_region (kp := kpWts) mixed hC ?_
    refine go0 ?_
    refine xq ?_
    exact x_leaves (leaves_turnB (f := fun T => T.wts.1) rfl rfl (by rw [hw1]; exact hU2))
 ·cases h
end
end Go.Proofs.YtmockbddhhmmeaaGreat.Ev

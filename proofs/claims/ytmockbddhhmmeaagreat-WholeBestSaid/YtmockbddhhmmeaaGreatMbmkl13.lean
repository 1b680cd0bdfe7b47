/- Steps that are kept, checked. -/
import Derived.Test.YtmockbddhhmmeaaGreatMbmkl12
import Derived.Test.YtmockbddhhmmeaaGreatMbmkl9
import Derived.Test.YtmockbddhhmmeaaGreatMa9
namespace Go.Proofs.YtmockbddhhmmeaaGreat.Ev
open Go Go.Proofs
set_option maxRecDepth 10000
set_option maxHeartbeats 8000000
set_option linter.unusedVariables false
set_option linter.unusedSimpArgs false
noncomputable section
attribute [local irreducible] Next Inside Runs Ops table
attribute [local irreducible] XRuns XOps XLin XAny
attribute [local go_sem] szStr szInt Option.getD_some isNil evMinMax evFoldI iv mapKt cellsKt newKt ldKt rowsKt_len mapSf cellsSf newSf zrSf zoSf znSf zrKt zoKt znKt List.cons_append fpKtStep fpKtVal fpSfAhead aheadFn feKtStep feKtVal leKtStep leKtVal
def cntS (l : List Kt) (i : Nat) (q : Int) : Nat := ((l.take i).filter fun y => y.step == q).length
def dupAt (l : List Kt) (i : Nat) : Bool := decide (0 < cntS l i (l.getD i kt0).step)
def badAt (most : Bool) (l : List Kt) (i : Nat) : Bool := decide (0 < i) && (aheadB most (l.getD i kt0) (l.getD (i - 1) kt0) || ((l.getD i kt0).val == (l.getD (i - 1) kt0).val && decide ((l.getD i kt0).step < (l.getD (i - 1) kt0).step)))
def keptOkB (l : List Kt) (cnt : Int) (most : Bool) : Bool := !((List.range l.length).any fun i => dupAt l i || badAt most l i) && decide ((l.length : Int) ≤ cnt)
def kpDom (l : List Kt) : Prop := l.length ≤ 1000000 ∧ ∀ y ∈ l, inI y.val
open Classical in
def keptOkG : List AV → Mem → Option (AV × Mem)
 | [.lst _ 2 rows, .v (.int .i64 cnt), .v (.bool b)], m =>
  match unsKt rows with
  | some l => if kpDom l then some (.v (.bool (keptOkB l cnt b)), m) else none
  | none => none
 | _, _ => none
theorem keptOk_eq {cnt : Int} {b : Bool} {g : Grow} {l : List Kt} (h : kpDom l) (m : Mem) : keptOkG [.lst g 2 (rowsKt l), .v (.int .i64 cnt), .v (.bool b)] m = some (.v (.bool (keptOkB l cnt b)), m) := by
 simp only [keptOkG, unsKt_rowsKt]
 exact if_pos h
theorem cntS_le (l : List Kt) (i : Nat) (q : Int) : cntS l i q ≤ i := by
 unfold cntS
 exact Nat.le_trans (List.length_filter_le _ _) (by rw [List.length_take]; omega)
theorem cntS_next {l : List Kt} {i : Nat} (hi : i < l.length) (q : Int) : cntS l (i + 1) q = if q = (l.getD i kt0).step then cntS l i q + 1 else cntS l i q := by
 unfold cntS
 rw [List.take_add_one, List.getElem?_eq_getElem hi, List.filter_append, List.length_append]
 have e : l.getD i kt0 = l[i] := by simp [List.getD, List.getElem?_eq_getElem hi]
 rw [e]
 by_cases h : q = l[i].step
 ·simp [h]
 ·have h2 : (l[i].step == q) = false := by simpa using fun hh => h hh.symm
  simp [h, h2]
theorem underMet : Tryz.prog.underlying 159 = some (.map 3 3) := by simp only [Tryz.underlying159]
theorem metKey : KeyOkN Tryz.prog 3 Int fun n => .int .i64 n := intKeys intU
theorem metZero (w : World) : (zeroValue 3).run Tryz.prog w = .ok (.int .i64 0) w := by kernel_rfl
theorem stSf {m : Mem} {n : Int} {b : Bool} : evStore Tryz.prog (m.push zeroSf) 162 (.ptr m.vars.length 0) (.agg (shelfRow n b)) = some (m.push (shelfRow n b)) := by
 rw [store_push (cs := shelfRow n b) rfl szSf (Nat.le_refl _) rfl]
 rfl
def kpKeptOk : Nat → Option (List Nat) := fun
 | 0 => some [0, 1, 2]
 | 1 => some [0, 1, 2, 7]
 | 2 => some [0, 1, 7, 8]
 | 3 => some [0, 1, 7, 8, 15, 16, 17]
 | 4 => some [0, 1, 7, 8, 15, 16, 17, 18]
 | 5 => some [0, 1, 7, 8, 9, 10, 15, 16, 17]
 | 6 => some [0, 1, 7, 8, 9, 10, 15, 16, 17]
 | 7 => some [0, 1, 7, 8, 9, 10, 15, 16, 17, 31]
 | 8 => some [6]
 | 9 => some [0, 1, 7, 8, 15, 16, 17, 66]
 | 10 => some [6]
 | 11 => some [0, 1, 7, 8, 15, 16, 17]
 | 12 => some [6]
 | _ => none
attribute [go_sem] kpKeptOk
def tabKeptOk : List (FuncId × (List AV → Mem → Option (AV × Mem))) := [(108, shelfG), (125, aheadG)]
theorem keptOk_ok : FunOk Tryz.prog 87 keptOkG := by
 have hC := table_ok (P := Tryz.prog) (l := tabKeptOk) (table_more shelf_ok (table_more ahead_ok table_nil))
 have t1 := fun args mm => table_at (l := tabKeptOk) (f := 108) (args := args) (m := mm) rfl
 have t2 := fun args mm => table_at (l := tabKeptOk) (f := 125) (args := args) (m := mm) rfl
 refine fun_okX Tryz.func87 rfl false rfl fun args m r h => ?_
 unfold keptOkG at h
 split at h
 ·rename_i g rows cnt b
  split at h
  ·rename_i l hl0
   obtain rfl := unsKt_some hl0
   split at h
   ·rename_i hd
    obtain ⟨hlen, hin⟩ := hd
    simp only [Option.some.injEq] at h
    subst h
    refine ⟨Nat.le_of_ble_eq_true rfl, fun φ wd => ?_⟩
    refine en ?_
    refine xq ?_
    refine x_region (kp := kpKeptOk) mixed hC ?_
    refine go0 ?_
    refine xq ?_
    refine x_ops (l2 := kpKeptOk 1) ?_
    refine xops_step (xs_makeMap (enc := fun n : Int => Value.int .i64 n) rfl rfl (by decide) rfl fun bm hbm => ?_)
    refine gox0 hC ?_
    refine xq ?_
    have c1 := shelf_eq cnt b
    have s1 := stSf (m := m) (n := mx cnt 0) (b := b)
    have v8 : (m.push (shelfRow (mx cnt 0) b)).var m.vars.length = some (shelfRow (mx cnt 0) b) := push_var
    have hA := above_push (cs := shelfRow (mx cnt 0) b) (above_self m)
    refine x_region (kp := kpKeptOk) mixed hC ?_
    refine go1 (jn @t1 (jn @c1 @s1)) ?_
    refine xq ?_
    generalize m.push (shelfRow (mx cnt 0) b) = m2 at v8 hA
    generalize m.vars.length = r8 at v8
    refine x_region (kp := kpKeptOk) mixed hC ?_
    refine go0 ?_
    refine xq ?_
    refine x_loop (fun k e m' F => ∃ (i : Nat) (ml : List (Int × Value)), i ≤ l.length ∧ ((List.range i).any fun j => dupAt l j || badAt b l j) = false ∧ (∀ q, valAt (.int .i64 0) q ml = .int .i64 ((cntS l i q : Nat) : Int)) ∧ (bm, mapOb (fun n : Int => Value.int .i64 n) ml) ∈ F ∧ Above m m' ∧ m'.var r8 = some (shelfRow (mx cnt 0) b) ∧ k = l.length - i ∧
     e = [(0, AV.lst g 2 (rowsKt l)), (1, .v (.int .i64 cnt)), (7, .v (.map (some bm))), (8, .ptr r8 0), (15, .lst g 2 (rowsKt l)), (16, .v (.int .i64 l.length)), (17, .v (.int .i64 (i : Int)))]) (k := l.length)
     ⟨0, [], Nat.zero_le _, rfl, fun q => rfl, List.mem_cons_self, hA, v8, rfl, rfl⟩ ?_
    rintro k e m' F ⟨i, ml, hi, hno, hval, hbF, hA', v8', rfl, rfl⟩
    clear v8 hA
    refine xq ?_
    refine x_region (kp := kpKeptOk) mixed hC ?_
    refine go0 ?_
    refine xq ?_
    refine x_cond rfl (fun hc => ?_) (fun hc => ?_)
    ·have hi1 : i < l.length := by have := of_decide_eq_true hc; omega
     have f1 := atKt (g := g) (kk := .i64) hi1
     have r6 := next_i64 (i := i) (by omega)
     have hcx := cntS_le l i (l.getD i kt0).step
     have hnx := cntS_next hi1
     have hdup : dupAt l i = decide (0 < cntS l i (l.getD i kt0).step) := rfl
     have hbad : badAt b l i = (decide (0 < i) && (aheadB b (l.getD i kt0) (l.getD (i - 1) kt0) || ((l.getD i kt0).val == (l.getD (i - 1) kt0).val && decide ((l.getD i kt0).step < (l.getD (i - 1) kt0).step)))) := rfl
     have hx := hin (l.getD i kt0) (getD_in hi1)
     generalize l.getD i kt0 = x at f1 hcx hnx hdup hbad hx
     have st := stKt (m := m') (x := x)
     have n10 := znKt (m := m')
     have v10 : (m'.push x.row).var m'.vars.length = some x.row := push_var
     have v8b : (m'.push x.row).var r8 = some (shelfRow (mx cnt 0) b) := push_old v8'
     have hA2 := above_push (cs := x.row) hA'
     refine xq ?_
     refine x_region (kp := kpKeptOk) mixed hC ?_
     refine go1 (jn @f1 (jn @st @n10)) ?_
     refine xq ?_
     generalize m'.push x.row = m3 at v10 v8b hA2
     generalize m'.vars.length = r10 at v10
     have l1 := lpKtStep v10
     have l2 := lpKtVal v10
     have l3 := vrKt v10
     have l4 := lpSfAhead v8b
     have hv1 := hval x.step
     have w1 : IntKind.i64.wrap (((cntS l i x.step : Nat) : Int) + 1) = ((cntS l i x.step + 1 : Nat) : Int) := by rw [wrap_i64 (by omega) (by omega)]; omega
     refine x_ops (l2 := kpKeptOk 6) ?_
     refine gox1 hC @l1 ?_
     refine xops_step (xs_lookupN (t := 0) metKey underMet metZero hbF x.step rfl rfl rfl rfl rfl ?_)
     rw [hv1]
     refine gox1 hC @w1 ?_
     refine xops_step (xs_updateN (t := 0) (t2 := 0) (v := .int .i64 ((cntS l i x.step + 1 : Nat) : Int)) metKey underMet hbF x.step rfl rfl rfl rfl rfl rfl ?_)
     refine gox0 hC ?_
     have hb2 : (bm, mapOb (fun n : Int => Value.int .i64 n) (putK x.step (.int .i64 ((cntS l i x.step + 1 : Nat) : Int)) ml)) ∈ setObjs F bm (mapOb (fun n : Int => Value.int .i64 n) (putK x.step (.int .i64 ((cntS l i x.step + 1 : Nat) : Int)) ml)) := set_mem hbF
     generalize setObjs F bm (mapOb (fun n : Int => Value.int .i64 n) (putK x.step (.int .i64 ((cntS l i x.step + 1 : Nat) : Int)) ml)) = F2 at hb2
     have hval2 : ∀ q, valAt (.int .i64 0) q (putK x.step (.int .i64 ((cntS l i x.step + 1 : Nat) : Int)) ml) = .int .i64 ((cntS l (i + 1) q : Nat) : Int) := fun q => by
      rw [valAt_eq, vAt_put, hnx q]
      by_cases hq : q = x.step
      ·subst hq
       rw [if_pos rfl, if_pos rfl]
       rfl
      ·rw [if_neg hq, if_neg hq, ← valAt_eq, hval q]
     have hv2 : valAt (.int .i64 0) x.step (putK x.step (.int .i64 ((cntS l i x.step + 1 : Nat) : Int)) ml) = .int .i64 ((cntS l i x.step + 1 : Nat) : Int) := by rw [hval2, hnx, if_pos rfl]
     generalize putK x.step (.int .i64 ((cntS l i x.step + 1 : Nat) : Int)) ml = ml2 at hb2 hval2 hv2
     refine xq ?_
     refine x_ops (l2 := kpKeptOk 7) ?_
     refine gox1 hC @l1 ?_
     refine xops_step (xs_lookupN (t := 0) metKey underMet metZero hb2 x.step rfl rfl rfl rfl rfl ?_)
     rw [hv2]
     refine gox0 hC ?_
     refine xq ?_
     have bad : (dupAt l i || badAt b l i) = true → keptOkB l cnt b = false := fun hh => by
      unfold keptOkB
      rw [range_any hi1 hh]
      rfl
     refine x_cond rfl (fun hc2 => ?_) (fun hc2 => ?_)
     ·have h1 : 0 < cntS l i x.step := by have := of_decide_eq_true hc2; omega
      rw [bad (by rw [hdup, decide_eq_true h1]; rfl)]
      refine xq ?_
      refine x_region (kp := kpKeptOk) mixed hC ?_
      refine go0 ?_
      refine xq ?_
      exact x_leaves (leaves_fin rfl rfl (above_fin hA2))
     ·have h1 : ¬ 0 < cntS l i x.step := by have := of_decide_eq_false hc2; omega
      rw [decide_eq_false h1] at hdup
      have hno2 : badAt b l i = false → ((List.range (i + 1)).any fun j => dupAt l j || badAt b l j) = false := fun hh => by
       rw [List.range_succ, List.any_append, hno]
       simp [hdup, hh]
      have done : badAt b l i = false → ∀ {e : Env}, e = [(0, AV.lst g 2 (rowsKt l)), (1, .v (.int .i64 cnt)), (7, .v (.map (some bm))), (8, .ptr r8 0), (15, .lst g 2 (rowsKt l)), (16, .v (.int .i64 l.length)), (17, .v (.int .i64 ((i + 1 : Nat) : Int)))] → ∃ k', k' < l.length - i ∧ ∃ (i' : Nat) (ml : List (Int × Value)), i' ≤ l.length ∧ ((List.range i').any fun j => dupAt l j || badAt b l j) = false ∧ (∀ q, valAt (.int .i64 0) q ml = .int .i64 ((cntS l i' q : Nat) : Int)) ∧ (bm, mapOb (fun n : Int => Value.int .i64 n) ml) ∈ F2 ∧ Above m m3 ∧ m3.var r8 = some (shelfRow (mx cnt 0) b) ∧ k' = l.length - i' ∧
        e = [(0, AV.lst g 2 (rowsKt l)), (1, .v (.int .i64 cnt)), (7, .v (.map (some bm))), (8, .ptr r8 0), (15, .lst g 2 (rowsKt l)), (16, .v (.int .i64 l.length)), (17, .v (.int .i64 (i' : Int)))] := fun hh {e} he =>
       ⟨l.length - (i + 1), by omega, i + 1, ml2, hi1, hno2 hh, hval2, hb2, hA2, v8b, rfl, he⟩
      have hy0 : ∀ j, j < l.length → inI (l.getD j kt0).val := fun j hj => hin _ (getD_in hj)
      by_cases h0 : i = 0
      ·subst h0
       have k0 : decide (((0 : Nat) : Int) > 0) = false := rfl
       refine xq ?_
       refine x_walk0 (l2 := kpKeptOk 9) mixed hC (by kernel_rfl) ?_
       refine gof1 @k0 ?_
       refine xq ?_
       refine x_cond rfl (fun hc => by cases hc) (fun hc => ?_)
       refine xq ?_
       refine x_region (kp := kpKeptOk) mixed hC ?_
       refine go1 @r6 ?_
       refine xq ?_
       exact done (by rw [hbad]; rfl) rfl
      ·have k0 : decide (((i : Nat) : Int) > 0) = true := by simp; omega
       have w2 : IntKind.i64.wrap ((i : Int) - 1) = ((i - 1 : Nat) : Int) := by rw [wrap_i64 (by omega) (by omega)]; omega
       have f2 := atKt (g := g) (kk := .i64) (show i - 1 < l.length by omega)
       have hy := hy0 (i - 1) (by omega)
       generalize l.getD (i - 1) kt0 = y at f2 hbad hy
       have c2 := ahead_eq (a := x) (b := y) ⟨hx, hy⟩ b
       rw [decide_eq_true (show 0 < i by omega), Bool.true_and] at hbad
       cases ha : aheadB b x y with
       | true =>
        rw [ha] at hbad c2
        refine xq ?_
        refine x_walk0 (l2 := kpKeptOk 9) mixed hC (by kernel_rfl) ?_
        refine gof1 (jn @k0 (jn @w2 (jn @f2 (jn @l4 (jn @l3 (jn @t2 @c2)))))) ?_
        refine xq ?_
        refine x_cond rfl (fun hc => ?_) (fun hc => by cases hc)
        rw [bad (by rw [hbad]; simp)]
        refine xq ?_
        refine x_region (kp := kpKeptOk) mixed hC ?_
        refine go0 ?_
        refine xq ?_
        exact x_leaves (leaves_fin rfl rfl (above_fin hA2))
       | false =>
        rw [ha, Bool.false_or] at hbad
        rw [ha] at c2
        cases hv : (x.val == y.val) with
        | false =>
         rw [hv, Bool.false_and] at hbad
         refine xq ?_
         refine x_walk0 (l2 := kpKeptOk 9) mixed hC (by kernel_rfl) ?_
         refine gof1 (jn @k0 (jn @w2 (jn @f2 (jn @l4 (jn @l3 (jn @l2 (jn @t2 (jn @c2 @hv)))))))) ?_
         refine xq ?_
         refine x_cond rfl (fun hc => by cases hc) (fun hc => ?_)
         refine xq ?_
         refine x_region (kp := kpKeptOk) mixed hC ?_
         refine go1 @r6 ?_
         refine xq ?_
         exact done hbad rfl
        | true =>
         rw [hv, Bool.true_and] at hbad
         refine xq ?_
         refine x_walk0 (l2 := kpKeptOk 9) mixed hC (by kernel_rfl) ?_
         refine gof1 (jn @k0 (jn @w2 (jn @f2 (jn @l4 (jn @l3 (jn @l2 (jn @l1 (jn @t2 (jn @c2 @hv))))))))) ?_
         refine xq ?_
         refine x_cond rfl (fun hc => ?_) (fun hc => ?_)
         ·rw [bad (by rw [hbad, hc]; simp)]
          refine xq ?_
          refine x_region (kp := kpKeptOk) mixed hC ?_
          refine go0 ?_
          refine xq ?_
          exact x_leaves (leaves_fin rfl rfl (above_fin hA2))
         ·refine xq ?_
          refine x_region (kp := kpKeptOk) mixed hC ?_
          refine go1 @r6 ?_
          refine xq ?_
          exact done (by rw [hbad, hc]) rfl
    ·have hi1 : i = l.length := by have := of_decide_eq_false hc; omega
     subst hi1
     refine xq ?_
     refine x_region (kp := kpKeptOk) mixed hC ?_
     refine go0 ?_
     refine xq ?_
     refine x_leaves (leaves_fin rfl ?_ (above_fin hA'))
     show AV.v (.bool (decide ((l.length : Int) ≤ cnt))) = _
     unfold keptOkB
     rw [hno]
     rfl
   ·cases h
  ·cases h
 ·cases h
end
noncomputable section
attribute [local irreducible] Next Inside Runs Ops table
attribute [local irreducible] XRuns XOps XLin XAny
attribute [local go_sem] szStr szInt Option.getD_some isNil evMinMax evFoldI iv mapPn cellsPn newPn mapSs cellsSs newSs mapCt cellsCt fpPnKeepAt fpPnKeep fpPnKeepCount fpPnKeepMax fpSsKept fpSsStatus rowsKt_len List.cons_append
def keptStB (p : Pn) (s : Ss) : Bool := if p.keepAt < 0 then (s.kept.length : Int) == 0 else !(decide ((s.kept.length : Int) > looksV p s) || !(keptOkB s.kept p.keep.Count p.keep.Max)) && !(s.kept.any (keptBad p s))
open Classical in
def keptStG : List AV → Mem → Option (AV × Mem)
 | [.agg ps, .agg ss], m =>
  match unPn ps, unSs ss with
  | some p, some s => if planOkB p = true ∧ kpDom s.kept then some (.v (.bool (keptStB p s)), m) else none
  | _, _ => none
 | _, _ => none
theorem keptSt_eq {p : Pn} {s : Ss} (h : planOkB p = true ∧ kpDom s.kept) (m : Mem) : keptStG [.agg p.row, .agg s.row] m = some (.v (.bool (keptStB p s)), m) := by
 simp only [keptStG, unPn_row, unSs_row]
 exact if_pos h
theorem keep_eval {p : Pn} (h : planOkB p = true) (hk : ¬ p.keepAt < 0) : p.eval ≠ 0 := by
 have := (planOk_parts h).2.2.2.2.2.2.2.2.2.2.1
 unfold keepOkB at this
 rw [if_neg (by omega)] at this
 simp only [Bool.and_eq_true] at this
 have := this.1.1
 unfold seenB at this
 simp only [Bool.and_eq_true, decide_eq_true_eq] at this
 omega
def kpKeptSt : Nat → Option (List Nat) := fun
 | 0 => some [2, 3]
 | 1 => some [2, 3, 7]
 | 2 => some [4]
 | 3 => some [2, 3, 30]
 | 4 => some [4]
 | 5 => some [4]
 | _ => none
attribute [go_sem] kpKeptSt
def tabKeptSt : List (FuncId × (List AV → Mem → Option (AV × Mem))) := [(85, looksVG), (87, keptOkG), (88, anyKtG)]
theorem keptSt_ok : FunOk Tryz.prog 63 keptStG := by
 have hC := table_ok (P := Tryz.prog) (l := tabKeptSt) (table_more looksV_ok (table_more keptOk_ok (table_more anyKt_ok table_nil)))
 have t1 := fun args mm => table_at (l := tabKeptSt) (f := 85) (args := args) (m := mm) rfl
 have t2 := fun args mm => table_at (l := tabKeptSt) (f := 87) (args := args) (m := mm) rfl
 have t3 := fun args mm => table_at (l := tabKeptSt) (f := 88) (args := args) (m := mm) rfl
 refine fun_okX Tryz.func63 rfl false rfl fun args m r h => ?_
 unfold keptStG at h
 split at h
 ·rename_i ps ss
  split at h
  ·rename_i p s hp0 hs0
   obtain rfl := unPn_some hp0
   obtain rfl := unSs_some hs0
   split at h
   ·rename_i hd
    obtain ⟨hp, hk⟩ := hd
    simp only [Option.some.injEq] at h
    subst h
    refine ⟨Nat.le_of_ble_eq_true rfl, fun φ wd => ?_⟩
    refine en ?_
    have vp : ((m.push p.row).push s.row).var m.vars.length = some p.row := push_old push_var
    have vs : ((m.push p.row).push s.row).var (m.push p.row).vars.length = some s.row := push_var
    have n1 := newPn (m := m) (x := p)
    have n2 := newSs (m := m.push p.row) (x := s)
    have hA := above_push (cs := s.row) (above_push (cs := p.row) (above_self m))
    refine xq ?_
    refine x_region (kp := kpKeptSt) mixed hC ?_
    refine go1 (jn @n1 @n2) ?_
    refine xq ?_
    generalize (m.push p.row).push s.row = m2 at vp vs hA
    generalize (m.push p.row).vars.length = rs at vs
    generalize m.vars.length = rp at vp
    have k1 : (!true) = false := rfl
    have k2 : (!false) = true := rfl
    have l1 := lpPnKeepAt vp
    have l2 := lpSsKept vs
    have l3 := vrPn vp
    have l4 := vrSs vs
    have l5 := lpPnKeepCount vp
    have l6 := lpPnKeepMax vp
    refine x_region (kp := kpKeptSt) mixed hC ?_
    refine go1 @l1 ?_
    refine xq ?_
    unfold keptStB
    refine x_cond rfl (fun hc => ?_) (fun hc => ?_)
    ·rw [if_pos (of_decide_eq_true hc)]
     refine xq ?_
     refine x_region (kp := kpKeptSt) mixed hC ?_
     refine go1 @l2 ?_
     refine xq ?_
     exact x_leaves (leaves_fin rfl rfl (above_fin hA))
    ·have hneg := of_decide_eq_false hc
     rw [if_neg hneg]
     have hz := keep_eval hp hneg
     have c1 := looksV_eq p s
     have c2 := keptOk_eq (cnt := p.keep.Count) (b := p.keep.Max) (g := .no) hk
     have c3 := anyKt_eq (g := .no) hk.1 vs vp hz
     generalize keptOkB s.kept p.keep.Count p.keep.Max = B2 at c2
     generalize s.kept.any (keptBad p s) = B3 at c3
     generalize looksV p s = n at c1
     refine xq ?_
     cases h1 : decide ((s.kept.length : Int) > n) with
     | true =>
      refine x_walk0 (l2 := kpKeptSt 3) mixed hC (by kernel_rfl) ?_
      refine gof1 (jn @l2 (jn @l3 (jn @l4 (jn @t1 (jn @c1 @h1))))) ?_
      refine xq ?_
      refine x_cond rfl (fun hc => ?_) (fun hc => by cases hc)
      refine xq ?_
      refine x_region (kp := kpKeptSt) mixed hC ?_
      refine go0 ?_
      refine xq ?_
      exact x_leaves (leaves_fin rfl rfl (above_fin hA))
     | false =>
      cases B2 with
      | false =>
       refine x_walk0 (l2 := kpKeptSt 3) mixed hC (by kernel_rfl) ?_
       refine gof1 (jn @l2 (jn @l3 (jn @l4 (jn @l5 (jn @l6 (jn @t1 (jn @c1 (jn @h1 (jn @t2 (jn @c2 @k2)))))))))) ?_
       refine xq ?_
       refine x_cond rfl (fun hc => ?_) (fun hc => by cases hc)
       refine xq ?_
       refine x_region (kp := kpKeptSt) mixed hC ?_
       refine go0 ?_
       refine xq ?_
       exact x_leaves (leaves_fin rfl rfl (above_fin hA))
      | true =>
       refine x_walk0 (l2 := kpKeptSt 3) mixed hC (by kernel_rfl) ?_
       refine gof1 (jn @l2 (jn @l3 (jn @l4 (jn @l5 (jn @l6 (jn @t1 (jn @c1 (jn @h1 (jn @t2 (jn @c2 @k1)))))))))) ?_
       refine xq ?_
       refine x_cond rfl (fun hc => by cases hc) (fun hc => ?_)
       refine xq ?_
       refine x_region (kp := kpKeptSt) mixed hC ?_
       refine go1 (jn @l2 (jn @t3 @c3)) ?_
       refine xq ?_
       refine x_leaves (leaves_fin rfl ?_ (above_fin hA))
       cases B3 <;> rfl
   ·cases h
  ·cases h
 ·cases h
/-! ### state.Check -/
def stateOkB (p : Pn) (s : Ss) : Bool := planOkB p && (statusB p s && (stopStB p s && (cutStB p s && (keptStB p s && avgStB p s))))
def stDom (p : Pn) (s : Ss) : Prop := p.fit ∧ kpDom s.kept
open Classical in
def stateOkG : List AV → Mem → Option (AV × Mem)
 | [.agg ps, .agg ss], m =>
  match unPn ps, unSs ss with
  | some p, some s => if stDom p s then some (.v (.int .i64 (if stateOkB p s = true then 0 else 1)), m) else none
  | _, _ => none
 | _, _ => none
theorem stateOk_eq {p : Pn} {s : Ss} (h : stDom p s) (m : Mem) : stateOkG [.agg p.row, .agg s.row] m = some (.v (.int .i64 (if stateOkB p s = true then 0 else 1)), m) := by
 simp only [stateOkG, unPn_row, unSs_row]
 exact if_pos h
def kpStateOk : Nat → Option (List Nat) := fun
 | 0 => some [2, 3]
 | 1 => some [37]
 | 2 => some [4]
 | 3 => some [4]
 | _ => none
attribute [go_sem] kpStateOk
def tabStateOk : List (FuncId × (List AV → Mem → Option (AV × Mem))) := [(59, planCheckG), (60, statusBG), (61, stopStBG), (62, cutStBG), (63, keptStG), (64, avgStBG)]
theorem stateOk_ok : FunOk Tryz.prog 45 stateOkG := by
 have hC := table_ok (P := Tryz.prog) (l := tabStateOk) (table_more planCheck_ok (table_more statusB_ok (table_more stopStB_ok (table_more cutStB_ok (table_more keptSt_ok (table_more avgStB_ok table_nil))))))
 have t1 := fun args mm => table_at (l := tabStateOk) (f := 59) (args := args) (m := mm) rfl
 have t2 := fun args mm => table_at (l := tabStateOk) (f := 60) (args := args) (m := mm) rfl
 have t3 := fun args mm => table_at (l := tabStateOk) (f := 61) (args := args) (m := mm) rfl
 have t4 := fun args mm => table_at (l := tabStateOk) (f := 62) (args := args) (m := mm) rfl
 have t5 := fun args mm => table_at (l := tabStateOk) (f := 63) (args := args) (m := mm) rfl
 have t6 := fun args mm => table_at (l := tabStateOk) (f := 64) (args := args) (m := mm) rfl
 refine fun_ok mixed hC Tryz.func45 rfl kpStateOk false rfl fun args m r h => ?_
 unfold stateOkG at h
 split at h
 ·rename_i ps ss
  split at h
  ·rename_i p s hp0 hs0
   obtain rfl := unPn_some hp0
   obtain rfl := unSs_some hs0
   split at h
   ·rename_i hd
    obtain ⟨hf, hk⟩ := hd
    simp only [Option.some.injEq] at h
    subst h
    refine ⟨Nat.le_of_ble_eq_true rfl, ?_⟩
    refine en ?_
    have vp : ((m.push p.row).push s.row).var m.vars.length = some p.row := push_old push_var
    have vs : ((m.push p.row).push s.row).var (m.push p.row).vars.length = some s.row := push_var
    have n1 := newPn (m := m) (x := p)
    have n2 := newSs (m := m.push p.row) (x := s)
    have hA := above_push (cs := s.row) (above_push (cs := p.row) (above_self m))
    refine go1 (jn @n1 @n2) ?_
    generalize (m.push p.row).push s.row = m2 at vp vs hA
    generalize (m.push p.row).vars.length = rs at vs
    generalize m.vars.length = rp at vp
    have k1 : (!true) = false := rfl
    have k2 : (!false) = true := rfl
    have z0 : ((0 : Int) != 0) = false := rfl
    have z1 : ((1 : Int) != 0) = true := rfl
    have l3 := vrPn vp
    have l4 := vrSs vs
    have c1 := planCheck_eq hf
    unfold stateOkB
    cases h1 : planOkB p with
    | false =>
     rw [h1, if_neg (by decide)] at c1
     simp only [Bool.false_and]
     rw [if_neg (by decide)]
     refine go1 (jn @l3 (jn @t1 (jn @c1 @z1))) ?_
     refine runs_cond rfl (fun hc => ?_) (fun hc => by cases hc)
     refine go0 ?_
     exact leaves_fin rfl rfl (above_fin hA)
    | true =>
     rw [h1, if_pos rfl] at c1
     simp only [Bool.true_and]
     have c2 := statusB_eq (s := s) h1
     have c3 := stopStB_eq p s
     have c4 := cutStB_eq p s
     have c5 := keptSt_eq ⟨h1, hk⟩
     have c6 := avgStB_eq p s
     generalize statusB p s = B2 at c2
     generalize stopStB p s = B3 at c3
     generalize cutStB p s = B4 at c4
     generalize keptStB p s = B5 at c5
     generalize avgStB p s = B6 at c6
     cases B2 with
     | false =>
      simp only [Bool.false_and]
      rw [if_neg (by decide)]
      refine go1 (jn @l3 (jn @l4 (jn @t1 (jn @c1 (jn @t2 (jn @c2 (jn @z0 (jn @k1 @k2)))))))) ?_
      refine runs_cond rfl (fun hc => ?_) (fun hc => by cases hc)
      refine go0 ?_
      exact leaves_fin rfl rfl (above_fin hA)
     | true =>
      simp only [Bool.true_and]
      cases B3 with
      | false =>
       simp only [Bool.false_and]
       rw [if_neg (by decide)]
       refine go1 (jn @l3 (jn @l4 (jn @t1 (jn @c1 (jn @t2 (jn @c2 (jn @t3 (jn @c3 (jn @z0 (jn @k1 @k2)))))))))) ?_
       refine runs_cond rfl (fun hc => ?_) (fun hc => by cases hc)
       refine go0 ?_
       exact leaves_fin rfl rfl (above_fin hA)
      | true =>
       simp only [Bool.true_and]
       cases B4 with
       | false =>
        simp only [Bool.false_and]
        rw [if_neg (by decide)]
        refine go1 (jn @l3 (jn @l4 (jn @t1 (jn @c1 (jn @t2 (jn @c2 (jn @t3 (jn @c3 (jn @t4 (jn @c4 (jn @z0 (jn @k1 @k2)))))))))))) ?_
        refine runs_cond rfl (fun hc => ?_) (fun hc => by cases hc)
        refine go0 ?_
        exact leaves_fin rfl rfl (above_fin hA)
       | true =>
        simp only [Bool.true_and]
        cases B5 with
        | false =>
         simp only [Bool.false_and]
         rw [if_neg (by decide)]
         refine go1 (jn @l3 (jn @l4 (jn @t1 (jn @c1 (jn @t2 (jn @c2 (jn @t3 (jn @c3 (jn @t4 (jn @c4 (jn @t5 (jn @c5 (jn @z0 (jn @k1 @k2)))))))))))))) ?_
         refine runs_cond rfl (fun hc => ?_) (fun hc => by cases hc)
         refine go0 ?_
         exact leaves_fin rfl rfl (above_fin hA)
        | true =>
         simp only [Bool.true_and]
         cases B6 with
         | false =>
          rw [if_neg (by decide)]
          refine go1 (jn @l3 (jn @l4 (jn @t1 (jn @c1 (jn @t2 (jn @c2 (jn @t3 (jn @c3 (jn @t4 (jn @c4 (jn @t5 (jn @c5 (jn @t6 (jn @c6 (jn @z0 (jn @k1 @k2)))))))))))))))) ?_
          refine runs_cond rfl (fun hc => ?_) (fun hc => by cases hc)
          refine go0 ?_
          exact leaves_fin rfl rfl (above_fin hA)
         | true =>
          rw [if_pos (by rfl)]
          refine go1 (jn @l3 (jn @l4 (jn @t1 (jn @c1 (jn @t2 (jn @c2 (jn @t3 (jn @c3 (jn @t4 (jn @c4 (jn @t5 (jn @c5 (jn @t6 (jn @c6 (jn @z0 (jn @k1 @k2)))))))))))))))) ?_
          refine runs_cond rfl (fun hc => by cases hc) (fun hc => ?_)
          refine go0 ?_
          exact leaves_fin rfl rfl (above_fin hA)
   ·cases h
  ·cases h
 ·cases h
/-! ### engine.goes -/
def goesV (p : Pn) (s : Ss) : Int := if stateOkB p s = true then (if (s.status != 0) = true then 10 else 0) else 1
open Classical in
def goesG : List AV → Mem → Option (AV × Mem)
 | [.agg ps, .agg ss], m =>
  match unPn ps, unSs ss with
  | some p, some s => if stDom p s then some (.v (.int .i64 (goesV p s)), m) else none
  | _, _ => none
 | _, _ => none
theorem goes_eq {p : Pn} {s : Ss} (h : stDom p s) (m : Mem) : goesG [.agg p.row, .agg s.row] m = some (.v (.int .i64 (goesV p s)), m) := by
 simp only [goesG, unPn_row, unSs_row]
 exact if_pos h
def kpGoes : Nat → Option (List Nat) := fun
 | 0 => some [2, 3]
 | 1 => some [3, 5]
 | 2 => some [4]
 | 3 => some [10]
 | 4 => some [4]
 | 5 => some [4]
 | _ => none
attribute [go_sem] kpGoes
def tab_goes_ok : List (FuncId × (List AV → Mem → Option (AV × Mem))) := [(45, stateOkG)]
theorem goes_ok : FunOk Tryz.prog 66 goesG := by
 have hC := table_ok (P := Tryz.prog) (l := tab_goes_ok) (table_more stateOk_ok table_nil)
 have t1 := fun args mm => table_at (l := tab_goes_ok) (f := 45) (args := args) (m := mm) rfl
 refine fun_ok mixed hC Tryz.func66 rfl kpGoes false rfl fun args m r h => ?_
 unfold goesG at h
 split at h
 ·rename_i ps ss
  split at h
  ·rename_i p s hp0 hs0
   obtain rfl := unPn_some hp0
   obtain rfl := unSs_some hs0
   split at h
   ·rename_i hd
    simp only [Option.some.injEq] at h
    subst h
    refine ⟨Nat.le_of_ble_eq_true rfl, ?_⟩
    refine en ?_
    have vp : ((m.push p.row).push s.row).var m.vars.length = some p.row := push_old push_var
    have vs : ((m.push p.row).push s.row).var (m.push p.row).vars.length = some s.row := push_var
    have n1 := newPn (m := m) (x := p)
    have n2 := newSs (m := m.push p.row) (x := s)
    have hA := above_push (cs := s.row) (above_push (cs := p.row) (above_self m))
    refine go1 (jn @n1 @n2) ?_
    generalize (m.push p.row).push s.row = m2 at vp vs hA
    generalize (m.push p.row).vars.length = rs at vs
    generalize m.vars.length = rp at vp
    have z0 : ((0 : Int) != 0) = false := rfl
    have z1 : ((1 : Int) != 0) = true := rfl
    have l3 := vrPn vp
    have l4 := vrSs vs
    have l5 := lpSsStatus vs
    have c1 := stateOk_eq hd
    unfold goesV
    cases h1 : stateOkB p s with
    | false =>
     rw [h1, if_neg (by decide)] at c1
     rw [if_neg (by decide)]
     refine go1 (jn @l3 (jn @l4 (jn @t1 (jn @c1 @z1)))) ?_
     refine runs_cond rfl (fun hc => ?_) (fun hc => by cases hc)
     refine go0 ?_
     exact leaves_fin rfl rfl (above_fin hA)
    | true =>
     rw [h1, if_pos rfl] at c1
     rw [if_pos rfl]
     refine go1 (jn @l3 (jn @l4 (jn @t1 (jn @c1 @z0)))) ?_
     refine runs_cond rfl (fun hc => by cases hc) (fun hc => ?_)
     refine go1 @l5 ?_
     refine runs_cond rfl (fun hc => ?_) (fun hc => ?_)
     ·rw [if_pos hc]
      refine go0 ?_
      exact leaves_fin rfl rfl (above_fin hA)
     ·rw [if_neg (by rw [hc]; decide)]
      refine go0 ?_
      exact leaves_fin rfl rfl (above_fin hA)
   ·cases h
  ·cases h
 ·cases h
/-! ### state.New -/
def ssNew : Ss := ⟨0, 0, 0, wt0, cutNew, [], [], sm0⟩
theorem ssCut_eq (m : Mem) : cutNewG [] m = some (.agg cutNew.row, m) := rfl
def ssNewG : List AV → Mem → Option (AV × Mem)
 | [], m => some (.agg ssNew.row, m)
 | _, _ => none
theorem ssNew_eq (m : Mem) : ssNewG [] m = some (.agg ssNew.row, m) := rfl
def rowSsNew : List AV := [.v (.int .i64 0), .v (.int .i64 0), .v (.int .i64 0), .v (.bool false), .v (.int .i64 0), .v (.int .i64 0), .v (.bool false), .v (.int .i64 0), .v (.int .i64 0), .v (.int .i64 0), .v (.int .i64 4294967296), .lst .full 2 [], .lst .full 1 [], .v (.int .i64 0), .lst .full 1 []]
theorem mkSsNew : evBuild Tryz.prog 46 [(4, .agg cutNew.row)] = some (.agg rowSsNew) := by kernel_rfl
def kpSsNew : Nat → Option (List Nat) := fun
 | 0 => some [0]
 | 1 => some [0]
 | _ => none
attribute [go_sem] kpSsNew
def tab_ssNew_ok : List (FuncId × (List AV → Mem → Option (AV × Mem))) := [(33, cutNewG)]
theorem ssNew_ok : FunOk Tryz.prog 24 ssNewG := by
 have hC := table_ok (P := Tryz.prog) (l := tab_ssNew_ok) (table_more cutNew_ok table_nil)
 have t1 := fun args mm => table_at (l := tab_ssNew_ok) (f := 33) (args := args) (m := mm) rfl
 refine fun_ok mixed hC Tryz.func24 rfl kpSsNew false rfl fun args m r h => ?_
 unfold ssNewG at h
 split at h
 ·simp only [Option.some.injEq] at h
  subst h
  refine ⟨Nat.le_of_ble_eq_true rfl, ?_⟩
  refine en ?_
  have v0 : (m.push zeroSs).var m.vars.length = some zeroSs := push_var
  have nz := znSs (m := m)
  have hA := above_push (cs := zeroSs) (above_self m)
  refine go1 (jn @nz (jn @zrSs @zoSs)) ?_
  generalize m.push zeroSs = m2 at v0 hA
  generalize hr0 : m.vars.length = r0 at v0 ⊢
  have st1 : evStore Tryz.prog m2 46 (.ptr r0 0) (.agg rowSsNew) = some (setv m2 r0 rowSsNew) := store_part v0 szSs rfl rfl (Nat.le_refl _) rfl rfl
  have c1 := ssCut_eq
  refine go1 (jn @t1 (jn @c1 (jn @mkSsNew @st1))) ?_
  have hl : evLoad Tryz.prog (setv m2 r0 rowSsNew) 46 (.ptr r0 0) = some (.agg rowSsNew) := load_sub (off := 0) (setv_var v0) szSs agSs (Nat.le_refl _) rfl
  have hm := above_fin (above_setv (q := r0) (cs := rowSsNew) hA (Nat.le_of_eq hr0))
  exact leaves_cell1 rfl hl rfl hm
 ·cases h
end
noncomputable section
attribute [local irreducible] Next Inside Runs Ops table
attribute [local irreducible] XRuns XOps XLin XAny
attribute [local go_sem] szStr szInt Option.getD_some isNil evMinMax evFoldI iv mapPn mapSs mapIn mapCt cellsPn cellsSs cellsIn fpTnP fpTnS fpTnX fpTnStep fpTnPhase fpTnEvents fpTnSStep fpTnSStatus fpSsStep fpPnFrozen cellsTn szOu zrOu zoOu fpOuEvents fpOuStatus List.cons_append rowsBs_len rowsBo_len ldBs
/-! ### in which phase -/
theorem span_at {p : Pn} (h : spansOkB p = true) {step : Int} (h0 : 0 ≤ step) : ∀ n, n ≤ p.spans.length → step < prevTo p.spans n → ∃ j, j < n ∧ spanHas step (p.spans.getD j sp0) = true
 | 0, _, h1 => by unfold prevTo at h1; rw [if_pos rfl] at h1; omega
 | n + 1, hn, h1 => by
  by_cases h2 : step < prevTo p.spans n
  ·obtain ⟨j, hj, hs⟩ := span_at h h0 n (by omega) h2
   exact ⟨j, by omega, hs⟩
  ·refine ⟨n, Nat.lt_succ_self n, ?_⟩
   unfold spansOkB at h
   simp only [Bool.and_eq_true] at h
   have h3 := List.all_eq_true.1 h.1.1 n (List.mem_range.2 (by omega))
   unfold spAt at h3
   simp only [Bool.and_eq_true, beq_iff_eq, decide_eq_true_eq] at h3
   unfold prevTo at h1
   rw [if_neg (by omega), Nat.add_sub_cancel] at h1
   unfold spanHas
   simp only [Bool.and_eq_true, decide_eq_true_eq]
   omega
theorem phase_in {p : Pn} (h : planOkB p = true) {step : Int} (h0 : 0 ≤ step) (h1 : step < p.steps) : 0 ≤ phaseV p step ∧ phaseV p step < (p.spans.length : Int) := by
 obtain ⟨_, _, _, _, _, hs, _⟩ := planOk_parts h
 have he : prevTo p.spans p.spans.length = p.steps := by
  unfold spansOkB at hs
  simp only [Bool.and_eq_true, beq_iff_eq] at hs
  exact hs.1.2
 obtain ⟨j, hj, hh⟩ := span_at hs h0 p.spans.length (Nat.le_refl _) (by rw [he]; exact h1)
 have ha : p.spans.any (spanHas step) = true := List.any_eq_true.2 ⟨_, getD_in hj, hh⟩
 rw [← firstBy_any (spanHas step) p.spans 0] at ha
 have := firstBy_lt (p := spanHas step) p.spans 0
 exact ⟨of_decide_eq_true ha, by unfold phaseV; omega⟩
/-! ### what may be -/
def pnIn (p : Pn) : Prop := p.fit ∧ inI p.plateau.Delta ∧ inI p.plateau.Factor ∧ inI p.stop.Delta ∧ inI p.plateau.Cooldown
def ssIn (s : Ss) : Prop := kpDom s.kept ∧ (inI s.cut.watch.best ∧ inI s.cut.rest ∧ inI s.cut.scale) ∧ inI s.stop.best ∧ (s.ema.length ≤ 1000000 ∧ ∀ y ∈ s.ema, inI y) ∧ s.swa.sums.length ≤ 1000000
def inIn (x : In) : Prop := (x.readings.length ≤ 1000000 ∧ x.weights.length ≤ 1000000) ∧ (∀ y ∈ x.readings, inI y.val) ∧ ∀ y ∈ x.weights, inI y
def turnAt (p : Pn) (s : Ss) (x : In) : Tn := ⟨p, s, x, s.step, phaseV p s.step, []⟩
def Tn.inc (T : Tn) : Tn := { T with s := { T.s with step := IntKind.i64.wrap (T.s.step + 1) } }
def outAt (p : Pn) (s : Ss) (evs : List Evt) (st : Int) : Ou := ⟨s.step, phaseV p s.step, valsV p s (phaseV p s.step).toNat, p.frozen.getD (phaseV p s.step).toNat [], evs, st⟩
def stepV (p : Pn) (s : Ss) (x : In) : Ss × Ou × Int :=
 if rdOkB p x = false then (ss0, ou0, 1) else if goesV p s ≠ 0 then (ss0, ou0, goesV p s) else
 (((turnAt p s x).run.inc).s, outAt p s (turnAt p s x).run.events (turnAt p s x).run.s.status, 0)
theorem goes_good {p : Pn} {s : Ss} (h : goesV p s = 0) : stateOkB p s = true ∧ s.status = 0 := by
 unfold goesV at h
 split at h
 ·rename_i h1
  split at h
  ·cases h
  ·rename_i h2
   exact ⟨h1, by simpa using h2⟩
 ·cases h
theorem good_dom {p : Pn} {s : Ss} {x : In} (hp : pnIn p) (hs : ssIn s) (hx : inIn x) (h1 : rdOkB p x = true) (h2 : goesV p s = 0) : valsDom p s (phaseV p s.step) ∧ runDom (turnAt p s x) := by
 obtain ⟨hok, hst⟩ := goes_good h2
 unfold stateOkB at hok
 simp only [Bool.and_eq_true] at hok
 obtain ⟨hpl, hstat, hstop, hcut, hkept, havg⟩ := hok
 have hparts := planOk_parts hpl
 obtain ⟨⟨s1, s2⟩, ⟨w1, w2⟩, ⟨m1, m2⟩, ⟨g1, g2⟩, _, hspan, hfroz, _⟩ := hparts
 unfold statusB at hstat
 rw [if_pos hst] at hstat
 simp only [Bool.and_eq_true, inB_iff] at hstat
 have wr : IntKind.i64.wrap (p.steps - 1) = p.steps - 1 := wrap_i64 (by omega) (by omega)
 rw [wr] at hstat
 have hstep : 0 ≤ s.step ∧ s.step < p.steps := by omega
 obtain ⟨f1, f2⟩ := phase_in hpl hstep.1 hstep.2
 unfold frozenOkB at hfroz
 simp only [Bool.and_eq_true, beq_iff_eq] at hfroz
 have hfl : p.frozen.length = p.spans.length := by have := hfroz.2; omega
 have hsp : p.spans.length ≤ 16 := by
  unfold spansOkB at hspan
  simp only [Bool.and_eq_true, decide_eq_true_eq] at hspan
  omega
 unfold rdOkB at h1
 simp only [Bool.and_eq_true, beq_iff_eq] at h1
 obtain ⟨⟨⟨_, r1⟩, r2⟩, _⟩ := h1
 refine ⟨⟨hp.1, hpl, hstep, f1, by rw [hfl]; exact f2⟩, ⟨⟨f1, f2, hfl, hsp⟩, fun i hi => ?_, g2, Nat.zero_le _⟩, ⟨hs.2.2.2.2, hx.1.2⟩, ⟨hs.2.2.2.1.1, hx.1.2, hs.2.2.2.1.2, hx.2.2⟩, by show x.readings.length ≤ 1000; omega, hs.1, ⟨hs.2.1.1, hp.2.1, hs.2.1.2.1, hs.2.1.2.2, hp.2.2.1⟩, ⟨hs.2.2.1, hp.2.2.2.1⟩, hx.2.1⟩
 have := List.all_eq_true.1 hfroz.1 i (List.mem_range.2 hi)
 unfold frAt at this
 exact eq_of_beq this
/-! ### the walk -/
theorem mkTn {p : Pn} {s : Ss} {x : In} {a b : Int} : evBuild Tryz.prog 137 [(0, .agg p.row), (1, .agg s.row), (2, .agg x.row), (3, .v (.int .i64 a)), (4, .v (.int .i64 b))] = some (.agg ((Tn.mk p s x a b []).rowG .full)) := by kernel_rfl
attribute [local go_sem] mkTn
theorem mkOu4 {a b : Int} {l : List Int} {f : List Bool} : evBuild Tryz.prog 65 [(0, .v (.int .i64 a)), (1, .v (.int .i64 b)), (2, .lst .no 1 (rowsI l)), (3, .lst .no 1 (rowsBo f))] = some (.agg ((Ou.mk a b l f [] 0).rowG .full)) := by kernel_rfl
attribute [local go_sem] mkOu4
theorem cellsOuG {O : Ou} {g : Grow} : cellsOf (.agg (O.rowG g)) = some (O.rowG g) := rfl
attribute [local go_sem] cellsOuG
theorem zSs : cellsOf (.agg zeroSs) = some zeroSs := rfl
attribute [local go_sem] zSs
theorem zOu : cellsOf (.agg zeroOu) = some zeroOu := rfl
attribute [local go_sem] zOu
theorem TAt.aboveT {m m8 mE : Mem} {r : Nat} {T0 T : Tn} {g : Grow} (hA : Above m m8) (hr : m.vars.length ≤ r) (h : TAt m8 r T0 .full T g mE) : AboveT m mE := by
 obtain ⟨L, rfl⟩ := hA
 obtain ⟨L2, e⟩ := h.ab
 subst e
 have hg : ∀ n, ∃ T, (growN n .full m.toks).2 = m.toks ++ T := fun n => by
  cases n with
  | zero => exact ⟨[], (List.append_nil _).symm⟩
  | succ k => exact ⟨[k], rfl⟩
 obtain ⟨T', hT'⟩ := hg (T.events.length - T0.events.length)
 refine ⟨L.set (r - m.vars.length) (some (T.rowG (growN (T.events.length - T0.events.length) .full m.toks).1)) ++ L2, T', ?_⟩
 unfold putT
 simp only [hT', List.set_append_right _ _ hr, List.append_assoc]
open Classical in
def stepG : List AV → Mem → Option (AV × Mem)
 | [.agg ps, .agg ss, .agg xs], m =>
  match unPn ps, unSs ss, unIn xs with
  | some p, some s, some x => if pnIn p ∧ ssIn s ∧ inIn x then some (.tup [.agg (stepV p s x).1.row, .agg (stepV p s x).2.1.row, .v (.int .i64 (stepV p s x).2.2)], m) else none
  | _, _, _ => none
 | _, _ => none
theorem step_eq {p : Pn} {s : Ss} {x : In} (h : pnIn p ∧ ssIn s ∧ inIn x) (m : Mem) : stepG [.agg p.row, .agg s.row, .agg x.row] m = some (.tup [.agg (stepV p s x).1.row, .agg (stepV p s x).2.1.row, .v (.int .i64 (stepV p s x).2.2)], m) := by
 simp only [stepG, unPn_row, unSs_row, unIn_row]
 exact if_pos h
def kpStep : Nat → Option (List Nat) := fun
 | 0 => some [3, 4, 5, 6, 7]
 | 1 => some [3, 4, 5, 6, 7, 15]
 | 2 => some [6, 7, 8]
 | 3 => some [3, 4, 5, 6, 7, 9]
 | 4 => some [3, 4, 5, 6, 7, 9, 22]
 | 5 => some [6, 7, 8]
 | 6 => some [3, 4, 6, 7, 10]
 | 7 => some [6, 7, 10, 11]
 | 8 => some [6, 7, 10, 11]
 | 9 => some [6, 7, 10, 11]
 | 10 => some [6, 7, 10, 11]
 | 11 => some [6, 7, 8]
 | _ => none
attribute [go_sem] kpStep
def tabStep : List (FuncId × (List AV → Mem → Option (AV × Mem))) := [(65, rdCheckG), (66, goesG), (67, phaseG), (68, valsG), (69, clone0G 1), (70, runG)]
theorem step_ok : FunOk Tryz.prog 47 stepG := by
 have hC := table_ok (P := Tryz.prog) (l := tabStep) (table_more rdCheck_ok (table_more goes_ok (table_more phase_ok (table_more vals_ok (table_more cloneB_ok (table_more run_ok' table_nil))))))
 have t1 := fun args mm => table_at (l := tabStep) (f := 65) (args := args) (m := mm) rfl
 have t2 := fun args mm => table_at (l := tabStep) (f := 66) (args := args) (m := mm) rfl
 have t3 := fun args mm => table_at (l := tabStep) (f := 67) (args := args) (m := mm) rfl
 have t4 := fun args mm => table_at (l := tabStep) (f := 68) (args := args) (m := mm) rfl
 have t5 := fun args mm => table_at (l := tabStep) (f := 69) (args := args) (m := mm) rfl
 have t6 := fun args mm => table_at (l := tabStep) (f := 70) (args := args) (m := mm) rfl
 refine fun_okX Tryz.func47 rfl false rfl fun args m r h => ?_
 unfold stepG at h
 split at h
 ·rename_i ps ss xs
  split at h
  ·rename_i p s x hp0 hs0 hx0
   obtain rfl := unPn_some hp0
   obtain rfl := unSs_some hs0
   obtain rfl := unIn_some hx0
   split at h
   ·rename_i hd
    obtain ⟨hp, hs, hx⟩ := hd
    simp only [Option.some.injEq] at h
    subst h
    refine ⟨Nat.le_of_ble_eq_true rfl, fun φ wd => ?_⟩
    refine en ?_
    have v3 : (((((m.push p.row).push s.row).push x.row).push zeroSs).push zeroOu).var m.vars.length = some p.row := push_old (push_old (push_old (push_old push_var)))
    have v4 : (((((m.push p.row).push s.row).push x.row).push zeroSs).push zeroOu).var (m.push p.row).vars.length = some s.row := push_old (push_old (push_old push_var))
    have v5 : (((((m.push p.row).push s.row).push x.row).push zeroSs).push zeroOu).var ((m.push p.row).push s.row).vars.length = some x.row := push_old (push_old push_var)
    have v6 : (((((m.push p.row).push s.row).push x.row).push zeroSs).push zeroOu).var (((m.push p.row).push s.row).push x.row).vars.length = some zeroSs := push_old push_var
    have v7 : (((((m.push p.row).push s.row).push x.row).push zeroSs).push zeroOu).var ((((m.push p.row).push s.row).push x.row).push zeroSs).vars.length = some zeroOu := push_var
    have n1 := newPn (m := m) (x := p)
    have n2 := newSs (m := m.push p.row) (x := s)
    have n3 := newIn (m := (m.push p.row).push s.row) (x := x)
    have n4 := znSs (m := ((m.push p.row).push s.row).push x.row)
    have n5 := znOu (m := (((m.push p.row).push s.row).push x.row).push zeroSs)
    have hA := above_push (cs := zeroOu) (above_push (cs := zeroSs) (above_push (cs := x.row) (above_push (cs := s.row) (above_push (cs := p.row) (above_self m)))))
    have hg6 : m.vars.length ≤ (((m.push p.row).push s.row).push x.row).vars.length := by rw [push_len, push_len, push_len]; omega
    have hg7 : m.vars.length ≤ ((((m.push p.row).push s.row).push x.row).push zeroSs).vars.length := by rw [push_len, push_len, push_len, push_len]; omega
    have hne : (((m.push p.row).push s.row).push x.row).vars.length ≠ ((((m.push p.row).push s.row).push x.row).push zeroSs).vars.length := by rw [push_len (m := ((m.push p.row).push s.row).push x.row)]; omega
    refine xq ?_
    refine x_region (kp := kpStep) mixed hC ?_
    refine go1 (jn @n1 (jn @n2 (jn @n3 (jn @n4 (jn @n5 (jn @zrSs @zoSs)))))) ?_
    refine xq ?_
    generalize ((((m.push p.row).push s.row).push x.row).push zeroSs).push zeroOu = m2 at v3 v4 v5 v6 v7 hA
    generalize ((((m.push p.row).push s.row).push x.row).push zeroSs).vars.length = r7 at v7 hg7 hne
    generalize (((m.push p.row).push s.row).push x.row).vars.length = r6 at v6 hg6 hne
    generalize ((m.push p.row).push s.row).vars.length = r5 at v5
    generalize (m.push p.row).vars.length = r4 at v4
    generalize m.vars.length = r3 at v3
    have st6 : evStore Tryz.prog m2 46 (.ptr r6 0) (.agg zeroSs) = some (setv m2 r6 zeroSs) := store_part v6 szSs rfl rfl (Nat.le_refl _) rfl rfl
    have v67 : (setv m2 r6 zeroSs).var r7 = some zeroOu := setv_other v7 (fun h => hne h.symm)
    have st7 : evStore Tryz.prog (setv m2 r6 zeroSs) 65 (.ptr r7 0) (.agg zeroOu) = some (setv (setv m2 r6 zeroSs) r7 zeroOu) := store_part v67 szOu rfl rfl (Nat.le_refl _) rfl rfl
    have fin0 : ∀ (e : Env) (b : Int), Ev.get e 6 = .ptr r6 0 → Ev.get e 7 = .ptr r7 0 → Ev.get e 8 = .v (.int .i64 b) → Leaves Tryz.prog false Tryz.f47 m (.tup [.agg ss0.row, .agg ou0.row, .v (.int .i64 b)], m) .ret e (setv (setv m2 r6 zeroSs) r7 zeroOu) := fun e b h1 h2 h3 =>
     leaves_cct rfl (by rw [h1]; exact load_sub (off := 0) (setv_other (setv_var v6) hne) szSs agSs (Nat.le_refl _) rfl) rfl (by rw [h2]; exact load_sub (off := 0) (setv_var v67) szOu agOu (Nat.le_refl _) rfl) rfl (by rw [h3]; rfl) (above_fin (above_setv (above_setv hA hg6) hg7))
    have l1 := vrPn v3
    have l2 := vrIn v5
    have l3 := vrSs v4
    have c1 := rdCheck_eq (p := p) (x := x) ⟨hp.1, hx.1⟩
    have z0 : ((0 : Int) != 0) = false := rfl
    have z1 : ((1 : Int) != 0) = true := rfl
    unfold stepV
    cases h1 : rdOkB p x with
    | false =>
     rw [h1, if_neg (by decide)] at c1
     rw [if_pos rfl]
     refine x_region (kp := kpStep) mixed hC ?_
     refine go1 (jn @l1 (jn @l2 (jn @t1 (jn @c1 @z1)))) ?_
     refine xq ?_
     refine x_cond rfl (fun hc => ?_) (fun hc => by cases hc)
     refine xq ?_
     refine x_region (kp := kpStep) mixed hC ?_
     refine go1 (jn @mk0Ss (jn @mk0Ou (jn @st6 @st7))) ?_
     refine xq ?_
     exact x_leaves (fin0 _ _ rfl rfl rfl)
    | true =>
     rw [h1, if_pos rfl] at c1
     rw [if_neg (by decide)]
     refine x_region (kp := kpStep) mixed hC ?_
     refine go1 (jn @l1 (jn @l2 (jn @t1 (jn @c1 @z0)))) ?_
     refine xq ?_
     refine x_cond rfl (fun hc => by cases hc) (fun hc => ?_)
     have c2 := goes_eq (p := p) (s := s) ⟨hp.1, hs.1⟩
     have hgd : goesV p s = 0 → valsDom p s (phaseV p s.step) ∧ runDom (turnAt p s x) := good_dom hp hs hx h1
     generalize goesV p s = gv at c2 hgd
     refine xq ?_
     refine x_region (kp := kpStep) mixed hC ?_
     refine go1 (jn @l1 (jn @l3 (jn @t2 @c2))) ?_
     refine xq ?_
     refine x_region (kp := kpStep) mixed hC ?_
     refine go0 ?_
     refine xq ?_
     refine x_cond rfl (fun hc => ?_) (fun hc => ?_)
     ·rw [if_pos (by simpa using hc)]
      refine xq ?_
      refine x_region (kp := kpStep) mixed hC ?_
      refine go1 (jn @mk0Ss (jn @mk0Ou (jn @st6 @st7))) ?_
      refine xq ?_
      exact x_leaves (fin0 _ _ rfl rfl rfl)
     ·have hgz : gv = 0 := by simpa using hc
      rw [if_neg (by omega)]
      obtain ⟨hvd, hrd⟩ := hgd hgz
      obtain ⟨hfit, hpl, ⟨hs0', hs1'⟩, hf0, hf1⟩ := hvd
      have l4 := lpSsStep v4
      have c3 := phase_eq (p := p) (by have := hp.1.1; unfold big40; omega) s.step
      have c4 := vals_eq (p := p) (s := s) (ph := phaseV p s.step) ⟨hfit, hpl, ⟨hs0', hs1'⟩, hf0, hf1⟩
      have hTd : turnAt p s x = Tn.mk p s x s.step (phaseV p s.step) [] := rfl
      obtain ⟨q, hq⟩ := Int.eq_ofNat_of_zero_le hf0
      have hO : ∀ evs st, outAt p s evs st = Ou.mk s.step (q : Int) (valsV p s q) (p.frozen.getD q []) evs st := fun evs st => by unfold outAt; rw [hq]; rfl
      rw [hq] at c3 c4 hTd hf1
      rw [Int.toNat_natCast] at c4
      have nT := newTn (m := m2) (x := Tn.mk p s x s.step (q : Int) []) (g := .full)
      rw [hO]
      have hfl := hf1
      have f1 := atBs (g := .no) (kk := .i64) (l := p.frozen) (i := q) (by omega)
      have hbl : (p.frozen.getD q []).length ≤ 8 := by
       obtain ⟨_, q1, q2, _⟩ := hrd.1
       have := q1 q (by show q < p.frozen.length; omega)
       have q2' : p.groups ≤ 8 := q2
       have this' : ((p.frozen.getD q []).length : Int) = p.groups := this
       omega
      have c5 := clone0_eq (k := 1) (g := .no) (rows := rowsBo (p.frozen.getD q [])) (by rw [rowsBo_len]; unfold lim; omega)
      generalize p.frozen.getD q [] = fr at f1 c5
      generalize valsV p s q = vals at c4
      refine xq ?_
      refine x_lift (kp := kpStep) mixed hC (runs_ops_drawn_kept (by kernel_rfl) ?_)
      refine go1 (jn @l1 (jn @l3 (jn @l2 (jn @l4 (jn @t3 (jn @c3 @nT)))))) ?_
      refine xq ?_
      have v10 : (m2.push ((Tn.mk p s x s.step (q : Int) []).rowG .full)).var m2.vars.length = some ((Tn.mk p s x s.step (q : Int) []).rowG .full) := push_var
      have u3 := push_old (cs' := (Tn.mk p s x s.step (q : Int) []).rowG .full) v3
      have u4 := push_old (cs' := (Tn.mk p s x s.step (q : Int) []).rowG .full) v4
      have u6 := push_old (cs' := (Tn.mk p s x s.step (q : Int) []).rowG .full) v6
      have u7 := push_old (cs' := (Tn.mk p s x s.step (q : Int) []).rowG .full) v7
      have hA10 := above_push (cs := (Tn.mk p s x s.step (q : Int) []).rowG .full) hA
      have hr10 : m.vars.length ≤ m2.vars.length := above_len hA
      have hn6 : r6 ≠ m2.vars.length := by have := (var_lt v6).1; omega
      have hn7 : r7 ≠ m2.vars.length := by have := (var_lt v7).1; omega
      rw [← hTd] at v10 u3 u4 u6 u7 hA10 ⊢
      have eT : (turnAt p s x).phase = (q : Int) := by rw [hTd]
      generalize turnAt p s x = T0 at v10 u3 u4 u6 u7 hA10 eT hrd ⊢
      generalize m2.push (T0.rowG .full) = m10 at v10 u3 u4 u6 u7 hA10 ⊢
      generalize m2.vars.length = r10 at v10 hr10 hn6 hn7 ⊢
      have k4 := lpSsStep u4
      have k5 := lpTnPhase v10
      rw [eT] at k5
      have k6 := vrPn u3
      have k7 := vrSs u4
      have k8 := lpPnFrozen u3
      have hT10 := TAt.start v10 (trivial : okG .full m10.toks)
      refine x_walk0 (l2 := kpStep 7) mixed hC (by kernel_rfl) ?_
      refine gof1 (jn @k4 (jn @k5 (jn @k6 (jn @k7 (jn @k8 (jn @f1 (jn @t4 (jn @c4 (jn @t5 @c5))))))))) ?_
      refine xq ?_
      have hT11 := hT10.push (cs := (Ou.mk s.step (q : Int) vals fr [] 0).rowG .full)
      have v11 : (m10.push ((Ou.mk s.step (q : Int) vals fr [] 0).rowG .full)).var m10.vars.length = some ((Ou.mk s.step (q : Int) vals fr [] 0).rowG .full) := push_var
      have y6 := push_old (cs' := (Ou.mk s.step (q : Int) vals fr [] 0).rowG .full) u6
      have y7 := push_old (cs' := (Ou.mk s.step (q : Int) vals fr [] 0).rowG .full) u7
      have hn10 : m10.vars.length ≠ r10 := by have := (var_lt v10).1; omega
      have hn11 : m10.vars.length ≠ r6 := by have := (var_lt u6).1; omega
      have hn12 : m10.vars.length ≠ r7 := by have := (var_lt u7).1; omega
      have hge11 : m10.vars.length ≤ m10.vars.length := Nat.le_refl _
      generalize m10.push ((Ou.mk s.step (q : Int) vals fr [] 0).rowG .full) = m11 at hT11 v11 y6 y7 ⊢
      generalize hr11 : m10.vars.length = r11 at v11 hn10 hn11 hn12 ⊢
      have cR := run_eq hT11 hrd
      have hT12 := hT11.app (f := Tn.run) (run_ev T0)
      refine x_region (kp := kpStep) mixed hC ?_
      refine go1 (jn @t6 @cR) ?_
      refine xq ?_
      have w11 : (putT m11 r10 T0.run (T0.run.events.length - T0.events.length) .full).var r11 = some ((Ou.mk s.step (q : Int) vals fr [] 0).rowG .full) := by rw [putT_other hn10]; exact v11
      have w6 : (putT m11 r10 T0.run (T0.run.events.length - T0.events.length) .full).var r6 = some zeroSs := by rw [putT_other hn6]; exact y6
      have w7 : (putT m11 r10 T0.run (T0.run.events.length - T0.events.length) .full).var r7 = some zeroOu := by rw [putT_other hn7]; exact y7
      generalize putT m11 r10 T0.run (T0.run.events.length - T0.events.length) .full = m12 at hT12 w11 w6 w7 ⊢
      generalize (growN (T0.run.events.length - T0.events.length) .full m11.toks).1 = g12 at hT12
      generalize T0.run = TR at hT12 ⊢
      have k9 := lpTnSStep hT12.hv
      have st9 : evStore Tryz.prog m12 3 (.ptr r10 33) (.v (.int .i64 (IntKind.i64.wrap (TR.s.step + 1)))) = some (setv m12 r10 (TR.inc.rowG g12)) := store_part hT12.hv szInt rfl rfl (Nat.le_of_ble_eq_true rfl) rfl rfl
      have hT13 := hT12.set (T2 := TR.inc) rfl
      have x11 : (setv m12 r10 (TR.inc.rowG g12)).var r11 = some ((Ou.mk s.step (q : Int) vals fr [] 0).rowG .full) := setv_other w11 hn10
      have x6 : (setv m12 r10 (TR.inc.rowG g12)).var r6 = some zeroSs := setv_other w6 hn6
      have x7 : (setv m12 r10 (TR.inc.rowG g12)).var r7 = some zeroOu := setv_other w7 hn7
      refine x_region (kp := kpStep) mixed hC ?_
      refine go1 (jn @k9 @st9) ?_
      refine xq ?_
      generalize setv m12 r10 (TR.inc.rowG g12) = m13 at hT13 x11 x6 x7 ⊢
      have ka : evLoad Tryz.prog m13 63 (.ptr r10 52) = some (.lst g12 3 (rowsEvt TR.events)) := lpTnEvents (x := TR.inc) hT13.hv
      have kb : evLoad Tryz.prog m13 3 (.ptr r10 34) = some (.v (.int .i64 TR.s.status)) := lpTnSStatus (x := TR.inc) hT13.hv
      have sa : evStore Tryz.prog m13 63 (.ptr r11 4) (.lst g12 3 (rowsEvt TR.events)) = some (setv m13 r11 ((Ou.mk s.step (q : Int) vals fr TR.events 0).rowG g12)) := store_part x11 szEvts rfl rfl (Nat.le_of_ble_eq_true rfl) rfl rfl
      have xa : (setv m13 r11 ((Ou.mk s.step (q : Int) vals fr TR.events 0).rowG g12)).var r11 = some ((Ou.mk s.step (q : Int) vals fr TR.events 0).rowG g12) := setv_var x11
      have sb : evStore Tryz.prog (setv m13 r11 ((Ou.mk s.step (q : Int) vals fr TR.events 0).rowG g12)) 3 (.ptr r11 5) (.v (.int .i64 TR.s.status)) = some (setv (setv m13 r11 ((Ou.mk s.step (q : Int) vals fr TR.events 0).rowG g12)) r11 ((Ou.mk s.step (q : Int) vals fr TR.events TR.s.status).rowG g12)) := store_part xa szInt rfl rfl (Nat.le_of_ble_eq_true rfl) rfl rfl
      have hT14 := (hT13.other (cs' := (Ou.mk s.step (q : Int) vals fr TR.events 0).rowG g12) (Nat.le_of_eq hr11) x11).other (cs' := (Ou.mk s.step (q : Int) vals fr TR.events TR.s.status).rowG g12) (Nat.le_of_eq hr11) xa
      have xb := setv_var (cs := (Ou.mk s.step (q : Int) vals fr TR.events TR.s.status).rowG g12) xa
      have z6 := setv_other (cs := (Ou.mk s.step (q : Int) vals fr TR.events TR.s.status).rowG g12) (setv_other (cs := (Ou.mk s.step (q : Int) vals fr TR.events 0).rowG g12) x6 (fun h => hn11 h.symm)) (fun h => hn11 h.symm)
      have z7 := setv_other (cs := (Ou.mk s.step (q : Int) vals fr TR.events TR.s.status).rowG g12) (setv_other (cs := (Ou.mk s.step (q : Int) vals fr TR.events 0).rowG g12) x7 (fun h => hn12 h.symm)) (fun h => hn12 h.symm)
      refine x_walk0 (l2 := kpStep 10) mixed hC (by kernel_rfl) ?_
      refine gof1 (jn @ka (jn @kb (jn @sa @sb))) ?_
      refine xq ?_
      rw [show (m13.putv r11 ((Ou.mk s.step (q : Int) vals fr TR.events 0).rowG g12)).putv r11 ((Ou.mk s.step (q : Int) vals fr TR.events TR.s.status).rowG g12) = setv (setv m13 r11 ((Ou.mk s.step (q : Int) vals fr TR.events 0).rowG g12)) r11 ((Ou.mk s.step (q : Int) vals fr TR.events TR.s.status).rowG g12) from rfl]
      generalize setv (setv m13 r11 ((Ou.mk s.step (q : Int) vals fr TR.events 0).rowG g12)) r11 ((Ou.mk s.step (q : Int) vals fr TR.events TR.s.status).rowG g12) = m14 at hT14 xb z6 z7 ⊢
      have kc : evLoad Tryz.prog m14 46 (.ptr r10 33) = some (.agg TR.inc.s.row) := lpTnS (x := TR.inc) hT14.hv
      have kd := vrOu xb
      have sc : evStore Tryz.prog m14 46 (.ptr r6 0) (.agg TR.inc.s.row) = some (setv m14 r6 TR.inc.s.row) := store_part z6 szSs rfl rfl (Nat.le_refl _) rfl rfl
      have z67 : (setv m14 r6 TR.inc.s.row).var r7 = some zeroOu := setv_other z7 (fun h => hne h.symm)
      have sd : evStore Tryz.prog (setv m14 r6 TR.inc.s.row) 65 (.ptr r7 0) (.agg ((Ou.mk s.step (q : Int) vals fr TR.events TR.s.status).rowG g12)) = some (setv (setv m14 r6 TR.inc.s.row) r7 ((Ou.mk s.step (q : Int) vals fr TR.events TR.s.status).rowG g12)) := store_part z67 szOu rfl rfl (Nat.le_refl _) rfl rfl
      have hab := TAt.aboveT hA10 hr10 hT14
      refine x_walk0 (l2 := kpStep 11) mixed hC (by kernel_rfl) ?_
      refine gof1 (jn @kc (jn @kd (jn @sc @sd))) ?_
      refine xq ?_
      exact x_leaves (leaves_cct rfl (vrSs (setv_other (setv_var z6) hne)) rfl (vrOu (setv_var z67)) rfl rfl (aboveT_fin (aboveT_setv (aboveT_setv hab hg6) hg7)))
   ·cases h
  ·cases h
 ·cases h
end
noncomputable section
attribute [local irreducible] Next Inside Runs Ops table
attribute [local irreducible] XRuns XOps XLin XAny
attribute [local go_sem] szStr szInt Option.getD_some isNil evMinMax evFoldI iv mapPn mapSs mapIn cellsPn cellsSs cellsIn fpRnIs fpRnP fpRnS List.cons_append zrOu zoOu zrSs zoSs szSs szOu mapOu
theorem ret_two {P : Program} {fn : Func} {m m1 m2 : Mem} {e : Env} {t u : Tmp} {x y : AV} (h : fn.results = #[.tmp t, .tmp u]) (hx : resAV m.vars.length m1 (Ev.get e t) = some x) (hy : resAV m.vars.length m1 (Ev.get e u) = some y) (hm : finMem m m1 = m2) : evRet P false fn m e m1 = some (.tup [x, y], m2) := by
 unfold evRet
 rw [h]
 simp [evResult, hx, hy, hm]
/-! ### Restore -/
theorem mkRn {b : Bool} {p : Pn} {s : Ss} : evBuild Tryz.prog 106 [(0, .v (.bool b)), (1, .agg p.row), (2, .agg s.row)] = some (.agg (Rn.mk b p s).row) := by kernel_rfl
attribute [local go_sem] mkRn
def restPre (args : List AV) (_ : Mem) : Prop := ∃ p s, args = [.agg (Pn.row p), .agg (Ss.row s)] ∧ stDom p s
def restPost (args : List AV) (m : Mem) (r : AV) (m' : Mem) (F : Objs) : Prop := ∀ p s, args = [.agg (Pn.row p), .agg (Ss.row s)] → m' = m ∧
 ((stateOkB p s = true ∧ ∃ b, r = .tup [.v (rawPtr b 0), .v (.int .i64 0)] ∧ F = [(b, XOb.arr (Rn.mk true p s).row)]) ∨ (stateOkB p s = false ∧ r = .tup [.v (.pointer none), .v (.int .i64 1)] ∧ F = []))
theorem pn_inj {p p' : Pn} (h : p.row = p'.row) : p = p' := by have := unPn_row p; rw [h, unPn_row] at this; exact (Option.some.inj this).symm
theorem ss_inj {p p' : Ss} (h : p.row = p'.row) : p = p' := by have := unSs_row p; rw [h, unSs_row] at this; exact (Option.some.inj this).symm
def kpRest : Nat → Option (List Nat) := fun
 | 0 => some [2, 3]
 | 1 => some [2, 3, 6]
 | 2 => some [2, 3, 6, 11]
 | 3 => some [4, 5]
 | 4 => some [4, 5]
 | _ => none
attribute [go_sem] kpRest
theorem rest_ok : FunOkF Tryz.prog 31 restPre restPost := by
 have hC := table_ok (P := Tryz.prog) (l := [(45, stateOkG)]) (table_more stateOk_ok table_nil)
 have t1 := fun args mm => table_at (l := [(45, stateOkG)]) (f := 45) (args := args) (m := mm) rfl
 refine fun_okF Tryz.func31 rfl rfl fun args m h => ?_
 obtain ⟨p, s, rfl, hd⟩ := h
 have out : ∀ {r : AV} {m' : Mem} {F : Objs}, (m' = m ∧ ((stateOkB p s = true ∧ ∃ b, r = .tup [.v (rawPtr b 0), .v (.int .i64 0)] ∧ F = [(b, XOb.arr (Rn.mk true p s).row)]) ∨ (stateOkB p s = false ∧ r = .tup [.v (.pointer none), .v (.int .i64 1)] ∧ F = []))) → restPost [.agg p.row, .agg s.row] m r m' F := fun h p' s' e => by
  simp only [List.cons.injEq, AV.agg.injEq, and_true] at e
  obtain rfl := pn_inj e.1
  obtain rfl := ss_inj e.2
  exact h
 refine ⟨Nat.le_of_ble_eq_true rfl, fun φ wd => ?_⟩
 refine en ?_
 have v2 : ((m.push p.row).push s.row).var m.vars.length = some p.row := push_old push_var
 have v3 : ((m.push p.row).push s.row).var (m.push p.row).vars.length = some s.row := push_var
 have n1 := newPn (m := m) (x := p)
 have n2 := newSs (m := m.push p.row) (x := s)
 have hA := above_push (cs := s.row) (above_push (cs := p.row) (above_self m))
 refine xq ?_
 refine x_region (kp := kpRest) mixed hC ?_
 refine go1 (jn @n1 @n2) ?_
 refine xq ?_
 generalize (m.push p.row).push s.row = m2 at v2 v3 hA
 generalize (m.push p.row).vars.length = r3 at v3
 generalize m.vars.length = r2 at v2
 have l1 := vrPn v2
 have l2 := vrSs v3
 have c1 := stateOk_eq hd
 have z0 : ((0 : Int) != 0) = false := rfl
 have z1 : ((1 : Int) != 0) = true := rfl
 cases hs : stateOkB p s with
 | false =>
  rw [hs, if_neg (by decide)] at c1
  refine x_region (kp := kpRest) mixed hC ?_
  refine go1 (jn @l1 (jn @l2 (jn @t1 @c1))) ?_
  refine xq ?_
  refine x_region (kp := kpRest) mixed hC ?_
  refine go1 @z1 ?_
  refine xq ?_
  refine x_cond rfl (fun hc => ?_) (fun hc => by cases hc)
  refine xq ?_
  refine x_region (kp := kpRest) mixed hC ?_
  refine go0 ?_
  refine xq ?_
  exact ⟨_, _, ret_two rfl rfl rfl (above_fin hA), out ⟨rfl, .inr ⟨hs, rfl, rfl⟩⟩⟩
 | true =>
  rw [hs, if_pos rfl] at c1
  refine x_region (kp := kpRest) mixed hC ?_
  refine go1 (jn @l1 (jn @l2 (jn @t1 @c1))) ?_
  refine xq ?_
  refine x_region (kp := kpRest) mixed hC ?_
  refine go1 @z0 ?_
  refine xq ?_
  refine x_cond rfl (fun hc => by cases hc) (fun hc => ?_)
  refine xq ?_
  refine x_ops (l2 := kpRest 4) ?_
  refine gox1 hC (jn @l1 @l2) ?_
  refine xops_step (xs_boxRaw (t1 := 0) (av := .agg (Rn.mk true p s).row) rfl rfl (by decide) rfl rfl cellsRn rfl fun b hb => ?_)
  refine gox0 hC ?_
  refine xq ?_
  exact ⟨_, _, ret_two rfl rfl rfl (above_fin hA), out ⟨rfl, .inl ⟨hs, b, rfl, rfl⟩⟩⟩
/-! ### ok -/
def rokG : List AV → Mem → Option (AV × Mem)
 | [.ptr r 0], m =>
  match m.var r with
  | some (.v (.bool true) :: _) => some (.v (.bool true), m)
  | _ => none
 | _, _ => none
theorem rok_eq {m : Mem} {r : Nat} {p : Pn} {s : Ss} (h : m.var r = some (Rn.mk true p s).row) : rokG [.ptr r 0] m = some (.v (.bool true), m) := by
 unfold rokG
 simp only [h, Rn.row]
theorem lpIs {m : Mem} {r : Nat} {c : AV} {cs : List AV} (hv : m.var r = some (c :: cs)) : evLoad Tryz.prog m 4 (.ptr r 0) = some c := load_cell (k := 1) hv (by kernel_rfl) (by kernel_rfl) rfl
def kpRok : Nat → Option (List Nat) := fun
 | 0 => some [0]
 | 1 => some [2]
 | _ => none
attribute [go_sem] kpRok
theorem rok_ok : FunOk Tryz.prog 46 rokG := by
 have hC := table_ok (P := Tryz.prog) (l := []) table_nil
 refine fun_okX Tryz.func46 rfl false rfl fun args m r h => ?_
 unfold rokG at h
 split at h
 ·rename_i r0
  split at h
  ·rename_i cs hv
   simp only [Option.some.injEq] at h
   subst h
   refine ⟨Nat.le_of_ble_eq_true rfl, fun φ wd => ?_⟩
   refine en ?_
   have l1 := lpIs hv
   have hu : Tryz.prog.underlying 101 = some (.pointer 106) := by simp only [Tryz.underlying101]
   refine xq ?_
   refine x_region (kp := kpRok) mixed hC ?_
   refine go0 ?_
   refine xq ?_
   refine x_ops (l2 := kpRok 1) ?_
   refine gox0 hC ?_
   refine xops_step (xs_ptrNe (t1 := 0) rfl rfl (by decide) rfl hu rfl ?_)
   refine gox1 hC @l1 ?_
   refine xq ?_
   exact x_leaves (leaves_v rfl rfl)
  ·cases h
 ·cases h
end
end Go.Proofs.YtmockbddhhmmeaaGreat.Ev

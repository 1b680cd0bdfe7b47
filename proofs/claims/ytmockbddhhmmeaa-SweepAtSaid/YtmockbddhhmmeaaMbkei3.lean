/- The same numbers; few axes. -/
import Derived.Test.YtmockbddhhmmeaaMbkei2
import Derived.Test.YtmockbddhhmmeaaMa7
namespace Go.Proofs.Ytmockbddhhmmeaa.Ev
open Go Go.Proofs
set_option maxRecDepth 10000
set_option maxHeartbeats 8000000
set_option linter.unusedVariables false
set_option linter.unusedSimpArgs false
section
attribute [local irreducible] Next Inside Runs Ops table
attribute [local go_sem] szStr szInt Option.getD_some isNil evStr loadInt rowsI_len rowsAx_len mapAx cellsAx newAx ldAx fpAxVals feAxVals leAxVals
def kpSameJ : Nat → Option (List Nat) := fun _ => some [0, 1, 4, 5, 10, 14, 25]
attribute [go_sem] kpSameJ
def liteG : List AV → Mem → Option (AV × Mem)
 | [.lst _ 5 rows], m =>
  match unsAx rows with
  | some l => some (.v (.bool (decide (axOk l))), m)
  | none => none
 | _, _ => none
theorem liteG_eq {m : Mem} {g : Grow} {l : List Ax} : liteG [.lst g 5 (rowsAx l)] m = some (.v (.bool (decide (axOk l))), m) := by
 simp only [liteG, unsAx_rowsAx]
def kpLite : Nat → Option (List Nat) := fun
 | 0 => some [0]
 | 1 => some [0, 3]
 | 2 => some [0, 3, 11]
 | 3 => some [0, 3]
 | 4 => some [0, 3, 20]
 | 5 => some [2]
 | 6 => some [2]
 | _ => none
attribute [go_sem] kpLite
theorem lite_ok : FunOk Try.prog 6 liteG := by
 have hC := table_ok (P := Try.prog) (l := []) table_nil
 refine fun_ok mixed hC Try.func6 rfl kpLite false rfl fun args m r h => ?_
 unfold liteG at h
 split at h
 ·rename_i g rows
  split at h
  ·rename_i l hl0
   obtain rfl := unsAx_some hl0
   ·simp only [Option.some.injEq] at h
    subst h
    refine ⟨Nat.le_of_ble_eq_true rfl, ?_⟩
    refine en ?_
    refine go0 ?_
    refine runs_loop (fun k e m' => ∃ (i : Nat), i ≤ l.length ∧ i ≤ 13 ∧ (∀ j, j < i → (l.getD j ax0).vals.length ≤ 120) ∧ m = m' ∧ k = l.length - i ∧
     e = [(0, AV.lst g 5 (rowsAx l)), (3, .v (.int .i64 (i : Int)))]) (k := l.length) ⟨0, Nat.zero_le _, by omega, fun j hj => absurd hj (Nat.not_lt_zero _), rfl, rfl, rfl⟩ ?_
    rintro k e m' ⟨i, hi0, h13, hno, rfl, rfl, rfl⟩
    have fin : ∀ (b : Bool) (e : Env), Ev.get e 2 = .v (.bool b) → b = decide (axOk l) → Leaves Try.prog false Try.f6 m (.v (.bool (decide (axOk l))), m) .ret e m := fun b e h1 h2 => by rw [← h2]; exact leaves_v rfl h1
    cases q0 : decide ((i : Int) < (l.length : Int)) with
    | true =>
     have hi1 : i < l.length := by have := of_decide_eq_true q0; omega
     cases q1 : decide ((i : Int) ≤ 12) with
     | true =>
      have f2 := atAx (g := g) (kk := .i64) hi1
      have r6 := next_i64 (i := i) (by have := of_decide_eq_true q1; omega)
      refine go1 (jn @q0 @q1) ?_
      refine runs_cond rfl (fun hc => ?_) (fun hc => by cases hc)
      refine go1 @f2 ?_
      refine runs_cond rfl (fun hc => ?_) (fun hc => ?_)
      ·refine go0 ?_
       refine fin _ _ rfl (decide_eq_false fun hok => ?_).symm
       have := hok.2 _ (getD_in (d := ax0) hi1)
       have := of_decide_eq_true hc
       omega
      ·refine go1 @r6 ?_
       refine ⟨l.length - (i + 1), by omega, i + 1, hi1, by have := of_decide_eq_true q1; omega, fun j hj => ?_, rfl, rfl, rfl⟩
       by_cases hji : j = i
       ·subst hji; have := of_decide_eq_false hc; omega
       ·exact hno j (by omega)
     | false =>
      have hn : ¬ axOk l := fun hok => by have := hok.1; have := of_decide_eq_false q1; omega
      have b1 : decide ((l.length : Int) ≤ 12) = false := decide_eq_false (by have := of_decide_eq_false q1; omega)
      refine go1 (jn @q0 @q1) ?_
      refine runs_cond rfl (fun hc => by cases hc) (fun hc => ?_)
      refine go1 @b1 ?_
      exact fin _ _ rfl (decide_eq_false hn).symm
    | false =>
     have hi1 : i = l.length := by have := of_decide_eq_false q0; omega
     refine go1 @q0 ?_
     refine runs_cond rfl (fun hc => by cases hc) (fun hc => ?_)
     refine go0 ?_
     refine fin _ _ rfl ?_
     rw [Bool.eq_iff_iff]
     simp only [decide_eq_true_eq]
     constructor
     ·intro h12
      refine ⟨by omega, fun x hx => ?_⟩
      obtain ⟨j, hj⟩ := List.getElem?_of_mem hx
      have hjl := (List.getElem?_eq_some_iff.1 hj).1
      have := hno j (by omega)
      rw [List.getD, hj] at this
      exact this
     ·intro hok
      have := hok.1
      omega
  ·cases h
 ·cases h
end
noncomputable section
attribute [local irreducible] Next Inside Runs Ops table
/-! ### words -/
def setv (m : Mem) (q : Nat) (cs : List AV) : Mem := { m with vars := m.vars.set q (some cs) }
theorem setv_var {m : Mem} {q : Nat} {old cs : List AV} (h : m.var q = some old) : (setv m q cs).var q = some cs := var_of (by show (m.vars.set q _)[q]? = _; rw [List.getElem?_set_self (var_lt h).1])
theorem setv_other {m : Mem} {q r : Nat} {cs c2 : List AV} (h : m.var r = some c2) (hne : r ≠ q) : (setv m q cs).var r = some c2 := var_set_ne hne h
theorem above_setv {m m' : Mem} {q : Nat} {cs : List AV} (h : Above m m') (hq : m.vars.length ≤ q) : Above m (setv m' q cs) := by
 obtain ⟨L, rfl⟩ := h
 refine ⟨L.set (q - m.vars.length) (some cs), ?_⟩
 unfold setv
 simp only [List.set_append_right _ _ hq]
theorem store_whole {m : Mem} {t : TypeId} {q n : Nat} {old cs : List AV} (h : m.var q = some old) (ho : old.length = n) (hcl : cs.length = n) (hs : tSize Try.prog t = some n) (hcs : cellsOf (.agg cs) = some cs) (hrf : cs.all (refLe q) = true) : evStore Try.prog m t (.ptr q 0) (.agg cs) = some (setv m q cs) := by
 unfold evStore
 simp only [hcs, hs, h]
 rw [if_pos ⟨hcl, by omega, hrf⟩]
 unfold splice setv
 rw [List.take_zero, List.nil_append, Nat.zero_add, List.drop_eq_nil_of_le (by omega), List.append_nil]
theorem store_cell {m : Mem} {t : TypeId} {q off : Nat} {old : List AV} {a : AV} (h : m.var q = some old) (ho : off < old.length) (hs : tSize Try.prog t = some 1) (hcs : cellsOf a = some [a]) (hrf : refLe q a = true) : evStore Try.prog m t (.ptr q off) a = some (setv m q (splice old off [a])) := by
 unfold evStore
 simp only [hcs, hs, h]
 rw [if_pos ⟨rfl, by show off + 1 ≤ old.length; omega, by simp [hrf]⟩]
 rfl
def zeroNd : List AV := [iv 0, iv 0, iv 0, iv 0, iv 0, iv 0, iv 0]
theorem zrNd : zeroCells Try.prog 71 = some zeroNd := by kernel_rfl
theorem zoNd : zeroNd.all okCell = true := rfl
theorem znNd {m : Mem} : newVar m m.vars.length zeroNd = some (m.push zeroNd) := newVar_push rfl
theorem newNd {m : Mem} {x : Nd} : newVar m m.vars.length x.row = some (m.push x.row) := newVar_push rfl
theorem cellsNd {x : Nd} : cellsOf (.agg x.row) = some x.row := rfl
theorem mapNd {x : Nd} : List.map argCell x.row = x.row := rfl
theorem agNd : tAgg Try.prog 71 = some true := by kernel_rfl
theorem vrNd {m : Mem} {r : Nat} {x : Nd} (hv : m.var r = some x.row) : evLoad Try.prog m 71 (.ptr r 0) = some (.agg x.row) := by
 unfold evLoad
 simp only [ptrCells, hv, Option.map_some, szNode, agNd]
 rfl
theorem putNd {m : Mem} {r : Nat} {x y : Nd} (hv : m.var r = some y.row) : evStore Try.prog m 71 (.ptr r 0) (.agg x.row) = some (setv m r x.row) := store_whole hv rfl rfl szNode rfl rfl
theorem appNodes : appB Try.prog 67 67 7 = true := by kernel_rfl
theorem mk0Nd : evBuild Try.prog 71 [] = some (.agg nd0.row) := by kernel_rfl
theorem fpNdA {r : Nat} : evFieldAddr Try.prog 71 (.ptr r 0) 1 = some (.ptr r 1) := by kernel_rfl
theorem fpNdB {r : Nat} : evFieldAddr Try.prog 71 (.ptr r 0) 2 = some (.ptr r 2) := by kernel_rfl
theorem fpNdC {r : Nat} : evFieldAddr Try.prog 71 (.ptr r 0) 3 = some (.ptr r 3) := by kernel_rfl
theorem lpNd {m : Mem} {r i : Nat} {x : Nd} {v : Int} (hv : m.var r = some x.row) (h : x.row[i]? = some (iv v)) : evLoad Try.prog m 3 (.ptr r i) = some (iv v) := by
 unfold evLoad
 simp only [ptrCells, hv, Option.map_some, szInt, agInt]
 rw [List.head?_drop, h]
theorem stNdA {m : Mem} {r : Nat} {x : Nd} {v : Int} (hv : m.var r = some x.row) : evStore Try.prog m 3 (.ptr r 1) (.v (.int .i64 v)) = some (setv m r ({ x with a := v } : Nd).row) := store_cell hv (by show _ < 7; decide) szInt rfl rfl
theorem stNdB {m : Mem} {r : Nat} {x : Nd} {v : Int} (hv : m.var r = some x.row) : evStore Try.prog m 3 (.ptr r 2) (.v (.int .i64 v)) = some (setv m r ({ x with b := v } : Nd).row) := store_cell hv (by show _ < 7; decide) szInt rfl rfl
theorem stNdC {m : Mem} {r : Nat} {x : Nd} {v : Int} (hv : m.var r = some x.row) : evStore Try.prog m 3 (.ptr r 3) (.v (.int .i64 v)) = some (setv m r ({ x with c := v } : Nd).row) := store_cell hv (by show _ < 7; decide) szInt rfl rfl
theorem leaves_cell {P : Program} {fn : Func} {m m' : Mem} {e : Env} {a u : Tmp} {t : TypeId} {x0 x y : AV} (h : fn.results = #[.cell a t, .tmp u]) (hl : evLoad P m' t (Ev.get e a) = some x0) (hx : resAV m.vars.length m' x0 = some x) (hy : resAV m.vars.length m' (Ev.get e u) = some y) (hm : finMem m m' = m) :
  Leaves P false fn m (.tup [x, y], m) .ret e m' := by
 show evRet P false fn m e m' = _
 unfold evRet
 rw [h]
 simp [evResult, hl, hx, hy, hm]
theorem leaves_cell1 {P : Program} {fn : Func} {m m' : Mem} {e : Env} {a : Tmp} {t : TypeId} {x0 x : AV} (h : fn.results = #[.cell a t]) (hl : evLoad P m' t (Ev.get e a) = some x0) (hx : resAV m.vars.length m' x0 = some x) (hm : finMem m m' = m) :
  Leaves P false fn m (x, m) .ret e m' := by
 show evRet P false fn m e m' = _
 unfold evRet
 rw [h]
 simp [evResult, hl, hx, hm, growRes]
/-! ### a number put into a node -/
def setF (x : Nd) (f v : Int) : Nd := if f = 0 then { x with a := v } else if f = 1 then { x with b := v } else { x with c := v }
def putG : List AV → Mem → Option (AV × Mem)
 | [.agg cs, .v (.int .i64 f), .v (.int .i64 v)], m =>
  match unNd cs with
  | some x => some (.agg (setF x f v).row, m)
  | none => none
 | _, _ => none
theorem putG_eq {x : Nd} {f v : Int} {m : Mem} : putG [.agg x.row, .v (.int .i64 f), .v (.int .i64 v)] m = some (.agg (setF x f v).row, m) := rfl
attribute [local go_sem] szStr szInt Option.getD_some isNil evStr iv loadInt cellsNd mapNd newNd zrNd zoNd znNd fpNdA fpNdB fpNdC
def kpPut : Nat → Option (List Nat) := fun
 | 0 => some [1, 2, 3, 6]
 | 1 => some [2, 3, 6, 7]
 | 2 => some [3, 6]
 | 3 => some [2, 3, 6, 7, 10]
 | 4 => some [3, 6]
 | 5 => some [2, 3, 6, 14]
 | 6 => some [3, 6]
 | 7 => some [6]
 | _ => none
attribute [go_sem] kpPut
theorem put_ok : FunOk Try.prog 22 putG := by
 have hC := table_ok (P := Try.prog) (l := []) table_nil
 refine fun_ok mixed hC Try.func22 rfl kpPut false rfl fun args m r h => ?_
 unfold putG at h
 split at h
 ·rename_i cs f v
  split at h
  ·rename_i x hx
   obtain rfl := unNd_some hx
   simp only [Option.some.injEq] at h
   subst h
   refine ⟨Nat.le_of_ble_eq_true rfl, ?_⟩
   refine en ?_
   have hA := above_push (cs := zeroNd) (above_push (cs := x.row) (above_self m))
   have hv3 : ((m.push x.row).push zeroNd).var m.vars.length = some x.row := push_old push_var
   have hv6 : ((m.push x.row).push zeroNd).var (m.push x.row).vars.length = some nd0.row := push_var
   have hl : (m.push x.row).vars.length = m.vars.length + 1 := push_len
   have nr := newNd (m := m) (x := x)
   have zn := znNd (m := m.push x.row)
   generalize (m.push x.row).push zeroNd = m2 at hA hv3 hv6 zn
   refine go1 (jn @nr @zn) ?_
   generalize (m.push x.row).vars.length = r6 at hv6 hl ⊢
   have hle : m.vars.length ≤ m.vars.length := Nat.le_refl _
   generalize hr3 : m.vars.length = r3 at hv3 hl ⊢
   have hne : r6 ≠ r3 := by omega
   have done : ∀ (y : Nd) (e : Env), Ev.get e 6 = .ptr r6 0 → y = setF x f v → Leaves Try.prog false Try.f22 m (.agg (setF x f v).row, m) .ret e (setv (setv m2 r3 y.row) r6 y.row) := fun y e h1 h2 => by
    subst h2
    have hv : (setv (setv m2 r3 (setF x f v).row) r6 (setF x f v).row).var r6 = some (setF x f v).row := setv_var (setv_other hv6 hne)
    exact leaves_cell1 rfl (by rw [h1]; exact vrNd hv) rfl (above_fin (above_setv (above_setv hA (by omega)) (by omega)))
   have step : ∀ y : Nd, evLoad Try.prog (setv m2 r3 y.row) 71 (.ptr r3 0) = some (.agg y.row) ∧ evStore Try.prog (setv m2 r3 y.row) 71 (.ptr r6 0) (.agg y.row) = some (setv (setv m2 r3 y.row) r6 y.row) := fun y =>
    ⟨vrNd (setv_var hv3), putNd (y := nd0) (setv_other hv6 hne)⟩
   have s1 := stNdA (v := v) hv3
   have s2 := stNdB (v := v) hv3
   have s3 := stNdC (v := v) hv3
   by_cases h0 : f = 0
   ·have b0 : (f == 0) = true := by simpa using h0
    obtain ⟨k1, k2⟩ := step { x with a := v }
    refine runs_cond rfl (fun hc => ?_) (fun hc => by rw [b0] at hc; cases hc)
    refine go1 (jn @s1 (jn @k1 @k2)) ?_
    exact done _ _ rfl (if_pos h0).symm
   ·have b0 : (f == 0) = false := by simpa using h0
    refine runs_cond rfl (fun hc => by rw [b0] at hc; cases hc) (fun hc => ?_)
    by_cases h1 : f = 1
    ·have b1 : (f == 1) = true := by simpa using h1
     obtain ⟨k1, k2⟩ := step { x with b := v }
     refine go1 @b1 ?_
     refine runs_cond rfl (fun hc => ?_) (fun hc => by cases hc)
     refine go1 (jn @s2 (jn @k1 @k2)) ?_
     exact done _ _ rfl (by unfold setF; rw [if_neg h0, if_pos h1])
    ·have b1 : (f == 1) = false := by simpa using h1
     obtain ⟨k1, k2⟩ := step { x with c := v }
     refine go1 @b1 ?_
     refine runs_cond rfl (fun hc => by cases hc) (fun hc => ?_)
     refine go1 (jn @s3 (jn @k1 @k2)) ?_
     exact done _ _ rfl (by unfold setF; rw [if_neg h0, if_neg h1])
  ·cases h
 ·cases h
end
noncomputable section
attribute [local irreducible] Next Inside Runs Ops table
attribute [local go_sem] szStr szInt Option.getD_some isNil evStr iv loadInt mapRc cellsRc newRc mapPl cellsPl newPl mapNd cellsNd newNd zrNd zoNd znNd mk0Nd rowsPh_len rowsGs_len rowsN_len fpRcPhases fpPlPhase fpPlSet fpPlNode fpPlField fePhSets lePhSets feGsNodes leGsNodes ldNode fpNdA fpNdB fpNdC
def setsAt (R : Rc) (p : Pl) : List Gs := (R.phases.getD p.phase.toNat ph0).sets
def nodesAt (R : Rc) (p : Pl) : List Nd := ((setsAt R p).getD p.set.toNat gs0).nodes
def nodeV (R : Rc) (p : Pl) : Nd := (nodesAt R p).getD p.node.toNat nd0
def here1 (R : Rc) (p : Pl) : Bool := inB p.phase 0 ((R.phases.length : Int) - 1) && inB p.field 0 2
def here2 (R : Rc) (p : Pl) : Bool := inB p.set 0 (((setsAt R p).length : Int) - 1) && inB p.node 0 (((nodesAt R p).length : Int) - 1)
def thereB (R : Rc) (p : Pl) : Bool := here1 R p && here2 R p
def Rc.lens (R : Rc) : Prop := R.phases.length ≤ big40 ∧ ∀ p ∈ R.phases, p.sets.length ≤ big40 ∧ ∀ s ∈ p.sets, s.nodes.length ≤ big40
instance (R : Rc) : Decidable R.lens := by unfold Rc.lens; exact inferInstance
def nodeG : List AV → Mem → Option (AV × Mem)
 | [.agg cs, .agg cp], m =>
  match unRc cs, unPl cp with
  | some R, some p => if R.lens then some (.tup [.agg (if thereB R p then nodeV R p else nd0).row, .v (.bool (thereB R p))], m) else none
  | _, _ => none
 | _, _ => none
theorem nodeG_eq {R : Rc} {p : Pl} {m : Mem} (h : R.lens) : nodeG [.agg R.row, .agg p.row] m = some (.tup [.agg (if thereB R p then nodeV R p else nd0).row, .v (.bool (thereB R p))], m) := by
 simp only [nodeG, unRc_row, unPl_row]
 rw [if_pos h]
theorem setv_push {m : Mem} {cs cs' : List AV} : (setv (m.push cs) m.vars.length cs') = m.push cs' := by
 unfold setv Mem.push
 simp
def kpNode : Nat → Option (List Nat) := fun
 | 0 => some [2, 3, 4]
 | 1 => some [2, 3, 4, 20]
 | 2 => some [4, 5]
 | 3 => some [3, 4, 6]
 | 4 => some [3, 4, 6, 49]
 | 5 => some [4, 5]
 | 6 => some [4, 5]
 | _ => none
attribute [go_sem] kpNode
def tab_node_ok : List (FuncId × (List AV → Mem → Option (AV × Mem))) := [(29, inBG)]
theorem node_ok : FunOk Try.prog 20 nodeG := by
 have hC := table_ok (P := Try.prog) (l := tab_node_ok) (table_more inB_ok table_nil)
 have t1 := fun args mm => table_at (l := tab_node_ok) (f := 29) (args := args) (m := mm) rfl
 refine fun_ok mixed hC Try.func20 rfl kpNode false rfl fun args m r h => ?_
 unfold nodeG at h
 split at h
 ·rename_i cs cp
  split at h
  ·rename_i R p hR hp
   obtain rfl := unRc_some hR
   obtain rfl := unPl_some hp
   split at h
   ·rename_i hlens
    simp only [Option.some.injEq] at h
    subst h
    refine ⟨Nat.le_of_ble_eq_true rfl, ?_⟩
    refine en ?_
    obtain ⟨hP, hS⟩ := hlens
    unfold big40 at hP
    have hA := above_push (cs := zeroNd) (above_push (cs := p.row) (above_push (cs := R.row) (above_self m)))
    have hv2 : (((m.push R.row).push p.row).push zeroNd).var m.vars.length = some R.row := push_old (push_old push_var)
    have hv3 : (((m.push R.row).push p.row).push zeroNd).var (m.push R.row).vars.length = some p.row := push_old push_var
    have hv4 : (((m.push R.row).push p.row).push zeroNd).var ((m.push R.row).push p.row).vars.length = some nd0.row := push_var
    have hl4 : m.vars.length ≤ ((m.push R.row).push p.row).vars.length := by rw [push_len, push_len]; omega
    have nr := newRc (m := m) (x := R)
    have np := newPl (m := m.push R.row) (x := p)
    have zn := znNd (m := (m.push R.row).push p.row)
    generalize ((m.push R.row).push p.row).push zeroNd = m3 at hA hv2 hv3 hv4 zn
    refine go1 (jn @nr (jn @np @zn)) ?_
    generalize ((m.push R.row).push p.row).vars.length = r4 at hv4 hl4 ⊢
    generalize (m.push R.row).vars.length = r3 at hv3 ⊢
    have l1 := lpRcPhases hv2
    have p1 := lpPlPhase hv3
    have p2 := lpPlSet hv3
    have p3 := lpPlNode hv3
    have p4 := lpPlField hv3
    have done : ∀ (x : Nd) (b : Bool) (e : Env), Ev.get e 4 = .ptr r4 0 → Ev.get e 5 = .v (.bool b) → b = thereB R p → x = (if thereB R p then nodeV R p else nd0) →
      Leaves Try.prog false Try.f20 m (.tup [.agg (if thereB R p then nodeV R p else nd0).row, .v (.bool (thereB R p))], m) .ret e (setv m3 r4 x.row) := fun x b e h1 h2 h3 h4 => by
     subst h3 h4
     exact leaves_cell rfl (by rw [h1]; exact vrNd (setv_var hv4)) rfl (by rw [h2]; rfl) (above_fin (above_setv hA hl4))
    have s0 : evStore Try.prog m3 71 (.ptr r4 0) (.agg nd0.row) = some (setv m3 r4 nd0.row) := putNd hv4
    have w0 : IntKind.i64.wrap ((R.phases.length : Int) - 1) = (R.phases.length : Int) - 1 := i64_wrap (by omega) (by omega)
    have f1 := fun mm => inBG_eq (x := p.phase) (lo := 0) (hi := (R.phases.length : Int) - 1) (m := mm)
    have f2 := fun mm => inBG_eq (x := p.field) (lo := 0) (hi := 2) (m := mm)
    have w1 : (!true) = false := rfl
    have w2 : (!false) = true := rfl
    have hT : thereB R p = (here1 R p && here2 R p) := rfl
    have h1e : here1 R p = (inB p.phase 0 ((R.phases.length : Int) - 1) && inB p.field 0 2) := rfl
    cases q1 : inB p.phase 0 ((R.phases.length : Int) - 1) with
    | false =>
     rw [q1] at f1
     have hno : thereB R p = false := by rw [hT, h1e, q1]; rfl
     refine go1 (jn @l1 (jn @p1 (jn @w0 (jn @t1 (jn @f1 @w2))))) ?_
     refine runs_cond rfl (fun hc => ?_) (fun hc => by cases hc)
     refine go1 @s0 ?_
     exact done _ _ _ rfl rfl hno.symm (by rw [hno]; rfl)
    | true =>
     rw [q1] at f1
     cases q2 : inB p.field 0 2 with
     | false =>
      rw [q2] at f2
      have hno : thereB R p = false := by rw [hT, h1e, q1, q2]; rfl
      refine go1 (jn @l1 (jn @p1 (jn @w0 (jn @t1 (jn @f1 (jn @w1 (jn @p4 (jn @f2 @w2)))))))) ?_
      refine runs_cond rfl (fun hc => ?_) (fun hc => by cases hc)
      refine go1 @s0 ?_
      exact done _ _ _ rfl rfl hno.symm (by rw [hno]; rfl)
     | true =>
      rw [q2] at f2
      rw [q1, q2, Bool.true_and] at h1e
      rw [h1e, Bool.true_and] at hT
      unfold inB at q1
      have q1 := of_decide_eq_true q1
      obtain ⟨i, hi⟩ := Int.eq_ofNat_of_zero_le q1.1
      have hi1 : i < R.phases.length := by omega
      have g1 := atPh (g := .no) (kk := .i64) hi1
      have hSets : setsAt R p = (R.phases.getD i ph0).sets := by unfold setsAt; rw [hi, Int.toNat_natCast]
      obtain ⟨hS1, hS2⟩ := hS _ (getD_in (d := ph0) hi1)
      unfold big40 at hS1
      have p1' : evLoad Try.prog m3 3 (.ptr r3 0) = some (.v (.int .i64 (i : Int))) := by rw [← hi]; exact p1
      have hN : nodesAt R p = ((setsAt R p).getD p.set.toNat gs0).nodes := rfl
      have h2e : here2 R p = (inB p.set 0 (((setsAt R p).length : Int) - 1) && inB p.node 0 (((nodesAt R p).length : Int) - 1)) := rfl
      have hV : nodeV R p = (nodesAt R p).getD p.node.toNat nd0 := rfl
      rw [hSets] at hN h2e
      generalize nodesAt R p = NL at hN h2e hV
      generalize R.phases.getD i ph0 = P at g1 hS1 hS2 hN h2e
      have w3 : IntKind.i64.wrap ((P.sets.length : Int) - 1) = (P.sets.length : Int) - 1 := i64_wrap (by omega) (by omega)
      have f3 := fun mm => inBG_eq (x := p.set) (lo := 0) (hi := (P.sets.length : Int) - 1) (m := mm)
      refine go1 (jn @l1 (jn @p1 (jn @w0 (jn @t1 (jn @f1 (jn @w1 (jn @p4 @f2))))))) ?_
      refine runs_cond rfl (fun hc => by cases hc) (fun hc => ?_)
      refine go1 (jn @l1 (jn @p1' @g1)) ?_
      refine runs_ops_drawn_tight (by kernel_rfl) (by kernel_rfl) ?_
      cases q3 : inB p.set 0 ((P.sets.length : Int) - 1) with
      | false =>
       rw [q3] at f3
       have hno : thereB R p = false := by rw [hT, h2e, q3]; rfl
       refine go1 (jn @p2 (jn @w3 (jn @t1 (jn @f3 @w2)))) ?_
       refine runs_cond rfl (fun hc => ?_) (fun hc => by cases hc)
       refine go1 @s0 ?_
       exact done _ _ _ rfl rfl hno.symm (by rw [hno]; rfl)
      | true =>
       rw [q3] at f3
       rw [q3, Bool.true_and] at h2e
       unfold inB at q3
       have q3 := of_decide_eq_true q3
       obtain ⟨j, hj⟩ := Int.eq_ofNat_of_zero_le q3.1
       have hj1 : j < P.sets.length := by omega
       have g2 := atGs (g := .no) (kk := .i64) hj1
       have hS3 := hS2 _ (getD_in (d := gs0) hj1)
       unfold big40 at hS3
       rw [hj, Int.toNat_natCast] at hN
       have p2' : evLoad Try.prog m3 3 (.ptr r3 1) = some (.v (.int .i64 (j : Int))) := by rw [← hj]; exact p2
       generalize P.sets.getD j gs0 = s at g2 hS3 hN
       subst hN
       have w4 : IntKind.i64.wrap ((s.nodes.length : Int) - 1) = (s.nodes.length : Int) - 1 := i64_wrap (by omega) (by omega)
       have f4 := fun mm => inBG_eq (x := p.node) (lo := 0) (hi := (s.nodes.length : Int) - 1) (m := mm)
       rw [hj] at f3
       cases q4 : inB p.node 0 ((s.nodes.length : Int) - 1) with
       | false =>
        rw [q4] at f4
        have hno : thereB R p = false := by rw [hT, h2e, q4]
        refine go1 (jn @p2' (jn @w3 (jn @t1 (jn @f3 (jn @w1 (jn @p3 (jn @g2 (jn @w4 (jn @f4 @w2))))))))) ?_
        refine runs_cond rfl (fun hc => ?_) (fun hc => by cases hc)
        refine go1 @s0 ?_
        exact done _ _ _ rfl rfl hno.symm (by rw [hno]; rfl)
       | true =>
        rw [q4] at f4
        have hyes : thereB R p = true := by rw [hT, h2e, q4]
        unfold inB at q4
        have q4 := of_decide_eq_true q4
        obtain ⟨k, hk⟩ := Int.eq_ofNat_of_zero_le q4.1
        have hk1 : k < s.nodes.length := by omega
        have g3 := atNodes (g := .no) (kk := .i64) hk1
        rw [hk, Int.toNat_natCast] at hV
        have p3' : evLoad Try.prog m3 3 (.ptr r3 2) = some (.v (.int .i64 (k : Int))) := by rw [← hk]; exact p3
        generalize s.nodes.getD k nd0 = x at g3 hV
        have s1 : evStore Try.prog m3 71 (.ptr r4 0) (.agg x.row) = some (setv m3 r4 x.row) := putNd hv4
        refine go1 (jn @p2' (jn @w3 (jn @t1 (jn @f3 (jn @w1 (jn @p3 (jn @g2 (jn @w4 @f4)))))))) ?_
        refine runs_cond rfl (fun hc => by cases hc) (fun hc => ?_)
        refine go0 ?_
        refine runs_ops_drawn_tight (by kernel_rfl) (by kernel_rfl) ?_
        refine go1 (jn @p2' (jn @g2 (jn @p3' (jn @g3 @s1)))) ?_
        exact done _ _ _ rfl rfl hyes.symm (by rw [hyes]; exact hV.symm)
   ·cases h
  ·cases h
 ·cases h
end
noncomputable section
attribute [local irreducible] Next Inside Runs Ops table
attribute [local irreducible] XRuns XOps
theorem ret_one {P : Program} {fn : Func} {m m1 m2 : Mem} {e : Env} {t : Tmp} {a r : AV} (h : fn.results = #[.tmp t]) (hg : Ev.get e t = a) (ha : resAV m.vars.length m1 a = some r) (hm : finMem m m1 = m2) : evRet P false fn m e m1 = some (r, m2) := by
 unfold evRet
 rw [h]
 simp [evResult, hg, growRes, ha, hm]
def clonePre (k : Nat) (args : List AV) (_ : Mem) : Prop := ∃ g rows, args = [.lst g k rows] ∧ rows.length ≤ 1000000
def clonePost (k : Nat) (rows : List (List AV)) (m : Mem) (r : AV) (m' : Mem) (F : Objs) : Prop :=
 m' = m ∧ ((rows = [] ∧ r = .lst .no k [] ∧ F = []) ∨ (0 < rows.length ∧ ∃ (b c : Nat) (vs : List Value), rows.length ≤ c ∧ vs.length = (c - rows.length) * k ∧ r = .v (rawSl b 0 rows.length c) ∧ F = [(b, .arr (rows.flatten ++ vs.map .v))]))
def cloneP (k : Nat) (args : List AV) (m : Mem) (r : AV) (m' : Mem) (F : Objs) : Prop := ∀ g rows, args = [.lst g k rows] → clonePost k rows m r m' F
theorem cloneF_of {P : Program} {f : FuncId} {k : Nat} (hn : FunOkF P f (fun args _ => args = [.v (.slice none 0 0)]) fun _ m r m' F => clonePost k [] m r m' F)
  (hh : ∀ rows, rows.length ≤ 1000000 → FunOkF P f (fun args _ => args = [.lst .here k rows]) fun _ m r m' F => clonePost k rows m r m' F) : FunOkF P f (clonePre k) (cloneP k) := by
 rintro args m ⟨g, rows, rfl, hl⟩
 refine ⟨(hn _ m rfl).1, fun φ w vals hR hA => ?_⟩
 have hs : vals.size = 1 := hA.1
 obtain ⟨v, rfl⟩ : ∃ v, vals = #[v] := ⟨vals[0], by apply Array.ext <;> simp_all⟩
 have hv := hA.2 0 _ v rfl rfl
 have out : ∀ {r : AV} {m' : Mem} {F : Objs}, clonePost k rows m r m' F → cloneP k [.lst g k rows] m r m' F := fun h g2 rows2 e => by cases e; exact h
 cases hv with
 | lst _ _ _ a c val hcc hr ha hsp hcell hrep hg =>
  cases a with
  | none =>
   have hc0 := ha rfl
   have hr0 : rows = [] := List.eq_nil_of_length_eq_zero (by omega)
   subst hr0
   subst hc0
   refine ((hn _ m rfl).2 φ w _ hR ⟨rfl, fun i a u e1 e2 => ?_⟩).mono fun e w' ⟨x, φ', r, m', F, h1, h2, h3, h4, h5, h6⟩ => ⟨x, φ', r, m', F, h1, h2, h3, h4, h5, out h6⟩
   cases i with
   | zero => simp at e1 e2; subst e1; subst e2; exact .v _
   | succ i => simp at e1
  | some ad =>
   refine ((hh rows hl _ m rfl).2 φ w _ hR ⟨rfl, fun i a u e1 e2 => ?_⟩).mono fun e w' ⟨x, φ', r, m', F, h1, h2, h3, h4, h5, h6⟩ => ⟨x, φ', r, m', F, h1, h2, h3, h4, h5, out h6⟩
   cases i with
   | zero =>
    simp at e1 e2; subst e1; subst e2
    exact .lst .here k rows (some ad) c val hcc hr ha hsp hcell hrep (by intro e; cases e)
   | succ i => simp at e1
def kpClone : Nat → Option (List Nat) := fun
 | 0 => some [0]
 | 1 => some [0, 4]
 | _ => some [2]

attribute [go_sem] kpClone
attribute [local go_sem] szStr szInt Option.getD_some isNil
theorem mk0Phs : evBuildSlice Try.prog 23 0 [] = some (.lst .full 5 []) := build_nil appPh
attribute [local go_sem] mk0Phs
theorem clonePhs_nil : FunOkF Try.prog 30 (fun args _ => args = [.v (.slice none 0 0)]) fun _ m r m' F => clonePost 5 [] m r m' F := by
 have hC := table_ok (P := Try.prog) (l := []) table_nil
 refine fun_okF Try.func30 rfl rfl fun args m h => ?_
 subst h
 refine ⟨Nat.le_of_ble_eq_true rfl, fun φ w => ?_⟩
 refine en ?_
 refine x_lift (kp := kpClone) mixed hC ?_
 refine go0 ?_
 refine runs_cond rfl (fun hc => ?_) (fun hc => by cases hc)
 refine go0 ?_
 exact ⟨_, _, ret_one rfl rfl rfl (finMem_self _), rfl, .inl ⟨rfl, rfl, rfl⟩⟩
theorem clonePhs_here (rows : List (List AV)) (hl : rows.length ≤ 1000000) : FunOkF Try.prog 30 (fun args _ => args = [.lst .here 5 rows]) fun _ m r m' F => clonePost 5 rows m r m' F := by
 have hC := table_ok (P := Try.prog) (l := []) table_nil
 refine fun_okF Try.func30 rfl rfl fun args m h => ?_
 subst h
 refine ⟨Nat.le_of_ble_eq_true rfl, fun φ w => ?_⟩
 refine en ?_
 by_cases h0 : rows = []
 ·subst h0
  refine x_lift (kp := kpClone) mixed hC ?_
  refine go0 ?_
  refine runs_cond rfl (fun hc => by cases hc) (fun hc => ?_)
  have a1 := app_of (m := m) appPh (x := .lst .full 5 []) (y := .lst .here 5 []) asList_lst asList_lst (Nat.zero_le _)
  refine go1 @a1 ?_
  exact ⟨_, _, ret_one rfl rfl rfl (by unfold finMem; simp), rfl, .inl ⟨rfl, rfl, rfl⟩⟩
 ·have hpos : 0 < rows.length := by cases rows with | nil => exact absurd rfl h0 | cons a b => simp
  repeat (first | refine x_seq ?_ | refine x_block ?_ | refine xn_normal ?_ | refine xi_normal ?_ | refine xn_exit ?_ | refine xi_exit ?_ | refine xi_other (by decide) ?_ | refine xn_ret ?_ | refine xi_ret ?_ | refine x_skip ?_ | refine x_exit ?_ | refine x_ret ?_)
  refine x_region (kp := kpClone) mixed hC ?_
  refine go0 ?_
  repeat (first | refine x_seq ?_ | refine x_block ?_ | refine xn_normal ?_ | refine xi_normal ?_ | refine xn_exit ?_ | refine xi_exit ?_ | refine xi_other (by decide) ?_ | refine xn_ret ?_ | refine xi_ret ?_ | refine x_skip ?_ | refine x_exit ?_ | refine x_ret ?_)
  refine x_region (kp := kpClone) mixed hC ?_
  refine go0 ?_
  repeat (first | refine x_seq ?_ | refine x_block ?_ | refine xn_normal ?_ | refine xi_normal ?_ | refine xn_exit ?_ | refine xi_exit ?_ | refine xi_other (by decide) ?_ | refine xn_ret ?_ | refine xi_ret ?_ | refine x_skip ?_ | refine x_exit ?_ | refine x_ret ?_)
  refine x_cond rfl (fun hc => by cases hc) (fun hc => ?_)
  repeat (first | refine x_seq ?_ | refine x_block ?_ | refine xn_normal ?_ | refine xi_normal ?_ | refine xn_exit ?_ | refine xi_exit ?_ | refine xi_other (by decide) ?_ | refine xn_ret ?_ | refine xi_ret ?_ | refine x_skip ?_ | refine x_exit ?_ | refine x_ret ?_)
  refine x_ops (l2 := kpClone 3) ?_
  refine gox0 hC ?_
  refine xops_step (xs_appendNew rfl rfl (by decide) rfl rfl rfl rfl appPh rfl rfl hpos (by unfold lim; omega) fun b c vs h1 h2 h3 => ?_)
  refine gox0 hC ?_
  repeat (first | refine x_seq ?_ | refine x_block ?_ | refine xn_normal ?_ | refine xi_normal ?_ | refine xn_exit ?_ | refine xi_exit ?_ | refine xi_other (by decide) ?_ | refine xn_ret ?_ | refine xi_ret ?_ | refine x_skip ?_ | refine x_exit ?_ | refine x_ret ?_)
  exact ⟨_, _, ret_one rfl rfl rfl (finMem_self _), rfl, .inr ⟨hpos, b, c, vs, h1, h3, rfl, rfl⟩⟩
theorem clonePhs_ok : FunOkF Try.prog 30 (clonePre 5) (cloneP 5) := cloneF_of clonePhs_nil clonePhs_here


theorem mk0Gss : evBuildSlice Try.prog 64 0 [] = some (.lst .full 3 []) := build_nil appGs
attribute [local go_sem] mk0Gss
theorem cloneGss_nil : FunOkF Try.prog 31 (fun args _ => args = [.v (.slice none 0 0)]) fun _ m r m' F => clonePost 3 [] m r m' F := by
 have hC := table_ok (P := Try.prog) (l := []) table_nil
 refine fun_okF Try.func31 rfl rfl fun args m h => ?_
 subst h
 refine ⟨Nat.le_of_ble_eq_true rfl, fun φ w => ?_⟩
 refine en ?_
 refine x_lift (kp := kpClone) mixed hC ?_
 refine go0 ?_
 refine runs_cond rfl (fun hc => ?_) (fun hc => by cases hc)
 refine go0 ?_
 exact ⟨_, _, ret_one rfl rfl rfl (finMem_self _), rfl, .inl ⟨rfl, rfl, rfl⟩⟩
theorem cloneGss_here (rows : List (List AV)) (hl : rows.length ≤ 1000000) : FunOkF Try.prog 31 (fun args _ => args = [.lst .here 3 rows]) fun _ m r m' F => clonePost 3 rows m r m' F := by
 have hC := table_ok (P := Try.prog) (l := []) table_nil
 refine fun_okF Try.func31 rfl rfl fun args m h => ?_
 subst h
 refine ⟨Nat.le_of_ble_eq_true rfl, fun φ w => ?_⟩
 refine en ?_
 by_cases h0 : rows = []
 ·subst h0
  refine x_lift (kp := kpClone) mixed hC ?_
  refine go0 ?_
  refine runs_cond rfl (fun hc => by cases hc) (fun hc => ?_)
  have a1 := app_of (m := m) appGs (x := .lst .full 3 []) (y := .lst .here 3 []) asList_lst asList_lst (Nat.zero_le _)
  refine go1 @a1 ?_
  exact ⟨_, _, ret_one rfl rfl rfl (by unfold finMem; simp), rfl, .inl ⟨rfl, rfl, rfl⟩⟩
 ·have hpos : 0 < rows.length := by cases rows with | nil => exact absurd rfl h0 | cons a b => simp
  repeat (first | refine x_seq ?_ | refine x_block ?_ | refine xn_normal ?_ | refine xi_normal ?_ | refine xn_exit ?_ | refine xi_exit ?_ | refine xi_other (by decide) ?_ | refine xn_ret ?_ | refine xi_ret ?_ | refine x_skip ?_ | refine x_exit ?_ | refine x_ret ?_)
  refine x_region (kp := kpClone) mixed hC ?_
  refine go0 ?_
  repeat (first | refine x_seq ?_ | refine x_block ?_ | refine xn_normal ?_ | refine xi_normal ?_ | refine xn_exit ?_ | refine xi_exit ?_ | refine xi_other (by decide) ?_ | refine xn_ret ?_ | refine xi_ret ?_ | refine x_skip ?_ | refine x_exit ?_ | refine x_ret ?_)
  refine x_region (kp := kpClone) mixed hC ?_
  refine go0 ?_
  repeat (first | refine x_seq ?_ | refine x_block ?_ | refine xn_normal ?_ | refine xi_normal ?_ | refine xn_exit ?_ | refine xi_exit ?_ | refine xi_other (by decide) ?_ | refine xn_ret ?_ | refine xi_ret ?_ | refine x_skip ?_ | refine x_exit ?_ | refine x_ret ?_)
  refine x_cond rfl (fun hc => by cases hc) (fun hc => ?_)
  repeat (first | refine x_seq ?_ | refine x_block ?_ | refine xn_normal ?_ | refine xi_normal ?_ | refine xn_exit ?_ | refine xi_exit ?_ | refine xi_other (by decide) ?_ | refine xn_ret ?_ | refine xi_ret ?_ | refine x_skip ?_ | refine x_exit ?_ | refine x_ret ?_)
  refine x_ops (l2 := kpClone 3) ?_
  refine gox0 hC ?_
  refine xops_step (xs_appendNew rfl rfl (by decide) rfl rfl rfl rfl appGs rfl rfl hpos (by unfold lim; omega) fun b c vs h1 h2 h3 => ?_)
  refine gox0 hC ?_
  repeat (first | refine x_seq ?_ | refine x_block ?_ | refine xn_normal ?_ | refine xi_normal ?_ | refine xn_exit ?_ | refine xi_exit ?_ | refine xi_other (by decide) ?_ | refine xn_ret ?_ | refine xi_ret ?_ | refine x_skip ?_ | refine x_exit ?_ | refine x_ret ?_)
  exact ⟨_, _, ret_one rfl rfl rfl (finMem_self _), rfl, .inr ⟨hpos, b, c, vs, h1, h3, rfl, rfl⟩⟩
theorem cloneGss_ok : FunOkF Try.prog 31 (clonePre 3) (cloneP 3) := cloneF_of cloneGss_nil cloneGss_here


theorem mk0Nds : evBuildSlice Try.prog 67 0 [] = some (.lst .full 7 []) := build_nil appNodes
attribute [local go_sem] mk0Nds
theorem cloneNds_nil : FunOkF Try.prog 32 (fun args _ => args = [.v (.slice none 0 0)]) fun _ m r m' F => clonePost 7 [] m r m' F := by
 have hC := table_ok (P := Try.prog) (l := []) table_nil
 refine fun_okF Try.func32 rfl rfl fun args m h => ?_
 subst h
 refine ⟨Nat.le_of_ble_eq_true rfl, fun φ w => ?_⟩
 refine en ?_
 refine x_lift (kp := kpClone) mixed hC ?_
 refine go0 ?_
 refine runs_cond rfl (fun hc => ?_) (fun hc => by cases hc)
 refine go0 ?_
 exact ⟨_, _, ret_one rfl rfl rfl (finMem_self _), rfl, .inl ⟨rfl, rfl, rfl⟩⟩
theorem cloneNds_here (rows : List (List AV)) (hl : rows.length ≤ 1000000) : FunOkF Try.prog 32 (fun args _ => args = [.lst .here 7 rows]) fun _ m r m' F => clonePost 7 rows m r m' F := by
 have hC := table_ok (P := Try.prog) (l := []) table_nil
 refine fun_okF Try.func32 rfl rfl fun args m h => ?_
 subst h
 refine ⟨Nat.le_of_ble_eq_true rfl, fun φ w => ?_⟩
 refine en ?_
 by_cases h0 : rows = []
 ·subst h0
  refine x_lift (kp := kpClone) mixed hC ?_
  refine go0 ?_
  refine runs_cond rfl (fun hc => by cases hc) (fun hc => ?_)
  have a1 := app_of (m := m) appNodes (x := .lst .full 7 []) (y := .lst .here 7 []) asList_lst asList_lst (Nat.zero_le _)
  refine go1 @a1 ?_
  exact ⟨_, _, ret_one rfl rfl rfl (by unfold finMem; simp), rfl, .inl ⟨rfl, rfl, rfl⟩⟩
 ·have hpos : 0 < rows.length := by cases rows with | nil => exact absurd rfl h0 | cons a b => simp
  repeat (first | refine x_seq ?_ | refine x_block ?_ | refine xn_normal ?_ | refine xi_normal ?_ | refine xn_exit ?_ | refine xi_exit ?_ | refine xi_other (by decide) ?_ | refine xn_ret ?_ | refine xi_ret ?_ | refine x_skip ?_ | refine x_exit ?_ | refine x_ret ?_)
  refine x_region (kp := kpClone) mixed hC ?_
  refine go0 ?_
  repeat (first | refine x_seq ?_ | refine x_block ?_ | refine xn_normal ?_ | refine xi_normal ?_ | refine xn_exit ?_ | refine xi_exit ?_ | refine xi_other (by decide) ?_ | refine xn_ret ?_ | refine xi_ret ?_ | refine x_skip ?_ | refine x_exit ?_ | refine x_ret ?_)
  refine x_region (kp := kpClone) mixed hC ?_
  refine go0 ?_
  repeat (first | refine x_seq ?_ | refine x_block ?_ | refine xn_normal ?_ | refine xi_normal ?_ | refine xn_exit ?_ | refine xi_exit ?_ | refine xi_other (by decide) ?_ | refine xn_ret ?_ | refine xi_ret ?_ | refine x_skip ?_ | refine x_exit ?_ | refine x_ret ?_)
  refine x_cond rfl (fun hc => by cases hc) (fun hc => ?_)
  repeat (first | refine x_seq ?_ | refine x_block ?_ | refine xn_normal ?_ | refine xi_normal ?_ | refine xn_exit ?_ | refine xi_exit ?_ | refine xi_other (by decide) ?_ | refine xn_ret ?_ | refine xi_ret ?_ | refine x_skip ?_ | refine x_exit ?_ | refine x_ret ?_)
  refine x_ops (l2 := kpClone 3) ?_
  refine gox0 hC ?_
  refine xops_step (xs_appendNew rfl rfl (by decide) rfl rfl rfl rfl appNodes rfl rfl hpos (by unfold lim; omega) fun b c vs h1 h2 h3 => ?_)
  refine gox0 hC ?_
  repeat (first | refine x_seq ?_ | refine x_block ?_ | refine xn_normal ?_ | refine xi_normal ?_ | refine xn_exit ?_ | refine xi_exit ?_ | refine xi_other (by decide) ?_ | refine xn_ret ?_ | refine xi_ret ?_ | refine x_skip ?_ | refine x_exit ?_ | refine x_ret ?_)
  exact ⟨_, _, ret_one rfl rfl rfl (finMem_self _), rfl, .inr ⟨hpos, b, c, vs, h1, h3, rfl, rfl⟩⟩
theorem cloneNds_ok : FunOkF Try.prog 32 (clonePre 7) (cloneP 7) := cloneF_of cloneNds_nil cloneNds_here

end
section
attribute [local irreducible] Next Inside Runs Ops table
theorem splice_app (a r cs : List AV) (off : Nat) : splice (a ++ r) (a.length + off) cs = a ++ splice r off cs := by
 unfold splice
 rw [List.take_append, List.drop_append]
 simp only [Nat.add_sub_cancel_left, List.take_of_length_le (Nat.le_add_right a.length off)]
 rw [List.drop_of_length_le (by omega), show a.length + off + cs.length - a.length = off + cs.length by omega]
 simp
theorem splice_left (a r cs : List AV) (off : Nat) (h : off + cs.length ≤ a.length) : splice (a ++ r) off cs = splice a off cs ++ r := by
 unfold splice
 rw [List.take_append_of_le_length (by omega), List.drop_append_of_le_length (by omega)]
 simp
theorem splice_rows {k : Nat} (z cs : List AV) (j : Nat) (hj : j + cs.length ≤ k) : ∀ (rows : List (List AV)) (i : Nat), (∀ r ∈ rows, r.length = k) → i < rows.length →
  splice (rows.flatten ++ z) (i * k + j) cs = (rows.set i (splice (rows.getD i []) j cs)).flatten ++ z
 | [], i, _, hi => by simp at hi
 | r :: rows, 0, hr, _ => by
  have h0 := hr r (List.mem_cons_self ..)
  rw [Nat.zero_mul, Nat.zero_add, List.flatten_cons, List.append_assoc, splice_left _ _ _ _ (by omega)]
  simp
 | r :: rows, i + 1, hr, hi => by
  have h0 := hr r (List.mem_cons_self ..)
  have ih := splice_rows z cs j hj rows i (fun x hx => hr x (List.mem_cons_of_mem _ hx)) (by simpa using hi)
  rw [List.flatten_cons, List.append_assoc, show (i + 1) * k + j = r.length + (i * k + j) by rw [h0, Nat.add_mul]; omega, splice_app, ih]
  simp
theorem get_rows {k : Nat} (z : List AV) (j : Nat) (hj : j < k) : ∀ (rows : List (List AV)) (i : Nat), (∀ r ∈ rows, r.length = k) → i < rows.length →
  (rows.flatten ++ z)[i * k + j]? = (rows.getD i [])[j]?
 | [], i, _, hi => by simp at hi
 | r :: rows, 0, hr, _ => by
  have h0 := hr r (List.mem_cons_self ..)
  rw [Nat.zero_mul, Nat.zero_add, List.flatten_cons, List.append_assoc, List.getElem?_append_left (by omega)]
  simp
 | r :: rows, i + 1, hr, hi => by
  have h0 := hr r (List.mem_cons_self ..)
  have ih := get_rows z j hj rows i (fun x hx => hr x (List.mem_cons_of_mem _ hx)) (by simpa using hi)
  rw [List.flatten_cons, List.append_assoc, show (i + 1) * k + j = r.length + (i * k + j) by rw [h0, Nat.add_mul]; omega, List.getElem?_append_right (by omega), Nat.add_sub_cancel_left, ih]
  simp
theorem row_rows {k : Nat} (z : List AV) : ∀ (rows : List (List AV)) (i : Nat), (∀ r ∈ rows, r.length = k) → i < rows.length → ((rows.flatten ++ z).drop (i * k)).take k = rows.getD i []
 | [], i, _, hi => by simp at hi
 | r :: rows, 0, hr, _ => by
  have h0 := hr r (List.mem_cons_self ..)
  rw [Nat.zero_mul, List.drop_zero, List.flatten_cons, List.append_assoc, List.take_append_of_le_length (by omega), List.take_of_length_le (by omega)]
  rfl
 | r :: rows, i + 1, hr, hi => by
  have h0 := hr r (List.mem_cons_self ..)
  have ih := row_rows z rows i (fun x hx => hr x (List.mem_cons_of_mem _ hx)) (by simpa using hi)
  rw [List.flatten_cons, List.append_assoc, show (i + 1) * k = r.length + i * k by rw [h0, Nat.add_mul]; omega, List.drop_append, List.drop_of_length_le (by omega), List.nil_append, Nat.add_sub_cancel_left, ih]
  simp
theorem flat_len {k : Nat} : ∀ (rows : List (List AV)), (∀ r ∈ rows, r.length = k) → rows.flatten.length = rows.length * k
 | [], _ => by simp
 | r :: rows, hr => by
  rw [List.flatten_cons, List.length_append, flat_len rows fun x hx => hr x (List.mem_cons_of_mem _ hx), hr r (List.mem_cons_self ..), List.length_cons, Nat.add_mul]
  omega
theorem part_row {P : Program} {t : TypeId} {k : Nat} (ha : tAgg P t = some true) (hs : tSize P t = some k) (z : List AV) {rows : List (List AV)} {i : Nat} (hr : ∀ r ∈ rows, r.length = k) (hi : i < rows.length) : evPart P t (rows.flatten ++ z) (i * k) = some (.agg (rows.getD i [])) := by
 unfold evPart
 simp only [ha, hs]
 rw [if_pos, row_rows z rows i hr hi]
 rw [List.length_append, flat_len rows hr]
 have : (i + 1) * k ≤ rows.length * k := Nat.mul_le_mul_right _ hi
 rw [Nat.add_mul] at this
 omega
theorem part_cell {P : Program} {t : TypeId} {k j : Nat} (ha : tAgg P t = some false) (hs : tSize P t = some 1) (z : List AV) {rows : List (List AV)} {i : Nat} {a : AV} (hr : ∀ r ∈ rows, r.length = k) (hi : i < rows.length) (hj : j < k) (h : (rows.getD i [])[j]? = some a) : evPart P t (rows.flatten ++ z) (i * k + j) = some a := by
 unfold evPart
 simp only [ha, hs]
 rw [get_rows z j hj rows i hr hi, h]
/-- One row laid to rest. -/
theorem fz_rows {b k n c : Nat} {rows : List (List AV)} {z : List AV} {F : Objs} (hb : (b, XOb.arr (rows.flatten ++ z)) ∈ F) (hn : rows.length = n) (hc : n ≤ c) (hr : ∀ (i : Nat) row, rows[i]? = some row → row.length = k ∧ row.all isRow = true) :
  Fz F (.v (rawSl b 0 n c)) (.lst .no k rows) := by
 have hk : ∀ r ∈ rows, r.length = k := fun r hx => by
  obtain ⟨i, hi⟩ := List.getElem?_of_mem hx
  exact (hr i r hi).1
 refine .list b 0 k n c (rows.flatten ++ z) rows (fun i j => (rows.getD i []).getD j .junk) hb hn hc hr (fun i row j x h1 h2 => ?_) fun i row j x h1 h2 => ?_
 ·have hi := (List.getElem?_eq_some_iff.1 h1).1
  have hj : j < k := by rw [← (hr i row h1).1]; exact (List.getElem?_eq_some_iff.1 h2).1
  have e : (rows.getD i []).getD j .junk = x := by simp [List.getD, h1, h2]
  have e2 : (rows.getD i [])[j]? = some x := by simp [List.getD, h1, h2]
  rw [Nat.zero_add, get_rows z j hj rows i hk hi, e, e2]
 ·have e : (rows.getD i []).getD j .junk = x := by simp [List.getD, h1, h2]
  rw [e]
  exact .same _
end
noncomputable section
attribute [local irreducible] Next Inside Runs Ops table
attribute [local irreducible] XRuns XOps
attribute [local go_sem] szStr szInt Option.getD_some isNil evStr iv loadInt rowsI_len rowsAx_len mk0Nds feAxAt leAxAt feAxVals leAxVals mapPl cellsPl zrPl zoPl znPl fpPlPhase fpPlSet fpPlNode fpPlField
def Ax.pl (x : Ax) : Pl := ⟨x.atPhase, x.atSet, x.atNode, x.atField⟩
def hitB (ph st : Int) (x : Ax) : Bool := (x.atPhase == ph) && (x.atSet == st)
def putAx (ph st : Int) (x : Ax) (v : Int) (L : List Nd) : List Nd := if hitB ph st x = true then L.set x.atNode.toNat (setF (L.getD x.atNode.toNat nd0) x.atField v) else L
def valC (l : List Ax) (c : List Int) (i : Nat) : Int := (l.getD i ax0).vals.getD (c.getD i 0).toNat 0
def nodesTo (l : List Ax) (c : List Int) (ph st : Int) (L : List Nd) : Nat → List Nd
 | 0 => L
 | i + 1 => putAx ph st (l.getD i ax0) (valC l c i) (nodesTo l c ph st L i)
theorem putAx_len (ph st : Int) (x : Ax) (v : Int) (L : List Nd) : (putAx ph st x v L).length = L.length := by
 unfold putAx
 split
 ·rw [List.length_set]
 ·rfl
theorem nodesTo_len (l : List Ax) (c : List Int) (ph st : Int) (L : List Nd) : ∀ i, (nodesTo l c ph st L i).length = L.length
 | 0 => rfl
 | i + 1 => by rw [nodesTo, putAx_len, nodesTo_len l c ph st L i]
/-- A choice that there is; places that there are. -/
def chosen (l : List Ax) (c : List Int) : Prop := l.length ≤ 100 ∧ c.length = l.length ∧ ∀ i, i < l.length → 0 ≤ c.getD i 0 ∧ c.getD i 0 < (((l.getD i ax0).vals.length : Nat) : Int)
def placed (l : List Ax) (ph st : Int) (n : Nat) : Prop := ∀ i, i < l.length → hitB ph st (l.getD i ax0) = true → 0 ≤ (l.getD i ax0).atNode ∧ (l.getD i ax0).atNode < (n : Int)
open Classical in
def nodesG : List AV → Mem → Option (AV × Mem)
 | [.lst _ 7 rows, .v (.int .i64 ph), .v (.int .i64 st), .lst _ 5 rows2, .lst _ 1 rows3], m =>
  match unN rows, unsAx rows2, unJ rows3 with
  | some L, some l, some c => if L.length ≤ 1000000 ∧ chosen l c ∧ placed l ph st L.length then some (.lst .no 7 (rowsN (nodesTo l c ph st L l.length)), m) else none
  | _, _, _ => none
 | _, _ => none
theorem nodesG_eq {m : Mem} {g g2 g3 : Grow} {L : List Nd} {l : List Ax} {c : List Int} {ph st : Int} (h1 : L.length ≤ 1000000) (h2 : chosen l c) (h3 : placed l ph st L.length) :
  nodesG [.lst g 7 (rowsN L), .v (.int .i64 ph), .v (.int .i64 st), .lst g2 5 (rowsAx l), .lst g3 1 (rowsI c)] m = some (.lst .no 7 (rowsN (nodesTo l c ph st L l.length)), m) := by
 simp only [nodesG, unN_rowsN, unsAx_rowsAx, unJ_rowsI]
 rw [if_pos ⟨h1, h2, h3⟩]
theorem rowsN_row (L : List Nd) : ∀ r ∈ rowsN L, r.length = 7 := fun r hr => by
 obtain ⟨x, _, rfl⟩ := List.mem_map.1 hr
 rfl
theorem rowsN_set (L : List Nd) (i : Nat) (x : Nd) : (rowsN L).set i x.row = rowsN (L.set i x) := by
 unfold rowsN
 rw [List.map_set]
theorem rowsN_getD {L : List Nd} {i : Nat} (hi : i < L.length) : (rowsN L).getD i [] = (L.getD i nd0).row := by
 simp [rowsN, List.getD, hi]
theorem rowsN_ok (L : List Nd) : ∀ (i : Nat) row, (rowsN L)[i]? = some row → row.length = 7 ∧ row.all isRow = true := fun i row h => by
 obtain ⟨x, _, rfl⟩ := List.mem_map.1 (List.mem_of_getElem? h)
 exact ⟨rfl, rfl⟩
theorem splice_nd {L : List Nd} (z : List AV) {i : Nat} (hi : i < L.length) (x : Nd) (j : Nat) (v : Int) (hj : j < 7) (hx : splice (L.getD i nd0).row j [iv v] = x.row) : splice ((rowsN L).flatten ++ z) (i * 7 + j) [iv v] = (rowsN (L.set i x)).flatten ++ z := by
 rw [splice_rows z [iv v] j (by show j + 1 ≤ 7; omega) (rowsN L) i (rowsN_row L) (by rw [rowsN_len]; exact hi), rowsN_getD hi, hx, rowsN_set]
theorem szPlace : tField Try.prog 71 1 = some (1, 3) ∧ tField Try.prog 71 2 = some (2, 3) ∧ tField Try.prog 71 3 = some (3, 3) := by
 refine ⟨?_, ?_, ?_⟩ <;> kernel_rfl
theorem ndEl : tElem Try.prog 67 = some 71 := by kernel_rfl
theorem ndSz : tSize Try.prog 71 = some 7 := by kernel_rfl
def kpNodes : Nat → Option (List Nat) := fun
 | 0 => some [0, 1, 2, 3, 4]
 | 1 => some [1, 2, 3, 4, 11]
 | 2 => some [1, 2, 3, 4, 11, 12]
 | 3 => some [1, 2, 3, 4, 11, 12, 21]
 | 4 => some [1, 2, 3, 4, 11, 12]
 | 5 => some [1, 2, 3, 4, 11, 12, 13]
 | 6 => some [1, 2, 3, 4, 11, 12, 13, 38]
 | 7 => some [1, 2, 3, 4, 11, 12, 13, 14]
 | 8 => some [1, 2, 3, 4, 11, 12, 13, 14, 52]
 | 9 => some [1, 2, 3, 4, 11, 12]
 | 10 => some [1, 2, 3, 4, 11, 12, 13, 14, 61]
 | 11 => some [1, 2, 3, 4, 11, 12]
 | 12 => some [1, 2, 3, 4, 11, 12]
 | 13 => some [10]
 | _ => none
attribute [go_sem] kpNodes
theorem nodes_ok : FunOk Try.prog 25 nodesG := by
 have hC := table_ok (P := Try.prog) (l := []) table_nil
 refine fun_okX Try.func25 rfl false rfl fun args m r h => ?_
 unfold nodesG at h
 split at h
 ·rename_i g rows ph st g2 rows2 g3 rows3
  split at h
  ·rename_i L l c hL hl hc0
   obtain rfl := unN_some hL
   obtain rfl := unsAx_some hl
   obtain rfl := unJ_some hc0
   split at h
   ·rename_i hyp
    obtain ⟨hLen, ⟨hl100, hcl, hch⟩, hpl⟩ := hyp
    simp only [Option.some.injEq] at h
    subst h
    refine ⟨Nat.le_of_ble_eq_true rfl, fun φ w => ?_⟩
    refine en ?_
    by_cases h0 : L = []
    ·subst h0
     have hno : ∀ i, i < l.length → hitB ph st (l.getD i ax0) = false := fun i hi => by
      cases hb : hitB ph st (l.getD i ax0) with
      | false => rfl
      | true => have := hpl i hi hb; simp at this; omega
     have hsame : ∀ i, i ≤ l.length → nodesTo l c ph st [] i = [] := fun i hi => List.eq_nil_of_length_eq_zero (nodesTo_len l c ph st [] i)
     rw [hsame l.length (Nat.le_refl _)]
     refine x_lift (kp := kpNodes) mixed hC ?_
     have a1 := app_of (m := m) appNodes (x := .lst .full 7 []) (y := .lst g 7 (rowsN [])) asList_lst asList_lst (Nat.zero_le _)
     refine go1 @a1 ?_
     refine runs_loop (fun k e m' => ∃ (i : Nat), i ≤ l.length ∧ Above { m with toks := m.toks ++ [0] } m' ∧ k = l.length - i ∧
      e = [(1, AV.v (.int .i64 ph)), (2, .v (.int .i64 st)), (3, .lst g2 5 (rowsAx l)), (4, .lst g3 1 (rowsI c)), (11, .lst (.tok m.toks.length 0) 7 ([] ++ rowsN [])), (12, .v (.int .i64 (i : Int)))]) (k := l.length) ⟨0, Nat.zero_le _, above_self _, rfl, rfl⟩ ?_
     rintro k e m' ⟨i, hi0, hA, rfl, rfl⟩
     refine go0 ?_
     refine runs_cond rfl (fun hc => ?_) (fun hc => ?_)
     ·have hi1 : i < l.length := by have := of_decide_eq_true hc; omega
      have f1 := atAx (g := g2) (kk := .i64) hi1
      have hn := hno i hi1
      have r6 := next_i64 (i := i) (by omega)
      generalize l.getD i ax0 = x at f1 hn
      have zs : evStore Try.prog (m'.push zeroPl) 50 (.ptr m'.vars.length 0) (.agg [.v (.int .i64 x.atPhase), .v (.int .i64 x.atSet), .v (.int .i64 x.atNode), .v (.int .i64 x.atField)]) = some (m'.push x.pl.row) := zsPl (x := x.pl)
      have hA2 := above_push (cs := x.pl.row) hA
      have hv : (m'.push x.pl.row).var m'.vars.length = some x.pl.row := push_var
      generalize m'.push x.pl.row = m2 at zs hA2 hv
      have p1 : evLoad Try.prog m2 3 (.ptr m'.vars.length 0) = some (iv x.atPhase) := lpPlPhase hv
      have p2 : evLoad Try.prog m2 3 (.ptr m'.vars.length 1) = some (iv x.atSet) := lpPlSet hv
      unfold hitB at hn
      cases q1 : (x.atPhase == ph) with
      | false =>
       have q1' : (x.atPhase != ph) = true := by unfold bne; rw [q1]; rfl
       refine go1 (jn @f1 (jn @zs (jn @p1 @q1'))) ?_
       refine runs_cond rfl (fun hc => ?_) (fun hc => by cases hc)
       refine go1 @r6 ?_
       exact ⟨l.length - (i + 1), by omega, i + 1, hi1, hA2, rfl, rfl⟩
      | true =>
       have q1' : (x.atPhase != ph) = false := by unfold bne; rw [q1]; rfl
       rw [q1, Bool.true_and] at hn
       have q2' : (x.atSet != st) = true := by unfold bne; rw [hn]; rfl
       refine go1 (jn @f1 (jn @zs (jn @p1 (jn @q1' (jn @p2 @q2'))))) ?_
       refine runs_cond rfl (fun hc => ?_) (fun hc => by cases hc)
       refine go1 @r6 ?_
       exact ⟨l.length - (i + 1), by omega, i + 1, hi1, hA2, rfl, rfl⟩
     ·refine go0 ?_
      exact x_leaves (leaves_lst rfl rfl (by
       obtain ⟨Lv, rfl⟩ := hA
       unfold finMem
       rw [if_pos (by simp)]
       simp))
    ·have hpos : 0 < L.length := by cases L with | nil => exact absurd rfl h0 | cons a b => simp
     have hpos' : 0 < (rowsN L).length := by rw [rowsN_len]; exact hpos
     repeat (first | refine x_seq ?_ | refine x_block ?_ | refine xn_normal ?_ | refine xi_normal ?_ | refine xn_exit ?_ | refine xi_exit ?_ | refine xi_other (by decide) ?_ | refine xn_ret ?_ | refine xi_ret ?_ | refine x_skip ?_ | refine x_exit ?_ | refine x_ret ?_)
     refine x_region (kp := kpNodes) mixed hC ?_
     refine go0 ?_
     repeat (first | refine x_seq ?_ | refine x_block ?_ | refine xn_normal ?_ | refine xi_normal ?_ | refine xn_exit ?_ | refine xi_exit ?_ | refine xi_other (by decide) ?_ | refine xn_ret ?_ | refine xi_ret ?_ | refine x_skip ?_ | refine x_exit ?_ | refine x_ret ?_)
     refine x_ops (l2 := kpNodes 1) ?_
     refine gox0 hC ?_
     refine xops_step (xs_appendNew rfl rfl (by decide) rfl rfl rfl rfl appNodes rfl rfl hpos' (by rw [rowsN_len]; unfold lim; omega) fun b cap vs hcap hb hvs => ?_)
     rw [rowsN_len] at hcap
     refine gox0 hC ?_
     repeat (first | refine x_seq ?_ | refine x_block ?_ | refine xn_normal ?_ | refine xi_normal ?_ | refine xn_exit ?_ | refine xi_exit ?_ | refine xi_other (by decide) ?_ | refine xn_ret ?_ | refine xi_ret ?_ | refine x_skip ?_ | refine x_exit ?_ | refine x_ret ?_)
     refine x_region (kp := kpNodes) mixed hC ?_
     refine go0 ?_
     repeat (first | refine x_seq ?_ | refine x_block ?_ | refine xn_normal ?_ | refine xi_normal ?_ | refine xn_exit ?_ | refine xi_exit ?_ | refine xi_other (by decide) ?_ | refine xn_ret ?_ | refine xi_ret ?_ | refine x_skip ?_ | refine x_exit ?_ | refine x_ret ?_)
     refine x_loop (fun k e m' F => ∃ (i : Nat), i ≤ l.length ∧ Above m m' ∧ F = [(b, XOb.arr ((rowsN (nodesTo l c ph st L i)).flatten ++ vs.map .v))] ∧ k = l.length - i ∧
      e = [(1, AV.v (.int .i64 ph)), (2, .v (.int .i64 st)), (3, .lst g2 5 (rowsAx l)), (4, .lst g3 1 (rowsI c)), (11, .v (rawSl b 0 (rowsN L).length cap)), (12, .v (.int .i64 (i : Int)))]) (k := l.length) ⟨0, Nat.zero_le _, above_self m, rfl, rfl, rfl⟩ ?_
     rintro k e m' F ⟨i, hi0, hA, rfl, rfl, rfl⟩
     repeat (first | refine x_seq ?_ | refine x_block ?_ | refine xn_normal ?_ | refine xi_normal ?_ | refine xn_exit ?_ | refine xi_exit ?_ | refine xi_other (by decide) ?_ | refine xn_ret ?_ | refine xi_ret ?_ | refine x_skip ?_ | refine x_exit ?_ | refine x_ret ?_)
     refine x_region (kp := kpNodes) mixed hC ?_
     refine go0 ?_
     repeat (first | refine x_seq ?_ | refine x_block ?_ | refine xn_normal ?_ | refine xi_normal ?_ | refine xn_exit ?_ | refine xi_exit ?_ | refine xi_other (by decide) ?_ | refine xn_ret ?_ | refine xi_ret ?_ | refine x_skip ?_ | refine x_exit ?_ | refine x_ret ?_)
     refine x_cond rfl (fun hc => ?_) (fun hc => ?_)
     ·have hi1 : i < l.length := by have := of_decide_eq_true hc; omega
      have f1 := atAx (g := g2) (kk := .i64) hi1
      have f4 := atInts (g := g3) (kk := .i64) (l := c) (i := i) (by omega)
      have hplx := hpl i hi1
      obtain ⟨hc0, hc1⟩ := hch i hi1
      have r6 := next_i64 (i := i) (by omega)
      have hN : nodesTo l c ph st L (i + 1) = putAx ph st (l.getD i ax0) (valC l c i) (nodesTo l c ph st L i) := rfl
      have hV : valC l c i = (l.getD i ax0).vals.getD (c.getD i 0).toNat 0 := rfl
      have hLl := nodesTo_len l c ph st L i
      generalize valC l c i = v at hN hV
      generalize l.getD i ax0 = x at f1 hplx hc1 hN hV
      generalize hL2 : nodesTo l c ph st L (i + 1) = L2 at hN
      generalize nodesTo l c ph st L i = L1 at hN hLl ⊢
      have zs : evStore Try.prog (m'.push zeroPl) 50 (.ptr m'.vars.length 0) (.agg [.v (.int .i64 x.atPhase), .v (.int .i64 x.atSet), .v (.int .i64 x.atNode), .v (.int .i64 x.atField)]) = some (m'.push x.pl.row) := zsPl (x := x.pl)
      have hA2 := above_push (cs := x.pl.row) hA
      have hv : (m'.push x.pl.row).var m'.vars.length = some x.pl.row := push_var
      generalize m'.push x.pl.row = m2 at zs hA2 hv
      have p1 : evLoad Try.prog m2 3 (.ptr m'.vars.length 0) = some (iv x.atPhase) := lpPlPhase hv
      have p2 : evLoad Try.prog m2 3 (.ptr m'.vars.length 1) = some (iv x.atSet) := lpPlSet hv
      have p3 : evLoad Try.prog m2 3 (.ptr m'.vars.length 2) = some (iv x.atNode) := lpPlNode hv
      have p4 : evLoad Try.prog m2 3 (.ptr m'.vars.length 3) = some (iv x.atField) := lpPlField hv
      cases q1 : (x.atPhase == ph) with
      | false =>
       have q1' : (x.atPhase != ph) = true := by unfold bne; rw [q1]; rfl
       have hE : L2 = L1 := by rw [hN]; simp [putAx, hitB, q1]
       repeat (first | refine x_seq ?_ | refine x_block ?_ | refine xn_normal ?_ | refine xi_normal ?_ | refine xn_exit ?_ | refine xi_exit ?_ | refine xi_other (by decide) ?_ | refine xn_ret ?_ | refine xi_ret ?_ | refine x_skip ?_ | refine x_exit ?_ | refine x_ret ?_)
       refine x_region (kp := kpNodes) mixed hC ?_
       refine go1 (jn @f1 @zs) ?_
       repeat (first | refine x_seq ?_ | refine x_block ?_ | refine xn_normal ?_ | refine xi_normal ?_ | refine xn_exit ?_ | refine xi_exit ?_ | refine xi_other (by decide) ?_ | refine xn_ret ?_ | refine xi_ret ?_ | refine x_skip ?_ | refine x_exit ?_ | refine x_ret ?_)
       refine x_region (kp := kpNodes) mixed hC ?_
       refine go1 (jn @p1 @q1') ?_
       repeat (first | refine x_seq ?_ | refine x_block ?_ | refine xn_normal ?_ | refine xi_normal ?_ | refine xn_exit ?_ | refine xi_exit ?_ | refine xi_other (by decide) ?_ | refine xn_ret ?_ | refine xi_ret ?_ | refine x_skip ?_ | refine x_exit ?_ | refine x_ret ?_)
       refine x_cond rfl (fun hc => ?_) (fun hc => by cases hc)
       repeat (first | refine x_seq ?_ | refine x_block ?_ | refine xn_normal ?_ | refine xi_normal ?_ | refine xn_exit ?_ | refine xi_exit ?_ | refine xi_other (by decide) ?_ | refine xn_ret ?_ | refine xi_ret ?_ | refine x_skip ?_ | refine x_exit ?_ | refine x_ret ?_)
       refine x_region (kp := kpNodes) mixed hC ?_
       refine go1 @r6 ?_
       repeat (first | refine x_seq ?_ | refine x_block ?_ | refine xn_normal ?_ | refine xi_normal ?_ | refine xn_exit ?_ | refine xi_exit ?_ | refine xi_other (by decide) ?_ | refine xn_ret ?_ | refine xi_ret ?_ | refine x_skip ?_ | refine x_exit ?_ | refine x_ret ?_)
       exact ⟨l.length - (i + 1), by omega, i + 1, hi1, hA2, by rw [hL2, hE], rfl, rfl⟩
      | true =>
       have q1' : (x.atPhase != ph) = false := by unfold bne; rw [q1]; rfl
       cases q2 : (x.atSet == st) with
       | false =>
        have q2' : (x.atSet != st) = true := by unfold bne; rw [q2]; rfl
        have hE : L2 = L1 := by rw [hN]; simp [putAx, hitB, q2]
        repeat (first | refine x_seq ?_ | refine x_block ?_ | refine xn_normal ?_ | refine xi_normal ?_ | refine xn_exit ?_ | refine xi_exit ?_ | refine xi_other (by decide) ?_ | refine xn_ret ?_ | refine xi_ret ?_ | refine x_skip ?_ | refine x_exit ?_ | refine x_ret ?_)
        refine x_region (kp := kpNodes) mixed hC ?_
        refine go1 (jn @f1 @zs) ?_
        repeat (first | refine x_seq ?_ | refine x_block ?_ | refine xn_normal ?_ | refine xi_normal ?_ | refine xn_exit ?_ | refine xi_exit ?_ | refine xi_other (by decide) ?_ | refine xn_ret ?_ | refine xi_ret ?_ | refine x_skip ?_ | refine x_exit ?_ | refine x_ret ?_)
        refine x_region (kp := kpNodes) mixed hC ?_
        refine go1 (jn @p1 (jn @q1' (jn @p2 @q2'))) ?_
        repeat (first | refine x_seq ?_ | refine x_block ?_ | refine xn_normal ?_ | refine xi_normal ?_ | refine xn_exit ?_ | refine xi_exit ?_ | refine xi_other (by decide) ?_ | refine xn_ret ?_ | refine xi_ret ?_ | refine x_skip ?_ | refine x_exit ?_ | refine x_ret ?_)
        refine x_cond rfl (fun hc => ?_) (fun hc => by cases hc)
        repeat (first | refine x_seq ?_ | refine x_block ?_ | refine xn_normal ?_ | refine xi_normal ?_ | refine xn_exit ?_ | refine xi_exit ?_ | refine xi_other (by decide) ?_ | refine xn_ret ?_ | refine xi_ret ?_ | refine x_skip ?_ | refine x_exit ?_ | refine x_ret ?_)
        refine x_region (kp := kpNodes) mixed hC ?_
        refine go1 @r6 ?_
        repeat (first | refine x_seq ?_ | refine x_block ?_ | refine xn_normal ?_ | refine xi_normal ?_ | refine xn_exit ?_ | refine xi_exit ?_ | refine xi_other (by decide) ?_ | refine xn_ret ?_ | refine xi_ret ?_ | refine x_skip ?_ | refine x_exit ?_ | refine x_ret ?_)
        exact ⟨l.length - (i + 1), by omega, i + 1, hi1, hA2, by rw [hL2, hE], rfl, rfl⟩
       | true =>
        have q2' : (x.atSet != st) = false := by unfold bne; rw [q2]; rfl
        have hh : hitB ph st x = true := by simp [hitB, q1, q2]
        obtain ⟨hx0, hx1⟩ := hplx hh
        obtain ⟨n, hn⟩ := Int.eq_ofNat_of_zero_le hx0
        have hnn : n < (rowsN L).length := by rw [rowsN_len]; omega
        have hn1 : n < L1.length := by rw [hLl]; omega
        have hE : L2 = L1.set n (setF (L1.getD n nd0) x.atField v) := by
         rw [hN]
         unfold putAx
         rw [if_pos hh, hn, Int.toNat_natCast]
        obtain ⟨j, hj⟩ := Int.eq_ofNat_of_zero_le hc0
        have f5 := atInts (g := .no) (kk := .i64) (l := x.vals) (i := j) (by omega)
        rw [hj, Int.toNat_natCast] at hV
        rw [hj] at f4
        rw [← hV] at f5
        have p3' : evLoad Try.prog m2 3 (.ptr m'.vars.length 2) = some (.v (.int .i64 (n : Int))) := by rw [← hn]; exact p3
        have hlen1 : L1.length * 7 ≤ ((rowsN L1).flatten ++ vs.map AV.v).length := by rw [List.length_append, flat_len _ (rowsN_row L1), rowsN_len]; exact Nat.le_add_right ..
        have hft1 : 0 + n * 7 + 1 + 1 ≤ ((rowsN L1).flatten ++ vs.map AV.v).length := by omega
        have hft2 : 0 + n * 7 + 2 + 1 ≤ ((rowsN L1).flatten ++ vs.map AV.v).length := by omega
        have hft3 : 0 + n * 7 + 3 + 1 ≤ ((rowsN L1).flatten ++ vs.map AV.v).length := by omega
        repeat (first | refine x_seq ?_ | refine x_block ?_ | refine xn_normal ?_ | refine xi_normal ?_ | refine xn_exit ?_ | refine xi_exit ?_ | refine xi_other (by decide) ?_ | refine xn_ret ?_ | refine xi_ret ?_ | refine x_skip ?_ | refine x_exit ?_ | refine x_ret ?_)
        refine x_region (kp := kpNodes) mixed hC ?_
        refine go1 (jn @f1 @zs) ?_
        repeat (first | refine x_seq ?_ | refine x_block ?_ | refine xn_normal ?_ | refine xi_normal ?_ | refine xn_exit ?_ | refine xi_exit ?_ | refine xi_other (by decide) ?_ | refine xn_ret ?_ | refine xi_ret ?_ | refine x_skip ?_ | refine x_exit ?_ | refine x_ret ?_)
        refine x_region (kp := kpNodes) mixed hC ?_
        refine go1 (jn @p1 (jn @q1' (jn @p2 @q2'))) ?_
        repeat (first | refine x_seq ?_ | refine x_block ?_ | refine xn_normal ?_ | refine xi_normal ?_ | refine xn_exit ?_ | refine xi_exit ?_ | refine xi_other (by decide) ?_ | refine xn_ret ?_ | refine xi_ret ?_ | refine x_skip ?_ | refine x_exit ?_ | refine x_ret ?_)
        refine x_cond rfl (fun hc => by cases hc) (fun hc => ?_)
        repeat (first | refine x_seq ?_ | refine x_block ?_ | refine xn_normal ?_ | refine xi_normal ?_ | refine xn_exit ?_ | refine xi_exit ?_ | refine xi_other (by decide) ?_ | refine xn_ret ?_ | refine xi_ret ?_ | refine x_skip ?_ | refine x_exit ?_ | refine x_ret ?_)
        refine x_lift (kp := kpNodes) mixed hC (runs_ops_drawn_tight (by kernel_rfl) (by kernel_rfl) ?_)
        refine go1 (jn @f1 (jn @f4 @f5)) ?_
        repeat (first | refine x_seq ?_ | refine x_block ?_ | refine xn_normal ?_ | refine xi_normal ?_ | refine xn_exit ?_ | refine xi_exit ?_ | refine xi_other (by decide) ?_ | refine xn_ret ?_ | refine xi_ret ?_ | refine x_skip ?_ | refine x_exit ?_ | refine x_ret ?_)
        refine x_region (kp := kpNodes) mixed hC ?_
        refine go1 @p4 ?_
        repeat (first | refine x_seq ?_ | refine x_block ?_ | refine xn_normal ?_ | refine xi_normal ?_ | refine xn_exit ?_ | refine xi_exit ?_ | refine xi_other (by decide) ?_ | refine xn_ret ?_ | refine xi_ret ?_ | refine x_skip ?_ | refine x_exit ?_ | refine x_ret ?_)
        refine x_cond rfl (fun hc => ?_) (fun hc => ?_)
        ·have he := eq_of_beq hc
         repeat (first | refine x_seq ?_ | refine x_block ?_ | refine xn_normal ?_ | refine xi_normal ?_ | refine xn_exit ?_ | refine xi_exit ?_ | refine xi_other (by decide) ?_ | refine xn_ret ?_ | refine xi_ret ?_ | refine x_skip ?_ | refine x_exit ?_ | refine x_ret ?_)
         refine x_ops (l2 := kpNodes 9) ?_
         refine gox1 hC @p3' ?_
         refine xops_step (xs_indexRaw (t1 := 0) (t2 := 0) rfl rfl ndEl ndSz rfl rfl hnn rfl ?_)
         refine xops_step (xs_fieldRaw (t1 := 0) rfl rfl szPlace.1 szInt rfl rfl ?_)
         refine xops_step (xs_storeRaw (t1 := 0) (t2 := 0) (row := [iv v]) rfl rfl rfl (List.mem_cons_self ..) rfl rfl rfl szInt rfl hft1 ?_)
         refine gox0 hC ?_
         repeat (first | refine x_seq ?_ | refine x_block ?_ | refine xn_normal ?_ | refine xi_normal ?_ | refine xn_exit ?_ | refine xi_exit ?_ | refine xi_other (by decide) ?_ | refine xn_ret ?_ | refine xi_ret ?_ | refine x_skip ?_ | refine x_exit ?_ | refine x_ret ?_)
         refine x_region (kp := kpNodes) mixed hC ?_
         refine go1 @r6 ?_
         repeat (first | refine x_seq ?_ | refine x_block ?_ | refine xn_normal ?_ | refine xi_normal ?_ | refine xn_exit ?_ | refine xi_exit ?_ | refine xi_other (by decide) ?_ | refine xn_ret ?_ | refine xi_ret ?_ | refine x_skip ?_ | refine x_exit ?_ | refine x_ret ?_)
         exact ⟨l.length - (i + 1), by omega, i + 1, hi1, hA2, by
           rw [hL2, hE]
           simp only [setObjs, List.map_cons, List.map_nil, if_true]
           rw [Nat.zero_add, splice_nd (vs.map .v) hn1 (setF (L1.getD n nd0) x.atField v) 1 v (by decide) (by rw [he]; rfl)], rfl, rfl⟩
        ·have he0 : (x.atField == 0) = false := hc
         repeat (first | refine x_seq ?_ | refine x_block ?_ | refine xn_normal ?_ | refine xi_normal ?_ | refine xn_exit ?_ | refine xi_exit ?_ | refine xi_other (by decide) ?_ | refine xn_ret ?_ | refine xi_ret ?_ | refine x_skip ?_ | refine x_exit ?_ | refine x_ret ?_)
         refine x_region (kp := kpNodes) mixed hC ?_
         refine go1 @p4 ?_
         repeat (first | refine x_seq ?_ | refine x_block ?_ | refine xn_normal ?_ | refine xi_normal ?_ | refine xn_exit ?_ | refine xi_exit ?_ | refine xi_other (by decide) ?_ | refine xn_ret ?_ | refine xi_ret ?_ | refine x_skip ?_ | refine x_exit ?_ | refine x_ret ?_)
         refine x_cond rfl (fun hc => ?_) (fun hc => ?_)
         ·have he := eq_of_beq hc
          repeat (first | refine x_seq ?_ | refine x_block ?_ | refine xn_normal ?_ | refine xi_normal ?_ | refine xn_exit ?_ | refine xi_exit ?_ | refine xi_other (by decide) ?_ | refine xn_ret ?_ | refine xi_ret ?_ | refine x_skip ?_ | refine x_exit ?_ | refine x_ret ?_)
          refine x_ops (l2 := kpNodes 11) ?_
          refine gox1 hC @p3' ?_
          refine xops_step (xs_indexRaw (t1 := 0) (t2 := 0) rfl rfl ndEl ndSz rfl rfl hnn rfl ?_)
          refine xops_step (xs_fieldRaw (t1 := 0) rfl rfl szPlace.2.1 szInt rfl rfl ?_)
          refine xops_step (xs_storeRaw (t1 := 0) (t2 := 0) (row := [iv v]) rfl rfl rfl (List.mem_cons_self ..) rfl rfl rfl szInt rfl hft2 ?_)
          refine gox0 hC ?_
          repeat (first | refine x_seq ?_ | refine x_block ?_ | refine xn_normal ?_ | refine xi_normal ?_ | refine xn_exit ?_ | refine xi_exit ?_ | refine xi_other (by decide) ?_ | refine xn_ret ?_ | refine xi_ret ?_ | refine x_skip ?_ | refine x_exit ?_ | refine x_ret ?_)
          refine x_region (kp := kpNodes) mixed hC ?_
          refine go1 @r6 ?_
          repeat (first | refine x_seq ?_ | refine x_block ?_ | refine xn_normal ?_ | refine xi_normal ?_ | refine xn_exit ?_ | refine xi_exit ?_ | refine xi_other (by decide) ?_ | refine xn_ret ?_ | refine xi_ret ?_ | refine x_skip ?_ | refine x_exit ?_ | refine x_ret ?_)
          exact ⟨l.length - (i + 1), by omega, i + 1, hi1, hA2, by
           rw [hL2, hE]
           simp only [setObjs, List.map_cons, List.map_nil, if_true]
           rw [Nat.zero_add, splice_nd (vs.map .v) hn1 (setF (L1.getD n nd0) x.atField v) 2 v (by decide) (by rw [he]; rfl)], rfl, rfl⟩
         ·have he1 : (x.atField == 1) = false := hc
          repeat (first | refine x_seq ?_ | refine x_block ?_ | refine xn_normal ?_ | refine xi_normal ?_ | refine xn_exit ?_ | refine xi_exit ?_ | refine xi_other (by decide) ?_ | refine xn_ret ?_ | refine xi_ret ?_ | refine x_skip ?_ | refine x_exit ?_ | refine x_ret ?_)
          refine x_ops (l2 := kpNodes 12) ?_
          refine gox1 hC @p3' ?_
          refine xops_step (xs_indexRaw (t1 := 0) (t2 := 0) rfl rfl ndEl ndSz rfl rfl hnn rfl ?_)
          refine xops_step (xs_fieldRaw (t1 := 0) rfl rfl szPlace.2.2 szInt rfl rfl ?_)
          refine xops_step (xs_storeRaw (t1 := 0) (t2 := 0) (row := [iv v]) rfl rfl rfl (List.mem_cons_self ..) rfl rfl rfl szInt rfl hft3 ?_)
          refine gox0 hC ?_
          repeat (first | refine x_seq ?_ | refine x_block ?_ | refine xn_normal ?_ | refine xi_normal ?_ | refine xn_exit ?_ | refine xi_exit ?_ | refine xi_other (by decide) ?_ | refine xn_ret ?_ | refine xi_ret ?_ | refine x_skip ?_ | refine x_exit ?_ | refine x_ret ?_)
          refine x_region (kp := kpNodes) mixed hC ?_
          refine go1 @r6 ?_
          repeat (first | refine x_seq ?_ | refine x_block ?_ | refine xn_normal ?_ | refine xi_normal ?_ | refine xn_exit ?_ | refine xi_exit ?_ | refine xi_other (by decide) ?_ | refine xn_ret ?_ | refine xi_ret ?_ | refine x_skip ?_ | refine x_exit ?_ | refine x_ret ?_)
          exact ⟨l.length - (i + 1), by omega, i + 1, hi1, hA2, by
           rw [hL2, hE]
           simp only [setObjs, List.map_cons, List.map_nil, if_true]
           rw [Nat.zero_add, splice_nd (vs.map .v) hn1 (setF (L1.getD n nd0) x.atField v) 3 v (by decide) (by unfold setF; rw [if_neg (by simpa using he0), if_neg (by simpa using he1)]; rfl)], rfl, rfl⟩
     ·have hi1 : i = l.length := by have := of_decide_eq_false hc; omega
      subst hi1
      have hfz : Fz [(b, XOb.arr ((rowsN (nodesTo l c ph st L l.length)).flatten ++ vs.map .v))] (.v (rawSl b 0 (rowsN L).length cap)) (.lst .no 7 (rowsN (nodesTo l c ph st L l.length))) :=
       fz_rows (List.mem_cons_self ..) (by rw [rowsN_len, rowsN_len, nodesTo_len]) (by rw [rowsN_len]; exact hcap) (rowsN_ok _)
      repeat (first | refine x_seq ?_ | refine x_block ?_ | refine xn_normal ?_ | refine xi_normal ?_ | refine xn_exit ?_ | refine xi_exit ?_ | refine xi_other (by decide) ?_ | refine xn_ret ?_ | refine xi_ret ?_ | refine x_skip ?_ | refine x_exit ?_ | refine x_ret ?_)
      refine x_rest (FzEnv.cons _ (.same _) (FzEnv.cons _ (.same _) (FzEnv.cons _ (.same _) (FzEnv.cons _ (.same _) (FzEnv.cons _ hfz (FzEnv.cons _ (.same _) (FzEnv.cons _ (.same _) .nil))))))) ?_
      repeat (first | refine x_seq ?_ | refine x_block ?_ | refine xn_normal ?_ | refine xi_normal ?_ | refine xn_exit ?_ | refine xi_exit ?_ | refine xi_other (by decide) ?_ | refine xn_ret ?_ | refine xi_ret ?_ | refine x_skip ?_ | refine x_exit ?_ | refine x_ret ?_)
      refine x_region (kp := kpNodes) mixed hC ?_
      refine go0 ?_
      repeat (first | refine x_seq ?_ | refine x_block ?_ | refine xn_normal ?_ | refine xi_normal ?_ | refine xn_exit ?_ | refine xi_exit ?_ | refine xi_other (by decide) ?_ | refine xn_ret ?_ | refine xi_ret ?_ | refine x_skip ?_ | refine x_exit ?_ | refine x_ret ?_)
      exact x_leaves (leaves_lst rfl rfl (above_fin hA))
   ·cases h
  ·cases h
 ·cases h
end
end Go.Proofs.Ytmockbddhhmmeaa.Ev

/- Lists of bools. -/
import Derived.Test.YtojaokhkbmiidaaGreatMbehb2
import Derived.Test.YtojaokhkbmiidaaGreatMbehb8
import Derived.Test.YtojaokhkbmiidaaGreatMbehb3
import Derived.Test.YtojaokhkbmiidaaGreatMbehb5
namespace Go.Proofs.YtojaokhkbmiidaaGreat.Ev
open Go Go.Proofs
set_option maxRecDepth 10000
set_option maxHeartbeats 8000000
set_option linter.unusedVariables false
set_option linter.unusedSimpArgs false
section
attribute [local irreducible] Next Inside Runs Ops table
def bC (b : List Bool) : List AV := b.map fun x => .v (.bool x)
def unBC : List AV → Option (List Bool)
 | [] => some []
 | .v (.bool x) :: l => (unBC l).map (x :: ·)
 | _ => none
theorem unBC_bC : ∀ b : List Bool, unBC (bC b) = some b
 | [] => rfl
 | x :: l => by have := unBC_bC l; simp only [bC, List.map_cons, unBC] at *; rw [this]; rfl
theorem unBC_some : ∀ {c : List AV} {b : List Bool}, unBC c = some b → c = bC b
 | [], b, h => by cases h; rfl
 | .v (.bool x) :: l, b, h => by
  simp only [unBC, Option.map_eq_some_iff] at h
  obtain ⟨b', h1, rfl⟩ := h
  rw [unBC_some h1]; rfl
theorem bC_len (b : List Bool) : (bC b).length = b.length := List.length_map ..
theorem szBool : tSize Tryz.prog 4 = some 1 := by kernel_rfl
theorem elBools : tElem Tryz.prog 63 = some 4 := by kernel_rfl
theorem naBools : tArr Tryz.prog 63 = none := by kernel_rfl
theorem vsAtB {r n i : Nat} {kk : IntKind} (hi : i < n) : evIndexAddr Tryz.prog 63 (.vs r 0 1 n n) (.v (.int kk (i : Int))) = some (.ptr r i) := by
 unfold evIndexAddr
 simp only [naBools, elBools, szBool]
 rw [if_pos ⟨trivial, by omega, by omega⟩, Int.toNat_natCast]
 simp
def setB (m : Mem) (r : Nat) (b : List Bool) : Mem := { m with vars := m.vars.set r (some (bC b)) }
theorem splice_setB : ∀ (l : List Bool) (i : Nat) (v : Bool), i < l.length → splice (bC l) i [.v (.bool v)] = bC (l.set i v)
 | [], i, v, h => by simp at h
 | a :: l, 0, v, _ => by simp [splice, bC]
 | a :: l, i + 1, v, h => by
  have := splice_setB l i v (by simpa using h)
  simp only [splice, bC, List.map_cons, List.length_cons, List.length_nil, List.take_succ_cons, List.set_cons_succ] at this ⊢
  rw [show i + 1 + (0 + 1) = (i + (0 + 1)) + 1 by omega, List.drop_succ_cons]
  simpa using this
theorem storeB {m : Mem} {r i : Nat} {b : List Bool} {v : Bool} (hv : m.var r = some (bC b)) (hi : i < b.length) : evStore Tryz.prog m 4 (.ptr r i) (.v (.bool v)) = some (setB m r (b.set i v)) := by
 unfold evStore
 have h1 : cellsOf (.v (.bool v)) = some [.v (.bool v)] := by simp [cellsOf, flat, okCell, one]
 simp only [h1, szBool, hv]
 rw [if_pos ⟨rfl, by rw [bC_len]; exact hi, rfl⟩, splice_setB b i v hi]
 rfl
theorem setB_var {m : Mem} {r : Nat} {b : List Bool} (h : r < m.vars.length) : (setB m r b).var r = some (bC b) := var_of (by show (m.vars.set r _)[r]? = _; rw [List.getElem?_set_self h])
theorem setB_setB {m : Mem} {r : Nat} {b c : List Bool} : setB (setB m r b) r c = setB m r c := by
 unfold setB
 rw [List.set_set]
theorem setB_len {m : Mem} {r : Nat} {b : List Bool} : (setB m r b).vars.length = m.vars.length := by unfold setB; simp
theorem setB_self {m : Mem} {r : Nat} {b : List Bool} (h : m.var r = some (bC b)) : setB m r b = m := by
 unfold setB
 obtain ⟨h1, h2⟩ := var_lt h
 rw [List.getElem?_eq_some_iff] at h2
 obtain ⟨h3, h4⟩ := h2
 rw [← h4, List.set_getElem_self]
theorem fin_setB {m : Mem} {r : Nat} {b : List Bool} : finMem m (setB m r b) = setB m r b := by
 unfold finMem setB
 have e : (m.vars.set r (some (bC b))).take m.vars.length = m.vars.set r (some (bC b)) := List.take_of_length_le (by simp)
 simp only [e]
 split
 ·rename_i h
  rw [e] at h
  simp only [List.take_length, h]
 ·rfl
def rowsBo (b : List Bool) : List (List AV) := b.map fun x => [.v (.bool x)]
theorem rowsBo_len (b : List Bool) : (rowsBo b).length = b.length := List.length_map ..
theorem rowsBo_get {l : List Bool} {i : Nat} (hi : i < l.length) : (rowsBo l)[i]? = some [.v (.bool (l.getD i false))] := by
 simp [rowsBo, List.getD, List.getElem?_eq_getElem hi]
theorem atBools {g : Grow} {kk : IntKind} {l : List Bool} {i : Nat} (hi : i < l.length) : evIndexAddr Tryz.prog 63 (.lst g 1 (rowsBo l)) (.v (.int kk (i : Int))) = some (.eptr [.v (.bool (l.getD i false))]) := at_list elBools naBools szBool (rowsBo_get hi)
theorem ldBool {m : Mem} {x : Bool} : evLoad Tryz.prog m 4 (.eptr [.v (.bool x)]) = some (.v (.bool x)) := by kernel_rfl
theorem makeBools {n : Nat} (h : n ≤ 4294967296) : evMakeSlice Tryz.prog 63 (.v (.int .i64 (n : Int))) (.v (.int .i64 (n : Int))) = some (bC (List.replicate n false), 1, n) := by
 have hb : tBytes Tryz.prog 4 = some 1 := by kernel_rfl
 have hz : zeroCells Tryz.prog 4 = some [.v (.bool false)] := by kernel_rfl
 unfold evMakeSlice
 simp only [elBools, szBool, hb, hz]
 rw [if_pos ⟨rfl, trivial, by omega, by omega, by omega⟩, Int.toNat_natCast]
 simp [bC]
theorem newBools {m : Mem} {l : List Bool} : newVar m m.vars.length (bC l) = some (m.push (bC l)) := newVar_push (by
 rw [List.all_eq_true]
 intro c hc
 obtain ⟨n, _, rfl⟩ := List.mem_map.1 hc
 rfl)
theorem cells_bC : ∀ b : List Bool, (bC b).mapM rowCell = some (bC b)
 | [] => rfl
 | x :: b => by
  have := cells_bC b
  unfold bC at this ⊢
  rw [List.map_cons, List.mapM_cons]
  simp only [show rowCell (AV.v (Value.bool x)) = some (AV.v (Value.bool x)) from rfl, this, Option.pure_def, Option.bind_eq_bind, Option.bind_some]
theorem setB_push {m : Mem} {b c : List Bool} : setB (m.push (bC b)) m.vars.length c = m.push (bC c) := by
 unfold setB Mem.push
 simp
theorem leaves_bools {P : Program} {fn : Func} {m : Mem} {e : Env} {t : Tmp} {b : List Bool} {n : Nat} (h : fn.results = #[.tmp t]) (hg : Ev.get e t = .vs m.vars.length 0 1 n n) (hn : n = b.length) :
  Leaves P false fn m (.lst .no 1 (rowsBo b), m) .ret e (m.push (bC b)) := by
 show evRet P false fn m e _ = _
 unfold evRet
 rw [h]
 simp only [evResult, hg, Option.bind_some, growRes, resAV, Nat.lt_irrefl, if_false, push_var, hn, bC_len, and_self, if_true, cells_bC, Option.map_some, fin_push]
 simp [chunk1, bC, rowsBo]
/-- A list of bools that was made within. -/
theorem leaves_boolsA {P : Program} {fn : Func} {m m' : Mem} {e : Env} {t : Tmp} {b : List Bool} {r n : Nat} (h : fn.results = #[.tmp t]) (hg : Ev.get e t = .vs r 0 1 n n) (hr : m.vars.length ≤ r) (hv : m'.var r = some (bC b)) (hn : n = b.length) (hm : finMem m m' = m) :
  Leaves P false fn m (.lst .no 1 (rowsBo b), m) .ret e m' := by
 show evRet P false fn m e m' = _
 unfold evRet
 rw [h]
 have hnr : ¬ r < m.vars.length := by omega
 simp only [evResult, hg, Option.bind_some, growRes, resAV, hnr, if_false, hv, hn, bC_len, and_self, if_true, cells_bC, Option.map_some, hm]
 simp [chunk1, bC, rowsBo]
end
section
attribute [local irreducible] Next Inside Runs Ops table
attribute [local go_sem] szStr szInt szBool Option.getD_some isNil evStr iv loadStr loadInt rowsS_len rowsPh_len rowsBo_len rowsI_len mapRc cellsRc newRc fpRcGroups fpRcPhases fePhFrozen lePhFrozen ldBool mkInts1
def frozenAt (R : Rc) (p : Int) : List Bool := if 0 ≤ p ∧ p < (R.phases.length : Int) then R.groups.map fun g => among (R.phases.getD p.toNat ph0).frozen g else []
def frozenPG : List AV → Mem → Option (AV × Mem)
 | [.agg cs, .v (.int .i64 p)], m =>
  match unRc cs with
  | some R => if R.small then some (.lst .no 1 (rowsBo (frozenAt R p)), m) else none
  | none => none
 | _, _ => none
theorem frozenPG_at {R : Rc} {p : Int} {m : Mem} (h : R.small) : frozenPG [.agg R.row, .v (.int .i64 p)] m = some (.lst .no 1 (rowsBo (frozenAt R p)), m) := by
 simp only [frozenPG, unRc_row]
 rw [if_pos h]
theorem setB_var_ne {m : Mem} {r q : Nat} {b : List Bool} {cs : List AV} (hq : q ≠ r) (hv : m.var q = some cs) : (setB m r b).var q = some cs := var_set_ne hq hv
theorem above_setB {m m' : Mem} {r : Nat} {b : List Bool} (h : Above m m') (hr : m.vars.length ≤ r) : Above m (setB m' r b) := by
 obtain ⟨L, rfl⟩ := h
 refine ⟨L.set (r - m.vars.length) (some (bC b)), ?_⟩
 unfold setB
 simp only [List.set_append]
 rw [if_neg (by omega)]
theorem set_fill {α : Type} {d x : α} {l : List α} {i : Nat} (hi : i < l.length) (hx : l.getD i d = x) (n : Nat) (hn : i < n) (z : α) : (l.take i ++ List.replicate (n - i) z).set i x = l.take (i + 1) ++ List.replicate (n - (i + 1)) z := by
 have hl : (l.take i).length = i := by rw [List.length_take]; omega
 obtain ⟨k, hk⟩ : ∃ k, n - i = k + 1 := ⟨n - i - 1, by omega⟩
 rw [List.set_append, if_neg (by omega), hl, Nat.sub_self, hk, List.replicate_succ, List.set_cons_zero, take_next (d := d) hi, hx, List.append_assoc]
 rw [show n - (i + 1) = k by omega]
 rfl
def kpFrozenP : Nat → Option (List Nat) := fun
 | 0 => some [1, 2]
 | 1 => some [1, 2, 16]
 | 2 => some [4]
 | 3 => some [1, 2, 5]
 | 4 => some [1, 2, 5, 22, 23, 24]
 | 5 => some [1, 2, 5, 22, 23, 24, 25]
 | 6 => some [1, 2, 5, 6, 7, 22, 23, 24]
 | 7 => some [1, 2, 5, 22, 23, 24]
 | 8 => some [1, 2, 5, 22, 23, 24]
 | 9 => some [4]
 | _ => none
attribute [go_sem] kpFrozenP
def tab_frozenP_ok : List (FuncId × (List AV → Mem → Option (AV × Mem))) := [(132, amongG)]
theorem frozenP_ok : FunOk Tryz.prog 103 frozenPG := by
 have hC := table_ok (P := Tryz.prog) (l := tab_frozenP_ok) (table_more among_ok table_nil)
 have t1 := fun args mm => table_at (l := tab_frozenP_ok) (f := 132) (args := args) (m := mm) rfl
 refine fun_ok mixed hC Tryz.func103 rfl kpFrozenP false rfl fun args m r h => ?_
 unfold frozenPG at h
 split at h
 ·rename_i cs p
  split at h
  ·rename_i R hR
   obtain rfl := unRc_some hR
   split at h
   ·rename_i hsm
    simp only [Option.some.injEq] at h
    subst h
    refine ⟨Nat.le_of_ble_eq_true rfl, ?_⟩
    refine en ?_
    have hG64 := hsm.2.1
    have hA := above_push (cs := R.row) (above_self m)
    have hv : (m.push R.row).var m.vars.length = some R.row := push_var
    have nr := newRc (m := m) (x := R)
    have hlen : (m.push R.row).vars.length = m.vars.length + 1 := push_len
    generalize m.push R.row = m1 at hA hv nr hlen
    have l1 := lpRcPhases hv
    have l2 := lpRcGroups hv
    unfold frozenAt
    by_cases hp : 0 ≤ p ∧ p < (R.phases.length : Int)
    ·rw [if_pos hp]
     obtain ⟨q, rfl⟩ := Int.eq_ofNat_of_zero_le hp.1
     rw [Int.toNat_natCast]
     have hq : q < R.phases.length := by omega
     have b0 : decide ((q : Int) < 0) = false := decide_eq_false (by omega)
     have b1 : decide ((q : Int) ≥ (R.phases.length : Int)) = false := decide_eq_false (by omega)
     have mk := makeBools (n := R.groups.length) (by omega)
     have nv := newBools (m := m1) (l := List.replicate R.groups.length false)
     have f1 := atPh (g := .no) (kk := .i64) hq
     have hfl := (hsm.phase q).1
     have hfz : ∀ (g : ByteArray) mm, amongG [.lst .no 1 (rowsS (R.phases.getD q ph0).frozen), .v (.string g)] mm = some (.v (.bool (among (R.phases.getD q ph0).frozen g)), mm) := fun g mm => amongG_eq (by omega)
     generalize R.phases.getD q ph0 = P at f1 hfz
     have hA2 := above_push (cs := bC (List.replicate R.groups.length false)) hA
     have hv2 := push_old (cs' := bC (List.replicate R.groups.length false)) hv
     have hb2 : (m1.push (bC (List.replicate R.groups.length false))).var m1.vars.length = some (bC (List.replicate R.groups.length false)) := push_var
     have hlt : m1.vars.length < (m1.push (bC (List.replicate R.groups.length false))).vars.length := by rw [push_len]; omega
     refine go1 (jn @nr (jn @b0 (jn @l1 @b1))) ?_
     refine runs_cond rfl (fun hc => by cases hc) (fun hc => ?_)
     refine go1 (jn @l2 (jn @mk @nv)) ?_
     have l3 := lpRcGroups hv2
     refine go1 @l3 ?_
     generalize m1.push (bC (List.replicate R.groups.length false)) = m2 at hA2 hv2 hb2 hlt
     have hne : m.vars.length ≠ m1.vars.length := by omega
     have hle : m.vars.length ≤ m1.vars.length := by omega
     generalize m1.vars.length = n2 at hb2 hlt hne hle ⊢
     refine runs_loop (fun k e m' => ∃ (i : Nat), i ≤ R.groups.length ∧ Above m m' ∧ n2 < m'.vars.length ∧ m'.var m.vars.length = some R.row ∧ m'.var n2 = some (bC ((R.groups.map fun g => among P.frozen g).take i ++ List.replicate (R.groups.length - i) false)) ∧ k = R.groups.length - i ∧
      e = [(1, AV.v (.int .i64 (q : Int))), (2, .ptr m.vars.length 0), (5, .vs n2 0 1 R.groups.length R.groups.length), (22, .lst .no 1 (rowsS R.groups)), (23, .v (.int .i64 (R.groups.length : Int))), (24, .v (.int .i64 (i : Int)))]) (k := R.groups.length) ⟨0, Nat.zero_le _, hA2, hlt, hv2, hb2, rfl, rfl⟩ ?_
     rintro k e m' ⟨i, hi0, hA3, hlt3, hv3, hb3, rfl, rfl⟩
     refine go0 ?_
     refine runs_cond rfl (fun hc => ?_) (fun hc => ?_)
     ·have hi1 : i < R.groups.length := by have := of_decide_eq_true hc; omega
      have f2 := atStrs (g := .no) (kk := .i64) hi1
      have l4 := lpRcPhases hv3
      have c1 := fun mm => hfz (R.groups.getD i ⟨#[]⟩) mm
      have f3 := vsAtB (r := n2) (kk := .i64) hi1
      have hget : (R.groups.map fun g => among P.frozen g).getD i false = among P.frozen (R.groups.getD i ⟨#[]⟩) := by simp [List.getD, List.getElem?_eq_getElem hi1]
      have hfill := set_fill (d := false) (l := R.groups.map fun g => among P.frozen g) (i := i) (by rw [List.length_map]; exact hi1) hget R.groups.length hi1 false
      have r6 := next_i64 (i := i) (by omega)
      generalize R.groups.getD i ⟨#[]⟩ = g at f2 c1 hget hfill
      have st := storeB (v := among P.frozen g) hb3 (i := i) (by simp only [List.length_append, List.length_take, List.length_map, List.length_replicate]; omega)
      rw [hfill] at st
      have hv4 := setB_var_ne (b := (R.groups.map fun g => among P.frozen g).take (i + 1) ++ List.replicate (R.groups.length - (i + 1)) false) hne hv3
      have hb4 := setB_var (b := (R.groups.map fun g => among P.frozen g).take (i + 1) ++ List.replicate (R.groups.length - (i + 1)) false) hlt3
      have hA4 := above_setB (b := (R.groups.map fun g => among P.frozen g).take (i + 1) ++ List.replicate (R.groups.length - (i + 1)) false) hA3 hle
      have hlt4 : n2 < (setB m' n2 ((R.groups.map fun g => among P.frozen g).take (i + 1) ++ List.replicate (R.groups.length - (i + 1)) false)).vars.length := by rw [setB_len]; exact hlt3
      refine go1 (jn @f2 (jn @l4 (jn @f1 (jn @t1 (jn @c1 (jn @f3 (jn @st @r6))))))) ?_
      exact ⟨R.groups.length - (i + 1), by omega, i + 1, hi1, hA4, hlt4, hv4, hb4, rfl, rfl⟩
     ·have hi1 : i = R.groups.length := by have := of_decide_eq_false hc; omega
      subst hi1
      rw [Nat.sub_self, List.replicate_zero, List.append_nil, List.take_of_length_le (by rw [List.length_map]; omega)] at hb3
      refine go0 ?_
      exact leaves_boolsA rfl rfl hle hb3 (List.length_map ..).symm (above_fin hA3)
    ·rw [if_neg hp]
     by_cases h0 : p < 0
     ·have b0 : decide (p < 0) = true := decide_eq_true h0
      refine go1 (jn @nr @b0) ?_
      refine runs_cond rfl (fun hc => ?_) (fun hc => by cases hc)
      refine go0 ?_
      exact leaves_lst rfl rfl (above_fin hA)
     ·have b0 : decide (p < 0) = false := decide_eq_false h0
      have b1 : decide (p ≥ (R.phases.length : Int)) = true := decide_eq_true (by omega)
      refine go1 (jn @nr (jn @b0 (jn @l1 @b1))) ?_
      refine runs_cond rfl (fun hc => ?_) (fun hc => by cases hc)
      refine go0 ?_
      exact leaves_lst rfl rfl (above_fin hA)
   ·cases h
  ·cases h
 ·cases h
theorem frozenAt_len {R : Rc} (h : R.small) (p : Int) : (frozenAt R p).length ≤ 64 := by
 unfold frozenAt
 split
 ·rw [List.length_map]; exact h.2.1
 ·simp
def kpTurnsP : Nat → Option (List Nat) := fun
 | 0 => some [1, 2]
 | 1 => some [5, 6]
 | 2 => some [5, 6, 7]
 | 3 => some [6, 7, 17, 18, 19]
 | 4 => some [6, 7, 17, 18, 19, 20]
 | 5 => some [6, 7, 8, 9, 17, 18, 19]
 | 6 => some [6, 7, 8, 17, 18, 19, 35]
 | 7 => some [6, 7, 17, 18, 19]
 | 8 => some [6, 7, 17, 18, 19]
 | 9 => some [4]
 | _ => none
attribute [go_sem] kpTurnsP
end
noncomputable section
attribute [local irreducible] Next Inside Runs Ops table
attribute [local go_sem] szStr szInt Option.getD_some isNil evStr iv loadInt ldBool mapRc cellsRc newRc fpRcPhases rowsPh_len rowsBo_len
def unBo : List (List AV) → Option (List Bool)
 | [] => some []
 | [.v (.bool x)] :: l => (unBo l).map (x :: ·)
 | _ => none
theorem unBo_rows : ∀ b : List Bool, unBo (rowsBo b) = some b
 | [] => rfl
 | x :: l => by have := unBo_rows l; simp only [rowsBo, List.map_cons, unBo] at *; rw [this]; rfl
theorem unBo_some : ∀ {c : List (List AV)} {b : List Bool}, unBo c = some b → c = rowsBo b
 | [], b, h => by cases h; rfl
 | [.v (.bool x)] :: l, b, h => by
  simp only [unBo, Option.map_eq_some_iff] at h
  obtain ⟨b', h1, rfl⟩ := h
  rw [unBo_some h1]; rfl
def boFindG : List AV → Mem → Option (AV × Mem)
 | [.lst _ 1 rows, .v (.bool b)], m =>
  match unBo rows with
  | some l => if l.length ≤ big40 then some (.v (.int .i64 (firstBy (fun x => b == x) l 0)), m) else none
  | none => none
 | _, _ => none
theorem boFindG_at {m : Mem} {g : Grow} {l : List Bool} {b : Bool} (h : l.length ≤ big40) : boFindG [.lst g 1 (rowsBo l), .v (.bool b)] m = some (.v (.int .i64 (firstBy (fun x => b == x) l 0)), m) := by
 simp only [boFindG, unBo_rows]
 rw [if_pos h]
def kp_boFind : Nat → Option (List Nat) := fun _ => some [0, 1, 4, 5, 7, 8, 9, 16]
attribute [go_sem] kp_boFind
theorem boFind_ok : FunOk Tryz.prog 148 boFindG := by
 have hC := table_ok (P := Tryz.prog) (l := []) table_nil
 refine fun_ok mixed hC Tryz.func148 rfl kp_boFind false rfl fun args m r h => ?_
 unfold boFindG at h
 split at h
 ·rename_i g rows b
  split at h
  ·rename_i l hl0
   obtain rfl := unBo_some hl0
   split at h
   ·rename_i hlen
    simp only [Option.some.injEq] at h
    subst h
    refine ⟨Nat.le_of_ble_eq_true rfl, ?_⟩
    refine en ?_
    have hlen' := hlen
    unfold big40 at hlen'
    refine go0 ?_
    refine runs_loop (fun k e m' => ∃ (i : Nat) (x5 x9 x16 : AV), i ≤ l.length ∧ firstBy (fun x => b == x) (l.drop i) i = firstBy (fun x => b == x) l 0 ∧ m = m' ∧ k = l.length - i ∧
     e = [(0, AV.lst g 1 (rowsBo l)), (1, .v (.bool b)), (4, .v (.int .i64 0)), (5, x5), (7, .v (.int .i64 l.length)), (8, .v (.int .i64 (i : Int))), (9, x9), (16, x16)]) (k := l.length) ⟨0, _, _, _, Nat.zero_le _, rfl, rfl, rfl, rfl⟩ ?_
    rintro k e m' ⟨i, x5, x9, x16, hi, hf, rfl, rfl, rfl⟩
    refine go0 ?_
    refine runs_cond rfl (fun hc => ?_) (fun hc => ?_)
    ·have hi1 : i < l.length := by have := of_decide_eq_true hc; omega
     have f1 := atBools (g := g) (kk := .i64) hi1
     refine go1 @f1 ?_
     refine runs_cond rfl (fun hc => ?_) (fun hc => ?_)
     ·rw [by_yes hi1 hc hf]
      refine go0 ?_
      exact leaves_v rfl rfl
     ·have r6 := next_i64 (i := i) (by omega)
      refine go1 @r6 ?_
      exact ⟨l.length - (i + 1), by omega, i + 1, _, _, _, hi1, by_no hi1 hc hf, rfl, rfl, rfl⟩
    ·have hi1 : i = l.length := by have := of_decide_eq_false hc; omega
     subst hi1
     rw [by_end hf]
     refine go0 ?_
     exact leaves_v rfl rfl
   ·cases h
  ·cases h
 ·cases h
def boAnyG : List AV → Mem → Option (AV × Mem)
 | [.lst _ 1 rows, .v (.bool b)], m =>
  match unBo rows with
  | some l => if l.length ≤ big40 then some (.v (.bool (l.any fun x => b == x)), m) else none
  | none => none
 | _, _ => none
theorem boAnyG_at {m : Mem} {g : Grow} {l : List Bool} {b : Bool} (h : l.length ≤ big40) : boAnyG [.lst g 1 (rowsBo l), .v (.bool b)] m = some (.v (.bool (l.any fun x => b == x)), m) := by
 simp only [boAnyG, unBo_rows]
 rw [if_pos h]
def kp_boAny : Nat → Option (List Nat) := fun _ => some [0, 1, 4]
attribute [go_sem] kp_boAny
def tab_boAny_ok : List (FuncId × (List AV → Mem → Option (AV × Mem))) := [(148, boFindG)]
theorem boAny_ok : FunOk Tryz.prog 113 boAnyG := by
 have hC := table_ok (P := Tryz.prog) (l := tab_boAny_ok) (table_more boFind_ok table_nil)
 have t1 := fun args mm => table_at (l := tab_boAny_ok) (f := 148) (args := args) (m := mm) rfl
 refine fun_ok mixed hC Tryz.func113 rfl kp_boAny false rfl fun args m r h => ?_
 unfold boAnyG at h
 split at h
 ·rename_i g rows b
  split at h
  ·rename_i l hl0
   obtain rfl := unBo_some hl0
   split at h
   ·rename_i hlen
    simp only [Option.some.injEq] at h
    subst h
    refine ⟨Nat.le_of_ble_eq_true rfl, ?_⟩
    refine en ?_
    have f1 := fun mm => boFindG_at (m := mm) (g := .no) (b := b) hlen
    have f3 : decide (firstBy (fun x => b == x) l 0 ≥ 0) = l.any (fun x => b == x) := firstBy_any (fun x => b == x) l 0
    refine go1 (jn @t1 (jn @f1 @f3)) ?_
    exact leaves_v rfl rfl
   ·cases h
  ·cases h
 ·cases h
def stillB (R : Rc) (p : Int) : Bool := (frozenAt R p).any fun x => false == x
def lstillTo (R : Rc) : Nat → List Fl
 | 0 => []
 | i + 1 => lstillTo R i ++ (if (!stillB R (i : Int)) = true then [⟨2, (i : Int), 0⟩] else [])
theorem lstillTo_len (R : Rc) : ∀ i, (lstillTo R i).length ≤ i
 | 0 => Nat.le_refl _
 | i + 1 => by
  have := lstillTo_len R i
  rw [lstillTo, List.length_append]
  split
  ·simp only [List.length_cons, List.length_nil]; omega
  ·simp only [List.length_nil]; omega
def lstillG : List AV → Mem → Option (AV × Mem)
 | [.ptr r 0, .agg cs], m =>
  match unRc cs with
  | some R => open Classical in if R.small ∧ lstOk m r 100 then some (.tup [], addL m r (lstillTo R R.phases.length)) else none
  | none => none
 | _, _ => none
theorem lstillG_at {m : Mem} {r : Nat} {R : Rc} (h : R.small) (hr : lstOk m r 100) : lstillG [.ptr r 0, .agg R.row] m = some (.tup [], addL m r (lstillTo R R.phases.length)) := by
 simp only [lstillG, unRc_row]
 rw [if_pos ⟨h, hr⟩]
def kpLStill : Nat → Option (List Nat) := fun
 | 0 => some [0, 3]
 | 1 => some [0, 3, 7, 8]
 | 2 => some [0, 3, 7, 8, 9]
 | 3 => some [0, 3, 4, 7, 8]
 | 4 => some [0, 3, 7, 8]
 | 5 => some [0, 3, 7, 8]
 | _ => none
attribute [go_sem] kpLStill
def tab_lstill_ok : List (FuncId × (List AV → Mem → Option (AV × Mem))) := [(103, frozenPG), (113, boAnyG), (67, lnoteG)]
theorem lstill_ok : FunOk Tryz.prog 60 lstillG := by
 have hC := table_ok (P := Tryz.prog) (l := tab_lstill_ok) (table_more frozenP_ok (table_more boAny_ok (table_more lnote_ok table_nil)))
 have t1 := fun args mm => table_at (l := tab_lstill_ok) (f := 103) (args := args) (m := mm) rfl
 have t2 := fun args mm => table_at (l := tab_lstill_ok) (f := 113) (args := args) (m := mm) rfl
 have t3 := fun args mm => table_at (l := tab_lstill_ok) (f := 67) (args := args) (m := mm) rfl
 refine fun_ok mixed hC Tryz.func60 rfl kpLStill false rfl fun args m r h => ?_
 unfold lstillG at h
 split at h
 ·rename_i r cs
  split at h
  ·rename_i R hR
   obtain rfl := unRc_some hR
   split at h
   ·rename_i hyp
    obtain ⟨hsm, hok⟩ := hyp
    simp only [Option.some.injEq] at h
    subst h
    refine ⟨Nat.le_of_ble_eq_true rfl, ?_⟩
    refine en ?_
    have hr := lstOk_lt hok
    have hP64 := hsm.2.2.1
    have hA := above_push (cs := R.row) (above_self m)
    have hv : (m.push R.row).var m.vars.length = some R.row := push_var
    have nr := newRc (m := m) (x := R)
    generalize m.push R.row = m1 at hA hv nr
    have l1 := lpRcPhases hv
    refine go1 (jn @nr @l1) ?_
    have hne : m.vars.length ≠ r := by omega
    generalize m.vars.length = n1 at hv hne ⊢
    refine runs_loop (fun k e m' => ∃ (i : Nat), i ≤ R.phases.length ∧ Above (addL m r (lstillTo R i)) m' ∧ m'.var n1 = some R.row ∧ k = R.phases.length - i ∧
     e = [(0, AV.ptr r 0), (3, .ptr n1 0), (7, .v (.int .i64 (R.phases.length : Int))), (8, .v (.int .i64 (i : Int)))]) (k := R.phases.length) ⟨0, Nat.zero_le _, hA, hv, rfl, rfl⟩ ?_
    rintro k e m' ⟨i, hi0, hA1, hv1, rfl, rfl⟩
    refine go0 ?_
    refine runs_cond rfl (fun hc => ?_) (fun hc => ?_)
    ·have hi1 : i < R.phases.length := by have := of_decide_eq_true hc; omega
     have l3 := vrRc hv1
     have f1 := fun mm => frozenPG_at (R := R) (p := (i : Int)) (m := mm) hsm
     have hfl := frozenAt_len hsm (i : Int)
     have hN : lstillTo R (i + 1) = lstillTo R i ++ (if (!stillB R (i : Int)) = true then [⟨2, (i : Int), 0⟩] else []) := rfl
     have hll := lstillTo_len R i
     have r6 := next_i64 (i := i) (by omega)
     have f2 := fun mm => boAnyG_at (m := mm) (g := .no) (l := frozenAt R (i : Int)) (b := false) (by unfold big40; omega)
     have e1 : ((frozenAt R (i : Int)).any fun x => false == x) = stillB R (i : Int) := rfl
     rw [e1] at f2
     obtain ⟨c1, hA4⟩ := lnote_round (n := 100) hok (by omega) hA1 (!stillB R (i : Int)) 2 (i : Int) 0
     rw [← hN] at hA4
     have hv4 := addL_ne (l := if (!stillB R (i : Int)) = true then [⟨2, (i : Int), 0⟩] else []) hne hv1
     generalize (if (!stillB R (i : Int)) = true then [(⟨2, (i : Int), 0⟩ : Fl)] else []) = add at c1 hA4 hv4
     generalize stillB R (i : Int) = b at f2 c1
     refine go1 (jn @l3 (jn @t1 (jn @f1 (jn @t2 (jn @f2 (jn @t3 (jn @c1 @r6))))))) ?_
     exact ⟨R.phases.length - (i + 1), by omega, i + 1, hi1, hA4, hv4, rfl, rfl⟩
    ·have hi1 : i = R.phases.length := by have := of_decide_eq_false hc; omega
     subst hi1
     refine go0 ?_
     exact leaves_none rfl (fin_addL hok hA1)
   ·cases h
  ·cases h
 ·cases h
end
noncomputable section
attribute [local irreducible] Next Inside Runs Ops table
attribute [local go_sem] szStr szInt Option.getD_some isNil evStr iv loadStr loadInt mapRc cellsRc newRc fpRcMetrics rowsS_len fpRcStop fpRcStopOn fpRcStopMetric fpRcPlateau fpRcPlateauOn fpRcPlateauMetric fpRcKeep fpRcKeepOn fpRcKeepMetric
def readsB (R : Rc) (s : ByteArray) : Bool := (R.stopOn && (R.stopMetric == s)) || ((R.plateauOn && (R.plateauMetric == s)) || (R.keepOn && (R.keepMetric == s)))
def lblindTo (R : Rc) : Nat → List Fl
 | 0 => []
 | i + 1 => lblindTo R i ++ (if (!readsB R (R.metrics.getD i ⟨#[]⟩)) = true then [⟨3, (i : Int), 0⟩] else [])
theorem lblindTo_len (R : Rc) : ∀ i, (lblindTo R i).length ≤ i
 | 0 => Nat.le_refl _
 | i + 1 => by
  have := lblindTo_len R i
  rw [lblindTo, List.length_append]
  split
  ·simp only [List.length_cons, List.length_nil]; omega
  ·simp only [List.length_nil]; omega
def lblindG : List AV → Mem → Option (AV × Mem)
 | [.ptr r 0, .agg cs], m =>
  match unRc cs with
  | some R => open Classical in if R.small ∧ lstOk m r 100 then some (.tup [], addL m r (lblindTo R R.metrics.length)) else none
  | none => none
 | _, _ => none
theorem lblindG_at {m : Mem} {r : Nat} {R : Rc} (h : R.small) (hr : lstOk m r 100) : lblindG [.ptr r 0, .agg R.row] m = some (.tup [], addL m r (lblindTo R R.metrics.length)) := by
 simp only [lblindG, unRc_row]
 rw [if_pos ⟨h, hr⟩]
def kpLBlind : Nat → Option (List Nat) := fun
 | 0 => some [0, 3]
 | 1 => some [0, 3, 8, 9, 10]
 | 2 => some [0, 3, 8, 9, 10, 11]
 | 3 => some [0, 3, 4, 5, 8, 9, 10]
 | 4 => some [0, 3, 4, 6, 8, 9, 10]
 | 5 => some [0, 3, 8, 9, 10]
 | 6 => some [0, 3, 8, 9, 10]
 | _ => none
attribute [go_sem] kpLBlind
def tab_lblind_ok : List (FuncId × (List AV → Mem → Option (AV × Mem))) := [(67, lnoteG)]
theorem lblind_ok : FunOk Tryz.prog 61 lblindG := by
 have hC := table_ok (P := Tryz.prog) (l := tab_lblind_ok) (table_more lnote_ok table_nil)
 have t1 := fun args mm => table_at (l := tab_lblind_ok) (f := 67) (args := args) (m := mm) rfl
 refine fun_ok mixed hC Tryz.func61 rfl kpLBlind false rfl fun args m r h => ?_
 unfold lblindG at h
 split at h
 ·rename_i r cs
  split at h
  ·rename_i R hR
   obtain rfl := unRc_some hR
   split at h
   ·rename_i hyp
    obtain ⟨hsm, hok⟩ := hyp
    simp only [Option.some.injEq] at h
    subst h
    refine ⟨Nat.le_of_ble_eq_true rfl, ?_⟩
    refine en ?_
    have hr := lstOk_lt hok
    have hM64 := hsm.1
    have hA := above_push (cs := R.row) (above_self m)
    have hv : (m.push R.row).var m.vars.length = some R.row := push_var
    have nr := newRc (m := m) (x := R)
    generalize m.push R.row = m1 at hA hv nr
    have l1 := lpRcMetrics hv
    refine go1 (jn @nr @l1) ?_
    have hne : m.vars.length ≠ r := by omega
    generalize m.vars.length = n1 at hv hne ⊢
    refine runs_loop (fun k e m' => ∃ (i : Nat), i ≤ R.metrics.length ∧ Above (addL m r (lblindTo R i)) m' ∧ m'.var n1 = some R.row ∧ k = R.metrics.length - i ∧
     e = [(0, AV.ptr r 0), (3, .ptr n1 0), (8, .lst .no 1 (rowsS R.metrics)), (9, .v (.int .i64 (R.metrics.length : Int))), (10, .v (.int .i64 (i : Int)))]) (k := R.metrics.length) ⟨0, Nat.zero_le _, hA, hv, rfl, rfl⟩ ?_
    rintro k e m' ⟨i, hi0, hA1, hv1, rfl, rfl⟩
    refine go0 ?_
    refine runs_cond rfl (fun hc => ?_) (fun hc => ?_)
    ·have hi1 : i < R.metrics.length := by have := of_decide_eq_true hc; omega
     have f1 := atStrs (g := .no) (kk := .i64) hi1
     have hN : lblindTo R (i + 1) = lblindTo R i ++ (if (!readsB R (R.metrics.getD i ⟨#[]⟩)) = true then [⟨3, (i : Int), 0⟩] else []) := rfl
     have hll := lblindTo_len R i
     have r6 := next_i64 (i := i) (by omega)
     generalize R.metrics.getD i ⟨#[]⟩ = s at f1 hN
     have a1 := lpRcStopOn hv1
     have a2 := lpRcStopMetric hv1
     have b1 := lpRcPlateauOn hv1
     have b2 := lpRcPlateauMetric hv1
     have d1 := lpRcKeepOn hv1
     have d2 := lpRcKeepMetric hv1
     have hB : readsB R s = ((R.stopOn && (R.stopMetric == s)) || ((R.plateauOn && (R.plateauMetric == s)) || (R.keepOn && (R.keepMetric == s)))) := rfl
     obtain ⟨c1, hA4⟩ := lnote_round (n := 100) hok (by omega) hA1 (!readsB R s) 3 (i : Int) 0
     rw [← hN] at hA4
     have hv4 := addL_ne (l := if (!readsB R s) = true then [⟨3, (i : Int), 0⟩] else []) hne hv1
     generalize (if (!readsB R s) = true then [(⟨3, (i : Int), 0⟩ : Fl)] else []) = add at c1 hA4 hv4
     have w1 : (!true) = false := rfl
     have w2 : (!false) = true := rfl
     cases p0 : R.stopOn with
     | false =>
      cases p1 : R.plateauOn with
      | false =>
       cases p2 : R.keepOn with
       | false =>
        have hb : readsB R s = false := by rw [hB, p0, p1, p2]; rfl
        rw [hb, w2] at c1
        refine go1 (jn @f1 (jn @a1 (jn @p0 (jn @b1 (jn @p1 (jn @d1 (jn @p2 (jn @t1 (jn @c1 (jn @w2 @r6)))))))))) ?_
        exact ⟨R.metrics.length - (i + 1), by omega, i + 1, hi1, hA4, hv4, rfl, rfl⟩
       | true =>
        cases q2 : (R.keepMetric == s) with
        | false =>
         have hb : readsB R s = false := by rw [hB, p0, p1, p2, q2]; rfl
         rw [hb, w2] at c1
         refine go1 (jn @f1 (jn @a1 (jn @p0 (jn @b1 (jn @p1 (jn @d1 (jn @p2 (jn @d2 (jn @q2 (jn @t1 (jn @c1 (jn @w2 @r6)))))))))))) ?_
         exact ⟨R.metrics.length - (i + 1), by omega, i + 1, hi1, hA4, hv4, rfl, rfl⟩
        | true =>
         have hb : readsB R s = true := by rw [hB, p0, p1, p2, q2]; rfl
         rw [hb, w1] at c1
         refine go1 (jn @f1 (jn @a1 (jn @p0 (jn @b1 (jn @p1 (jn @d1 (jn @p2 (jn @d2 (jn @q2 (jn @t1 (jn @c1 (jn @w1 @r6)))))))))))) ?_
         exact ⟨R.metrics.length - (i + 1), by omega, i + 1, hi1, hA4, hv4, rfl, rfl⟩
      | true =>
       cases q1 : (R.plateauMetric == s) with
       | false =>
        cases p2 : R.keepOn with
        | false =>
         have hb : readsB R s = false := by rw [hB, p0, p1, q1, p2]; rfl
         rw [hb, w2] at c1
         refine go1 (jn @f1 (jn @a1 (jn @p0 (jn @b1 (jn @p1 (jn @b2 (jn @q1 (jn @d1 (jn @p2 (jn @t1 (jn @c1 (jn @w2 @r6)))))))))))) ?_
         exact ⟨R.metrics.length - (i + 1), by omega, i + 1, hi1, hA4, hv4, rfl, rfl⟩
        | true =>
         cases q2 : (R.keepMetric == s) with
         | false =>
          have hb : readsB R s = false := by rw [hB, p0, p1, q1, p2, q2]; rfl
          rw [hb, w2] at c1
          refine go1 (jn @f1 (jn @a1 (jn @p0 (jn @b1 (jn @p1 (jn @b2 (jn @q1 (jn @d1 (jn @p2 (jn @d2 (jn @q2 (jn @t1 (jn @c1 (jn @w2 @r6)))))))))))))) ?_
          exact ⟨R.metrics.length - (i + 1), by omega, i + 1, hi1, hA4, hv4, rfl, rfl⟩
         | true =>
          have hb : readsB R s = true := by rw [hB, p0, p1, q1, p2, q2]; rfl
          rw [hb, w1] at c1
          refine go1 (jn @f1 (jn @a1 (jn @p0 (jn @b1 (jn @p1 (jn @b2 (jn @q1 (jn @d1 (jn @p2 (jn @d2 (jn @q2 (jn @t1 (jn @c1 (jn @w1 @r6)))))))))))))) ?_
          exact ⟨R.metrics.length - (i + 1), by omega, i + 1, hi1, hA4, hv4, rfl, rfl⟩
       | true =>
        have hb : readsB R s = true := by rw [hB, p0, p1, q1]; rfl
        rw [hb, w1] at c1
        refine go1 (jn @f1 (jn @a1 (jn @p0 (jn @b1 (jn @p1 (jn @b2 (jn @q1 (jn @t1 (jn @c1 (jn @w1 @r6)))))))))) ?_
        exact ⟨R.metrics.length - (i + 1), by omega, i + 1, hi1, hA4, hv4, rfl, rfl⟩
     | true =>
      cases q0 : (R.stopMetric == s) with
      | false =>
       cases p1 : R.plateauOn with
       | false =>
        cases p2 : R.keepOn with
        | false =>
         have hb : readsB R s = false := by rw [hB, p0, q0, p1, p2]; rfl
         rw [hb, w2] at c1
         refine go1 (jn @f1 (jn @a1 (jn @p0 (jn @a2 (jn @q0 (jn @b1 (jn @p1 (jn @d1 (jn @p2 (jn @t1 (jn @c1 (jn @w2 @r6)))))))))))) ?_
         exact ⟨R.metrics.length - (i + 1), by omega, i + 1, hi1, hA4, hv4, rfl, rfl⟩
        | true =>
         cases q2 : (R.keepMetric == s) with
         | false =>
          have hb : readsB R s = false := by rw [hB, p0, q0, p1, p2, q2]; rfl
          rw [hb, w2] at c1
          refine go1 (jn @f1 (jn @a1 (jn @p0 (jn @a2 (jn @q0 (jn @b1 (jn @p1 (jn @d1 (jn @p2 (jn @d2 (jn @q2 (jn @t1 (jn @c1 (jn @w2 @r6)))))))))))))) ?_
          exact ⟨R.metrics.length - (i + 1), by omega, i + 1, hi1, hA4, hv4, rfl, rfl⟩
         | true =>
          have hb : readsB R s = true := by rw [hB, p0, q0, p1, p2, q2]; rfl
          rw [hb, w1] at c1
          refine go1 (jn @f1 (jn @a1 (jn @p0 (jn @a2 (jn @q0 (jn @b1 (jn @p1 (jn @d1 (jn @p2 (jn @d2 (jn @q2 (jn @t1 (jn @c1 (jn @w1 @r6)))))))))))))) ?_
          exact ⟨R.metrics.length - (i + 1), by omega, i + 1, hi1, hA4, hv4, rfl, rfl⟩
       | true =>
        cases q1 : (R.plateauMetric == s) with
        | false =>
         cases p2 : R.keepOn with
         | false =>
          have hb : readsB R s = false := by rw [hB, p0, q0, p1, q1, p2]; rfl
          rw [hb, w2] at c1
          refine go1 (jn @f1 (jn @a1 (jn @p0 (jn @a2 (jn @q0 (jn @b1 (jn @p1 (jn @b2 (jn @q1 (jn @d1 (jn @p2 (jn @t1 (jn @c1 (jn @w2 @r6)))))))))))))) ?_
          exact ⟨R.metrics.length - (i + 1), by omega, i + 1, hi1, hA4, hv4, rfl, rfl⟩
         | true =>
          cases q2 : (R.keepMetric == s) with
          | false =>
           have hb : readsB R s = false := by rw [hB, p0, q0, p1, q1, p2, q2]; rfl
           rw [hb, w2] at c1
           refine go1 (jn @f1 (jn @a1 (jn @p0 (jn @a2 (jn @q0 (jn @b1 (jn @p1 (jn @b2 (jn @q1 (jn @d1 (jn @p2 (jn @d2 (jn @q2 (jn @t1 (jn @c1 (jn @w2 @r6)))))))))))))))) ?_
           exact ⟨R.metrics.length - (i + 1), by omega, i + 1, hi1, hA4, hv4, rfl, rfl⟩
          | true =>
           have hb : readsB R s = true := by rw [hB, p0, q0, p1, q1, p2, q2]; rfl
           rw [hb, w1] at c1
           refine go1 (jn @f1 (jn @a1 (jn @p0 (jn @a2 (jn @q0 (jn @b1 (jn @p1 (jn @b2 (jn @q1 (jn @d1 (jn @p2 (jn @d2 (jn @q2 (jn @t1 (jn @c1 (jn @w1 @r6)))))))))))))))) ?_
           exact ⟨R.metrics.length - (i + 1), by omega, i + 1, hi1, hA4, hv4, rfl, rfl⟩
        | true =>
         have hb : readsB R s = true := by rw [hB, p0, q0, p1, q1]; rfl
         rw [hb, w1] at c1
         refine go1 (jn @f1 (jn @a1 (jn @p0 (jn @a2 (jn @q0 (jn @b1 (jn @p1 (jn @b2 (jn @q1 (jn @t1 (jn @c1 (jn @w1 @r6)))))))))))) ?_
         exact ⟨R.metrics.length - (i + 1), by omega, i + 1, hi1, hA4, hv4, rfl, rfl⟩
      | true =>
       have hb : readsB R s = true := by rw [hB, p0, q0]; rfl
       rw [hb, w1] at c1
       refine go1 (jn @f1 (jn @a1 (jn @p0 (jn @a2 (jn @q0 (jn @t1 (jn @c1 (jn @w1 @r6)))))))) ?_
       exact ⟨R.metrics.length - (i + 1), by omega, i + 1, hi1, hA4, hv4, rfl, rfl⟩
    ·have hi1 : i = R.metrics.length := by have := of_decide_eq_false hc; omega
     subst hi1
     refine go0 ?_
     exact leaves_none rfl (fin_addL hok hA1)
   ·cases h
  ·cases h
 ·cases h
end
section
set_option maxHeartbeats 16000000
set_option linter.unusedVariables false
set_option linter.unusedSimpArgs false
attribute [local irreducible] Next Inside Runs Ops table nrow
attribute [local go_sem] szStr szInt Option.getD_some isNil evStr loadOne newNode cellsNode nf0 nf1 nf2 nf3 nf4 nf5 lf0 nh0 nh1 nh2 nh3 nh4 nh5 loadNodeLen zeroLen niLen eqLen Nat.zero_add
theorem refMay_low : FunOk Tryz.prog 96 (mayAt fun op => decide (op < 1)) := by
 have hC := table_ok (P := Tryz.prog) (l := tabRefMay) (table_more refQ_ok (table_more refLenMay_ok table_nil))
 have t1 := fun args mm => table_at (l := tabRefMay) (f := 136) (args := args) (m := mm) rfl
 have t2 := fun args mm => table_at (l := tabRefMay) (f := 43) (args := args) (m := mm) rfl
 refine fun_ok mixed hC Tryz.func96 rfl kpRefMay false rfl fun args m r h => ?_
 unfold mayAt at h
 split at h
 ·rename_i cs
  split at h
  ·rename_i x hx
   split at h
   ·rename_i hop
    obtain rfl := unNd_row hx
    obtain ⟨op, a, b, c, k, u, n⟩ := x
    have hop := of_decide_eq_true hop
    simp only at hop
    simp only [Option.some.injEq] at h
    subst h
    refine ⟨Nat.le_of_ble_eq_true rfl, ?_⟩
    refine en ?_
    have fin : ∀ (e : Env) (m' : Mem) (z : Bool), Ev.get e 2 = .v (.bool z) → finMem m m' = m → (z = true ↔ mayN ⟨op, a, b, c, k, u, n⟩) → Leaves Tryz.prog false Tryz.f96 m (.v (.bool (decide (mayN ⟨op, a, b, c, k, u, n⟩))), m) .ret e m' := fun e m' z h1 h2 h3 => by
     have : z = decide (mayN ⟨op, a, b, c, k, u, n⟩) := by rw [Bool.eq_iff_iff, decide_eq_true_eq]; exact h3
     rw [← this]
     exact leaves_fin rfl h1 h2
    have z0 : (decide (op < 1)) = true := decide_eq_true (by omega)
    have z1 : (decide (op ≥ 2)) = false := decide_eq_false (by omega)
    have z2 : (decide (op ≥ 7)) = false := decide_eq_false (by omega)
    have z3 : (op == 3) = false := beq_eq_false_iff_ne.2 (by omega)
    have z4 : (op == 4) = false := beq_eq_false_iff_ne.2 (by omega)
    have z5 : (op == 6) = false := beq_eq_false_iff_ne.2 (by omega)
    have z6 : (op == 7) = false := beq_eq_false_iff_ne.2 (by omega)
    have z7 : (op == 9) = false := beq_eq_false_iff_ne.2 (by omega)
    repeat' (first | refine gos1 (jn @t1 (jn @q_eq (jn @t2 (jn @lm_eq (jn @z0 (jn @z1 (jn @z2 (jn @z3 (jn @z4 (jn @z5 (jn @z6 @z7))))))))))) ?_ | (refine ops_here ?_; (fail_if_success (refine ops_case (B := true) rfl rfl rfl ?_ ?_)); (fail_if_success (refine ops_case (B := false) rfl rfl rfl ?_ ?_)); refine ops_case rfl rfl rfl (fun hB => ?_) (fun hB => ?_) <;> rw [hB]) | (refine runs_here ?_; refine runs_cond rfl (fun hc => ?_) (fun hc => ?_) <;> first | (cases hc; done) | skip))
    all_goals exact fin _ _ _ rfl fin_push (by clear fin hx t1 t2 hC; simp only [Bool.not_eq_true', Bool.not_eq_false', Bool.not_true, Bool.not_false, Bool.and_true, Bool.and_eq_true, Bool.and_eq_false_iff, decide_eq_true_eq, decide_eq_false_iff_not, Bool.false_eq_true, reduceCtorEq, false_iff, true_iff, beq_iff_eq, bne_iff_ne, beq_eq_false_iff_ne, bne_eq_false_iff_eq, ne_eq, not_false_eq_true, not_true_eq_false, true_or, or_true, true_implies, false_implies, implies_true, and_self, true_and, false_and, or_false, false_or, and_true, and_false] at *; simp only [mayN, inQ, lenMay, not_false_eq_true, not_true_eq_false, true_or, or_true, true_implies, false_implies, implies_true, and_self, true_and, false_and, or_false, false_or, and_true, and_false] at *; omega)
   ·cases h
  ·cases h
 ·cases h
theorem refMay_high : FunOk Tryz.prog 96 (mayAt fun op => decide (9 < op)) := by
 have hC := table_ok (P := Tryz.prog) (l := tabRefMay) (table_more refQ_ok (table_more refLenMay_ok table_nil))
 have t1 := fun args mm => table_at (l := tabRefMay) (f := 136) (args := args) (m := mm) rfl
 have t2 := fun args mm => table_at (l := tabRefMay) (f := 43) (args := args) (m := mm) rfl
 refine fun_ok mixed hC Tryz.func96 rfl kpRefMay false rfl fun args m r h => ?_
 unfold mayAt at h
 split at h
 ·rename_i cs
  split at h
  ·rename_i x hx
   split at h
   ·rename_i hop
    obtain rfl := unNd_row hx
    obtain ⟨op, a, b, c, k, u, n⟩ := x
    have hop := of_decide_eq_true hop
    simp only at hop
    simp only [Option.some.injEq] at h
    subst h
    refine ⟨Nat.le_of_ble_eq_true rfl, ?_⟩
    refine en ?_
    have fin : ∀ (e : Env) (m' : Mem) (z : Bool), Ev.get e 2 = .v (.bool z) → finMem m m' = m → (z = true ↔ mayN ⟨op, a, b, c, k, u, n⟩) → Leaves Tryz.prog false Tryz.f96 m (.v (.bool (decide (mayN ⟨op, a, b, c, k, u, n⟩))), m) .ret e m' := fun e m' z h1 h2 h3 => by
     have : z = decide (mayN ⟨op, a, b, c, k, u, n⟩) := by rw [Bool.eq_iff_iff, decide_eq_true_eq]; exact h3
     rw [← this]
     exact leaves_fin rfl h1 h2
    have z0 : (decide (op < 1)) = false := decide_eq_false (by omega)
    have z1 : (decide (op > 9)) = true := decide_eq_true (by omega)
    have z2 : (decide (op ≥ 2)) = true := decide_eq_true (by omega)
    have z3 : (decide (op ≤ 7)) = false := decide_eq_false (by omega)
    have z4 : (decide (op ≥ 7)) = true := decide_eq_true (by omega)
    have z5 : (op == 3) = false := beq_eq_false_iff_ne.2 (by omega)
    have z6 : (op == 4) = false := beq_eq_false_iff_ne.2 (by omega)
    have z7 : (op == 6) = false := beq_eq_false_iff_ne.2 (by omega)
    have z8 : (op == 7) = false := beq_eq_false_iff_ne.2 (by omega)
    have z9 : (op == 9) = false := beq_eq_false_iff_ne.2 (by omega)
    repeat' (first | refine gos1 (jn @t1 (jn @q_eq (jn @t2 (jn @lm_eq (jn @z0 (jn @z1 (jn @z2 (jn @z3 (jn @z4 (jn @z5 (jn @z6 (jn @z7 (jn @z8 @z9))))))))))))) ?_ | (refine ops_here ?_; (fail_if_success (refine ops_case (B := true) rfl rfl rfl ?_ ?_)); (fail_if_success (refine ops_case (B := false) rfl rfl rfl ?_ ?_)); refine ops_case rfl rfl rfl (fun hB => ?_) (fun hB => ?_) <;> rw [hB]) | (refine runs_here ?_; refine runs_cond rfl (fun hc => ?_) (fun hc => ?_) <;> first | (cases hc; done) | skip))
    all_goals exact fin _ _ _ rfl fin_push (by clear fin hx t1 t2 hC; simp only [Bool.not_eq_true', Bool.not_eq_false', Bool.not_true, Bool.not_false, Bool.and_true, Bool.and_eq_true, Bool.and_eq_false_iff, decide_eq_true_eq, decide_eq_false_iff_not, Bool.false_eq_true, reduceCtorEq, false_iff, true_iff, beq_iff_eq, bne_iff_ne, beq_eq_false_iff_ne, bne_eq_false_iff_eq, ne_eq, not_false_eq_true, not_true_eq_false, true_or, or_true, true_implies, false_implies, implies_true, and_self, true_and, false_and, or_false, false_or, and_true, and_false] at *; simp only [mayN, inQ, lenMay, not_false_eq_true, not_true_eq_false, true_or, or_true, true_implies, false_implies, implies_true, and_self, true_and, false_and, or_false, false_or, and_true, and_false] at *; omega)
   ·cases h
  ·cases h
 ·cases h
theorem refMay_at1 : FunOk Tryz.prog 96 (mayAt fun op => decide (op = 1)) := by
 have hC := table_ok (P := Tryz.prog) (l := tabRefMay) (table_more refQ_ok (table_more refLenMay_ok table_nil))
 have t1 := fun args mm => table_at (l := tabRefMay) (f := 136) (args := args) (m := mm) rfl
 have t2 := fun args mm => table_at (l := tabRefMay) (f := 43) (args := args) (m := mm) rfl
 refine fun_ok mixed hC Tryz.func96 rfl kpRefMay false rfl fun args m r h => ?_
 unfold mayAt at h
 split at h
 ·rename_i cs
  split at h
  ·rename_i x hx
   split at h
   ·rename_i hop
    obtain rfl := unNd_row hx
    obtain ⟨op, a, b, c, k, u, n⟩ := x
    have hop := of_decide_eq_true hop
    simp only at hop
    simp only [Option.some.injEq] at h
    subst h
    refine ⟨Nat.le_of_ble_eq_true rfl, ?_⟩
    refine en ?_
    have fin : ∀ (e : Env) (m' : Mem) (z : Bool), Ev.get e 2 = .v (.bool z) → finMem m m' = m → (z = true ↔ mayN ⟨op, a, b, c, k, u, n⟩) → Leaves Tryz.prog false Tryz.f96 m (.v (.bool (decide (mayN ⟨op, a, b, c, k, u, n⟩))), m) .ret e m' := fun e m' z h1 h2 h3 => by
     have : z = decide (mayN ⟨op, a, b, c, k, u, n⟩) := by rw [Bool.eq_iff_iff, decide_eq_true_eq]; exact h3
     rw [← this]
     exact leaves_fin rfl h1 h2
    subst hop
    repeat' (first | refine gos1 (jn @t1 (jn @q_eq (jn @t2 @lm_eq))) ?_ | (refine ops_here ?_; (fail_if_success (refine ops_case (B := true) rfl rfl rfl ?_ ?_)); (fail_if_success (refine ops_case (B := false) rfl rfl rfl ?_ ?_)); refine ops_case rfl rfl rfl (fun hB => ?_) (fun hB => ?_) <;> rw [hB]) | (refine runs_here ?_; refine runs_cond rfl (fun hc => ?_) (fun hc => ?_) <;> first | (cases hc; done) | skip))
    all_goals exact fin _ _ _ rfl fin_push (by clear fin hx t1 t2 hC; simp only [Bool.not_eq_true', Bool.not_eq_false', Bool.not_true, Bool.not_false, Bool.and_true, Bool.and_eq_true, Bool.and_eq_false_iff, decide_eq_true_eq, decide_eq_false_iff_not, Bool.false_eq_true, reduceCtorEq, false_iff, true_iff, beq_iff_eq, bne_iff_ne, beq_eq_false_iff_ne, bne_eq_false_iff_eq, ne_eq, not_false_eq_true, not_true_eq_false, true_or, or_true, true_implies, false_implies, implies_true, and_self, true_and, false_and, or_false, false_or, and_true, and_false] at *; simp only [mayN, inQ, lenMay, not_false_eq_true, not_true_eq_false, true_or, or_true, true_implies, false_implies, implies_true, and_self, true_and, false_and, or_false, false_or, and_true, and_false] at *; omega)
   ·cases h
  ·cases h
 ·cases h
end
section
set_option maxHeartbeats 16000000
set_option linter.unusedVariables false
set_option linter.unusedSimpArgs false
attribute [local irreducible] Next Inside Runs Ops table nrow
attribute [local go_sem] szStr szInt Option.getD_some isNil evStr loadOne newNode cellsNode nf0 nf1 nf2 nf3 nf4 nf5 lf0 nh0 nh1 nh2 nh3 nh4 nh5 loadNodeLen zeroLen niLen eqLen Nat.zero_add
theorem refMay_at2 : FunOk Tryz.prog 96 (mayAt fun op => decide (op = 2)) := by
 have hC := table_ok (P := Tryz.prog) (l := tabRefMay) (table_more refQ_ok (table_more refLenMay_ok table_nil))
 have t1 := fun args mm => table_at (l := tabRefMay) (f := 136) (args := args) (m := mm) rfl
 have t2 := fun args mm => table_at (l := tabRefMay) (f := 43) (args := args) (m := mm) rfl
 refine fun_ok mixed hC Tryz.func96 rfl kpRefMay false rfl fun args m r h => ?_
 unfold mayAt at h
 split at h
 ·rename_i cs
  split at h
  ·rename_i x hx
   split at h
   ·rename_i hop
    obtain rfl := unNd_row hx
    obtain ⟨op, a, b, c, k, u, n⟩ := x
    have hop := of_decide_eq_true hop
    simp only at hop
    simp only [Option.some.injEq] at h
    subst h
    refine ⟨Nat.le_of_ble_eq_true rfl, ?_⟩
    refine en ?_
    have fin : ∀ (e : Env) (m' : Mem) (z : Bool), Ev.get e 2 = .v (.bool z) → finMem m m' = m → (z = true ↔ mayN ⟨op, a, b, c, k, u, n⟩) → Leaves Tryz.prog false Tryz.f96 m (.v (.bool (decide (mayN ⟨op, a, b, c, k, u, n⟩))), m) .ret e m' := fun e m' z h1 h2 h3 => by
     have : z = decide (mayN ⟨op, a, b, c, k, u, n⟩) := by rw [Bool.eq_iff_iff, decide_eq_true_eq]; exact h3
     rw [← this]
     exact leaves_fin rfl h1 h2
    subst hop
    repeat' (first | refine gos1 (jn @t1 (jn @q_eq (jn @t2 @lm_eq))) ?_ | (refine ops_here ?_; (fail_if_success (refine ops_case (B := true) rfl rfl rfl ?_ ?_)); (fail_if_success (refine ops_case (B := false) rfl rfl rfl ?_ ?_)); refine ops_case rfl rfl rfl (fun hB => ?_) (fun hB => ?_) <;> rw [hB]) | (refine runs_here ?_; refine runs_cond rfl (fun hc => ?_) (fun hc => ?_) <;> first | (cases hc; done) | skip))
    all_goals exact fin _ _ _ rfl fin_push (by clear fin hx t1 t2 hC; simp only [Bool.not_eq_true', Bool.not_eq_false', Bool.not_true, Bool.not_false, Bool.and_true, Bool.and_eq_true, Bool.and_eq_false_iff, decide_eq_true_eq, decide_eq_false_iff_not, Bool.false_eq_true, reduceCtorEq, false_iff, true_iff, beq_iff_eq, bne_iff_ne, beq_eq_false_iff_ne, bne_eq_false_iff_eq, ne_eq, not_false_eq_true, not_true_eq_false, true_or, or_true, true_implies, false_implies, implies_true, and_self, true_and, false_and, or_false, false_or, and_true, and_false] at *; simp only [mayN, inQ, lenMay, not_false_eq_true, not_true_eq_false, true_or, or_true, true_implies, false_implies, implies_true, and_self, true_and, false_and, or_false, false_or, and_true, and_false] at *; omega)
   ·cases h
  ·cases h
 ·cases h
theorem refMay_at3 : FunOk Tryz.prog 96 (mayAt fun op => decide (op = 3)) := by
 have hC := table_ok (P := Tryz.prog) (l := tabRefMay) (table_more refQ_ok (table_more refLenMay_ok table_nil))
 have t1 := fun args mm => table_at (l := tabRefMay) (f := 136) (args := args) (m := mm) rfl
 have t2 := fun args mm => table_at (l := tabRefMay) (f := 43) (args := args) (m := mm) rfl
 refine fun_ok mixed hC Tryz.func96 rfl kpRefMay false rfl fun args m r h => ?_
 unfold mayAt at h
 split at h
 ·rename_i cs
  split at h
  ·rename_i x hx
   split at h
   ·rename_i hop
    obtain rfl := unNd_row hx
    obtain ⟨op, a, b, c, k, u, n⟩ := x
    have hop := of_decide_eq_true hop
    simp only at hop
    simp only [Option.some.injEq] at h
    subst h
    refine ⟨Nat.le_of_ble_eq_true rfl, ?_⟩
    refine en ?_
    have fin : ∀ (e : Env) (m' : Mem) (z : Bool), Ev.get e 2 = .v (.bool z) → finMem m m' = m → (z = true ↔ mayN ⟨op, a, b, c, k, u, n⟩) → Leaves Tryz.prog false Tryz.f96 m (.v (.bool (decide (mayN ⟨op, a, b, c, k, u, n⟩))), m) .ret e m' := fun e m' z h1 h2 h3 => by
     have : z = decide (mayN ⟨op, a, b, c, k, u, n⟩) := by rw [Bool.eq_iff_iff, decide_eq_true_eq]; exact h3
     rw [← this]
     exact leaves_fin rfl h1 h2
    subst hop
    repeat' (first | refine gos1 (jn @t1 (jn @q_eq (jn @t2 @lm_eq))) ?_ | (refine ops_here ?_; (fail_if_success (refine ops_case (B := true) rfl rfl rfl ?_ ?_)); (fail_if_success (refine ops_case (B := false) rfl rfl rfl ?_ ?_)); refine ops_case rfl rfl rfl (fun hB => ?_) (fun hB => ?_) <;> rw [hB]) | (refine runs_here ?_; refine runs_cond rfl (fun hc => ?_) (fun hc => ?_) <;> first | (cases hc; done) | skip))
    all_goals exact fin _ _ _ rfl fin_push (by clear fin hx t1 t2 hC; simp only [Bool.not_eq_true', Bool.not_eq_false', Bool.not_true, Bool.not_false, Bool.and_true, Bool.and_eq_true, Bool.and_eq_false_iff, decide_eq_true_eq, decide_eq_false_iff_not, Bool.false_eq_true, reduceCtorEq, false_iff, true_iff, beq_iff_eq, bne_iff_ne, beq_eq_false_iff_ne, bne_eq_false_iff_eq, ne_eq, not_false_eq_true, not_true_eq_false, true_or, or_true, true_implies, false_implies, implies_true, and_self, true_and, false_and, or_false, false_or, and_true, and_false] at *; simp only [mayN, inQ, lenMay, not_false_eq_true, not_true_eq_false, true_or, or_true, true_implies, false_implies, implies_true, and_self, true_and, false_and, or_false, false_or, and_true, and_false] at *; omega)
   ·cases h
  ·cases h
 ·cases h
theorem refMay_at4 : FunOk Tryz.prog 96 (mayAt fun op => decide (op = 4)) := by
 have hC := table_ok (P := Tryz.prog) (l := tabRefMay) (table_more refQ_ok (table_more refLenMay_ok table_nil))
 have t1 := fun args mm => table_at (l := tabRefMay) (f := 136) (args := args) (m := mm) rfl
 have t2 := fun args mm => table_at (l := tabRefMay) (f := 43) (args := args) (m := mm) rfl
 refine fun_ok mixed hC Tryz.func96 rfl kpRefMay false rfl fun args m r h => ?_
 unfold mayAt at h
 split at h
 ·rename_i cs
  split at h
  ·rename_i x hx
   split at h
   ·rename_i hop
    obtain rfl := unNd_row hx
    obtain ⟨op, a, b, c, k, u, n⟩ := x
    have hop := of_decide_eq_true hop
    simp only at hop
    simp only [Option.some.injEq] at h
    subst h
    refine ⟨Nat.le_of_ble_eq_true rfl, ?_⟩
    refine en ?_
    have fin : ∀ (e : Env) (m' : Mem) (z : Bool), Ev.get e 2 = .v (.bool z) → finMem m m' = m → (z = true ↔ mayN ⟨op, a, b, c, k, u, n⟩) → Leaves Tryz.prog false Tryz.f96 m (.v (.bool (decide (mayN ⟨op, a, b, c, k, u, n⟩))), m) .ret e m' := fun e m' z h1 h2 h3 => by
     have : z = decide (mayN ⟨op, a, b, c, k, u, n⟩) := by rw [Bool.eq_iff_iff, decide_eq_true_eq]; exact h3
     rw [← this]
     exact leaves_fin rfl h1 h2
    subst hop
    repeat' (first | refine gos1 (jn @t1 (jn @q_eq (jn @t2 @lm_eq))) ?_ | (refine ops_here ?_; (fail_if_success (refine ops_case (B := true) rfl rfl rfl ?_ ?_)); (fail_if_success (refine ops_case (B := false) rfl rfl rfl ?_ ?_)); refine ops_case rfl rfl rfl (fun hB => ?_) (fun hB => ?_) <;> rw [hB]) | (refine runs_here ?_; refine runs_cond rfl (fun hc => ?_) (fun hc => ?_) <;> first | (cases hc; done) | skip))
    all_goals exact fin _ _ _ rfl fin_push (by clear fin hx t1 t2 hC; simp only [Bool.not_eq_true', Bool.not_eq_false', Bool.not_true, Bool.not_false, Bool.and_true, Bool.and_eq_true, Bool.and_eq_false_iff, decide_eq_true_eq, decide_eq_false_iff_not, Bool.false_eq_true, reduceCtorEq, false_iff, true_iff, beq_iff_eq, bne_iff_ne, beq_eq_false_iff_ne, bne_eq_false_iff_eq, ne_eq, not_false_eq_true, not_true_eq_false, true_or, or_true, true_implies, false_implies, implies_true, and_self, true_and, false_and, or_false, false_or, and_true, and_false] at *; simp only [mayN, inQ, lenMay, not_false_eq_true, not_true_eq_false, true_or, or_true, true_implies, false_implies, implies_true, and_self, true_and, false_and, or_false, false_or, and_true, and_false] at *; omega)
   ·cases h
  ·cases h
 ·cases h
end
section
set_option maxHeartbeats 16000000
set_option linter.unusedVariables false
set_option linter.unusedSimpArgs false
attribute [local irreducible] Next Inside Runs Ops table nrow
attribute [local go_sem] szStr szInt Option.getD_some isNil evStr loadOne newNode cellsNode nf0 nf1 nf2 nf3 nf4 nf5 lf0 nh0 nh1 nh2 nh3 nh4 nh5 loadNodeLen zeroLen niLen eqLen Nat.zero_add
theorem refMay_at5 : FunOk Tryz.prog 96 (mayAt fun op => decide (op = 5)) := by
 have hC := table_ok (P := Tryz.prog) (l := tabRefMay) (table_more refQ_ok (table_more refLenMay_ok table_nil))
 have t1 := fun args mm => table_at (l := tabRefMay) (f := 136) (args := args) (m := mm) rfl
 have t2 := fun args mm => table_at (l := tabRefMay) (f := 43) (args := args) (m := mm) rfl
 refine fun_ok mixed hC Tryz.func96 rfl kpRefMay false rfl fun args m r h => ?_
 unfold mayAt at h
 split at h
 ·rename_i cs
  split at h
  ·rename_i x hx
   split at h
   ·rename_i hop
    obtain rfl := unNd_row hx
    obtain ⟨op, a, b, c, k, u, n⟩ := x
    have hop := of_decide_eq_true hop
    simp only at hop
    simp only [Option.some.injEq] at h
    subst h
    refine ⟨Nat.le_of_ble_eq_true rfl, ?_⟩
    refine en ?_
    have fin : ∀ (e : Env) (m' : Mem) (z : Bool), Ev.get e 2 = .v (.bool z) → finMem m m' = m → (z = true ↔ mayN ⟨op, a, b, c, k, u, n⟩) → Leaves Tryz.prog false Tryz.f96 m (.v (.bool (decide (mayN ⟨op, a, b, c, k, u, n⟩))), m) .ret e m' := fun e m' z h1 h2 h3 => by
     have : z = decide (mayN ⟨op, a, b, c, k, u, n⟩) := by rw [Bool.eq_iff_iff, decide_eq_true_eq]; exact h3
     rw [← this]
     exact leaves_fin rfl h1 h2
    subst hop
    repeat' (first | refine gos1 (jn @t1 (jn @q_eq (jn @t2 @lm_eq))) ?_ | (refine ops_here ?_; (fail_if_success (refine ops_case (B := true) rfl rfl rfl ?_ ?_)); (fail_if_success (refine ops_case (B := false) rfl rfl rfl ?_ ?_)); refine ops_case rfl rfl rfl (fun hB => ?_) (fun hB => ?_) <;> rw [hB]) | (refine runs_here ?_; refine runs_cond rfl (fun hc => ?_) (fun hc => ?_) <;> first | (cases hc; done) | skip))
    all_goals exact fin _ _ _ rfl fin_push (by clear fin hx t1 t2 hC; simp only [Bool.not_eq_true', Bool.not_eq_false', Bool.not_true, Bool.not_false, Bool.and_true, Bool.and_eq_true, Bool.and_eq_false_iff, decide_eq_true_eq, decide_eq_false_iff_not, Bool.false_eq_true, reduceCtorEq, false_iff, true_iff, beq_iff_eq, bne_iff_ne, beq_eq_false_iff_ne, bne_eq_false_iff_eq, ne_eq, not_false_eq_true, not_true_eq_false, true_or, or_true, true_implies, false_implies, implies_true, and_self, true_and, false_and, or_false, false_or, and_true, and_false] at *; simp only [mayN, inQ, lenMay, not_false_eq_true, not_true_eq_false, true_or, or_true, true_implies, false_implies, implies_true, and_self, true_and, false_and, or_false, false_or, and_true, and_false] at *; omega)
   ·cases h
  ·cases h
 ·cases h
theorem refMay_at6 : FunOk Tryz.prog 96 (mayAt fun op => decide (op = 6)) := by
 have hC := table_ok (P := Tryz.prog) (l := tabRefMay) (table_more refQ_ok (table_more refLenMay_ok table_nil))
 have t1 := fun args mm => table_at (l := tabRefMay) (f := 136) (args := args) (m := mm) rfl
 have t2 := fun args mm => table_at (l := tabRefMay) (f := 43) (args := args) (m := mm) rfl
 refine fun_ok mixed hC Tryz.func96 rfl kpRefMay false rfl fun args m r h => ?_
 unfold mayAt at h
 split at h
 ·rename_i cs
  split at h
  ·rename_i x hx
   split at h
   ·rename_i hop
    obtain rfl := unNd_row hx
    obtain ⟨op, a, b, c, k, u, n⟩ := x
    have hop := of_decide_eq_true hop
    simp only at hop
    simp only [Option.some.injEq] at h
    subst h
    refine ⟨Nat.le_of_ble_eq_true rfl, ?_⟩
    refine en ?_
    have fin : ∀ (e : Env) (m' : Mem) (z : Bool), Ev.get e 2 = .v (.bool z) → finMem m m' = m → (z = true ↔ mayN ⟨op, a, b, c, k, u, n⟩) → Leaves Tryz.prog false Tryz.f96 m (.v (.bool (decide (mayN ⟨op, a, b, c, k, u, n⟩))), m) .ret e m' := fun e m' z h1 h2 h3 => by
     have : z = decide (mayN ⟨op, a, b, c, k, u, n⟩) := by rw [Bool.eq_iff_iff, decide_eq_true_eq]; exact h3
     rw [← this]
     exact leaves_fin rfl h1 h2
    subst hop
    repeat' (first | refine gos1 (jn @t1 (jn @q_eq (jn @t2 @lm_eq))) ?_ | (refine ops_here ?_; (fail_if_success (refine ops_case (B := true) rfl rfl rfl ?_ ?_)); (fail_if_success (refine ops_case (B := false) rfl rfl rfl ?_ ?_)); refine ops_case rfl rfl rfl (fun hB => ?_) (fun hB => ?_) <;> rw [hB]) | (refine runs_here ?_; refine runs_cond rfl (fun hc => ?_) (fun hc => ?_) <;> first | (cases hc; done) | skip))
    all_goals exact fin _ _ _ rfl fin_push (by clear fin hx t1 t2 hC; simp only [Bool.not_eq_true', Bool.not_eq_false', Bool.not_true, Bool.not_false, Bool.and_true, Bool.and_eq_true, Bool.and_eq_false_iff, decide_eq_true_eq, decide_eq_false_iff_not, Bool.false_eq_true, reduceCtorEq, false_iff, true_iff, beq_iff_eq, bne_iff_ne, beq_eq_false_iff_ne, bne_eq_false_iff_eq, ne_eq, not_false_eq_true, not_true_eq_false, true_or, or_true, true_implies, false_implies, implies_true, and_self, true_and, false_and, or_false, false_or, and_true, and_false] at *; simp only [mayN, inQ, lenMay, not_false_eq_true, not_true_eq_false, true_or, or_true, true_implies, false_implies, implies_true, and_self, true_and, false_and, or_false, false_or, and_true, and_false] at *; omega)
   ·cases h
  ·cases h
 ·cases h
end
section
set_option maxHeartbeats 16000000
set_option linter.unusedVariables false
set_option linter.unusedSimpArgs false
attribute [local irreducible] Next Inside Runs Ops table nrow
attribute [local go_sem] szStr szInt Option.getD_some isNil evStr loadOne newNode cellsNode nf0 nf1 nf2 nf3 nf4 nf5 lf0 nh0 nh1 nh2 nh3 nh4 nh5 loadNodeLen zeroLen niLen eqLen Nat.zero_add
theorem refMay_at7 : FunOk Tryz.prog 96 (mayAt fun op => decide (op = 7)) := by
 have hC := table_ok (P := Tryz.prog) (l := tabRefMay) (table_more refQ_ok (table_more refLenMay_ok table_nil))
 have t1 := fun args mm => table_at (l := tabRefMay) (f := 136) (args := args) (m := mm) rfl
 have t2 := fun args mm => table_at (l := tabRefMay) (f := 43) (args := args) (m := mm) rfl
 refine fun_ok mixed hC Tryz.func96 rfl kpRefMay false rfl fun args m r h => ?_
 unfold mayAt at h
 split at h
 ·rename_i cs
  split at h
  ·rename_i x hx
   split at h
   ·rename_i hop
    obtain rfl := unNd_row hx
    obtain ⟨op, a, b, c, k, u, n⟩ := x
    have hop := of_decide_eq_true hop
    simp only at hop
    simp only [Option.some.injEq] at h
    subst h
    refine ⟨Nat.le_of_ble_eq_true rfl, ?_⟩
    refine en ?_
    have fin : ∀ (e : Env) (m' : Mem) (z : Bool), Ev.get e 2 = .v (.bool z) → finMem m m' = m → (z = true ↔ mayN ⟨op, a, b, c, k, u, n⟩) → Leaves Tryz.prog false Tryz.f96 m (.v (.bool (decide (mayN ⟨op, a, b, c, k, u, n⟩))), m) .ret e m' := fun e m' z h1 h2 h3 => by
     have : z = decide (mayN ⟨op, a, b, c, k, u, n⟩) := by rw [Bool.eq_iff_iff, decide_eq_true_eq]; exact h3
     rw [← this]
     exact leaves_fin rfl h1 h2
    subst hop
    repeat' (first | refine gos1 (jn @t1 (jn @q_eq (jn @t2 @lm_eq))) ?_ | (refine ops_here ?_; (fail_if_success (refine ops_case (B := true) rfl rfl rfl ?_ ?_)); (fail_if_success (refine ops_case (B := false) rfl rfl rfl ?_ ?_)); refine ops_case rfl rfl rfl (fun hB => ?_) (fun hB => ?_) <;> rw [hB]) | (refine runs_here ?_; refine runs_cond rfl (fun hc => ?_) (fun hc => ?_) <;> first | (cases hc; done) | skip))
    all_goals exact fin _ _ _ rfl fin_push (by clear fin hx t1 t2 hC; simp only [Bool.not_eq_true', Bool.not_eq_false', Bool.not_true, Bool.not_false, Bool.and_true, Bool.and_eq_true, Bool.and_eq_false_iff, decide_eq_true_eq, decide_eq_false_iff_not, Bool.false_eq_true, reduceCtorEq, false_iff, true_iff, beq_iff_eq, bne_iff_ne, beq_eq_false_iff_ne, bne_eq_false_iff_eq, ne_eq, not_false_eq_true, not_true_eq_false, true_or, or_true, true_implies, false_implies, implies_true, and_self, true_and, false_and, or_false, false_or, and_true, and_false] at *; simp only [mayN, inQ, lenMay, not_false_eq_true, not_true_eq_false, true_or, or_true, true_implies, false_implies, implies_true, and_self, true_and, false_and, or_false, false_or, and_true, and_false] at *; omega)
   ·cases h
  ·cases h
 ·cases h
theorem refMay_at8 : FunOk Tryz.prog 96 (mayAt fun op => decide (op = 8)) := by
 have hC := table_ok (P := Tryz.prog) (l := tabRefMay) (table_more refQ_ok (table_more refLenMay_ok table_nil))
 have t1 := fun args mm => table_at (l := tabRefMay) (f := 136) (args := args) (m := mm) rfl
 have t2 := fun args mm => table_at (l := tabRefMay) (f := 43) (args := args) (m := mm) rfl
 refine fun_ok mixed hC Tryz.func96 rfl kpRefMay false rfl fun args m r h => ?_
 unfold mayAt at h
 split at h
 ·rename_i cs
  split at h
  ·rename_i x hx
   split at h
   ·rename_i hop
    obtain rfl := unNd_row hx
    obtain ⟨op, a, b, c, k, u, n⟩ := x
    have hop := of_decide_eq_true hop
    simp only at hop
    simp only [Option.some.injEq] at h
    subst h
    refine ⟨Nat.le_of_ble_eq_true rfl, ?_⟩
    refine en ?_
    have fin : ∀ (e : Env) (m' : Mem) (z : Bool), Ev.get e 2 = .v (.bool z) → finMem m m' = m → (z = true ↔ mayN ⟨op, a, b, c, k, u, n⟩) → Leaves Tryz.prog false Tryz.f96 m (.v (.bool (decide (mayN ⟨op, a, b, c, k, u, n⟩))), m) .ret e m' := fun e m' z h1 h2 h3 => by
     have : z = decide (mayN ⟨op, a, b, c, k, u, n⟩) := by rw [Bool.eq_iff_iff, decide_eq_true_eq]; exact h3
     rw [← this]
     exact leaves_fin rfl h1 h2
    subst hop
    repeat' (first | refine gos1 (jn @t1 (jn @q_eq (jn @t2 @lm_eq))) ?_ | (refine ops_here ?_; (fail_if_success (refine ops_case (B := true) rfl rfl rfl ?_ ?_)); (fail_if_success (refine ops_case (B := false) rfl rfl rfl ?_ ?_)); refine ops_case rfl rfl rfl (fun hB => ?_) (fun hB => ?_) <;> rw [hB]) | (refine runs_here ?_; refine runs_cond rfl (fun hc => ?_) (fun hc => ?_) <;> first | (cases hc; done) | skip))
    all_goals exact fin _ _ _ rfl fin_push (by clear fin hx t1 t2 hC; simp only [Bool.not_eq_true', Bool.not_eq_false', Bool.not_true, Bool.not_false, Bool.and_true, Bool.and_eq_true, Bool.and_eq_false_iff, decide_eq_true_eq, decide_eq_false_iff_not, Bool.false_eq_true, reduceCtorEq, false_iff, true_iff, beq_iff_eq, bne_iff_ne, beq_eq_false_iff_ne, bne_eq_false_iff_eq, ne_eq, not_false_eq_true, not_true_eq_false, true_or, or_true, true_implies, false_implies, implies_true, and_self, true_and, false_and, or_false, false_or, and_true, and_false] at *; simp only [mayN, inQ, lenMay, not_false_eq_true, not_true_eq_false, true_or, or_true, true_implies, false_implies, implies_true, and_self, true_and, false_and, or_false, false_or, and_true, and_false] at *; omega)
   ·cases h
  ·cases h
 ·cases h
theorem refMay_at9 : FunOk Tryz.prog 96 (mayAt fun op => decide (op = 9)) := by
 have hC := table_ok (P := Tryz.prog) (l := tabRefMay) (table_more refQ_ok (table_more refLenMay_ok table_nil))
 have t1 := fun args mm => table_at (l := tabRefMay) (f := 136) (args := args) (m := mm) rfl
 have t2 := fun args mm => table_at (l := tabRefMay) (f := 43) (args := args) (m := mm) rfl
 refine fun_ok mixed hC Tryz.func96 rfl kpRefMay false rfl fun args m r h => ?_
 unfold mayAt at h
 split at h
 ·rename_i cs
  split at h
  ·rename_i x hx
   split at h
   ·rename_i hop
    obtain rfl := unNd_row hx
    obtain ⟨op, a, b, c, k, u, n⟩ := x
    have hop := of_decide_eq_true hop
    simp only at hop
    simp only [Option.some.injEq] at h
    subst h
    refine ⟨Nat.le_of_ble_eq_true rfl, ?_⟩
    refine en ?_
    have fin : ∀ (e : Env) (m' : Mem) (z : Bool), Ev.get e 2 = .v (.bool z) → finMem m m' = m → (z = true ↔ mayN ⟨op, a, b, c, k, u, n⟩) → Leaves Tryz.prog false Tryz.f96 m (.v (.bool (decide (mayN ⟨op, a, b, c, k, u, n⟩))), m) .ret e m' := fun e m' z h1 h2 h3 => by
     have : z = decide (mayN ⟨op, a, b, c, k, u, n⟩) := by rw [Bool.eq_iff_iff, decide_eq_true_eq]; exact h3
     rw [← this]
     exact leaves_fin rfl h1 h2
    subst hop
    repeat' (first | refine gos1 (jn @t1 (jn @q_eq (jn @t2 @lm_eq))) ?_ | (refine ops_here ?_; (fail_if_success (refine ops_case (B := true) rfl rfl rfl ?_ ?_)); (fail_if_success (refine ops_case (B := false) rfl rfl rfl ?_ ?_)); refine ops_case rfl rfl rfl (fun hB => ?_) (fun hB => ?_) <;> rw [hB]) | (refine runs_here ?_; refine runs_cond rfl (fun hc => ?_) (fun hc => ?_) <;> first | (cases hc; done) | skip))
    all_goals exact fin _ _ _ rfl fin_push (by clear fin hx t1 t2 hC; simp only [Bool.not_eq_true', Bool.not_eq_false', Bool.not_true, Bool.not_false, Bool.and_true, Bool.and_eq_true, Bool.and_eq_false_iff, decide_eq_true_eq, decide_eq_false_iff_not, Bool.false_eq_true, reduceCtorEq, false_iff, true_iff, beq_iff_eq, bne_iff_ne, beq_eq_false_iff_ne, bne_eq_false_iff_eq, ne_eq, not_false_eq_true, not_true_eq_false, true_or, or_true, true_implies, false_implies, implies_true, and_self, true_and, false_and, or_false, false_or, and_true, and_false] at *; simp only [mayN, inQ, lenMay, not_false_eq_true, not_true_eq_false, true_or, or_true, true_implies, false_implies, implies_true, and_self, true_and, false_and, or_false, false_or, and_true, and_false] at *; omega)
   ·cases h
  ·cases h
 ·cases h
end
section
theorem refMay_ok : FunOk Tryz.prog 96 mayG := may_all fun op => by
 rcases (by omega : op < 1 ∨ 9 < op ∨ op = 1 ∨ op = 2 ∨ op = 3 ∨ op = 4 ∨ op = 5 ∨ op = 6 ∨ op = 7 ∨ op = 8 ∨ op = 9) with h | h | h | h | h | h | h | h | h | h | h
 ·exact ⟨_, decide_eq_true h, refMay_low⟩
 ·exact ⟨_, decide_eq_true h, refMay_high⟩
 ·exact ⟨_, decide_eq_true h, refMay_at1⟩
 ·exact ⟨_, decide_eq_true h, refMay_at2⟩
 ·exact ⟨_, decide_eq_true h, refMay_at3⟩
 ·exact ⟨_, decide_eq_true h, refMay_at4⟩
 ·exact ⟨_, decide_eq_true h, refMay_at5⟩
 ·exact ⟨_, decide_eq_true h, refMay_at6⟩
 ·exact ⟨_, decide_eq_true h, refMay_at7⟩
 ·exact ⟨_, decide_eq_true h, refMay_at8⟩
 ·exact ⟨_, decide_eq_true h, refMay_at9⟩
end
section
attribute [local irreducible] Next Inside Runs Ops table
attribute [local go_sem] szStr szInt Option.getD_some isNil loadStr loadInt rowsS_len rowsI_len rowsN_len evStr fldOp ldOp ldNode
theorem anyN_no {p : Nd → Bool} {l : List Nd} {i : Nat} (hi : i < l.length) (h : (l.take i).any p = false) (hp : p (l.getD i nd0) = false) : (l.take (i + 1)).any p = false := by
 rw [take_next (d := nd0) hi, List.any_append, h, List.any_cons, hp]
 rfl
theorem anyN_yes {p : Nd → Bool} {l : List Nd} {i : Nat} (hi : i < l.length) (hp : p (l.getD i nd0) = true) : l.any p = true :=
 List.any_eq_true.2 ⟨_, by simp [List.getD, List.getElem?_eq_getElem hi], hp⟩
def kpRefCheckT : Nat → Option (List Nat) := fun _ => some [0, 2, 3, 6, 9, 13, 21, 24]
attribute [go_sem] kpRefCheckT
def tabRefCheckT : List (FuncId × (List AV → Mem → Option (AV × Mem))) := [(95, wholeG), (96, mayG), (97, refDepthG)]
theorem refCheckT_ok : FunOk Tryz.prog 44 checkTG := by
 have hC := table_ok (P := Tryz.prog) (l := tabRefCheckT) (table_more refWhole_ok (table_more refMay_ok (table_more refDepth_ok table_nil)))
 have t1 := fun args mm => table_at (l := tabRefCheckT) (f := 95) (args := args) (m := mm) rfl
 have t2 := fun args mm => table_at (l := tabRefCheckT) (f := 96) (args := args) (m := mm) rfl
 have t3 := fun args mm => table_at (l := tabRefCheckT) (f := 97) (args := args) (m := mm) rfl
 refine fun_ok mixed hC Tryz.func44 rfl kpRefCheckT false rfl fun args m r h => ?_
 unfold checkTG at h
 split at h
 ·rename_i g rows
  split at h
  ·rename_i l hl0
   obtain rfl := unN_some hl0
   split at h
   ·rename_i hlen
    simp only [Option.some.injEq] at h
    subst h
    refine ⟨Nat.le_of_ble_eq_true rfl, ?_⟩
    refine en ?_
    have f1 := fun mm => wholeG_eq (m := mm) (g := .no) hlen
    refine go0 ?_
    refine runs_cond rfl (fun hc => ?_) (fun hc => ?_)
    ·have := of_decide_eq_true hc
     rw [show checkT l = 9 from if_pos (by omega)]
     refine go0 ?_
     exact leaves_v rfl rfl
    ·have h64 := of_decide_eq_false hc
     have e : checkT l = if wholeB l = false ∨ l.any badN = true then 1 else if 32 < depthOf l then 7 else 0 := if_neg (by omega)
     cases hw : wholeB l with
     | false =>
      rw [hw] at f1
      have b1 : (!false) = true := rfl
      rw [e, if_pos (.inl hw)]
      refine go1 (jn @t1 (jn @f1 @b1)) ?_
      refine runs_cond rfl (fun hc => ?_) (fun hc => by cases hc)
      refine go0 ?_
      exact leaves_v rfl rfl
     | true =>
      rw [hw] at f1
      have b1 : (!true) = false := rfl
      refine go1 (jn @t1 (jn @f1 @b1)) ?_
      refine runs_cond rfl (fun hc => by cases hc) (fun hc => ?_)
      refine go0 ?_
      refine runs_loop (fun k e m' => ∃ (i : Nat) (x13 x21 : AV), i ≤ l.length ∧ (l.take i).any badN = false ∧ m = m' ∧ k = l.length - i ∧
       e = [(0, AV.lst g 7 (rowsN l)), (2, .v (.int .i64 0)), (3, .v (.int .i64 (i : Int))), (6, .v (.bool (decide ((l.length : Int) > 64)))), (9, .v (.bool false)), (13, x13), (21, x21), (24, .junk)])
       (k := l.length) ⟨0, _, _, Nat.zero_le _, rfl, rfl, rfl, rfl⟩ ?_
      rintro k e m' ⟨i, x13, x21, hi, hno, rfl, rfl, rfl⟩
      refine go0 ?_
      refine runs_cond rfl (fun hc => ?_) (fun hc => ?_)
      ·have hi1 : i < l.length := by have := of_decide_eq_true hc; omega
       have f2 := atNodes (g := g) (kk := .i64) hi1
       have f3 := mayG_eq (l.getD i nd0)
       refine go1 (jn @f2 (jn @t2 @f3)) ?_
       refine runs_cond rfl (fun hc => ?_) (fun hc => ?_)
       ·rw [e, if_pos (.inr (anyN_yes (p := badN) hi1 hc))]
        refine go0 ?_
        exact leaves_v rfl rfl
       ·have r6 := next_i64 (i := i) (by omega)
        refine go1 @r6 ?_
        exact ⟨l.length - (i + 1), by omega, i + 1, _, _, hi1, anyN_no (p := badN) hi1 hno hc, rfl, rfl, rfl⟩
      ·have hi1 : i = l.length := by have := of_decide_eq_false hc; omega
       subst hi1
       rw [List.take_length] at hno
       have hn : ¬ (wholeB l = false ∨ l.any badN = true) := by rw [hw, hno]; simp
       rw [e, if_neg hn]
       have hd : depthOf l = depthD l 0 := by unfold depthOf; rw [hw]; rfl
       unfold wholeB at hw
       simp only [Bool.and_eq_true, decide_eq_true_eq] at hw
       have f4 := fun mm => refDepthG_eq (m := mm) (g := .no) (at_ := 0) hlen (Int.le_refl _) (by omega)
       rw [hd]
       refine go1 (jn @t3 @f4) ?_
       refine runs_cond rfl (fun hc => ?_) (fun hc => ?_)
       ·have := of_decide_eq_true hc
        rw [if_pos (by omega)]
        refine go0 ?_
        exact leaves_v rfl rfl
       ·have := of_decide_eq_false hc
        rw [if_neg (by omega)]
        refine go0 ?_
        exact leaves_v rfl rfl
   ·cases h
  ·cases h
 ·cases h
end
end Go.Proofs.YtojaokhkbmiidaaGreat.Ev

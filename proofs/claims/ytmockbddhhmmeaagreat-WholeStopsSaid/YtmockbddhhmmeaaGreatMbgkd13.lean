/- Steps that are kept, checked. -/
import Derived.Test.YtmockbddhhmmeaaGreatMbgkd12
import Derived.Test.YtmockbddhhmmeaaGreatMbgkd9
import Derived.Test.YtmockbddhhmmeaaGreatMa9
namespace Go.Proofs.YtmockbddhhmmeaaGreat.Ev
open Go Go.Proofs
set_option maxRecDepth 10000
set_option maxHeartbeats 8000000
set_option linter.unusedVariables false
set_option linter.unusedSimpArgs false
noncomputable section
attribute [local irreducible] Next aW cF Ops bQ
attribute [local irreducible] bE dH eZ eC
attribute [local go_sem] cO bP Option.getD_some cJ aT aV iv aCc oD pF aUt cV bGh aKg aWe cBu cCf cA3 bBs bPx aY3 List.cons_append zF aKq aIi aBw aD8 aKy aF2 aKx
def sF (l : List Kt) (i : Nat) (q : Int) : Nat := ((l.take i).filter fun y => y.step == q).length
def aSh (l : List Kt) (i : Nat) : Bool := decide (0 < sF l i (l.getD i kt0).step)
def aIy (most : Bool) (l : List Kt) (i : Nat) : Bool := decide (0 < i) && (nL most (l.getD i kt0) (l.getD (i - 1) kt0) || ((l.getD i kt0).val == (l.getD (i - 1) kt0).val && decide ((l.getD i kt0).step < (l.getD (i - 1) kt0).step)))
def tD (l : List Kt) (cnt : Int) (most : Bool) : Bool := !((List.range l.length).any fun i => aSh l i || aIy most l i) && decide ((l.length : Int) ≤ cnt)
def aP5 (l : List Kt) : Prop := l.length ≤ 1000000 ∧ ∀ y ∈ l, inI y.val
open Classical in
def aE3 : List AV → Mem → Option (AV × Mem)
 | [.lst _ 2 rows, .v (.int .i64 cnt), .v (.bool b)], m =>
  match xZ rows with
  | some l => if aP5 l then some (.v (.bool (tD l cnt b)), m) else none
  | none => none
 | _, _ => none
theorem bJi {cnt : Int} {b : Bool} {g : Grow} {l : List Kt} (h : aP5 l) (m : Mem) : aE3 [.lst g 2 (bR l), .v (.int .i64 cnt), .v (.bool b)] m = some (.v (.bool (tD l cnt b)), m) := by
 simp only [aE3, iP]
 exact if_pos h
theorem bTa (l : List Kt) (i : Nat) (q : Int) : sF l i q ≤ i := by
 unfold sF
 exact Nat.le_trans (List.length_filter_le _ _) (by rw [List.length_take]; omega)
theorem bI1 {l : List Kt} {i : Nat} (hi : i < l.length) (q : Int) : sF l (i + 1) q = if q = (l.getD i kt0).step then sF l i q + 1 else sF l i q := by
 unfold sF
 rw [List.take_add_one, List.getElem?_eq_getElem hi, List.filter_append, List.length_append]
 have e : l.getD i kt0 = l[i] := by simp [List.getD, List.getElem?_eq_getElem hi]
 rw [e]
 by_cases h : q = l[i].step
 ·simp [h]
 ·have h2 : (l[i].step == q) = false := by simpa using fun hh => h hh.symm
  simp [h, h2]
theorem aMs : Tryz.prog.underlying 159 = some (.map 3 3) := by simp only [Tryz.underlying159]
theorem bCu : KeyOkN Tryz.prog 3 Int fun n => .int .i64 n := bU2 cBp
theorem bFq (w : World) : (zeroValue 3).run Tryz.prog w = .ok (.int .i64 0) w := by kernel_rfl
theorem cC2 {m : Mem} {n : Int} {b : Bool} : aR Tryz.prog (m.push wR) 162 (.ptr m.vars.length 0) (.agg (bM n b)) = some (m.push (bM n b)) := by
 rw [eW (cs := bM n b) rfl bYk (Nat.le_refl _) rfl]
 rfl
def eE : Nat → Option (List Nat) := fun
 | 0 => some [0, 1, 2]
 | 1 => some [0, 1, 2, 7]
 | 2 => some [0, 1, 7, 8]
 | 3 => some [0, 1, 7, 8, 15, 16, 17]
 | 4 => some [0, 1, 7, 8, 15, 16, 17, 18]
 | 5 => some [0, 1, 7, 8, 9, 10, 15, 16, 17]
 | 6 => some [0, 1, 7, 8, 9, 10, 15, 16, 17]
 | 7 => some [0, 1, 7, 8, 9, 10, 15, 16, 17, 31]
 | 8 => some [6]
 | 9 => some [0, 1, 7, 8, 15, 16, 17, 66]
 | 10 => some [6]
 | 11 => some [0, 1, 7, 8, 15, 16, 17]
 | 12 => some [6]
 | _ => none
attribute [go_sem] eE
def aHx : List (FuncId × (List AV → Mem → Option (AV × Mem))) := [(108, aLr), (125, aG8)]
theorem bHq : aO Tryz.prog 87 aE3 := by
 have hC := aI (P := Tryz.prog) (l := aHx) (aA aZ1 (aA aVy aF))
 have t1 := taT aHx 108 rfl
 have t2 := taT aHx 125 rfl
 refine dJ Tryz.func87 rfl false rfl fun args m r h => ?_
 unfold aE3 at h
 split at h
 ·rename_i g rows cnt b
  split at h
  ·rename_i l hl0
   obtain rfl := kY hl0
   split at h
   ·rename_i hd
    obtain ⟨hlen, hin⟩ := hd
    simp only [Option.some.injEq] at h
    subst h
    refine ⟨nbT, fun φ wd => ?_⟩
    refine en ?_
    refine xq ?_
    refine aB (kp := eE) mixed hC ?_
    refine go0 ?_
    refine xq ?_
    refine iF (l2 := eE 1) ?_
    refine bX (bBd (enc := fun n : Int => Value.int .i64 n) rfl rfl (by decide) rfl fun bm hbm => ?_)
    refine gL hC ?_
    refine xq ?_
    have c1 := aXp cnt b
    have s1 := cC2 (m := m) (n := mx cnt 0) (b := b)
    have v8 : (m.push (bM (mx cnt 0) b)).var m.vars.length = some (bM (mx cnt 0) b) := aJ
    have hA := aG (cs := bM (mx cnt 0) b) (aM m)
    refine aB (kp := eE) mixed hC ?_
    refine go1 (jn @t1 (jn @c1 @s1)) ?_
    refine xq ?_
    generalize m.push (bM (mx cnt 0) b) = m2 at v8 hA
    generalize m.vars.length = r8 at v8
    refine aB (kp := eE) mixed hC ?_
    refine go0 ?_
    refine xq ?_
    refine wZ (fun k e m' F => ∃ (i : Nat) (ml : List (Int × Value)), i ≤ l.length ∧ ((List.range i).any fun j => aSh l j || aIy b l j) = false ∧ (∀ q, aCn (.int .i64 0) q ml = .int .i64 ((sF l i q : Nat) : Int)) ∧ (bm, aGi (fun n : Int => Value.int .i64 n) ml) ∈ F ∧ Above m m' ∧ m'.var r8 = some (bM (mx cnt 0) b) ∧ k = l.length - i ∧
     e = [(0, AV.lst g 2 (bR l)), (1, .v (.int .i64 cnt)), (7, .v (.map (some bm))), (8, .ptr r8 0), (15, .lst g 2 (bR l)), (16, .v (.int .i64 l.length)), (17, .v (.int .i64 (i : Int)))]) (k := l.length)
     ⟨0, [], Nat.zero_le _, rfl, fun q => rfl, List.mem_cons_self, hA, v8, rfl, rfl⟩ ?_
    rintro k e m' F ⟨i, ml, hi, hno, hval, hbF, hA', v8', rfl, rfl⟩
    clear v8 hA
    refine xq ?_
    refine aB (kp := eE) mixed hC ?_
    refine go0 ?_
    refine xq ?_
    refine cK rfl (fun hc => ?_) (fun hc => ?_)
    ·have hi1 : i < l.length := by have := of_decide_eq_true hc; omega
     have f1 := bK6 (g := g) (kk := .i64) hi1
     have r6 := cP (i := i) (by omega)
     have hcx := bTa l i (l.getD i kt0).step
     have hnx := bI1 hi1
     have hdup : aSh l i = decide (0 < sF l i (l.getD i kt0).step) := rfl
     have hbad : aIy b l i = (decide (0 < i) && (nL b (l.getD i kt0) (l.getD (i - 1) kt0) || ((l.getD i kt0).val == (l.getD (i - 1) kt0).val && decide ((l.getD i kt0).step < (l.getD (i - 1) kt0).step)))) := rfl
     have hx := hin (l.getD i kt0) (jI hi1)
     generalize l.getD i kt0 = x at f1 hcx hnx hdup hbad hx
     have st := cCi (m := m') (x := x)
     have n10 := aY3 (m := m')
     have v10 : (m'.push x.row).var m'.vars.length = some x.row := aJ
     have v8b : (m'.push x.row).var r8 = some (bM (mx cnt 0) b) := aQ v8'
     have hA2 := aG (cs := x.row) hA'
     refine xq ?_
     refine aB (kp := eE) mixed hC ?_
     refine go1 (jn @f1 (jn @st @n10)) ?_
     refine xq ?_
     generalize m'.push x.row = m3 at v10 v8b hA2
     generalize m'.vars.length = r10 at v10
     have l1 := aF8 v10
     have l2 := aUo v10
     have l3 := aUe v10
     have l4 := aSw v8b
     have hv1 := hval x.step
     have w1 : IntKind.i64.wrap (((sF l i x.step : Nat) : Int) + 1) = ((sF l i x.step + 1 : Nat) : Int) := by rw [bB (by omega) (by omega)]; omega
     refine iF (l2 := eE 6) ?_
     refine aFu hC @l1 ?_
     refine bX (aMa (t := 0) bCu aMs bFq hbF x.step rfl rfl rfl rfl rfl ?_)
     rw [hv1]
     refine aFu hC @w1 ?_
     refine bX (bBx (t := 0) (t2 := 0) (v := .int .i64 ((sF l i x.step + 1 : Nat) : Int)) bCu aMs hbF x.step rfl rfl rfl rfl rfl rfl ?_)
     refine gL hC ?_
     have hb2 : (bm, aGi (fun n : Int => Value.int .i64 n) (aB6 x.step (.int .i64 ((sF l i x.step + 1 : Nat) : Int)) ml)) ∈ eS F bm (aGi (fun n : Int => Value.int .i64 n) (aB6 x.step (.int .i64 ((sF l i x.step + 1 : Nat) : Int)) ml)) := pT hbF
     generalize eS F bm (aGi (fun n : Int => Value.int .i64 n) (aB6 x.step (.int .i64 ((sF l i x.step + 1 : Nat) : Int)) ml)) = F2 at hb2
     have hval2 : ∀ q, aCn (.int .i64 0) q (aB6 x.step (.int .i64 ((sF l i x.step + 1 : Nat) : Int)) ml) = .int .i64 ((sF l (i + 1) q : Nat) : Int) := fun q => by
      rw [aYs, bGb, hnx q]
      by_cases hq : q = x.step
      ·subst hq
       rw [if_pos rfl, if_pos rfl]
       rfl
      ·rw [if_neg hq, if_neg hq, ← aYs, hval q]
     have hv2 : aCn (.int .i64 0) x.step (aB6 x.step (.int .i64 ((sF l i x.step + 1 : Nat) : Int)) ml) = .int .i64 ((sF l i x.step + 1 : Nat) : Int) := by rw [hval2, hnx, if_pos rfl]
     generalize aB6 x.step (.int .i64 ((sF l i x.step + 1 : Nat) : Int)) ml = ml2 at hb2 hval2 hv2
     refine xq ?_
     refine iF (l2 := eE 7) ?_
     refine aFu hC @l1 ?_
     refine bX (aMa (t := 0) bCu aMs bFq hb2 x.step rfl rfl rfl rfl rfl ?_)
     rw [hv2]
     refine gL hC ?_
     refine xq ?_
     have bad : (aSh l i || aIy b l i) = true → tD l cnt b = false := fun hh => by
      unfold tD
      rw [aA3 hi1 hh]
      rfl
     refine cK rfl (fun hc2 => ?_) (fun hc2 => ?_)
     ·have h1 : 0 < sF l i x.step := by have := of_decide_eq_true hc2; omega
      rw [bad (by rw [hdup, decide_eq_true h1]; rfl)]
      refine xq ?_
      refine aB (kp := eE) mixed hC ?_
      refine go0 ?_
      refine xq ?_
      exact aX (aE rfl rfl (aC hA2))
     ·have h1 : ¬ 0 < sF l i x.step := by have := of_decide_eq_false hc2; omega
      rw [decide_eq_false h1] at hdup
      have hno2 : aIy b l i = false → ((List.range (i + 1)).any fun j => aSh l j || aIy b l j) = false := fun hh => by
       rw [List.range_succ, List.any_append, hno]
       simp [hdup, hh]
      have done : aIy b l i = false → ∀ {e : Env}, e = [(0, AV.lst g 2 (bR l)), (1, .v (.int .i64 cnt)), (7, .v (.map (some bm))), (8, .ptr r8 0), (15, .lst g 2 (bR l)), (16, .v (.int .i64 l.length)), (17, .v (.int .i64 ((i + 1 : Nat) : Int)))] → ∃ k', k' < l.length - i ∧ ∃ (i' : Nat) (ml : List (Int × Value)), i' ≤ l.length ∧ ((List.range i').any fun j => aSh l j || aIy b l j) = false ∧ (∀ q, aCn (.int .i64 0) q ml = .int .i64 ((sF l i' q : Nat) : Int)) ∧ (bm, aGi (fun n : Int => Value.int .i64 n) ml) ∈ F2 ∧ Above m m3 ∧ m3.var r8 = some (bM (mx cnt 0) b) ∧ k' = l.length - i' ∧
        e = [(0, AV.lst g 2 (bR l)), (1, .v (.int .i64 cnt)), (7, .v (.map (some bm))), (8, .ptr r8 0), (15, .lst g 2 (bR l)), (16, .v (.int .i64 l.length)), (17, .v (.int .i64 (i' : Int)))] := fun hh {e} he =>
       ⟨l.length - (i + 1), by omega, i + 1, ml2, hi1, hno2 hh, hval2, hb2, hA2, v8b, rfl, he⟩
      have hy0 : ∀ j, j < l.length → inI (l.getD j kt0).val := fun j hj => hin _ (jI hj)
      by_cases h0 : i = 0
      ·subst h0
       have k0 : decide (((0 : Nat) : Int) > 0) = false := rfl
       refine xq ?_
       refine bN (l2 := eE 9) mixed hC (by kernel_rfl) ?_
       refine eJ @k0 ?_
       refine xq ?_
       refine xcF rfl ?_
       refine xq ?_
       refine aB (kp := eE) mixed hC ?_
       refine go1 @r6 ?_
       refine xq ?_
       exact done (by rw [hbad]; rfl) rfl
      ·have k0 : decide (((i : Nat) : Int) > 0) = true := by simp; omega
       have w2 : IntKind.i64.wrap ((i : Int) - 1) = ((i - 1 : Nat) : Int) := by rw [bB (by omega) (by omega)]; omega
       have f2 := bK6 (g := g) (kk := .i64) (show i - 1 < l.length by omega)
       have hy := hy0 (i - 1) (by omega)
       generalize l.getD (i - 1) kt0 = y at f2 hbad hy
       have c2 := aYg (a := x) (b := y) ⟨hx, hy⟩ b
       rw [decide_eq_true (show 0 < i by omega), Bool.true_and] at hbad
       cases ha : nL b x y with
       | true =>
        rw [ha] at hbad c2
        refine xq ?_
        refine bN (l2 := eE 9) mixed hC (by kernel_rfl) ?_
        refine eJ (jn @k0 (jn @w2 (jn @f2 (jn @l4 (jn @l3 (jn @t2 @c2)))))) ?_
        refine xq ?_
        refine xcT rfl ?_
        rw [bad (by rw [hbad]; simp)]
        refine xq ?_
        refine aB (kp := eE) mixed hC ?_
        refine go0 ?_
        refine xq ?_
        exact aX (aE rfl rfl (aC hA2))
       | false =>
        rw [ha, Bool.false_or] at hbad
        rw [ha] at c2
        cases hv : (x.val == y.val) with
        | false =>
         rw [hv, Bool.false_and] at hbad
         refine xq ?_
         refine bN (l2 := eE 9) mixed hC (by kernel_rfl) ?_
         refine eJ (jn @k0 (jn @w2 (jn @f2 (jn @l4 (jn @l3 (jn @l2 (jn @t2 (jn @c2 @hv)))))))) ?_
         refine xq ?_
         refine xcF rfl ?_
         refine xq ?_
         refine aB (kp := eE) mixed hC ?_
         refine go1 @r6 ?_
         refine xq ?_
         exact done hbad rfl
        | true =>
         rw [hv, Bool.true_and] at hbad
         refine xq ?_
         refine bN (l2 := eE 9) mixed hC (by kernel_rfl) ?_
         refine eJ (jn @k0 (jn @w2 (jn @f2 (jn @l4 (jn @l3 (jn @l2 (jn @l1 (jn @t2 (jn @c2 @hv))))))))) ?_
         refine xq ?_
         refine cK rfl (fun hc => ?_) (fun hc => ?_)
         ·rw [bad (by rw [hbad, hc]; simp)]
          refine xq ?_
          refine aB (kp := eE) mixed hC ?_
          refine go0 ?_
          refine xq ?_
          exact aX (aE rfl rfl (aC hA2))
         ·refine xq ?_
          refine aB (kp := eE) mixed hC ?_
          refine go1 @r6 ?_
          refine xq ?_
          exact done (by rw [hbad, hc]) rfl
    ·have hi1 : i = l.length := by have := of_decide_eq_false hc; omega
     subst hi1
     refine xq ?_
     refine aB (kp := eE) mixed hC ?_
     refine go0 ?_
     refine xq ?_
     refine aX (aE rfl ?_ (aC hA'))
     show AV.v (.bool (decide ((l.length : Int) ≤ cnt))) = _
     unfold tD
     rw [hno]
     rfl
   ·cases h
  ·cases h
 ·cases h
end
noncomputable section
attribute [local irreducible] Next aW cF Ops bQ
attribute [local irreducible] bE dH eZ eC
attribute [local go_sem] cO bP Option.getD_some cJ aT aV iv kI fA dY pJ iK iW yO aBl rZ uQ kH tE yJ nF cV List.cons_append
def aA0 (p : Pn) (s : Ss) : Bool := if p.keepAt < 0 then (s.kept.length : Int) == 0 else !(decide ((s.kept.length : Int) > tH p s) || !(tD s.kept p.keep.Count p.keep.Max)) && !(s.kept.any (mN p s))
open Classical in
def aE2 : List AV → Mem → Option (AV × Mem)
 | [.agg ps, .agg ss], m =>
  match iH ps, sC ss with
  | some p, some s => if cQ p = true ∧ aP5 s.kept then some (.v (.bool (aA0 p s)), m) else none
  | _, _ => none
 | _, _ => none
theorem bId {p : Pn} {s : Ss} (h : cQ p = true ∧ aP5 s.kept) (m : Mem) : aE2 [.agg p.row, .agg s.row] m = some (.v (.bool (aA0 p s)), m) := by
 simp only [aE2, unPn_row, dZ]
 exact if_pos h
theorem bKh {p : Pn} (h : cQ p = true) (hk : ¬ p.keepAt < 0) : p.eval ≠ 0 := by
 have := (dD h).2.2.2.2.2.2.2.2.2.2.1
 unfold sO at this
 rw [if_neg (by omega)] at this
 simp only [Bool.and_eq_true] at this
 have := this.1.1
 unfold yD at this
 simp only [Bool.and_eq_true, decide_eq_true_eq] at this
 omega
def kC : Nat → Option (List Nat) := fun
 | 0 => some [2, 3]
 | 1 => some [2, 3, 7]
 | 2 => some [4]
 | 3 => some [2, 3, 30]
 | 4 => some [4]
 | 5 => some [4]
 | _ => none
attribute [go_sem] kC
def aBs : List (FuncId × (List AV → Mem → Option (AV × Mem))) := [(85, wF), (87, aE3), (88, aLc)]
theorem bJz : aO Tryz.prog 63 aE2 := by
 have hC := aI (P := Tryz.prog) (l := aBs) (aA aIe (aA bHq (aA bPp aF)))
 have t1 := taT aBs 85 rfl
 have t2 := taT aBs 87 rfl
 have t3 := taT aBs 88 rfl
 refine dJ Tryz.func63 rfl false rfl fun args m r h => ?_
 unfold aE2 at h
 split at h
 ·rename_i ps ss
  split at h
  ·rename_i p s hp0 hs0
   obtain rfl := bZ hp0
   obtain rfl := dT hs0
   split at h
   ·rename_i hd
    obtain ⟨hp, hk⟩ := hd
    simp only [Option.some.injEq] at h
    subst h
    refine ⟨nbT, fun φ wd => ?_⟩
    refine en ?_
    have vp : ((m.push p.row).push s.row).var m.vars.length = some p.row := aQ aJ
    have vs : ((m.push p.row).push s.row).var (m.push p.row).vars.length = some s.row := aJ
    have n1 := dY (m := m) (x := p)
    have n2 := iW (m := m.push p.row) (x := s)
    have hA := aG (cs := s.row) (aG (cs := p.row) (aM m))
    refine xq ?_
    refine aB (kp := kC) mixed hC ?_
    refine go1 (jn @n1 @n2) ?_
    refine xq ?_
    generalize (m.push p.row).push s.row = m2 at vp vs hA
    generalize (m.push p.row).vars.length = rs at vs
    generalize m.vars.length = rp at vp
    have k1 : (!true) = false := rfl
    have k2 : (!false) = true := rfl
    have l1 := aMv vp
    have l2 := aZd vs
    have l3 := qB vp
    have l4 := yH vs
    have l5 := aB8 vp
    have l6 := aYm vp
    refine aB (kp := kC) mixed hC ?_
    refine go1 @l1 ?_
    refine xq ?_
    unfold aA0
    refine cK rfl (fun hc => ?_) (fun hc => ?_)
    ·rw [if_pos (of_decide_eq_true hc)]
     refine xq ?_
     refine aB (kp := kC) mixed hC ?_
     refine go1 @l2 ?_
     refine xq ?_
     exact aX (aE rfl rfl (aC hA))
    ·have hneg := of_decide_eq_false hc
     rw [if_neg hneg]
     have hz := bKh hp hneg
     have c1 := aIj p s
     have c2 := bJi (cnt := p.keep.Count) (b := p.keep.Max) (g := .no) hk
     have c3 := bN6 (g := .no) hk.1 vs vp hz
     generalize tD s.kept p.keep.Count p.keep.Max = B2 at c2
     generalize s.kept.any (mN p s) = B3 at c3
     generalize tH p s = n at c1
     refine xq ?_
     cases h1 : decide ((s.kept.length : Int) > n) with
     | true =>
      refine bN (l2 := kC 3) mixed hC (by kernel_rfl) ?_
      refine eJ (jn @l2 (jn @l3 (jn @l4 (jn @t1 (jn @c1 @h1))))) ?_
      refine xq ?_
      refine xcT rfl ?_
      refine xq ?_
      refine aB (kp := kC) mixed hC ?_
      refine go0 ?_
      refine xq ?_
      exact aX (aE rfl rfl (aC hA))
     | false =>
      cases B2 with
      | false =>
       refine bN (l2 := kC 3) mixed hC (by kernel_rfl) ?_
       refine eJ (jn @l2 (jn @l3 (jn @l4 (jn @l5 (jn @l6 (jn @t1 (jn @c1 (jn @h1 (jn @t2 (jn @c2 @k2)))))))))) ?_
       refine xq ?_
       refine xcT rfl ?_
       refine xq ?_
       refine aB (kp := kC) mixed hC ?_
       refine go0 ?_
       refine xq ?_
       exact aX (aE rfl rfl (aC hA))
      | true =>
       refine bN (l2 := kC 3) mixed hC (by kernel_rfl) ?_
       refine eJ (jn @l2 (jn @l3 (jn @l4 (jn @l5 (jn @l6 (jn @t1 (jn @c1 (jn @h1 (jn @t2 (jn @c2 @k1)))))))))) ?_
       refine xq ?_
       refine xcF rfl ?_
       refine xq ?_
       refine aB (kp := kC) mixed hC ?_
       refine go1 (jn @l2 (jn @t3 @c3)) ?_
       refine xq ?_
       refine aX (aE rfl ?_ (aC hA))
       cases B3 <;> rfl
   ·cases h
  ·cases h
 ·cases h
/-! ### state.Check -/
def eF (p : Pn) (s : Ss) : Bool := cQ p && (aA1 p s && (aFi p s && (aNo p s && (aA0 p s && aL3 p s))))
def aZl (p : Pn) (s : Ss) : Prop := p.fit ∧ aP5 s.kept
open Classical in
def rI : List AV → Mem → Option (AV × Mem)
 | [.agg ps, .agg ss], m =>
  match iH ps, sC ss with
  | some p, some s => if aZl p s then some (.v (.int .i64 (if eF p s = true then 0 else 1)), m) else none
  | _, _ => none
 | _, _ => none
theorem aK7 {p : Pn} {s : Ss} (h : aZl p s) (m : Mem) : rI [.agg p.row, .agg s.row] m = some (.v (.int .i64 (if eF p s = true then 0 else 1)), m) := by
 simp only [rI, unPn_row, dZ]
 exact if_pos h
def aSs : Nat → Option (List Nat) := fun
 | 0 => some [2, 3]
 | 1 => some [37]
 | 2 => some [4]
 | 3 => some [4]
 | _ => none
attribute [go_sem] aSs
def kQ : List (FuncId × (List AV → Mem → Option (AV × Mem))) := [(59, eX), (60, aAq), (61, yX), (62, aGr), (63, aE2), (64, aE0)]
theorem aM6 : aO Tryz.prog 45 rI := by
 have hC := aI (P := Tryz.prog) (l := kQ) (aA xE (aA bBe (aA bDn (aA bK7 (aA bJz (aA bJj aF))))))
 have t1 := taT kQ 59 rfl
 have t2 := taT kQ 60 rfl
 have t3 := taT kQ 61 rfl
 have t4 := taT kQ 62 rfl
 have t5 := taT kQ 63 rfl
 have t6 := taT kQ 64 rfl
 refine aP mixed hC Tryz.func45 rfl aSs false rfl fun args m r h => ?_
 unfold rI at h
 split at h
 ·rename_i ps ss
  split at h
  ·rename_i p s hp0 hs0
   obtain rfl := bZ hp0
   obtain rfl := dT hs0
   split at h
   ·rename_i hd
    obtain ⟨hf, hk⟩ := hd
    simp only [Option.some.injEq] at h
    subst h
    refine ⟨nbT, ?_⟩
    refine en ?_
    have vp : ((m.push p.row).push s.row).var m.vars.length = some p.row := aQ aJ
    have vs : ((m.push p.row).push s.row).var (m.push p.row).vars.length = some s.row := aJ
    have n1 := dY (m := m) (x := p)
    have n2 := iW (m := m.push p.row) (x := s)
    have hA := aG (cs := s.row) (aG (cs := p.row) (aM m))
    refine go1 (jn @n1 @n2) ?_
    generalize (m.push p.row).push s.row = m2 at vp vs hA
    generalize (m.push p.row).vars.length = rs at vs
    generalize m.vars.length = rp at vp
    have k1 : (!true) = false := rfl
    have k2 : (!false) = true := rfl
    have z0 : ((0 : Int) != 0) = false := rfl
    have z1 : ((1 : Int) != 0) = true := rfl
    have l3 := qB vp
    have l4 := yH vs
    have c1 := aU7 hf
    unfold eF
    cases h1 : cQ p with
    | false =>
     rw [h1, if_neg (by decide)] at c1
     simp only [Bool.false_and]
     rw [if_neg (by decide)]
     refine go1 (jn @l3 (jn @t1 (jn @c1 @z1))) ?_
     refine rcT rfl ?_
     refine go0 ?_
     exact aE rfl rfl (aC hA)
    | true =>
     rw [h1, if_pos rfl] at c1
     simp only [Bool.true_and]
     have c2 := bB5 (s := s) h1
     have c3 := bCx p s
     have c4 := bHs p s
     have c5 := bId ⟨h1, hk⟩
     have c6 := bJ0 p s
     generalize aA1 p s = B2 at c2
     generalize aFi p s = B3 at c3
     generalize aNo p s = B4 at c4
     generalize aA0 p s = B5 at c5
     generalize aL3 p s = B6 at c6
     cases B2 with
     | false =>
      simp only [Bool.false_and]
      rw [if_neg (by decide)]
      refine go1 (jn @l3 (jn @l4 (jn @t1 (jn @c1 (jn @t2 (jn @c2 (jn @z0 (jn @k1 @k2)))))))) ?_
      refine rcT rfl ?_
      refine go0 ?_
      exact aE rfl rfl (aC hA)
     | true =>
      simp only [Bool.true_and]
      cases B3 with
      | false =>
       simp only [Bool.false_and]
       rw [if_neg (by decide)]
       refine go1 (jn @l3 (jn @l4 (jn @t1 (jn @c1 (jn @t2 (jn @c2 (jn @t3 (jn @c3 (jn @z0 (jn @k1 @k2)))))))))) ?_
       refine rcT rfl ?_
       refine go0 ?_
       exact aE rfl rfl (aC hA)
      | true =>
       simp only [Bool.true_and]
       cases B4 with
       | false =>
        simp only [Bool.false_and]
        rw [if_neg (by decide)]
        refine go1 (jn @l3 (jn @l4 (jn @t1 (jn @c1 (jn @t2 (jn @c2 (jn @t3 (jn @c3 (jn @t4 (jn @c4 (jn @z0 (jn @k1 @k2)))))))))))) ?_
        refine rcT rfl ?_
        refine go0 ?_
        exact aE rfl rfl (aC hA)
       | true =>
        simp only [Bool.true_and]
        cases B5 with
        | false =>
         simp only [Bool.false_and]
         rw [if_neg (by decide)]
         refine go1 (jn @l3 (jn @l4 (jn @t1 (jn @c1 (jn @t2 (jn @c2 (jn @t3 (jn @c3 (jn @t4 (jn @c4 (jn @t5 (jn @c5 (jn @z0 (jn @k1 @k2)))))))))))))) ?_
         refine rcT rfl ?_
         refine go0 ?_
         exact aE rfl rfl (aC hA)
        | true =>
         simp only [Bool.true_and]
         cases B6 with
         | false =>
          rw [if_neg (by decide)]
          refine go1 (jn @l3 (jn @l4 (jn @t1 (jn @c1 (jn @t2 (jn @c2 (jn @t3 (jn @c3 (jn @t4 (jn @c4 (jn @t5 (jn @c5 (jn @t6 (jn @c6 (jn @z0 (jn @k1 @k2)))))))))))))))) ?_
          refine rcT rfl ?_
          refine go0 ?_
          exact aE rfl rfl (aC hA)
         | true =>
          rw [if_pos (by rfl)]
          refine go1 (jn @l3 (jn @l4 (jn @t1 (jn @c1 (jn @t2 (jn @c2 (jn @t3 (jn @c3 (jn @t4 (jn @c4 (jn @t5 (jn @c5 (jn @t6 (jn @c6 (jn @z0 (jn @k1 @k2)))))))))))))))) ?_
          refine rcF rfl ?_
          refine go0 ?_
          exact aE rfl rfl (aC hA)
   ·cases h
  ·cases h
 ·cases h
/-! ### engine.goes -/
def aCb (p : Pn) (s : Ss) : Int := if eF p s = true then (if (s.status != 0) = true then 10 else 0) else 1
open Classical in
def bAk : List AV → Mem → Option (AV × Mem)
 | [.agg ps, .agg ss], m =>
  match iH ps, sC ss with
  | some p, some s => if aZl p s then some (.v (.int .i64 (aCb p s)), m) else none
  | _, _ => none
 | _, _ => none
theorem bUz {p : Pn} {s : Ss} (h : aZl p s) (m : Mem) : bAk [.agg p.row, .agg s.row] m = some (.v (.int .i64 (aCb p s)), m) := by
 simp only [bAk, unPn_row, dZ]
 exact if_pos h
def bPc : Nat → Option (List Nat) := fun
 | 0 => some [2, 3]
 | 1 => some [3, 5]
 | 2 => some [4]
 | 3 => some [10]
 | 4 => some [4]
 | 5 => some [4]
 | _ => none
attribute [go_sem] bPc
def aIz : List (FuncId × (List AV → Mem → Option (AV × Mem))) := [(45, rI)]
theorem bVx : aO Tryz.prog 66 bAk := by
 have hC := aI (P := Tryz.prog) (l := aIz) (aA aM6 aF)
 have t1 := taT aIz 45 rfl
 refine aP mixed hC Tryz.func66 rfl bPc false rfl fun args m r h => ?_
 unfold bAk at h
 split at h
 ·rename_i ps ss
  split at h
  ·rename_i p s hp0 hs0
   obtain rfl := bZ hp0
   obtain rfl := dT hs0
   split at h
   ·rename_i hd
    simp only [Option.some.injEq] at h
    subst h
    refine ⟨nbT, ?_⟩
    refine en ?_
    have vp : ((m.push p.row).push s.row).var m.vars.length = some p.row := aQ aJ
    have vs : ((m.push p.row).push s.row).var (m.push p.row).vars.length = some s.row := aJ
    have n1 := dY (m := m) (x := p)
    have n2 := iW (m := m.push p.row) (x := s)
    have hA := aG (cs := s.row) (aG (cs := p.row) (aM m))
    refine go1 (jn @n1 @n2) ?_
    generalize (m.push p.row).push s.row = m2 at vp vs hA
    generalize (m.push p.row).vars.length = rs at vs
    generalize m.vars.length = rp at vp
    have z0 : ((0 : Int) != 0) = false := rfl
    have z1 : ((1 : Int) != 0) = true := rfl
    have l3 := qB vp
    have l4 := yH vs
    have l5 := rY vs
    have c1 := aK7 hd
    unfold aCb
    cases h1 : eF p s with
    | false =>
     rw [h1, if_neg (by decide)] at c1
     rw [if_neg (by decide)]
     refine go1 (jn @l3 (jn @l4 (jn @t1 (jn @c1 @z1)))) ?_
     refine rcT rfl ?_
     refine go0 ?_
     exact aE rfl rfl (aC hA)
    | true =>
     rw [h1, if_pos rfl] at c1
     rw [if_pos rfl]
     refine go1 (jn @l3 (jn @l4 (jn @t1 (jn @c1 @z0)))) ?_
     refine rcF rfl ?_
     refine go1 @l5 ?_
     refine aH rfl (fun hc => ?_) (fun hc => ?_)
     ·rw [if_pos hc]
      refine go0 ?_
      exact aE rfl rfl (aC hA)
     ·rw [if_neg (by rw [hc]; decide)]
      refine go0 ?_
      exact aE rfl rfl (aC hA)
   ·cases h
  ·cases h
 ·cases h
/-! ### state.New -/
def zB : Ss := ⟨0, 0, 0, wt0, jG, [], [], sm0⟩
theorem bPn (m : Mem) : aA9 [] m = some (.agg jG.row, m) := rfl
def aVq : List AV → Mem → Option (AV × Mem)
 | [], m => some (.agg zB.row, m)
 | _, _ => none
theorem bOt (m : Mem) : aVq [] m = some (.agg zB.row, m) := rfl
def vD : List AV := [.v (.int .i64 0), .v (.int .i64 0), .v (.int .i64 0), .v (.bool false), .v (.int .i64 0), .v (.int .i64 0), .v (.bool false), .v (.int .i64 0), .v (.int .i64 0), .v (.int .i64 0), .v (.int .i64 4294967296), .lst .full 2 [], .lst .full 1 [], .v (.int .i64 0), .lst .full 1 []]
theorem bS1 : cN Tryz.prog 46 [(4, .agg jG.row)] = some (.agg vD) := by kernel_rfl
def bHb : Nat → Option (List Nat) := fun
 | 0 => some [0]
 | 1 => some [0]
 | _ => none
attribute [go_sem] bHb
def aEl : List (FuncId × (List AV → Mem → Option (AV × Mem))) := [(33, aA9)]
theorem bOh : aO Tryz.prog 24 aVq := by
 have hC := aI (P := Tryz.prog) (l := aEl) (aA aQv aF)
 have t1 := taT aEl 33 rfl
 refine aP mixed hC Tryz.func24 rfl bHb false rfl fun args m r h => ?_
 unfold aVq at h
 split at h
 ·simp only [Option.some.injEq] at h
  subst h
  refine ⟨nbT, ?_⟩
  refine en ?_
  have v0 : (m.push cL).var m.vars.length = some cL := aJ
  have nz := bDj (m := m)
  have hA := aG (cs := cL) (aM m)
  refine go1 (jn @nz (jn @aVs @aUj)) ?_
  generalize m.push cL = m2 at v0 hA
  generalize hr0 : m.vars.length = r0 at v0 ⊢
  have st1 : aR Tryz.prog m2 46 (.ptr r0 0) (.agg vD) = some (bO m2 r0 vD) := aS v0 tM rfl rfl (Nat.le_refl _) rfl rfl
  have c1 := bPn
  refine go1 (jn @t1 (jn @c1 (jn @bS1 @st1))) ?_
  have hl : aL Tryz.prog (bO m2 r0 vD) 46 (.ptr r0 0) = some (.agg vD) := bY (off := 0) (bA v0) tM bPi (Nat.le_refl _) rfl
  have hm := aC (bD (q := r0) (cs := vD) hA (Nat.le_of_eq hr0))
  exact eK rfl hl rfl hm
 ·cases h
end
noncomputable section
attribute [local irreducible] Next aW cF Ops bQ
attribute [local irreducible] bE dH eZ eC
attribute [local go_sem] cO bP Option.getD_some cJ aT aV iv kI pJ aB9 yO fA iK tF aN2 aNd aLf rG nU kN bH9 yV vW kP bVu aEy bKu bHh bDk bC2 List.cons_append kV gR bBa
/-! ### in which phase -/
theorem bE9 {p : Pn} (h : iA p = true) {step : Int} (h0 : 0 ≤ step) : ∀ n, n ≤ p.spans.length → step < jF p.spans n → ∃ j, j < n ∧ fT step (p.spans.getD j sp0) = true
 | 0, _, h1 => by unfold jF at h1; rw [if_pos rfl] at h1; omega
 | n + 1, hn, h1 => by
  by_cases h2 : step < jF p.spans n
  ·obtain ⟨j, hj, hs⟩ := bE9 h h0 n (by omega) h2
   exact ⟨j, by omega, hs⟩
  ·refine ⟨n, Nat.lt_succ_self n, ?_⟩
   unfold iA at h
   simp only [Bool.and_eq_true] at h
   have h3 := List.all_eq_true.1 h.1.1 n (List.mem_range.2 (by omega))
   unfold bJu at h3
   simp only [Bool.and_eq_true, beq_iff_eq, decide_eq_true_eq] at h3
   unfold jF at h1
   rw [if_neg (by omega), Nat.add_sub_cancel] at h1
   unfold fT
   simp only [Bool.and_eq_true, decide_eq_true_eq]
   omega
theorem bSd {p : Pn} (h : cQ p = true) {step : Int} (h0 : 0 ≤ step) (h1 : step < p.steps) : 0 ≤ nK p step ∧ nK p step < (p.spans.length : Int) := by
 obtain ⟨_, _, _, _, _, hs, _⟩ := dD h
 have he : jF p.spans p.spans.length = p.steps := by
  unfold iA at hs
  simp only [Bool.and_eq_true, beq_iff_eq] at hs
  exact hs.1.2
 obtain ⟨j, hj, hh⟩ := bE9 hs h0 p.spans.length (Nat.le_refl _) (by rw [he]; exact h1)
 have ha : p.spans.any (fT step) = true := List.any_eq_true.2 ⟨_, jI hj, hh⟩
 rw [← oY (fT step) p.spans 0] at ha
 have := aDd (p := fT step) p.spans 0
 exact ⟨of_decide_eq_true ha, by unfold nK; omega⟩
/-! ### what may be -/
def aJ9 (p : Pn) : Prop := p.fit ∧ inI p.plateau.Delta ∧ inI p.plateau.Factor ∧ inI p.stop.Delta ∧ inI p.plateau.Cooldown
def aJ7 (s : Ss) : Prop := aP5 s.kept ∧ (inI s.cut.watch.best ∧ inI s.cut.rest ∧ inI s.cut.scale) ∧ inI s.stop.best ∧ (s.ema.length ≤ 1000000 ∧ ∀ y ∈ s.ema, inI y) ∧ s.swa.sums.length ≤ 1000000
def aH3 (x : In) : Prop := (x.readings.length ≤ 1000000 ∧ x.weights.length ≤ 1000000) ∧ (∀ y ∈ x.readings, inI y.val) ∧ ∀ y ∈ x.weights, inI y
def gA (p : Pn) (s : Ss) (x : In) : Tn := ⟨p, s, x, s.step, nK p s.step, []⟩
def Tn.inc (T : Tn) : Tn := { T with s := { T.s with step := IntKind.i64.wrap (T.s.step + 1) } }
def bRd (p : Pn) (s : Ss) (evs : List Evt) (st : Int) : Ou := ⟨s.step, nK p s.step, aCr p s (nK p s.step).toNat, p.frozen.getD (nK p s.step).toNat [], evs, st⟩
def eY (p : Pn) (s : Ss) (x : In) : Ss × Ou × Int :=
 if rV p x = false then (ss0, ou0, 1) else if aCb p s ≠ 0 then (ss0, ou0, aCb p s) else
 (((gA p s x).run.inc).s, bRd p s (gA p s x).run.events (gA p s x).run.s.status, 0)
theorem aPz {p : Pn} {s : Ss} (h : aCb p s = 0) : eF p s = true ∧ s.status = 0 := by
 unfold aCb at h
 split at h
 ·rename_i h1
  split at h
  ·cases h
  ·rename_i h2
   exact ⟨h1, by simpa using h2⟩
 ·cases h
theorem bN7 {p : Pn} {s : Ss} {x : In} (hp : aJ9 p) (hs : aJ7 s) (hx : aH3 x) (h1 : rV p x = true) (h2 : aCb p s = 0) : aA5 p s (nK p s.step) ∧ aM9 (gA p s x) := by
 obtain ⟨hok, hst⟩ := aPz h2
 unfold eF at hok
 simp only [Bool.and_eq_true] at hok
 obtain ⟨hpl, hstat, hstop, hcut, hkept, havg⟩ := hok
 have hparts := dD hpl
 obtain ⟨⟨s1, s2⟩, ⟨w1, w2⟩, ⟨m1, m2⟩, ⟨g1, g2⟩, _, hspan, hfroz, _⟩ := hparts
 unfold aA1 at hstat
 rw [if_pos hst] at hstat
 simp only [Bool.and_eq_true, dW] at hstat
 have wr : IntKind.i64.wrap (p.steps - 1) = p.steps - 1 := bB (by omega) (by omega)
 rw [wr] at hstat
 have hstep : 0 ≤ s.step ∧ s.step < p.steps := by omega
 obtain ⟨f1, f2⟩ := bSd hpl hstep.1 hstep.2
 unfold gW at hfroz
 simp only [Bool.and_eq_true, beq_iff_eq] at hfroz
 have hfl : p.frozen.length = p.spans.length := by have := hfroz.2; omega
 have hsp : p.spans.length ≤ 16 := by
  unfold iA at hspan
  simp only [Bool.and_eq_true, decide_eq_true_eq] at hspan
  omega
 unfold rV at h1
 simp only [Bool.and_eq_true, beq_iff_eq] at h1
 obtain ⟨⟨⟨_, r1⟩, r2⟩, _⟩ := h1
 refine ⟨⟨hp.1, hpl, hstep, f1, by rw [hfl]; exact f2⟩, ⟨⟨f1, f2, hfl, hsp⟩, fun i hi => ?_, g2, Nat.zero_le _⟩, ⟨hs.2.2.2.2, hx.1.2⟩, ⟨hs.2.2.2.1.1, hx.1.2, hs.2.2.2.1.2, hx.2.2⟩, by show x.readings.length ≤ 1000; omega, hs.1, ⟨hs.2.1.1, hp.2.1, hs.2.1.2.1, hs.2.1.2.2, hp.2.2.1⟩, ⟨hs.2.2.1, hp.2.2.2.1⟩, hx.2.1⟩
 have := List.all_eq_true.1 hfroz.1 i (List.mem_range.2 hi)
 unfold bJk at this
 exact eq_of_beq this
/-! ### the walk -/
theorem cE9 {p : Pn} {s : Ss} {x : In} {a b : Int} : cN Tryz.prog 137 [(0, .agg p.row), (1, .agg s.row), (2, .agg x.row), (3, .v (.int .i64 a)), (4, .v (.int .i64 b))] = some (.agg ((Tn.mk p s x a b []).rowG .full)) := by kernel_rfl
attribute [local go_sem] cE9
theorem cAp {a b : Int} {l : List Int} {f : List Bool} : cN Tryz.prog 65 [(0, .v (.int .i64 a)), (1, .v (.int .i64 b)), (2, .lst .no 1 (cG l)), (3, .lst .no 1 (eA f))] = some (.agg ((Ou.mk a b l f [] 0).rowG .full)) := by kernel_rfl
attribute [local go_sem] cAp
theorem bQf {O : Ou} {g : Grow} : cellsOf (.agg (O.rowG g)) = some (O.rowG g) := rfl
attribute [local go_sem] bQf
theorem zSs : cellsOf (.agg cL) = some cL := rfl
attribute [local go_sem] zSs
theorem zOu : cellsOf (.agg dX) = some dX := rfl
attribute [local go_sem] zOu
theorem TAt.aboveT {m m8 mE : Mem} {r : Nat} {T0 T : Tn} {g : Grow} (hA : Above m m8) (hr : m.vars.length ≤ r) (h : TAt m8 r T0 .full T g mE) : pC m mE := by
 obtain ⟨L, rfl⟩ := hA
 obtain ⟨L2, e⟩ := h.ab
 subst e
 have hg : ∀ n, ∃ T, (fI n .full m.toks).2 = m.toks ++ T := fun n => by
  cases n with
  | zero => exact ⟨[], (List.append_nil _).symm⟩
  | succ k => exact ⟨[k], rfl⟩
 obtain ⟨T', hT'⟩ := hg (T.events.length - T0.events.length)
 refine ⟨L.set (r - m.vars.length) (some (T.rowG (fI (T.events.length - T0.events.length) .full m.toks).1)) ++ L2, T', ?_⟩
 unfold putT
 simp only [hT', List.set_append_right _ _ hr, List.append_assoc]
open Classical in
def aV2 : List AV → Mem → Option (AV × Mem)
 | [.agg ps, .agg ss, .agg xs], m =>
  match iH ps, sC ss, aL1 xs with
  | some p, some s, some x => if aJ9 p ∧ aJ7 s ∧ aH3 x then some (.tup [.agg (eY p s x).1.row, .agg (eY p s x).2.1.row, .v (.int .i64 (eY p s x).2.2)], m) else none
  | _, _, _ => none
 | _, _ => none
theorem bTt {p : Pn} {s : Ss} {x : In} (h : aJ9 p ∧ aJ7 s ∧ aH3 x) (m : Mem) : aV2 [.agg p.row, .agg s.row, .agg x.row] m = some (.tup [.agg (eY p s x).1.row, .agg (eY p s x).2.1.row, .v (.int .i64 (eY p s x).2.2)], m) := by
 simp only [aV2, unPn_row, dZ, sB]
 exact if_pos h
def lY : Nat → Option (List Nat) := fun
 | 0 => some [3, 4, 5, 6, 7]
 | 1 => some [3, 4, 5, 6, 7, 15]
 | 2 => some [6, 7, 8]
 | 3 => some [3, 4, 5, 6, 7, 9]
 | 4 => some [3, 4, 5, 6, 7, 9, 22]
 | 5 => some [6, 7, 8]
 | 6 => some [3, 4, 6, 7, 10]
 | 7 => some [6, 7, 10, 11]
 | 8 => some [6, 7, 10, 11]
 | 9 => some [6, 7, 10, 11]
 | 10 => some [6, 7, 10, 11]
 | 11 => some [6, 7, 8]
 | _ => none
attribute [go_sem] lY
def wU : List (FuncId × (List AV → Mem → Option (AV × Mem))) := [(65, zI), (66, bAk), (67, aLx), (68, aW2), (69, sX 1), (70, bTu)]
theorem bUl : aO Tryz.prog 47 aV2 := by
 have hC := aI (P := Tryz.prog) (l := wU) (aA bD7 (aA bVx (aA bMr (aA bVr (aA bI4 (aA bWh aF))))))
 have t1 := taT wU 65 rfl
 have t2 := taT wU 66 rfl
 have t3 := taT wU 67 rfl
 have t4 := taT wU 68 rfl
 have t5 := taT wU 69 rfl
 have t6 := taT wU 70 rfl
 refine dJ Tryz.func47 rfl false rfl fun args m r h => ?_
 unfold aV2 at h
 split at h
 ·rename_i ps ss xs
  split at h
  ·rename_i p s x hp0 hs0 hx0
   obtain rfl := bZ hp0
   obtain rfl := dT hs0
   obtain rfl := nE hx0
   split at h
   ·rename_i hd
    obtain ⟨hp, hs, hx⟩ := hd
    simp only [Option.some.injEq] at h
    subst h
    refine ⟨nbT, fun φ wd => ?_⟩
    refine en ?_
    have v3 : (((((m.push p.row).push s.row).push x.row).push cL).push dX).var m.vars.length = some p.row := aQ (aQ (aQ (aQ aJ)))
    have v4 : (((((m.push p.row).push s.row).push x.row).push cL).push dX).var (m.push p.row).vars.length = some s.row := aQ (aQ (aQ aJ))
    have v5 : (((((m.push p.row).push s.row).push x.row).push cL).push dX).var ((m.push p.row).push s.row).vars.length = some x.row := aQ (aQ aJ)
    have v6 : (((((m.push p.row).push s.row).push x.row).push cL).push dX).var (((m.push p.row).push s.row).push x.row).vars.length = some cL := aQ aJ
    have v7 : (((((m.push p.row).push s.row).push x.row).push cL).push dX).var ((((m.push p.row).push s.row).push x.row).push cL).vars.length = some dX := aJ
    have n1 := dY (m := m) (x := p)
    have n2 := iW (m := m.push p.row) (x := s)
    have n3 := aMx (m := (m.push p.row).push s.row) (x := x)
    have n4 := bDj (m := ((m.push p.row).push s.row).push x.row)
    have n5 := bH1 (m := (((m.push p.row).push s.row).push x.row).push cL)
    have hA := aG (cs := dX) (aG (cs := cL) (aG (cs := x.row) (aG (cs := s.row) (aG (cs := p.row) (aM m)))))
    have hg6 : m.vars.length ≤ (((m.push p.row).push s.row).push x.row).vars.length := by rw [cH, cH, cH]; omega
    have hg7 : m.vars.length ≤ ((((m.push p.row).push s.row).push x.row).push cL).vars.length := by rw [cH, cH, cH, cH]; omega
    have hne : (((m.push p.row).push s.row).push x.row).vars.length ≠ ((((m.push p.row).push s.row).push x.row).push cL).vars.length := by rw [cH (m := ((m.push p.row).push s.row).push x.row)]; omega
    refine xq ?_
    refine aB (kp := lY) mixed hC ?_
    refine go1 (jn @n1 (jn @n2 (jn @n3 (jn @n4 (jn @n5 (jn @aVs @aUj)))))) ?_
    refine xq ?_
    generalize ((((m.push p.row).push s.row).push x.row).push cL).push dX = m2 at v3 v4 v5 v6 v7 hA
    generalize ((((m.push p.row).push s.row).push x.row).push cL).vars.length = r7 at v7 hg7 hne
    generalize (((m.push p.row).push s.row).push x.row).vars.length = r6 at v6 hg6 hne
    generalize ((m.push p.row).push s.row).vars.length = r5 at v5
    generalize (m.push p.row).vars.length = r4 at v4
    generalize m.vars.length = r3 at v3
    have st6 : aR Tryz.prog m2 46 (.ptr r6 0) (.agg cL) = some (bO m2 r6 cL) := aS v6 tM rfl rfl (Nat.le_refl _) rfl rfl
    have v67 : (bO m2 r6 cL).var r7 = some dX := cD v7 (fun h => hne h.symm)
    have st7 : aR Tryz.prog (bO m2 r6 cL) 65 (.ptr r7 0) (.agg dX) = some (bO (bO m2 r6 cL) r7 dX) := aS v67 aEy rfl rfl (Nat.le_refl _) rfl rfl
    have fin0 : ∀ (e : Env) (b : Int), Ev.get e 6 = .ptr r6 0 → Ev.get e 7 = .ptr r7 0 → Ev.get e 8 = .v (.int .i64 b) → cZ Tryz.prog false Tryz.f47 m (.tup [.agg ss0.row, .agg ou0.row, .v (.int .i64 b)], m) .ret e (bO (bO m2 r6 cL) r7 dX) := fun e b h1 h2 h3 =>
     aMi rfl (by rw [h1]; exact bY (off := 0) (cD (bA v6) hne) tM bPi (Nat.le_refl _) rfl) rfl (by rw [h2]; exact bY (off := 0) (bA v67) aEy bZz (Nat.le_refl _) rfl) rfl (by rw [h3]; rfl) (aC (bD (bD hA hg6) hg7))
    have l1 := qB v3
    have l2 := bYv v5
    have l3 := yH v4
    have c1 := bB3 (p := p) (x := x) ⟨hp.1, hx.1⟩
    have z0 : ((0 : Int) != 0) = false := rfl
    have z1 : ((1 : Int) != 0) = true := rfl
    unfold eY
    cases h1 : rV p x with
    | false =>
     rw [h1, if_neg (by decide)] at c1
     rw [if_pos rfl]
     refine aB (kp := lY) mixed hC ?_
     refine go1 (jn @l1 (jn @l2 (jn @t1 (jn @c1 @z1)))) ?_
     refine xq ?_
     refine xcT rfl ?_
     refine xq ?_
     refine aB (kp := lY) mixed hC ?_
     refine go1 (jn @aMw (jn @bQ8 (jn @st6 @st7))) ?_
     refine xq ?_
     exact aX (fin0 _ _ rfl rfl rfl)
    | true =>
     rw [h1, if_pos rfl] at c1
     rw [if_neg (by decide)]
     refine aB (kp := lY) mixed hC ?_
     refine go1 (jn @l1 (jn @l2 (jn @t1 (jn @c1 @z0)))) ?_
     refine xq ?_
     refine xcF rfl ?_
     have c2 := bUz (p := p) (s := s) ⟨hp.1, hs.1⟩
     have hgd : aCb p s = 0 → aA5 p s (nK p s.step) ∧ aM9 (gA p s x) := bN7 hp hs hx h1
     generalize aCb p s = gv at c2 hgd
     refine xq ?_
     refine aB (kp := lY) mixed hC ?_
     refine go1 (jn @l1 (jn @l3 (jn @t2 @c2))) ?_
     refine xq ?_
     refine aB (kp := lY) mixed hC ?_
     refine go0 ?_
     refine xq ?_
     refine cK rfl (fun hc => ?_) (fun hc => ?_)
     ·rw [if_pos (by simpa using hc)]
      refine xq ?_
      refine aB (kp := lY) mixed hC ?_
      refine go1 (jn @aMw (jn @bQ8 (jn @st6 @st7))) ?_
      refine xq ?_
      exact aX (fin0 _ _ rfl rfl rfl)
     ·have hgz : gv = 0 := by simpa using hc
      rw [if_neg (by omega)]
      obtain ⟨hvd, hrd⟩ := hgd hgz
      obtain ⟨hfit, hpl, ⟨hs0', hs1'⟩, hf0, hf1⟩ := hvd
      have l4 := vA v4
      have c3 := bR6 (p := p) (by have := hp.1.1; unfold aMl; omega) s.step
      have c4 := bVj (p := p) (s := s) (ph := nK p s.step) ⟨hfit, hpl, ⟨hs0', hs1'⟩, hf0, hf1⟩
      have hTd : gA p s x = Tn.mk p s x s.step (nK p s.step) [] := rfl
      obtain ⟨q, hq⟩ := Int.eq_ofNat_of_zero_le hf0
      have hO : ∀ evs st, bRd p s evs st = Ou.mk s.step (q : Int) (aCr p s q) (p.frozen.getD q []) evs st := fun evs st => by unfold bRd; rw [hq]; rfl
      rw [hq] at c3 c4 hTd hf1
      rw [Int.toNat_natCast] at c4
      have nT := cB6 (m := m2) (x := Tn.mk p s x s.step (q : Int) []) (g := .full)
      rw [hO]
      have hfl := hf1
      have f1 := bK4 (g := .no) (kk := .i64) (l := p.frozen) (i := q) (by omega)
      have hbl : (p.frozen.getD q []).length ≤ 8 := by
       obtain ⟨_, q1, q2, _⟩ := hrd.1
       have := q1 q (by show q < p.frozen.length; omega)
       have q2' : p.groups ≤ 8 := q2
       have this' : ((p.frozen.getD q []).length : Int) = p.groups := this
       omega
      have c5 := aHn (k := 1) (g := .no) (rows := eA (p.frozen.getD q [])) (by rw [gR]; unfold lim; omega)
      generalize p.frozen.getD q [] = fr at f1 c5
      generalize aCr p s q = vals at c4
      refine xq ?_
      refine bPe (kp := lY) mixed hC (gT (by kernel_rfl) ?_)
      refine go1 (jn @l1 (jn @l3 (jn @l2 (jn @l4 (jn @t3 (jn @c3 @nT)))))) ?_
      refine xq ?_
      have v10 : (m2.push ((Tn.mk p s x s.step (q : Int) []).rowG .full)).var m2.vars.length = some ((Tn.mk p s x s.step (q : Int) []).rowG .full) := aJ
      have u3 := aQ (cs' := (Tn.mk p s x s.step (q : Int) []).rowG .full) v3
      have u4 := aQ (cs' := (Tn.mk p s x s.step (q : Int) []).rowG .full) v4
      have u6 := aQ (cs' := (Tn.mk p s x s.step (q : Int) []).rowG .full) v6
      have u7 := aQ (cs' := (Tn.mk p s x s.step (q : Int) []).rowG .full) v7
      have hA10 := aG (cs := (Tn.mk p s x s.step (q : Int) []).rowG .full) hA
      have hr10 : m.vars.length ≤ m2.vars.length := uL hA
      have hn6 : r6 ≠ m2.vars.length := by have := (fM v6).1; omega
      have hn7 : r7 ≠ m2.vars.length := by have := (fM v7).1; omega
      rw [← hTd] at v10 u3 u4 u6 u7 hA10 ⊢
      have eT : (gA p s x).phase = (q : Int) := by rw [hTd]
      generalize gA p s x = T0 at v10 u3 u4 u6 u7 hA10 eT hrd ⊢
      generalize m2.push (T0.rowG .full) = m10 at v10 u3 u4 u6 u7 hA10 ⊢
      generalize m2.vars.length = r10 at v10 hr10 hn6 hn7 ⊢
      have k4 := vA u4
      have k5 := aBy v10
      rw [eT] at k5
      have k6 := qB u3
      have k7 := yH u4
      have k8 := wE u3
      have hT10 := TAt.start v10 (trivial : okG .full m10.toks)
      refine bN (l2 := lY 7) mixed hC (by kernel_rfl) ?_
      refine eJ (jn @k4 (jn @k5 (jn @k6 (jn @k7 (jn @k8 (jn @f1 (jn @t4 (jn @c4 (jn @t5 @c5))))))))) ?_
      refine xq ?_
      have hT11 := hT10.push (cs := (Ou.mk s.step (q : Int) vals fr [] 0).rowG .full)
      have v11 : (m10.push ((Ou.mk s.step (q : Int) vals fr [] 0).rowG .full)).var m10.vars.length = some ((Ou.mk s.step (q : Int) vals fr [] 0).rowG .full) := aJ
      have y6 := aQ (cs' := (Ou.mk s.step (q : Int) vals fr [] 0).rowG .full) u6
      have y7 := aQ (cs' := (Ou.mk s.step (q : Int) vals fr [] 0).rowG .full) u7
      have hn10 : m10.vars.length ≠ r10 := by have := (fM v10).1; omega
      have hn11 : m10.vars.length ≠ r6 := by have := (fM u6).1; omega
      have hn12 : m10.vars.length ≠ r7 := by have := (fM u7).1; omega
      have hge11 : m10.vars.length ≤ m10.vars.length := Nat.le_refl _
      generalize m10.push ((Ou.mk s.step (q : Int) vals fr [] 0).rowG .full) = m11 at hT11 v11 y6 y7 ⊢
      generalize hr11 : m10.vars.length = r11 at v11 hn10 hn11 hn12 ⊢
      have cR := bXt hT11 hrd
      have hT12 := hT11.app (f := Tn.run) (bY4 T0)
      refine aB (kp := lY) mixed hC ?_
      refine go1 (jn @t6 @cR) ?_
      refine xq ?_
      have w11 : (putT m11 r10 T0.run (T0.run.events.length - T0.events.length) .full).var r11 = some ((Ou.mk s.step (q : Int) vals fr [] 0).rowG .full) := by rw [qR hn10]; exact v11
      have w6 : (putT m11 r10 T0.run (T0.run.events.length - T0.events.length) .full).var r6 = some cL := by rw [qR hn6]; exact y6
      have w7 : (putT m11 r10 T0.run (T0.run.events.length - T0.events.length) .full).var r7 = some dX := by rw [qR hn7]; exact y7
      generalize putT m11 r10 T0.run (T0.run.events.length - T0.events.length) .full = m12 at hT12 w11 w6 w7 ⊢
      generalize (fI (T0.run.events.length - T0.events.length) .full m11.toks).1 = g12 at hT12
      generalize T0.run = TR at hT12 ⊢
      have k9 := bIu hT12.hv
      have st9 : aR Tryz.prog m12 3 (.ptr r10 33) (.v (.int .i64 (IntKind.i64.wrap (TR.s.step + 1)))) = some (bO m12 r10 (TR.inc.rowG g12)) := aS hT12.hv bP rfl rfl nbT rfl rfl
      have hT13 := hT12.set (T2 := TR.inc) rfl
      have x11 : (bO m12 r10 (TR.inc.rowG g12)).var r11 = some ((Ou.mk s.step (q : Int) vals fr [] 0).rowG .full) := cD w11 hn10
      have x6 : (bO m12 r10 (TR.inc.rowG g12)).var r6 = some cL := cD w6 hn6
      have x7 : (bO m12 r10 (TR.inc.rowG g12)).var r7 = some dX := cD w7 hn7
      refine aB (kp := lY) mixed hC ?_
      refine go1 (jn @k9 @st9) ?_
      refine xq ?_
      generalize bO m12 r10 (TR.inc.rowG g12) = m13 at hT13 x11 x6 x7 ⊢
      have ka : aL Tryz.prog m13 63 (.ptr r10 52) = some (.lst g12 3 (fR TR.events)) := aNm (x := TR.inc) hT13.hv
      have kb : aL Tryz.prog m13 3 (.ptr r10 34) = some (.v (.int .i64 TR.s.status)) := aJu (x := TR.inc) hT13.hv
      have sa : aR Tryz.prog m13 63 (.ptr r11 4) (.lst g12 3 (fR TR.events)) = some (bO m13 r11 ((Ou.mk s.step (q : Int) vals fr TR.events 0).rowG g12)) := aS x11 bNs rfl rfl nbT rfl rfl
      have xa : (bO m13 r11 ((Ou.mk s.step (q : Int) vals fr TR.events 0).rowG g12)).var r11 = some ((Ou.mk s.step (q : Int) vals fr TR.events 0).rowG g12) := bA x11
      have sb : aR Tryz.prog (bO m13 r11 ((Ou.mk s.step (q : Int) vals fr TR.events 0).rowG g12)) 3 (.ptr r11 5) (.v (.int .i64 TR.s.status)) = some (bO (bO m13 r11 ((Ou.mk s.step (q : Int) vals fr TR.events 0).rowG g12)) r11 ((Ou.mk s.step (q : Int) vals fr TR.events TR.s.status).rowG g12)) := aS xa bP rfl rfl nbT rfl rfl
      have hT14 := (hT13.other (cs' := (Ou.mk s.step (q : Int) vals fr TR.events 0).rowG g12) (Nat.le_of_eq hr11) x11).other (cs' := (Ou.mk s.step (q : Int) vals fr TR.events TR.s.status).rowG g12) (Nat.le_of_eq hr11) xa
      have xb := bA (cs := (Ou.mk s.step (q : Int) vals fr TR.events TR.s.status).rowG g12) xa
      have z6 := cD (cs := (Ou.mk s.step (q : Int) vals fr TR.events TR.s.status).rowG g12) (cD (cs := (Ou.mk s.step (q : Int) vals fr TR.events 0).rowG g12) x6 (fun h => hn11 h.symm)) (fun h => hn11 h.symm)
      have z7 := cD (cs := (Ou.mk s.step (q : Int) vals fr TR.events TR.s.status).rowG g12) (cD (cs := (Ou.mk s.step (q : Int) vals fr TR.events 0).rowG g12) x7 (fun h => hn12 h.symm)) (fun h => hn12 h.symm)
      refine bN (l2 := lY 10) mixed hC (by kernel_rfl) ?_
      refine eJ (jn @ka (jn @kb (jn @sa @sb))) ?_
      refine xq ?_
      rw [show (m13.putv r11 ((Ou.mk s.step (q : Int) vals fr TR.events 0).rowG g12)).putv r11 ((Ou.mk s.step (q : Int) vals fr TR.events TR.s.status).rowG g12) = bO (bO m13 r11 ((Ou.mk s.step (q : Int) vals fr TR.events 0).rowG g12)) r11 ((Ou.mk s.step (q : Int) vals fr TR.events TR.s.status).rowG g12) from rfl]
      generalize bO (bO m13 r11 ((Ou.mk s.step (q : Int) vals fr TR.events 0).rowG g12)) r11 ((Ou.mk s.step (q : Int) vals fr TR.events TR.s.status).rowG g12) = m14 at hT14 xb z6 z7 ⊢
      have kc : aL Tryz.prog m14 46 (.ptr r10 33) = some (.agg TR.inc.s.row) := bZ9 (x := TR.inc) hT14.hv
      have kd := bLx xb
      have sc : aR Tryz.prog m14 46 (.ptr r6 0) (.agg TR.inc.s.row) = some (bO m14 r6 TR.inc.s.row) := aS z6 tM rfl rfl (Nat.le_refl _) rfl rfl
      have z67 : (bO m14 r6 TR.inc.s.row).var r7 = some dX := cD z7 (fun h => hne h.symm)
      have sd : aR Tryz.prog (bO m14 r6 TR.inc.s.row) 65 (.ptr r7 0) (.agg ((Ou.mk s.step (q : Int) vals fr TR.events TR.s.status).rowG g12)) = some (bO (bO m14 r6 TR.inc.s.row) r7 ((Ou.mk s.step (q : Int) vals fr TR.events TR.s.status).rowG g12)) := aS z67 aEy rfl rfl (Nat.le_refl _) rfl rfl
      have hab := TAt.aboveT hA10 hr10 hT14
      refine bN (l2 := lY 11) mixed hC (by kernel_rfl) ?_
      refine eJ (jn @kc (jn @kd (jn @sc @sd))) ?_
      refine xq ?_
      exact aX (aMi rfl (yH (cD (bA z6) hne)) rfl (bLx (bA z67)) rfl rfl (rP (iD (iD hab hg6) hg7)))
   ·cases h
  ·cases h
 ·cases h
end
noncomputable section
attribute [local irreducible] Next aW cF Ops bQ
attribute [local irreducible] bE dH eZ eC
attribute [local go_sem] cO bP Option.getD_some cJ aT aV iv kI pJ aB9 fA iK tF bCt bO9 bO0 List.cons_append bKu bHh aVs aUj tM aEy aWt
theorem bEg {P : Program} {fn : Func} {m m1 m2 : Mem} {e : Env} {t u : Tmp} {x y : AV} (h : fn.results = #[.tmp t, .tmp u]) (hx : fP m.vars.length m1 (Ev.get e t) = some x) (hy : fP m.vars.length m1 (Ev.get e u) = some y) (hm : bI m m1 = m2) : dL P false fn m e m1 = some (.tup [x, y], m2) := by
 unfold dL
 rw [h]
 simp [dP, hx, hy, hm]
/-! ### Restore -/
theorem cDm {b : Bool} {p : Pn} {s : Ss} : cN Tryz.prog 106 [(0, .v (.bool b)), (1, .agg p.row), (2, .agg s.row)] = some (.agg (Rn.mk b p s).row) := by kernel_rfl
attribute [local go_sem] cDm
def bVl (args : List AV) (_ : Mem) : Prop := ∃ p s, args = [.agg (Pn.row p), .agg (Ss.row s)] ∧ aZl p s
def aW8 (args : List AV) (m : Mem) (r : AV) (m' : Mem) (F : Objs) : Prop := ∀ p s, args = [.agg (Pn.row p), .agg (Ss.row s)] → m' = m ∧
 ((eF p s = true ∧ ∃ b, r = .tup [.v (tT b 0), .v (.int .i64 0)] ∧ F = [(b, XOb.arr (Rn.mk true p s).row)]) ∨ (eF p s = false ∧ r = .tup [.v (.pointer none), .v (.int .i64 1)] ∧ F = []))
theorem bYo {p p' : Pn} (h : p.row = p'.row) : p = p' := by have := unPn_row p; rw [h, unPn_row] at this; exact (Option.some.inj this).symm
theorem bZ1 {p p' : Ss} (h : p.row = p'.row) : p = p' := by have := dZ p; rw [h, dZ] at this; exact (Option.some.inj this).symm
def yT : Nat → Option (List Nat) := fun
 | 0 => some [2, 3]
 | 1 => some [2, 3, 6]
 | 2 => some [2, 3, 6, 11]
 | 3 => some [4, 5]
 | 4 => some [4, 5]
 | _ => none
attribute [go_sem] yT
theorem bSy : wO Tryz.prog 31 bVl aW8 := by
 have hC := aI (P := Tryz.prog) (l := [(45, rI)]) (aA aM6 aF)
 have t1 := taT [(45, rI)] 45 rfl
 refine aKr Tryz.func31 rfl rfl fun args m h => ?_
 obtain ⟨p, s, rfl, hd⟩ := h
 have out : ∀ {r : AV} {m' : Mem} {F : Objs}, (m' = m ∧ ((eF p s = true ∧ ∃ b, r = .tup [.v (tT b 0), .v (.int .i64 0)] ∧ F = [(b, XOb.arr (Rn.mk true p s).row)]) ∨ (eF p s = false ∧ r = .tup [.v (.pointer none), .v (.int .i64 1)] ∧ F = []))) → aW8 [.agg p.row, .agg s.row] m r m' F := fun h p' s' e => by
  simp only [List.cons.injEq, AV.agg.injEq, and_true] at e
  obtain rfl := bYo e.1
  obtain rfl := bZ1 e.2
  exact h
 refine ⟨nbT, fun φ wd => ?_⟩
 refine en ?_
 have v2 : ((m.push p.row).push s.row).var m.vars.length = some p.row := aQ aJ
 have v3 : ((m.push p.row).push s.row).var (m.push p.row).vars.length = some s.row := aJ
 have n1 := dY (m := m) (x := p)
 have n2 := iW (m := m.push p.row) (x := s)
 have hA := aG (cs := s.row) (aG (cs := p.row) (aM m))
 refine xq ?_
 refine aB (kp := yT) mixed hC ?_
 refine go1 (jn @n1 @n2) ?_
 refine xq ?_
 generalize (m.push p.row).push s.row = m2 at v2 v3 hA
 generalize (m.push p.row).vars.length = r3 at v3
 generalize m.vars.length = r2 at v2
 have l1 := qB v2
 have l2 := yH v3
 have c1 := aK7 hd
 have z0 : ((0 : Int) != 0) = false := rfl
 have z1 : ((1 : Int) != 0) = true := rfl
 cases hs : eF p s with
 | false =>
  rw [hs, if_neg (by decide)] at c1
  refine aB (kp := yT) mixed hC ?_
  refine go1 (jn @l1 (jn @l2 (jn @t1 @c1))) ?_
  refine xq ?_
  refine aB (kp := yT) mixed hC ?_
  refine go1 @z1 ?_
  refine xq ?_
  refine xcT rfl ?_
  refine xq ?_
  refine aB (kp := yT) mixed hC ?_
  refine go0 ?_
  refine xq ?_
  exact ⟨_, _, bEg rfl rfl rfl (aC hA), out ⟨rfl, .inr ⟨hs, rfl, rfl⟩⟩⟩
 | true =>
  rw [hs, if_pos rfl] at c1
  refine aB (kp := yT) mixed hC ?_
  refine go1 (jn @l1 (jn @l2 (jn @t1 @c1))) ?_
  refine xq ?_
  refine aB (kp := yT) mixed hC ?_
  refine go1 @z0 ?_
  refine xq ?_
  refine xcF rfl ?_
  refine xq ?_
  refine iF (l2 := yT 4) ?_
  refine aFu hC (jn @l1 @l2) ?_
  refine bX (bJd (t1 := 0) (av := .agg (Rn.mk true p s).row) rfl rfl (by decide) rfl rfl bT4 rfl fun b hb => ?_)
  refine gL hC ?_
  refine xq ?_
  exact ⟨_, _, bEg rfl rfl rfl (aC hA), out ⟨rfl, .inl ⟨hs, b, rfl, rfl⟩⟩⟩
/-! ### ok -/
def bM1 : List AV → Mem → Option (AV × Mem)
 | [.ptr r 0], m =>
  match m.var r with
  | some (.v (.bool true) :: _) => some (.v (.bool true), m)
  | _ => none
 | _, _ => none
theorem bYa {m : Mem} {r : Nat} {p : Pn} {s : Ss} (h : m.var r = some (Rn.mk true p s).row) : bM1 [.ptr r 0] m = some (.v (.bool true), m) := by
 unfold bM1
 simp only [h, Rn.row]
theorem cC6 {m : Mem} {r : Nat} {c : AV} {cs : List AV} (hv : m.var r = some (c :: cs)) : aL Tryz.prog m 4 (.ptr r 0) = some c := aK (k := 1) hv (by kernel_rfl) (by kernel_rfl) rfl
def bR0 : Nat → Option (List Nat) := fun
 | 0 => some [0]
 | 1 => some [2]
 | _ => none
attribute [go_sem] bR0
theorem bX4 : aO Tryz.prog 46 bM1 := by
 have hC := aI (P := Tryz.prog) (l := []) aF
 refine dJ Tryz.func46 rfl false rfl fun args m r h => ?_
 unfold bM1 at h
 split at h
 ·rename_i r0
  split at h
  ·rename_i cs hv
   simp only [Option.some.injEq] at h
   subst h
   refine ⟨nbT, fun φ wd => ?_⟩
   refine en ?_
   have l1 := cC6 hv
   have hu : Tryz.prog.underlying 101 = some (.pointer 106) := by simp only [Tryz.underlying101]
   refine xq ?_
   refine aB (kp := bR0) mixed hC ?_
   refine go0 ?_
   refine xq ?_
   refine iF (l2 := bR0 1) ?_
   refine gL hC ?_
   refine bX (bO8 (t1 := 0) rfl rfl (by decide) rfl hu rfl ?_)
   refine aFu hC @l1 ?_
   refine xq ?_
   exact aX (aY rfl rfl)
  ·cases h
 ·cases h
end
end Go.Proofs.YtmockbddhhmmeaaGreat.Ev

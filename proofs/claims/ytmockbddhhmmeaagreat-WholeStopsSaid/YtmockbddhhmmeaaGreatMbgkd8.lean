/- The phase of a step. -/
import Derived.Test.YtmockbddhhmmeaaGreatMbgkd7
import Derived.Test.YtmockbddhhmmeaaGreatMbgkd3
namespace Go.Proofs.YtmockbddhhmmeaaGreat.Ev
open Go Go.Proofs
set_option maxRecDepth 10000
set_option maxHeartbeats 8000000
set_option linter.unusedVariables false
set_option linter.unusedSimpArgs false
section
attribute [local irreducible] Next aW cF Ops bQ
attribute [local irreducible] bE dH
attribute [local go_sem] cO bP Option.getD_some cJ aMb iv aT3 qX qK aBf aP7 bTq aQ4 bTs cAk aP4 aGa aXm List.cons_append
def fT (step : Int) (s : Sp) : Bool := decide (s.from_ ≤ step) && decide (step < s.to_)
def yP : List AV → Mem → Option (AV × Mem)
 | [.agg cs, .ptr r 0], m =>
  match bJe cs, m.var r with
  | some s, some [.v (.int .i64 step)] => some (.v (.bool (fT step s)), m)
  | _, _ => none
 | _, _ => none
theorem bY9 {m : Mem} {r : Nat} {n : Int} (hv : m.var r = some [.v (.int .i64 n)]) : aL Tryz.prog m 3 (.ptr r 0) = some (.v (.int .i64 n)) := by
 unfold aL
 simp only [mG, hv, Option.map_some, bP, bXf]
 rfl
def aPw : Nat → Option (List Nat) := fun
 | 0 => some [1, 2]
 | 1 => some [3]
 | _ => none
attribute [go_sem] aPw
theorem bDo : aO Tryz.prog 112 yP := by
 have hC := aI (P := Tryz.prog) (l := []) aF
 refine aP mixed hC Tryz.func112 rfl aPw false rfl fun args m r h => ?_
 unfold yP at h
 split at h
 ·rename_i cs r0
  split at h
  ·rename_i s step hs hv
   obtain rfl := aHb hs
   simp only [Option.some.injEq] at h
   subst h
   refine ⟨nbT, ?_⟩
   refine en ?_
   have hp : (m.push s.row).var m.vars.length = some s.row := aJ
   have f1 := aB3 hp
   have f2 := aFp hp
   have f3 := bY9 (aQ (cs' := s.row) hv)
   have fin : ∀ (e : Env) (b : Bool), Ev.get e 3 = .v (.bool b) → b = fT step s → cZ Tryz.prog false Tryz.f112 m (.v (.bool (fT step s)), m) .ret e (m.push s.row) := fun e b h1 h2 => by
    rw [← h2]; exact aE rfl h1 lV
   repeat' (first | refine bZv (jn @f1 (jn @f2 @f3)) ?_ | (refine iX ?_; (fail_if_success (refine cT (B := true) rfl rfl rfl ?_ ?_)); (fail_if_success (refine cT (B := false) rfl rfl rfl ?_ ?_)); refine cT rfl rfl rfl (fun hB => ?_) (fun hB => ?_) <;> rw [hB]) | (refine hJ ?_; refine aH rfl (fun hc => ?_) (fun hc => ?_) <;> first | (cases hc; done) | skip))
   all_goals exact fin _ _ rfl (by first | (simp_all [fT]; done) | (simp_all [fT]; omega))
  ·cases h
 ·cases h
def uY : List AV → Mem → Option (AV × Mem)
 | [.lst _ 2 rows, .fn (.func 112) [] [.ptr r 0]], m =>
  match aFg rows, m.var r with
  | some l, some [.v (.int .i64 step)] => if l.length ≤ aMl then some (.v (.int .i64 (aZ (fT step) l 0)), m) else none
  | _, _ => none
 | _, _ => none
def aMu : Nat → Option (List Nat) := fun
 | 0 => some [0, 1]
 | 1 => some [0, 1, 7, 8]
 | 2 => some [0, 1, 7, 8, 9]
 | 3 => some [0, 1, 5, 7, 8]
 | 4 => some [0, 1, 5, 7, 8, 16]
 | 5 => some [4]
 | 6 => some [0, 1, 7, 8]
 | 7 => some [4]
 | _ => none
attribute [go_sem] aMu
def yE : List (FuncId × (List AV → Mem → Option (AV × Mem))) := [(112, yP)]
theorem aYz : aO Tryz.prog 111 uY := by
 have hC := aI (P := Tryz.prog) (l := yE) (aA bDo aF)
 have t1 := taT yE 112 rfl
 refine aP mixed hC Tryz.func111 rfl aMu false rfl fun args m r h => ?_
 unfold uY at h
 split at h
 ·rename_i g rows r0
  split at h
  ·rename_i l step hl0 hv
   obtain rfl := xR hl0
   split at h
   ·rename_i hlen
    simp only [Option.some.injEq] at h
    subst h
    unfold aMl at hlen
    refine ⟨nbT, ?_⟩
    refine en ?_
    refine go0 ?_
    refine cE (fun k e m' => ∃ (i : Nat), i ≤ l.length ∧ aZ (fT step) (l.drop i) i = aZ (fT step) l 0 ∧ m = m' ∧ k = l.length - i ∧
     e = [(0, AV.lst g 2 (gZ l)), (1, .fn (.func 112) [] [.ptr r0 0]), (7, .v (.int .i64 l.length)), (8, .v (.int .i64 (i : Int)))]) (k := l.length) ⟨0, Nat.zero_le _, rfl, rfl, rfl, rfl⟩ ?_
    rintro k e m' ⟨i, hi, hf, rfl, rfl, rfl⟩
    refine go0 ?_
    refine aH rfl (fun hc => ?_) (fun hc => ?_)
    ·have hi1 : i < l.length := by have := of_decide_eq_true hc; omega
     have f1 := bXx (g := g) (kk := .i64) hi1
     have f2 : yP [.agg (l.getD i sp0).row, .ptr r0 0] m = some (.v (.bool (fT step (l.getD i sp0))), m) := by
      simp only [yP, hv]
      rfl
     refine go1 (jn @f1 (jn @t1 @f2)) ?_
     refine aH rfl (fun hc => ?_) (fun hc => ?_)
     ·rw [aT1 hi1 hc hf]
      refine go0 ?_
      exact aY rfl rfl
     ·have r6 := cP (i := i) (by omega)
      refine go1 @r6 ?_
      exact ⟨l.length - (i + 1), by omega, i + 1, hi1, bFi hi1 hc hf, rfl, rfl, rfl⟩
    ·have hi1 : i = l.length := by have := of_decide_eq_false hc; omega
     subst hi1
     rw [aTq hf]
     refine go0 ?_
     exact aY rfl rfl
   ·cases h
  ·cases h
 ·cases h
def aEd : List AV → Mem → Option (AV × Mem)
 | [.lst _ 2 rows, .v (.int .i64 step)], m =>
  match aFg rows with
  | some l => if l.length ≤ aMl then some (.v (.int .i64 (aZ (fT step) l 0)), m) else none
  | none => none
 | _, _ => none
theorem bA7 {m : Mem} {g : Grow} {l : List Sp} {step : Int} (h : l.length ≤ aMl) : aEd [.lst g 2 (gZ l), .v (.int .i64 step)] m = some (.v (.int .i64 (aZ (fT step) l 0)), m) := by
 simp only [aEd, pU]
 rw [if_pos h]
def aWr : Nat → Option (List Nat) := fun
 | 0 => some [0, 3]
 | 1 => some [4]
 | _ => none
attribute [go_sem] aWr
theorem bTb {m : Mem} {n : Int} : newVar m m.vars.length [.v (.int .i64 n)] = some (m.push [.v (.int .i64 n)]) := bF rfl
theorem bIe {n : Int} : cellsOf (.v (.int .i64 n)) = some [.v (.int .i64 n)] := rfl
attribute [local go_sem] bTb bIe
def aCl : List (FuncId × (List AV → Mem → Option (AV × Mem))) := [(111, uY)]
theorem bKb : aO Tryz.prog 95 aEd := by
 have hC := aI (P := Tryz.prog) (l := aCl) (aA aYz aF)
 have t1 := taT aCl 111 rfl
 refine aP mixed hC Tryz.func95 rfl aWr false rfl fun args m r h => ?_
 unfold aEd at h
 split at h
 ·rename_i g rows step
  split at h
  ·rename_i l hl0
   obtain rfl := xR hl0
   split at h
   ·rename_i hlen
    simp only [Option.some.injEq] at h
    subst h
    refine ⟨nbT, ?_⟩
    refine en ?_
    have f1 : uY [.lst .no 2 (gZ l), .fn (.func 112) [] [.ptr m.vars.length 0]] (m.push [.v (.int .i64 step)]) = some (.v (.int .i64 (aZ (fT step) l 0)), m.push [.v (.int .i64 step)]) := by
     simp only [uY, pU, aJ]
     rw [if_pos hlen]
    refine go1 (jn @t1 @f1) ?_
    exact aE rfl rfl lV
   ·cases h
  ·cases h
 ·cases h
attribute [local go_sem] aT aV kI fA dY vN
def nK (p : Pn) (step : Int) : Int := aZ (fT step) p.spans 0
def aLx : List AV → Mem → Option (AV × Mem)
 | [.agg cs, .v (.int .i64 step)], m =>
  match iH cs with
  | some p => if p.spans.length ≤ aMl then some (.v (.int .i64 (nK p step)), m) else none
  | none => none
 | _, _ => none
theorem bR6 {p : Pn} (h : p.spans.length ≤ aMl) (step : Int) (m : Mem) : aLx [.agg p.row, .v (.int .i64 step)] m = some (.v (.int .i64 (nK p step)), m) := by
 simp only [aLx, unPn_row]
 exact if_pos h
def bG2 : Nat → Option (List Nat) := fun
 | 0 => some [1, 2]
 | 1 => some [4]
 | _ => none
attribute [go_sem] bG2
def aEf : List (FuncId × (List AV → Mem → Option (AV × Mem))) := [(95, aEd)]
theorem bMr : aO Tryz.prog 67 aLx := by
 have hC := aI (P := Tryz.prog) (l := aEf) (aA bKb aF)
 have t1 := taT aEf 95 rfl
 refine aP mixed hC Tryz.func67 rfl bG2 false rfl fun args m r h => ?_
 unfold aLx at h
 split at h
 ·rename_i cs step
  split at h
  ·rename_i p hp0
   obtain rfl := bZ hp0
   split at h
   ·rename_i hdom
    simp only [Option.some.injEq] at h
    subst h
    refine ⟨nbT, ?_⟩
    refine en ?_
    have v2 : (m.push p.row).var m.vars.length = some p.row := aJ
    have nr := dY (m := m) (x := p)
    have hA := aG (cs := p.row) (aM m)
    refine go1 @nr ?_
    generalize m.push p.row = m2 at v2 hA
    generalize m.vars.length = r2 at v2
    have l1 := uG v2
    have c1 := fun mm => bA7 (m := mm) (g := .no) (step := step) hdom
    refine go1 (jn @l1 (jn @t1 @c1)) ?_
    exact aE rfl rfl (aC hA)
   ·cases h
  ·cases h
 ·cases h
end
section
attribute [local irreducible] Next aW cF Ops bQ
attribute [local irreducible] bE dH
attribute [local go_sem] cO bP Option.getD_some cJ aT aV iv aLo aEp yO aBl aRc bRa bQ2 bBo vS oG aQa aUa bG0 aVh aAz qF xG pX aSc aEk aEx bAq aRu
def bCh (c : Ct) (x : Int) (p : Pt) : Wt := fX c.watch x (aDt p.Max p.Delta)
def pG (w : Wt) : Wt := ⟨w.has, w.best, 0⟩
def aIh (c : Ct) (x : Int) (p : Pt) : Ct × Bool :=
 if c.rest > 0 then (⟨pG (bCh c x p), c.rest - 1, c.scale⟩, false)
 else if aF4 (bCh c x p) p.Patience = false then (⟨bCh c x p, c.rest, c.scale⟩, false)
 else (⟨pG (bCh c x p), p.Cooldown, (fZ c.scale p.Factor).1⟩, true)
def aNq (c : Ct) (x : Int) (p : Pt) : Prop := aBm c.watch x (aDt p.Max p.Delta) ∧ inI c.rest ∧ inI c.scale ∧ inI p.Factor
instance (c : Ct) (x : Int) (p : Pt) : Decidable (aNq c x p) := by unfold aNq; exact inferInstance
def bRv : List AV → Mem → Option (AV × Mem)
 | [.agg cs, .v (.int .i64 x), .agg ps], m =>
  match bJp cs, bVs ps with
  | some c, some p => if aNq c x p then some (.tup [.agg (aIh c x p).1.row, .v (.bool (aIh c x p).2)], m) else none
  | _, _ => none
 | _, _ => none
theorem bZ2 {c : Ct} {x : Int} {p : Pt} (h : aNq c x p) (m : Mem) : bRv [.agg c.row, .v (.int .i64 x), .agg p.row] m = some (.tup [.agg (aIh c x p).1.row, .v (.bool (aIh c x p).2)], m) := by
 simp only [bRv, aM0, bRp]
 exact if_pos h
theorem cBx {m : Bool} {d : Int} : cN Tryz.prog 57 [(0, .v (.bool m)), (1, .v (.int .i64 d))] = some (.agg (aDt m d).row) := by kernel_rfl
def bWk : Nat → Option (List Nat) := fun
 | 0 => some [1, 3, 5, 6]
 | 1 => some [3, 5, 6]
 | 2 => some [3, 5, 6, 20]
 | 3 => some [3, 6]
 | 4 => some [3, 6]
 | 5 => some [6, 7]
 | 6 => some [3, 5, 6, 33]
 | 7 => some [6, 7]
 | 8 => some [3, 5, 6]
 | 9 => some [3, 6]
 | 10 => some [6, 7]
 | _ => none
attribute [go_sem] bWk
def wP : List (FuncId × (List AV → Mem → Option (AV × Mem))) := [(141, aRj), (81, bCl), (114, aGo)]
theorem bYt : aO Tryz.prog 140 bRv := by
 have hC := aI (P := Tryz.prog) (l := wP) (aA aWw (aA bEd (aA aH1 aF)))
 have t1 := taT wP 141 rfl
 have t2 := taT wP 81 rfl
 have t3 := taT wP 114 rfl
 refine aP mixed hC Tryz.func140 rfl bWk false rfl fun args m r h => ?_
 unfold bRv at h
 split at h
 ·rename_i cs x ps
  split at h
  ·rename_i c p hc0 hp0
   obtain rfl := aIp hc0
   obtain rfl := bHy hp0
   split at h
   ·rename_i hd
    obtain ⟨hd, hr, hs, hf⟩ := hd
    simp only [Option.some.injEq] at h
    subst h
    refine ⟨nbT, ?_⟩
    refine en ?_
    have v3 : (((m.push c.row).push p.row).push kZ).var m.vars.length = some c.row := aQ (aQ aJ)
    have v5 : (((m.push c.row).push p.row).push kZ).var (m.push c.row).vars.length = some p.row := aQ aJ
    have v6 : (((m.push c.row).push p.row).push kZ).var ((m.push c.row).push p.row).vars.length = some kZ := aJ
    have n1 := aRc (m := m) (x := c)
    have n2 := bG0 (m := m.push c.row) (x := p)
    have n3 := bBo (m := (m.push c.row).push p.row)
    have hA := aG (cs := kZ) (aG (cs := p.row) (aG (cs := c.row) (aM m)))
    have hge : m.vars.length ≤ ((m.push c.row).push p.row).vars.length := by rw [cH, cH]; omega
    have hne : m.vars.length ≠ ((m.push c.row).push p.row).vars.length := by rw [cH, cH]; omega
    have hne5 : (m.push c.row).vars.length ≠ m.vars.length := by rw [cH]; omega
    have l1 := bTm v5
    have l2 := aQh v5
    have l3 := aIm v3
    have mk := cBx (m := p.Max) (d := p.Delta)
    have c1 := bHg hd
    refine go1 (jn @n1 (jn @n2 @n3)) ?_
    generalize ((m.push c.row).push p.row).push kZ = m2 at v3 v5 v6 hA l1 l2 l3 ⊢
    generalize ((m.push c.row).push p.row).vars.length = r6 at v6 hge hne ⊢
    generalize (m.push c.row).vars.length = r5 at v5 hne5 l1 l2 ⊢
    generalize hr3 : m.vars.length = r3 at v3 hne hne5 l3 ⊢
    have e0 : bCh c x p = fX c.watch x (aDt p.Max p.Delta) := rfl
    rw [← e0] at c1
    unfold aIh
    generalize bCh c x p = w at c1 ⊢
    have a1 : aR Tryz.prog m2 38 (.ptr r3 0) (.agg w.row) = some (bO m2 r3 (Ct.mk w c.rest c.scale).row) := aS v3 bQm rfl rfl nbT rfl rfl
    have u3 : (bO m2 r3 (Ct.mk w c.rest c.scale).row).var r3 = some (Ct.mk w c.rest c.scale).row := bA v3
    have u5 : (bO m2 r3 (Ct.mk w c.rest c.scale).row).var r5 = some p.row := cD v5 hne5
    have u6 : (bO m2 r3 (Ct.mk w c.rest c.scale).row).var r6 = some kZ := cD v6 hne.symm
    have hA1 := bD (cs := (Ct.mk w c.rest c.scale).row) hA (Nat.le_of_eq hr3)
    have l4 := aV7 u3
    have l5 := aIm u3
    have l6 := aEo u5
    have l7 := aZn u3
    have l8 := aHl u3
    have l9 := aLt u5
    have la := wA u5
    refine go1 (jn @l1 (jn @l2 (jn @l3 (jn @mk (jn @t1 (jn @c1 @a1)))))) ?_
    generalize bO m2 r3 (Ct.mk w c.rest c.scale).row = m3 at u3 u5 u6 hA1 l4 l5 l6 l7 l8 l9 la ⊢
    by_cases hrest : c.rest > 0
    ·have q1 : decide (c.rest > 0) = true := decide_eq_true hrest
     rw [if_pos hrest]
     have w1 : IntKind.i64.wrap (c.rest - 1) = c.rest - 1 := bB (by omega) (by have := hr.2; omega)
     have a2 : aR Tryz.prog m3 3 (.ptr r3 3) (.v (.int .i64 (c.rest - 1))) = some (bO m3 r3 (Ct.mk w (c.rest - 1) c.scale).row) := aS u3 bP rfl rfl nbT rfl rfl
     have a3 : aR Tryz.prog (bO m3 r3 (Ct.mk w (c.rest - 1) c.scale).row) 3 (.ptr r3 2) (.v (.int .i64 0)) = some (bO (bO m3 r3 (Ct.mk w (c.rest - 1) c.scale).row) r3 (Ct.mk (pG w) (c.rest - 1) c.scale).row) := aS (bA u3) bP rfl rfl nbT rfl rfl
     rw [aBk] at a3
     have lb := aZn (bA (cs := (Ct.mk (pG w) (c.rest - 1) c.scale).row) u3)
     have u7 := cD (cs := (Ct.mk (pG w) (c.rest - 1) c.scale).row) u6 hne.symm
     have a4 : aR Tryz.prog (bO m3 r3 (Ct.mk (pG w) (c.rest - 1) c.scale).row) 40 (.ptr r6 0) (.agg (Ct.mk (pG w) (c.rest - 1) c.scale).row) = some (bO (bO m3 r3 (Ct.mk (pG w) (c.rest - 1) c.scale).row) r6 (Ct.mk (pG w) (c.rest - 1) c.scale).row) := aS u7 aYu rfl rfl (Nat.le_refl _) rfl rfl
     refine go1 (jn @l4 @q1) ?_
     refine rcT rfl ?_
     refine go1 (jn @l4 (jn @w1 (jn @a2 (jn @a3 (jn @lb @a4))))) ?_
     exact bT rfl (by decide) (.cons (aZn (bA u7)) rfl (.cons rfl rfl .nil)) (aC (bD (bD hA1 (Nat.le_of_eq hr3)) hge))
    ·have q1 : decide (c.rest > 0) = false := decide_eq_false hrest
     rw [if_neg hrest]
     have c2 := bCr w p.Patience
     have k1 : (!true) = false := rfl
     have k2 : (!false) = true := rfl
     refine go1 (jn @l4 @q1) ?_
     refine rcF rfl ?_
     cases ho : aF4 w p.Patience with
     | false =>
      rw [if_pos rfl]
      rw [ho] at c2
      have a4 : aR Tryz.prog m3 40 (.ptr r6 0) (.agg (Ct.mk w c.rest c.scale).row) = some (bO m3 r6 (Ct.mk w c.rest c.scale).row) := aS u6 aYu rfl rfl (Nat.le_refl _) rfl rfl
      refine go1 (jn @l5 (jn @l6 (jn @t2 (jn @c2 @k2)))) ?_
      refine rcT rfl ?_
      refine go1 (jn @l7 @a4) ?_
      exact bT rfl (by decide) (.cons (aZn (bA u6)) rfl (.cons rfl rfl .nil)) (aC (bD hA1 hge))
     | true =>
      rw [if_neg (by decide)]
      rw [ho] at c2
      have c3 := aF0 hs hf
      have a5 : aR Tryz.prog m3 3 (.ptr r3 4) (.v (.int .i64 (fZ c.scale p.Factor).1)) = some (bO m3 r3 (Ct.mk w c.rest (fZ c.scale p.Factor).1).row) := aS u3 bP rfl rfl nbT rfl rfl
      have lc := wA (cD (cs := (Ct.mk w c.rest (fZ c.scale p.Factor).1).row) u5 hne5)
      have a6 : aR Tryz.prog (bO m3 r3 (Ct.mk w c.rest (fZ c.scale p.Factor).1).row) 3 (.ptr r3 3) (.v (.int .i64 p.Cooldown)) = some (bO (bO m3 r3 (Ct.mk w c.rest (fZ c.scale p.Factor).1).row) r3 (Ct.mk w p.Cooldown (fZ c.scale p.Factor).1).row) := aS (bA u3) bP rfl rfl nbT rfl rfl
      have a7 : aR Tryz.prog (bO m3 r3 (Ct.mk w p.Cooldown (fZ c.scale p.Factor).1).row) 3 (.ptr r3 2) (.v (.int .i64 0)) = some (bO (bO m3 r3 (Ct.mk w p.Cooldown (fZ c.scale p.Factor).1).row) r3 (Ct.mk (pG w) p.Cooldown (fZ c.scale p.Factor).1).row) := aS (bA u3) bP rfl rfl nbT rfl rfl
      rw [aBk] at a6 a7
      have lb := aZn (bA (cs := (Ct.mk (pG w) p.Cooldown (fZ c.scale p.Factor).1).row) u3)
      have u7 := cD (cs := (Ct.mk (pG w) p.Cooldown (fZ c.scale p.Factor).1).row) u6 hne.symm
      have a8 : aR Tryz.prog (bO m3 r3 (Ct.mk (pG w) p.Cooldown (fZ c.scale p.Factor).1).row) 40 (.ptr r6 0) (.agg (Ct.mk (pG w) p.Cooldown (fZ c.scale p.Factor).1).row) = some (bO (bO m3 r3 (Ct.mk (pG w) p.Cooldown (fZ c.scale p.Factor).1).row) r6 (Ct.mk (pG w) p.Cooldown (fZ c.scale p.Factor).1).row) := aS u7 aYu rfl rfl (Nat.le_refl _) rfl rfl
      refine go1 (jn @l5 (jn @l6 (jn @t2 (jn @c2 @k1)))) ?_
      refine rcF rfl ?_
      refine go1 (jn @l8 (jn @l9 (jn @t3 (jn @c3 (jn @a5 (jn @lc (jn @a6 (jn @a7 (jn @lb @a8))))))))) ?_
      exact bT rfl (by decide) (.cons (aZn (bA u7)) rfl (.cons rfl rfl .nil)) (aC (bD (bD hA1 (Nat.le_of_eq hr3)) hge))
   ·cases h
  ·cases h
 ·cases h
end
section
attribute [local irreducible] Next aW cF Ops bQ
theorem bD5 {p d k : Int} (hd : 0 < d) (h : p ≤ k * d) : rhe p d ≤ k := by
 have e := Int.ediv_mul_add_emod p d
 have r0 := Int.emod_nonneg p (show d ≠ 0 by omega)
 have r1 := Int.emod_lt_of_pos p hd
 unfold rhe
 generalize hq : p / d = q at *
 generalize hr : p % d = r at *
 by_cases hqk : q < k
 ·split <;> omega
 ·have hqk2 : q = k := by
   have : q ≤ k := by
    rw [← hq]
    exact Int.ediv_le_of_le_mul hd h
   omega
  have hr0 : r = 0 := by rw [← hqk2] at h; omega
  rw [if_neg (by omega)]
  omega
theorem aN6 {p d : Int} (hd : 0 < d) (h : 0 ≤ p) : 0 ≤ rhe p d := by
 have := Int.ediv_nonneg h (Int.le_of_lt hd)
 unfold rhe
 split <;> omega
theorem aZo {p d k : Int} (hd : 0 < d) (p0 : 0 ≤ p) (h : p ≤ k * d) (hk : k < 18446744073709551616) : fF p d = (rhe p d, 0) := by
 have h1 := bD5 hd h
 unfold fF
 rw [if_neg (by omega), if_neg, if_neg (by omega)]
 have : p / 18446744073709551616 < d := by
  apply Int.ediv_lt_of_lt_mul (by decide)
  have h2 : k * d ≤ 18446744073709551615 * d := Int.mul_le_mul_of_nonneg_right (by omega) (by omega)
  omega
 omega
theorem bS6 {x y k : Int} (x0 : 0 ≤ x) (y0 : 0 ≤ y) (h : x * y ≤ k * 4294967296) (hk : k < 9223372036854775808) : fZ x y = (rhe (x * y) 4294967296, 0) ∧ 0 ≤ (fZ x y).1 ∧ (fZ x y).1 ≤ k := by
 have hp := Int.mul_nonneg x0 y0
 have h1 := bD5 (d := 4294967296) (by decide) h
 have h2 := aN6 (d := 4294967296) (by decide) hp
 have h3 := aZo (d := 4294967296) (by decide) hp h (by omega)
 have e : fZ x y = (rhe (x * y) 4294967296, 0) := by
  have s1 : bJ x = x := by unfold bJ; rw [if_neg (by omega)]
  have s2 : bJ y = y := by unfold bJ; rw [if_neg (by omega)]
  unfold fZ
  rw [s1, s2, h3, if_neg (by simp), decide_eq_false (show ¬ x < 0 by omega), decide_eq_false (show ¬ y < 0 by omega)]
  unfold fS
  rw [if_neg (by decide), if_pos (by show rhe (x * y) 4294967296 < _; omega)]
 rw [e]
 exact ⟨rfl, h2, h1⟩
theorem bSt {x y k : Int} (x0 : 0 ≤ x) (y0 : 0 ≤ y) (h : x * y ≤ k * 4294967296) (hk : k < 9223372036854775808) : 0 ≤ tm x y ∧ tm x y ≤ k := (bS6 x0 y0 h hk).2
theorem bCz {x y : Int} (x0 : 0 ≤ x) (x1 : x ≤ 4294967296) (y0 : 0 ≤ y) (y1 : y ≤ 4294967296) : 0 ≤ tm x y ∧ tm x y ≤ 4294967296 := by
 refine bSt x0 y0 ?_ (by decide)
 exact Int.mul_le_mul x1 y1 y0 (by decide)
theorem bNf : ∀ (n : Nat) (r x : Int), 0 ≤ r ∧ r ≤ 4294967296 → 0 ≤ x ∧ x ≤ 4294967296 → 0 ≤ aMg r x n ∧ aMg r x n ≤ 4294967296 := by
 intro n
 induction n using Nat.strongRecOn with
 | _ n ih =>
  intro r x hr hx
  rw [aMg]
  split
  ·exact hr
  ·refine ih (n / 2) (by omega) _ _ ?_ (bCz hx.1 hx.2 hx.1 hx.2)
   split
   ·exact bCz hr.1 hr.2 hx.1 hx.2
   ·exact hr
theorem bQ4 (x n : Int) : 0 ≤ (yG x n).1 ∧ (yG x n).1 ≤ 4294967296 := by
 unfold yG
 split
 ·rename_i h
  exact bNf _ _ _ ⟨by decide, by decide⟩ (dW.1 h.1)
 ·exact ⟨by decide, by decide⟩
theorem aRr {u s k : Int} (u0 : 0 ≤ u) (u1 : u ≤ 1073741824) (s0 : 0 ≤ s) (s1 : s ≤ k * 4) (hk : k < 9223372036854775808) : 0 ≤ tm u s ∧ tm u s ≤ k := by
 refine bSt u0 s0 ?_ hk
 have := Int.mul_le_mul u1 s1 s0 (by decide)
 omega
theorem bHi {u : Int} (u0 : 0 ≤ u) (u1 : u ≤ 1073741824) : 0 ≤ fE u 6 ∧ fE u 6 ≤ 4294967296 := by
 have s1 : fE u 1 = 2044063 := by
  show IntKind.i64.wrap (2044063 - tm u 0) = _
  obtain ⟨a, b⟩ := aRr (k := 0) u0 u1 (Int.le_refl 0) (by decide) (by decide)
  rw [show tm u 0 = 0 by omega]
  rfl
 have s2 : 26687907 ≤ fE u 2 ∧ fE u 2 ≤ 27198923 := by
  show 26687907 ≤ IntKind.i64.wrap (27198923 - tm u (fE u 1)) ∧ IntKind.i64.wrap (27198923 - tm u (fE u 1)) ≤ _
  obtain ⟨a, b⟩ := aRr (s := fE u 1) (k := 511016) u0 u1 (by rw [s1]; decide) (by rw [s1]; decide) (by decide)
  rw [bB (by omega) (by omega)]
  omega
 have s3 : 239084879 ≤ fE u 3 ∧ fE u 3 ≤ 245884610 := by
  show 239084879 ≤ IntKind.i64.wrap (245884610 - tm u (fE u 2)) ∧ IntKind.i64.wrap (245884610 - tm u (fE u 2)) ≤ _
  obtain ⟨a, b⟩ := aRr (s := fE u 2) (k := 6799731) u0 u1 (by omega) (by omega) (by decide)
  rw [bB (by omega) (by omega)]
  omega
 have s4 : 1310785176 ≤ fE u 4 ∧ fE u 4 ≤ 1372256329 := by
  show 1310785176 ≤ IntKind.i64.wrap (1372256329 - tm u (fE u 3)) ∧ IntKind.i64.wrap (1372256329 - tm u (fE u 3)) ≤ _
  obtain ⟨a, b⟩ := aRr (s := fE u 3) (k := 61471153) u0 u1 (by omega) (by omega) (by decide)
  rw [bB (by omega) (by omega)]
  omega
 have s5 : 3671880797 ≤ fE u 5 ∧ fE u 5 ≤ 4014944880 := by
  show 3671880797 ≤ IntKind.i64.wrap (4014944880 - tm u (fE u 4)) ∧ IntKind.i64.wrap (4014944880 - tm u (fE u 4)) ≤ _
  obtain ⟨a, b⟩ := aRr (s := fE u 4) (k := 343064083) u0 u1 (by omega) (by omega) (by decide)
  rw [bB (by omega) (by omega)]
  omega
 show 0 ≤ IntKind.i64.wrap (4294967296 - tm u (fE u 5)) ∧ IntKind.i64.wrap (4294967296 - tm u (fE u 5)) ≤ _
 obtain ⟨a, b⟩ := aRr (s := fE u 5) (k := 1003736220) u0 u1 (by omega) (by omega) (by decide)
 rw [bB (by omega) (by omega)]
 omega
theorem aWl {t : Int} (t0 : 0 ≤ t) (t1 : t ≤ 2147483648) : 0 ≤ aMd t ∧ aMd t ≤ 4294967296 := by
 obtain ⟨u0, u1⟩ := bSt (k := 1073741824) t0 t0 (by have := Int.mul_le_mul t1 t1 t0 (by decide); omega) (by decide)
 obtain ⟨p0, p1⟩ := bHi u0 u1
 unfold aMd
 rw [bB (n := tm t t * 4) (by omega) (by omega), bB (n := 4294967296 - tm t t * 4) (by omega) (by omega)]
 exact bCz (by omega) (by omega) p0 p1
theorem bIg {t : Int} (t0 : 0 ≤ t) (t1 : t ≤ 4294967296) : 0 ≤ (aG0 t).1 ∧ (aG0 t).1 ≤ 4294967296 := by
 have hb : inB t 0 4294967296 = true := dW.2 ⟨t0, t1⟩
 have h : (pH t).2 = 0 ∧ -4294967296 ≤ (pH t).1 ∧ (pH t).1 ≤ 4294967296 := by
  unfold pH
  rw [hb, if_neg (by decide)]
  split
  ·rw [bB (n := 4294967296 - t) (by omega) (by omega)]
   obtain ⟨a, b⟩ := aWl (t := 4294967296 - t) (by omega) (by omega)
   refine ⟨rfl, ?_⟩
   show _ ≤ IntKind.i64.wrap (0 - aMd (4294967296 - t)) ∧ IntKind.i64.wrap (0 - aMd (4294967296 - t)) ≤ _
   rw [bB (by omega) (by omega)]
   omega
  ·obtain ⟨a, b⟩ := aWl (t := t) (by omega) (by omega)
   exact ⟨rfl, by show _ ≤ aMd t; omega, b⟩
 unfold aG0
 obtain ⟨h1, h2, h3⟩ := h
 rw [if_neg (by rw [h1]; simp)]
 generalize (pH t).1 = c at h2 h3
 split
 ·show 0 ≤ IntKind.i64.wrap (4294967296 - IntKind.i64.wrap (4294967296 - c) / 2) ∧ IntKind.i64.wrap (4294967296 - IntKind.i64.wrap (4294967296 - c) / 2) ≤ _
  rw [bB (n := 4294967296 - c) (by omega) (by omega), bB (by omega) (by omega)]
  omega
 ·show 0 ≤ IntKind.i64.wrap (4294967296 + c) / 2 ∧ IntKind.i64.wrap (4294967296 + c) / 2 ≤ _
  rw [bB (by omega) (by omega)]
  omega
theorem aXn (c : Cv) {t : Int} (t0 : 0 ≤ t) (t1 : t ≤ 4294967296) : 0 ≤ pZ c t ∧ pZ c t ≤ 4294967296 := by
 unfold pZ
 split
 ·exact bQ4 _ _
 ·split
  ·exact bIg t0 t1
  ·exact ⟨by decide, by decide⟩
theorem bAs {i n : Int} (i0 : 0 ≤ i) (i1 : i < n) (n1 : n ≤ 1048576) : (jY i n).2 = 0 ∧ 0 ≤ (jY i n).1 ∧ (jY i n).1 ≤ 4294967296 := by
 unfold jY
 rw [if_neg (by omega)]
 split
 ·exact ⟨rfl, by decide, by decide⟩
 ·have hp : i * 4294967296 ≤ 4294967296 * (n - 1) := by
   rw [Int.mul_comm]
   exact Int.mul_le_mul_of_nonneg_left (by omega) (by decide)
  have hp0 : 0 ≤ i * 4294967296 := Int.mul_nonneg i0 (by decide)
  have h1 := bD5 (d := n - 1) (by omega) hp
  have h2 := aN6 (d := n - 1) (by omega) hp0
  rw [aZo (d := n - 1) (by omega) hp0 hp (by decide)]
  refine ⟨rfl, ?_⟩
  show 0 ≤ IntKind.i64.wrap (rhe (i * 4294967296) (n - 1)) ∧ IntKind.i64.wrap (rhe (i * 4294967296) (n - 1)) ≤ _
  rw [bB (by omega) (by omega)]
  exact ⟨h2, h1⟩
theorem aP1 {a b t : Int} (t0 : 0 ≤ t) (t1 : t ≤ 4294967296) : (mX a b t).2 = 0 := by
 unfold mX
 rw [if_neg (by omega)]
 split <;> rfl
theorem aEt {c : Cv} {i n : Int} (hc : jV c = true) (i0 : 0 ≤ i) (i1 : i < n) (n1 : n ≤ 1048576) : (eL c i n).2 = 0 := by
 have h1 : inB n 1 1048576 = true := dW.2 ⟨by omega, n1⟩
 have h2 : inB i 0 (n - 1) = true := dW.2 ⟨i0, by omega⟩
 obtain ⟨_, s0, s1⟩ := bAs i0 i1 n1
 unfold eL
 rw [if_neg (by rw [hc, h1, h2]; simp)]
 split
 ·rfl
 ·split
  ·exact aP1 s0 s1
  ·obtain ⟨w0, w1⟩ := aXn c s0 s1
   exact aP1 w0 w1
theorem aZc {times a : Int} (t1 : 1 ≤ times) (t2 : times ≤ 16) (ha : a ≤ 1048576) : ∀ (k : Nat) (s : Sp) (n : Int), aTz s → s.from_ ≤ a → s.to_ - s.from_ ≤ 1048576 → a + 1 - s.to_ ≤ k → (aHm times a k s n).1.from_ ≤ a ∧ a < (aHm times a k s n).1.to_ ∧ (aHm times a k s n).1.to_ - (aHm times a k s n).1.from_ ≤ 1048576 ∧ aTz (aHm times a k s n).1
 | 0, s, n, h, h1, h2, h3 => ⟨h1, by show a < s.to_; omega, h2, h⟩
 | k + 1, s, n, h, h1, h2, h3 => by
  rw [aHm]
  split
  ·rename_i h4
   obtain ⟨p1, p2⟩ := aV1 h (by omega) t1 t2
   refine aZc t1 t2 ha k _ _ p1 h4 ?_ (by omega)
   unfold uX mn
   simp only
   split <;> omega
  ·exact ⟨h1, by show a < s.to_; omega, h2, h⟩
theorem bQ7 {a b c : Int} (h : rD a b c = true) : (vL a b c).1.from_ ≤ c ∧ c < (vL a b c).1.to_ ∧ (vL a b c).1.to_ - (vL a b c).1.from_ ≤ 1048576 ∧ 0 ≤ (vL a b c).1.from_ ∧ (vL a b c).1.to_ ≤ 4194304 := by
 unfold rD at h
 rw [Bool.and_eq_true, Bool.and_eq_true, dW, dW, dW] at h
 obtain ⟨⟨⟨a0, a1⟩, b0, b1⟩, c0, c1⟩ := h
 unfold vL
 split
 ·have d0 : 0 ≤ c / a := Int.ediv_nonneg c0 (by omega)
  have d1 : c / a * a ≤ c := Int.ediv_mul_le c (by omega)
  have d3 : 0 ≤ c / a * a := Int.mul_nonneg d0 (by omega)
  have d4 := Int.lt_ediv_add_one_mul_self c (show 0 < a by omega)
  rw [Int.add_mul] at d4
  exact ⟨d1, by show c < c / a * a + a; omega, by show c / a * a + a - c / a * a ≤ _; omega, d3, by show c / a * a + a ≤ _; omega⟩
 ·obtain ⟨h1, h2, h3, h4⟩ := aZc b0 b1 c1 (c + 1).toNat ⟨0, a⟩ 0 ⟨by show (0 : Int) ≤ 0; decide, by show (0 : Int) < a; omega, by show a ≤ _; omega⟩ c0 (by show a - 0 ≤ _; omega) (by show c + 1 - a ≤ _; omega)
  exact ⟨h1, h2, h3, h4.1, h4.2.2⟩
theorem bL4 {s : Sg} {step : Int} (h : iV s = true) (h1 : s.from_ ≤ step) (h2 : step < s.to_) : (aKa s step).2 = 0 := by
 have hp := sJ h
 unfold iV at h
 obtain ⟨p1, p2, p3, p4, p5, p6⟩ := hp
 rw [Bool.and_eq_true] at h
 have h := h.2
 unfold aKa
 rw [bB (n := step - s.begin_) (by omega) (by omega)]
 split
 ·rename_i hf
  rw [if_pos hf, Bool.and_eq_true, dW] at h
  exact aEt p6 (by omega) (by omega) h.2.2
 ·rename_i hf
  rw [if_neg hf, Bool.and_eq_true, Bool.and_eq_true] at h
  have hm : rD s.first s.times (step - s.begin_) = true := by
   unfold rD
   rw [h.1.1, h.1.2, dW.2 ⟨by omega, by omega⟩]
   rfl
  obtain ⟨q1, q2, q3, q4, q5⟩ := bQ7 hm
  have e : fO s.first s.times (step - s.begin_) = ((vL s.first s.times (step - s.begin_)).1, (vL s.first s.times (step - s.begin_)).2, 0) := by
   unfold fO
   rw [if_pos hm]
  rw [e, if_neg (by simp)]
  show (eL _ (IntKind.i64.wrap (step - s.begin_ - (vL s.first s.times (step - s.begin_)).1.from_)) (IntKind.i64.wrap ((vL s.first s.times (step - s.begin_)).1.to_ - (vL s.first s.times (step - s.begin_)).1.from_))).2 = 0
  rw [bB (by omega) (by omega), bB (by omega) (by omega)]
  exact aEt p6 (by omega) (by omega) q3
theorem aLp {l : List Sg} {step : Int} (h : fG l = true) (h0 : (l.getD 0 sg0).from_ ≤ step) : ∀ n : Nat, n < l.length → step < (l.getD n sg0).to_ → ∃ i, i ≤ n ∧ (l.getD i sg0).from_ ≤ step ∧ step < (l.getD i sg0).to_
 | 0, hn, ht => ⟨0, Nat.le_refl _, h0, ht⟩
 | n + 1, hn, ht => by
  by_cases hs : step < (l.getD n sg0).to_
  ·obtain ⟨i, a, b⟩ := aLp h h0 n (by omega) hs
   exact ⟨i, by omega, b⟩
  ·have := (nG h hn).2 (by omega)
   rw [show n + 1 - 1 = n by omega] at this
   exact ⟨n + 1, Nat.le_refl _, by omega, ht⟩
theorem bCd {l : List Sg} {step : Int} (h : fG l = true) (h0 : (l.getD 0 sg0).from_ ≤ step) (h1 : step < (l.getD (l.length - 1) sg0).to_) : ∃ i, i < l.length ∧ (∀ j, j < i → ¬ ((l.getD j sg0).from_ ≤ step ∧ step < (l.getD j sg0).to_)) ∧ (l.getD i sg0).from_ ≤ step ∧ step < (l.getD i sg0).to_ ∧ iV (l.getD i sg0) = true ∧ aZ (oX step) l 0 = (i : Int) ∧ mP l step = aKa (l.getD i sg0) step ∧ (aKa (l.getD i sg0) step).2 = 0 := by
 have hpos := aN9 h
 obtain ⟨i, a, b, c⟩ := aLp h h0 (l.length - 1) (by omega) h1
 have hi : i < l.length := by omega
 have hno : ∀ j, j < i → ¬ ((l.getD j sg0).from_ ≤ step ∧ step < (l.getD j sg0).to_) := fun j hj hh => by
  have := aD5 h hj hi
  omega
 have e := wL (d := sg0) (p := oX step) 0 hi (fun j hj => zO (hno j hj)) (aIo ⟨b, c⟩)
 rw [Nat.zero_add] at e
 have ho := (nG h hi).1
 refine ⟨i, hi, hno, b, c, ho, e, ?_, bL4 ho b c⟩
 unfold mP
 rw [h, if_neg (by decide), e, if_neg (by omega), Int.toNat_natCast]
/-! ### a plan that may be -/
theorem dD {p : Pn} (h : cQ p = true) : (1 ≤ p.steps ∧ p.steps ≤ 1000000) ∧ (0 ≤ p.weights ∧ p.weights ≤ 16) ∧ (0 ≤ p.metrics ∧ p.metrics ≤ 4) ∧ (1 ≤ p.groups ∧ p.groups ≤ 8) ∧ (0 ≤ p.eval ∧ p.eval ≤ p.steps) ∧ iA p = true ∧ gW p = true ∧ gC p = true ∧ sZ p = true ∧ aH5 p = true ∧ sO p = true ∧ aHy p = true := by
 unfold cQ at h
 simp only [Bool.and_eq_true, dW] at h
 obtain ⟨⟨⟨a, b, c⟩, d, e, f, g, i⟩, j, k, l, n⟩ := h
 exact ⟨a, b, c, d, e, f, g, i, j, k, l, n⟩
theorem bN3 {p : Pn} (h : cQ p = true) {i : Nat} (hi : i < p.tracks.length) : fG (p.tracks.getD i tk0).segs = true ∧ ((p.tracks.getD i tk0).segs.getD 0 sg0).from_ = 0 ∧ ((p.tracks.getD i tk0).segs.getD ((p.tracks.getD i tk0).segs.length - 1) sg0).to_ = p.steps := by
 obtain ⟨_, _, _, _, _, _, _, ht, _⟩ := dD h
 unfold gC at ht
 rw [Bool.and_eq_true] at ht
 have := List.all_eq_true.1 ht.1 i (List.mem_range.2 hi)
 unfold bPz tkB at this
 simp only [Bool.and_eq_true, beq_iff_eq] at this
 exact ⟨this.1.1.2, this.1.2, this.2⟩
theorem aO6 {p : Pn} (h : cQ p = true) : (p.tracks.length : Int) = p.groups * 3 := by
 obtain ⟨_, _, _, _, _, _, _, ht, _⟩ := dD h
 unfold gC at ht
 rw [Bool.and_eq_true, beq_iff_eq] at ht
 exact ht.2
theorem bI8 {p : Pn} (h : cQ p = true) {step : Int} (s0 : 0 ≤ step) (s1 : step < p.steps) {i : Nat} (hi : i < p.tracks.length) : (mP (p.tracks.getD i tk0).segs step).2 = 0 := by
 obtain ⟨t1, t2, t3⟩ := bN3 h hi
 obtain ⟨k, _, _, _, _, _, _, e, e2⟩ := bCd t1 (by rw [t2]; exact s0) (by rw [t3]; exact s1)
 rw [e, e2]
end
noncomputable section
attribute [local irreducible] Next aW cF Ops bQ
attribute [local irreducible] bE dH
attribute [local go_sem] cO bP Option.getD_some cJ aT aV iv kI fA dY rJ xK bZq bZj bZi bZk aOr bE7 aUl
def bOw (F : Objs) (vals : List Int) (r : AV) : Prop := ∃ b c cs, r = .v (bS b 0 vals.length c) ∧ (b, XOb.arr cs) ∈ F ∧ vals.length ≤ c ∧ c ≤ cs.length ∧ cs.take vals.length = vals.map iv
def aGs (p : Pn) (step : Int) (j : Nat) : Int := (mP (p.tracks.getD j tk0).segs step).1
def aPm (p : Pn) (step : Int) (n : Nat) : List Int := (List.range n).map (aGs p step)
theorem aVv (p : Pn) (step : Int) (n : Nat) : (aPm p step n).length = n := by unfold aPm; simp
theorem bIs (p : Pn) (step : Int) (n : Nat) : aPm p step (n + 1) = aPm p step n ++ [aGs p step n] := by unfold aPm; rw [List.range_succ, List.map_append]; rfl
theorem bUm {F : Objs} {v : Int} {b c : Nat} {vs : List Value} (h1 : 1 ≤ c) (h2 : vs.length = (c - 1) * 1) : bOw ((b, .arr ([[iv v]].flatten ++ vs.map .v)) :: F) [v] (.v (bS b 0 1 c)) :=
 ⟨b, c, _, rfl, List.mem_cons_self, h1, by simp; omega, rfl⟩
theorem bVa {F : Objs} {vals : List Int} {v : Int} {b c : Nat} {cs : List AV} (hm : (b, XOb.arr cs) ∈ F) (h1 : vals.length + 1 ≤ c) (h2 : c ≤ cs.length) (h3 : cs.take vals.length = vals.map iv) :
  bOw (eS F b (.arr (cB cs (0 + vals.length * 1) [[iv v]].flatten))) (vals ++ [v]) (.v (bS b 0 (vals.length + 1) c)) := by
 refine ⟨b, c, cB cs (0 + vals.length * 1) [[iv v]].flatten, by simp, ?_, by simp; omega, ?_, ?_⟩
 ·exact List.mem_map.2 ⟨_, hm, by simp⟩
 ·rw [dR (by simp; omega)]; exact h2
 ·unfold cB
  have hl : (cs.take (0 + vals.length * 1)).length = vals.length := by simp; omega
  rw [List.append_assoc, List.take_append, hl]
  simp only [List.length_append, List.length_cons, List.length_nil, List.map_append]
  rw [List.take_of_length_le (by omega), show 0 + vals.length * 1 = vals.length by omega, h3, show vals.length + (0 + 1) - vals.length = 1 by omega]
  rfl
theorem bSq {F : Objs} {vals : List Int} {v : Int} {b' c' : Nat} {cs : List AV} {vs : List Value} (hc : vals.length ≤ cs.length) (h1 : vals.length + 1 ≤ c') (h2 : vs.length = (c' - (vals.length + 1)) * 1) (h3 : cs.take vals.length = vals.map iv) :
  bOw ((b', .arr ((cs.drop 0).take (vals.length * 1) ++ [[iv v]].flatten ++ vs.map .v)) :: F) (vals ++ [v]) (.v (bS b' 0 (vals.length + 1) c')) := by
 have e : (cs.drop 0).take (vals.length * 1) = vals.map iv := by rw [List.drop_zero, Nat.mul_one, h3]
 rw [e]
 refine ⟨b', c', _, by simp, List.mem_cons_self, by simp; omega, ?_, ?_⟩
 ·simp; omega
 ·rw [List.length_append, List.map_append, List.append_assoc, List.take_append]
  simp
  exact List.take_of_length_le (by simp)
def bXp (args : List AV) (_ : Mem) : Prop := ∃ (p : Pn) (step : Int), args = [.agg p.row, .v (.int .i64 step)] ∧ p.fit ∧ cQ p = true ∧ 0 ≤ step ∧ step < p.steps
def bTy (args : List AV) (m : Mem) (r : AV) (m' : Mem) (F : Objs) : Prop := ∀ (p : Pn) (step : Int), args = [.agg p.row, .v (.int .i64 step)] → m' = m ∧ ∃ a, r = .tup [a, iv 0] ∧ bOw F (aPm p step p.tracks.length) a
def rU : Nat → Option (List Nat) := fun
 | 0 => some [1, 2]
 | 1 => some [1, 2, 6]
 | 2 => some [1, 2, 6, 15]
 | 3 => some [4, 5]
 | 4 => some [1, 2, 7]
 | 5 => some [1, 7, 18, 19, 20]
 | 6 => some [1, 7, 18, 19, 20, 21]
 | 7 => some [1, 7, 9, 18, 19, 20]
 | 8 => some [1, 7, 10, 11, 18, 19, 20]
 | 9 => some [1, 7, 10, 11, 18, 19, 20, 32]
 | 10 => some [4, 5]
 | 11 => some [1, 7, 18, 19, 20]
 | 12 => some [1, 7, 18, 19, 20]
 | 13 => some [4, 5]
 | _ => none
attribute [go_sem] rU
theorem bZ4 : wO Tryz.prog 96 bXp bTy := by
 have hC := aI (P := Tryz.prog) (l := [(59, eX), (113, wW)]) (aA xE (aA bJa aF))
 have t1 := taT [(59, eX), (113, wW)] 59 rfl
 have t2 := taT [(59, eX), (113, wW)] 113 rfl
 refine aKr Tryz.func96 rfl rfl fun args m h => ?_
 obtain ⟨p, step, rfl, hfit, hok, s0, s1⟩ := h
 refine ⟨nbT, fun φ wd => ?_⟩
 refine en ?_
 have hfit2 := hfit
 obtain ⟨_, _, hlen, hsl⟩ := hfit2
 have hpos : 0 < p.tracks.length := by
  have := aO6 hok
  obtain ⟨_, _, _, h4, _⟩ := dD hok
  omega
 have v1 : (m.push p.row).var m.vars.length = some p.row := aJ
 have nr := dY (m := m) (x := p)
 have hA := aG (cs := p.row) (aM m)
 have c1 : ∀ mm, eX [.agg p.row] mm = some (.v (.int .i64 0), mm) := fun mm => by
  simp only [eX, unPn_row]
  rw [if_pos hfit, hok]
  rfl
 refine xq ?_
 refine aB (kp := rU) mixed hC ?_
 refine go1 @nr ?_
 refine xq ?_
 generalize m.push p.row = m2 at v1 hA
 generalize m.vars.length = r1 at v1
 have l1 := wB v1
 have l2 := qB v1
 have z0 : ((0 : Int) != 0) = false := rfl
 refine aB (kp := rU) mixed hC ?_
 refine go1 (jn @l2 (jn @t1 @c1)) ?_
 refine xq ?_
 refine aB (kp := rU) mixed hC ?_
 refine go1 @z0 ?_
 refine xq ?_
 refine xcF rfl ?_
 refine xq ?_
 refine aB (kp := rU) mixed hC ?_
 refine go0 ?_
 refine xq ?_
 refine aB (kp := rU) mixed hC ?_
 refine go1 @l1 ?_
 refine xq ?_
 refine wZ (fun k e m' F => ∃ (i : Nat) (a : AV), i ≤ p.tracks.length ∧ Above m m' ∧ (if i = 0 then a = .lst .full 1 [] else bOw F (aPm p step i) a) ∧ k = p.tracks.length - i ∧ e = [(1, AV.v (.int .i64 step)), (7, a), (18, .lst .no 3 (jM p.tracks)), (19, .v (.int .i64 (p.tracks.length : Int))), (20, .v (.int .i64 (i : Int)))]) (k := p.tracks.length) ⟨0, _, Nat.zero_le _, hA, rfl, rfl, rfl⟩ ?_
 rintro k e m' F ⟨i, a, hi0, hA2, ha, rfl, rfl⟩
 refine xq ?_
 refine aB (kp := rU) mixed hC ?_
 refine go0 ?_
 refine xq ?_
 refine cK rfl (fun hc => ?_) (fun hc => ?_)
 ·have hi1 : i < p.tracks.length := by have := of_decide_eq_true hc; omega
  have f1 := bX0 (g := .no) (kk := .i64) hi1
  have r6 := cP (i := i) (by omega)
  have hV : aGs p step i = (mP (p.tracks.getD i tk0).segs step).1 := rfl
  have hsucc := bIs p step i
  have hll := aVv p step i
  have hE := bI8 hok s0 s1 hi1
  have hsl2 := hsl (p.tracks.getD i tk0) (jI hi1)
  generalize aPm p step i = L at hsucc hll ha
  generalize aGs p step i = v at hV hsucc
  generalize p.tracks.getD i tk0 = t at f1 hV hE hsl2
  have st := cBg (m := m') (x := t)
  have v4 : (m'.push t.row).var m'.vars.length = some t.row := aJ
  have hA3 := aG (cs := t.row) hA2
  refine xq ?_
  refine aB (kp := rU) mixed hC ?_
  refine go1 (jn @f1 @st) ?_
  refine xq ?_
  generalize m'.push t.row = m3 at v4 hA3
  generalize m'.vars.length = r4 at v4
  have a3 := aWz v4
  have c2 := bJ5 (g := .no) hsl2 step
  rw [hE, ← hV] at c2
  refine aB (kp := rU) mixed hC ?_
  refine go1 (jn @a3 (jn @t2 @c2)) ?_
  refine xq ?_
  refine aB (kp := rU) mixed hC ?_
  refine go1 @z0 ?_
  refine xq ?_
  refine xcF rfl ?_
  refine xq ?_
  refine iF (l2 := rU 11) ?_
  refine gL hC ?_
  by_cases hz : i = 0
  ·rw [if_pos hz] at ha
   subst ha
   subst hz
   refine bX (aTw rfl rfl (by decide) rfl rfl rfl rfl sI rfl rfl (Nat.lt_succ_self 0) (by unfold lim; show 1 ≤ _; omega) fun b c vs h1 h2 h3 => ?_)
   refine gL hC ?_
   refine xq ?_
   refine aB (kp := rU) mixed hC ?_
   refine go1 @r6 ?_
   refine xq ?_
   refine ⟨p.tracks.length - (0 + 1), by omega, 0 + 1, _, hi1, hA3, ?_, rfl, rfl⟩
   rw [if_neg (by omega), hsucc, List.eq_nil_of_length_eq_zero hll]
   exact bUm h1 h3
  ·rw [if_neg hz] at ha
   obtain ⟨b, c, cs, rfl, hm, g1, g2, g3⟩ := ha
   refine bX (aFq rfl rfl (by decide) rfl rfl rfl rfl sI hm rfl (by omega) g1 rfl (by rw [hll]; unfold lim; show i + 1 ≤ _; omega) (fun h1 => ?_) fun h1 b' c' vs h2 h3 h4 => ?_)
   ·refine gL hC ?_
    refine xq ?_
    refine aB (kp := rU) mixed hC ?_
    refine go1 @r6 ?_
    refine xq ?_
    refine ⟨p.tracks.length - (i + 1), by omega, i + 1, _, hi1, hA3, ?_, rfl, rfl⟩
    rw [if_neg (by omega), hsucc]
    exact bVa hm h1 g2 g3
   ·refine gL hC ?_
    refine xq ?_
    refine aB (kp := rU) mixed hC ?_
    refine go1 @r6 ?_
    refine xq ?_
    refine ⟨p.tracks.length - (i + 1), by omega, i + 1, _, hi1, hA3, ?_, rfl, rfl⟩
    rw [if_neg (by omega), hsucc]
    exact bSq (by omega) h2 h4 g3
 ·have hi1 : i = p.tracks.length := by have := of_decide_eq_false hc; omega
  subst hi1
  rw [if_neg (by omega)] at ha
  refine xq ?_
  refine aB (kp := rU) mixed hC ?_
  refine go0 ?_
  refine xq ?_
  have ha2 := ha
  obtain ⟨b, c, cs, rfl, _⟩ := ha2
  refine ⟨_, _, bT rfl (by decide) (.cons rfl rfl (.cons rfl rfl .nil)) (aC hA2), fun p2 step2 he => ?_⟩
  obtain ⟨h1, h2⟩ : p2.row = p.row ∧ step2 = step := by
   simp only [List.cons.injEq, AV.agg.injEq, AV.v.injEq, Value.int.injEq] at he
   exact ⟨he.1.symm, he.2.1.2.symm⟩
  have h3 : p2 = p := by
   have := unPn_row p2
   rw [h1, unPn_row] at this
   cases this
   rfl
  subst h3
  subst h2
  exact ⟨rfl, _, rfl, ha⟩
end
noncomputable section
attribute [local irreducible] Next aW cF Ops bQ
attribute [local go_sem] cO bP Option.getD_some cJ aT aV iv aN2 aNd aLf rG nU kN aIx bCp List.cons_append kV gR bBa aH7 qX aP7 aQ4
def Tn.addE (T : Tn) (l : List Evt) : Tn := { T with events := T.events ++ l }
theorem uD (T : Tn) : T.addE [] = T := by unfold Tn.addE; simp
theorem uI (T : Tn) (l : List Evt) (k i : Int) : (T.addE l).tell k i = T.addE (l ++ [⟨T.step, k, i⟩]) := by unfold Tn.addE Tn.tell; simp
def vR (T : Tn) (fz : Bool) : Nat → List Evt
 | 0 => []
 | j + 1 => vR T fz j ++ if ((frz T.p T.phase.toNat j == aVw T j) || (frz T.p T.phase.toNat j != fz)) = true then [] else [⟨T.step, if frz T.p T.phase.toNat j = true then 3 else 2, j⟩]
theorem uV (T : Tn) (fz : Bool) : ∀ n, (vR T fz n).length ≤ n
 | 0 => Nat.le_refl _
 | n + 1 => by
  have := uV T fz n
  rw [vR, List.length_append]
  split
  ·simp; omega
  ·simp; omega
def frN (T : Tn) : Nat := (T.p.frozen.getD T.phase.toNat []).length
def vH (T : Tn) : Nat → List Evt
 | 0 => [⟨T.step, 1, T.phase⟩]
 | 1 => [⟨T.step, 1, T.phase⟩] ++ vR T false (frN T)
 | _ => ([⟨T.step, 1, T.phase⟩] ++ vR T false (frN T)) ++ vR T true (frN T)
def yI (T : Tn) : List Evt := if (T.p.spans.getD T.phase.toNat sp0).from_ = T.step then vH T 2 else []
def Tn.begins (T : Tn) : Tn := T.addE (yI T)
def aTj (T : Tn) : Prop := (0 ≤ T.phase ∧ T.phase < (T.p.spans.length : Int) ∧ T.p.frozen.length = T.p.spans.length ∧ T.p.spans.length ≤ 16) ∧ (∀ i, i < T.p.frozen.length → ((T.p.frozen.getD i []).length : Int) = T.p.groups) ∧ T.p.groups ≤ 8 ∧ T.events.length ≤ 1000
def aK2 : List AV → Mem → Option (AV × Mem)
 | [.ptr r 0], m => tA r m aTj Tn.begins fun _ => .tup []
 | _, _ => none
theorem bLq (T : Tn) (l : List Evt) : (T.addE l).events.length - T.events.length = l.length := by unfold Tn.addE; simp
theorem bH6 {m0 m : Mem} {r : Nat} {T0 T : Tn} {g0 g : Grow} (h : TAt m0 r T0 g0 T g m) (hd : aTj T) : aK2 [.ptr r 0] m = some (.tup [], putT m r T.begins (yI T).length g) := by
 have := kF (dom := aTj) (f := Tn.begins) (res := fun _ => .tup []) h hd
 rw [show T.begins = T.addE (yI T) from rfl, bLq] at this
 exact this
theorem TAt.addE {m0 m : Mem} {r : Nat} {T0 T : Tn} {g0 g : Grow} (h : TAt m0 r T0 g0 T g m) (l : List Evt) : TAt m0 r T0 g0 (T.addE l) (fI l.length g m.toks).1 (putT m r (T.addE l) l.length g) := h.put (l := l) rfl rfl
theorem cEn : bG Tryz.prog 62 2 [(0, .v (.bool false)), (1, .v (.bool true))] = some (.lst .full 1 (eA [false, true])) := by kernel_rfl
attribute [local go_sem] cEn
def aFs : Nat → Option (List Nat) := fun
 | 0 => some [0, 22]
 | 1 => some [0]
 | 2 => some [0, 29, 30, 31]
 | 3 => some [0, 29, 30, 31, 32]
 | 4 => some [0, 3, 29, 30, 31]
 | 5 => some [0, 3, 29, 30, 31, 45, 46, 47]
 | 6 => some [0, 3, 29, 30, 31, 45, 46, 47, 48]
 | 7 => some [0, 3, 4, 5, 29, 30, 31, 45, 46, 47]
 | 8 => some [0, 3, 29, 30, 31, 45, 46, 47]
 | 9 => some [0, 3, 4, 5, 29, 30, 31, 45, 46, 47, 55]
 | 10 => some [0, 3, 4, 29, 30, 31, 45, 46, 47, 66]
 | 11 => some [0, 3, 29, 30, 31, 45, 46, 47]
 | 12 => some [0, 3, 29, 30, 31, 45, 46, 47]
 | 13 => some [0, 29, 30, 31]
 | _ => none
attribute [go_sem] aFs
def tK : List (FuncId × (List AV → Mem → Option (AV × Mem))) := [(102, yL), (115, bSz)]
theorem bKp : aO Tryz.prog 98 aK2 := by
 have hC := aI (P := Tryz.prog) (l := tK) (aA xO (aA bYs aF))
 have t1 := taT tK 102 rfl
 have t2 := taT tK 115 rfl
 refine aP mixed hC Tryz.func98 rfl aFs false rfl fun args m r h => ?_
 unfold aK2 at h
 split at h
 ·rename_i r0
  obtain ⟨T, g, hT, hd, rfl⟩ := gM h
  obtain ⟨⟨hp0, hp1, hfl, hs16⟩, hrow, hgr, hev⟩ := hd
  obtain ⟨ph, hph⟩ := Int.eq_ofNat_of_zero_le hp0
  refine ⟨nbT, ?_⟩
  refine en ?_
  have l1 := bDl hT.hv
  have l2 := oS hT.hv
  have l3 := aBy hT.hv
  have hb : yI T = if (T.p.spans.getD ph sp0).from_ = T.step then vH T 2 else [] := by unfold yI; rw [hph]; rfl
  have f1 := bXx (g := .no) (kk := .i64) (l := T.p.spans) (i := ph) (by omega)
  generalize T.p.spans.getD ph sp0 = sp at f1 hb
  repeat refine dI ?_
  refine cU (kp := aFs) (by kernel_rfl) (by kernel_rfl) ?_
  rw [hph] at l3
  refine go1 (jn @l1 (jn @l2 (jn @l3 @f1))) ?_
  refine aH rfl (fun hc => ?_) (fun hc => ?_)
  ·have hne : ¬ sp.from_ = T.step := by simpa using hc
   rw [if_neg hne] at hb
   have ht : T.begins = T := by rw [show T.begins = T.addE (yI T) from rfl, hb, uD]
   refine go0 ?_
   exact oU (f := Tn.begins) rfl (by rw [ht]; exact hT)
  ·have he : sp.from_ = T.step := by simpa using hc
   rw [if_pos he] at hb
   have ht : T.begins = T.addE (vH T 2) := by rw [show T.begins = T.addE (yI T) from rfl, hb]
   have c1 := oJ hT (show T.events.length < mY by unfold mY; omega) 1 T.phase
   have hT1 := hT.tell 1 T.phase
   rw [← uD T, uI, uD] at hT1
   rw [← uD T, uI, uD] at c1
   simp only [List.nil_append] at hT1 c1
   rw [hph] at c1
   rw [show T.addE [⟨T.step, 1, ((ph : Nat) : Int)⟩] = T.addE (vH T 0) by rw [← hph]; rfl] at c1
   rw [show T.addE [⟨T.step, 1, T.phase⟩] = T.addE (vH T 0) from rfl] at hT1
   refine go1 (jn @l3 (jn @t1 @c1)) ?_
   generalize putT m r0 (T.addE (vH T 0)) 1 g = m1 at hT1
   generalize (fI 1 g m.toks).1 = g1 at hT1
   have hnl : frN T ≤ 8 := by
    have := hrow ph (by omega)
    unfold frN
    rw [hph, Int.toNat_natCast]
    omega
   have w0 : ∀ q, (vH T q).length ≤ 17 := fun q => by
    have h1 := uV T false (frN T)
    have h2 := uV T true (frN T)
    unfold vH
    split <;> simp <;> omega
   refine cE (fun k e m' => ∃ (q : Nat) (gq : Grow), q ≤ 2 ∧ TAt m r0 T g (T.addE (vH T q)) gq m' ∧ k = 2 - q ∧
    e = [(0, AV.ptr r0 0), (29, .lst .full 1 (eA [false, true])), (30, .v (.int .i64 2)), (31, .v (.int .i64 (q : Int)))]) (k := 2) ⟨0, g1, Nat.zero_le _, hT1, rfl, rfl⟩ ?_
   rintro k e m' ⟨q, gq, hq, hTq, rfl, rfl⟩
   refine go0 ?_
   refine aH rfl (fun hc => ?_) (fun hc => ?_)
   ·have hq1 : q < 2 := by have := of_decide_eq_true hc; omega
    have f2 := aF9 (g := .full) (kk := .i64) (l := [false, true]) (i := q) hq1
    have rq := cP (i := q) (by omega)
    have hE : ∀ n, vH T q ++ vR T ([false, true].getD q false) n = vH T q ++ vR T ([false, true].getD q false) n := fun n => rfl
    have hN : vH T (q + 1) = vH T q ++ vR T ([false, true].getD q false) (frN T) := by
     match q, hq1 with
     | 0, _ => rfl
     | 1, _ => rfl
    generalize [false, true].getD q false = fz at f2 hN hE
    have l4 := aJ6 hTq.hv
    have l5 := aBy hTq.hv
    have l5' : aL Tryz.prog m' 3 (.ptr r0 51) = some (.v (.int .i64 ((ph : Nat) : Int))) := by rw [← hph]; exact l5
    have l4' : aL Tryz.prog m' 23 (.ptr r0 6) = some (.lst .no 1 (jD T.p.frozen)) := l4
    have f3 := bK4 (g := .no) (kk := .i64) (l := T.p.frozen) (i := ph) (by omega)
    have hrl := hrow ph (by omega)
    have hfN : frN T = (T.p.frozen.getD ph []).length := by unfold frN; rw [hph]; rfl
    have hfz : ∀ j, frz T.p T.phase.toNat j = (T.p.frozen.getD ph []).getD j false := fun j => by unfold frz; rw [hph]; rfl
    have hRl : (T.p.frozen.getD ph []).length ≤ 8 := by rw [← hfN]; exact hnl
    refine go1 @f2 ?_
    repeat refine dI ?_
    refine cU (kp := aFs) (by kernel_rfl) (by kernel_rfl) ?_
    generalize hR : T.p.frozen.getD ph [] = R at f3 hfN hfz hRl hrl
    refine go1 (jn @l4' (jn @l5' @f3)) ?_
    clear l4 l5 l4' l5'
    refine cE (fun k e m' => ∃ (j : Nat) (gj : Grow), j ≤ R.length ∧ TAt m r0 T g (T.addE (vH T q ++ vR T fz j)) gj m' ∧ k = R.length - j ∧
     e = [(0, AV.ptr r0 0), (3, .v (.bool fz)), (29, .lst .full 1 (eA [false, true])), (30, .v (.int .i64 2)), (31, .v (.int .i64 (q : Int))), (45, .lst .no 1 (eA R)), (46, .v (.int .i64 R.length)), (47, .v (.int .i64 (j : Int)))]) (k := R.length)
     ⟨0, gq, Nat.zero_le _, by rw [show vR T fz 0 = [] from rfl, List.append_nil]; exact hTq, rfl, rfl⟩ ?_
    rintro k e m' ⟨j, gj, hj, hTj, rfl, rfl⟩
    refine go0 ?_
    refine aH rfl (fun hc => ?_) (fun hc => ?_)
    ·have hj1 : j < R.length := by have := of_decide_eq_true hc; omega
     have f4 := aF9 (g := .no) (kk := .i64) hj1
     have rj := cP (i := j) (by omega)
     have hlj := uV T fz j
     have hw0 := w0 q
     have cw := bYb (j := (j : Int)) hTj.hv (by
      refine ⟨by show T.phase ≤ 1000000; omega, fun h0 => ?_⟩
      have h0' : T.phase > 0 := h0
      refine ⟨by show T.phase - 1 < (T.p.frozen.length : Int); omega, by omega, ?_⟩
      show (j : Int) < ((T.p.frozen.getD (T.phase - 1).toNat []).length : Int)
      have := hrow (T.phase - 1).toNat (by omega)
      have e2 := hrow ph (by omega)
      rw [hR] at e2
      omega)
     have hwv : aVw (T.addE (vH T q ++ vR T fz j)) (j : Int) = aVw T j := rfl
     rw [hwv] at cw
     have hS : vR T fz (j + 1) = vR T fz j ++ if ((R.getD j false == aVw T j) || (R.getD j false != fz)) = true then [] else [⟨T.step, if R.getD j false = true then 3 else 2, j⟩] := by rw [vR, hfz]
     generalize R.getD j false = bb at f4 hS
     generalize aVw T (j : Int) = ww at cw hS
     have hev2 : (T.addE (vH T q ++ vR T fz j)).events.length < mY := by
      unfold Tn.addE mY
      simp only [List.length_append]
      omega
     have same : ((bb == ww) || (bb != fz)) = true → TAt m r0 T g (T.addE (vH T q ++ vR T fz (j + 1))) gj m' := fun hh => by
      rw [hS, if_pos hh, List.append_nil]
      exact hTj
     have more : ((bb == ww) || (bb != fz)) = false → TAt m r0 T g (T.addE (vH T q ++ vR T fz (j + 1))) (fI 1 gj m'.toks).1 (putT m' r0 (T.addE (vH T q ++ vR T fz (j + 1))) 1 gj) := fun hh => by
      have := hTj.tell (if bb = true then 3 else 2) (j : Int)
      rw [uI, List.append_assoc] at this
      rw [hS, if_neg (by rw [hh]; decide)]
      exact this
     have told : ((bb == ww) || (bb != fz)) = false → ∀ kd : Int, kd = (if bb = true then 3 else 2) → yL [.ptr r0 0, .v (.int .i64 kd), .v (.int .i64 ((j : Nat) : Int))] m' = some (.tup [], putT m' r0 (T.addE (vH T q ++ vR T fz (j + 1))) 1 gj) := fun hh kd hk => by
      have := oJ hTj hev2 kd (j : Int)
      rw [uI, List.append_assoc] at this
      rw [hS, if_neg (by rw [hh]; decide), ← hk]
      exact this
     cases h1 : (bb == ww) with
     | true =>
      refine go1 (jn @f4 (jn @t2 (jn @cw @h1))) ?_
      refine rcT rfl ?_
      refine go1 @rj ?_
      exact ⟨R.length - (j + 1), by omega, j + 1, gj, hj1, same (by rw [h1]; rfl), rfl, rfl⟩
     | false =>
      cases h2 : (bb != fz) with
      | true =>
       refine go1 (jn @f4 (jn @t2 (jn @cw (jn @h1 @h2)))) ?_
       refine rcT rfl ?_
       refine go1 @rj ?_
       exact ⟨R.length - (j + 1), by omega, j + 1, gj, hj1, same (by rw [h1, h2]; rfl), rfl, rfl⟩
      | false =>
       have hf : ((bb == ww) || (bb != fz)) = false := by rw [h1, h2]; rfl
       have hm := more hf
       refine go1 (jn @f4 (jn @t2 (jn @cw (jn @h1 @h2)))) ?_
       refine rcF rfl ?_
       cases bb with
       | true =>
        have c3 := told hf 3 rfl
        refine go0 ?_
        refine rcT rfl ?_
        refine go1 (jn @t1 (jn @c3 @rj)) ?_
        exact ⟨R.length - (j + 1), by omega, j + 1, _, hj1, hm, rfl, rfl⟩
       | false =>
        have c3 := told hf 2 rfl
        refine go0 ?_
        refine rcF rfl ?_
        refine go1 (jn @t1 (jn @c3 @rj)) ?_
        exact ⟨R.length - (j + 1), by omega, j + 1, _, hj1, hm, rfl, rfl⟩
    ·have hj1 : j = R.length := by have := of_decide_eq_false hc; omega
     subst hj1
     rw [← hfN, ← hN] at hTj
     refine go1 @rq ?_
     exact ⟨2 - (q + 1), by omega, q + 1, gj, hq1, hTj, rfl, rfl⟩
   ·have hq1 : q = 2 := by have := of_decide_eq_false hc; omega
    subst hq1
    refine go0 ?_
    exact dK (f := Tn.begins) rfl (by rw [ht]; exact hTq)
 ·cases h
end
section
attribute [local irreducible] Next aW cF Ops bQ
attribute [local go_sem] cO bP Option.getD_some cJ aT aV iv bQe aU4 bE2 bX3 bXn bKg aSx aQd aWy dN List.cons_append
theorem qI {P : Program} {fn : Func} {m m' m2 : Mem} {e : Env} {a u : Tmp} {t : TypeId} {x0 x y : AV} (h : fn.results = #[.cell a t, .tmp u]) (hl : aL P m' t (Ev.get e a) = some x0) (hx : fP m.vars.length m' x0 = some x) (hy : fP m.vars.length m' (Ev.get e u) = some y) (hm : bI m m' = m2) :
  cZ P false fn m (.tup [x, y], m2) .ret e m' := by
 show dL P false fn m e m' = _
 unfold dL
 rw [h]
 simp [dP, hl, hx, hy, hm]
theorem lB {P : Program} {fn : Func} {m m' m2 : Mem} {e : Env} {s a u : Tmp} {t : TypeId} {x0 x y z : AV} (h : fn.results = #[.tmp s, .cell a t, .tmp u]) (hz : fP m.vars.length m' (Ev.get e s) = some z) (hl : aL P m' t (Ev.get e a) = some x0) (hx : fP m.vars.length m' x0 = some x) (hy : fP m.vars.length m' (Ev.get e u) = some y) (hm : bI m m' = m2) :
  cZ P false fn m (.tup [z, x, y], m2) .ret e m' := by
 show dL P false fn m e m' = _
 unfold dL
 rw [h]
 simp [dP, hl, hx, hy, hz, hm]
theorem aMi {P : Program} {fn : Func} {m m' m2 : Mem} {e : Env} {s a u : Tmp} {t t2 : TypeId} {x0 x y z0 z : AV} (h : fn.results = #[.cell s t2, .cell a t, .tmp u]) (hk : aL P m' t2 (Ev.get e s) = some z0) (hz : fP m.vars.length m' z0 = some z) (hl : aL P m' t (Ev.get e a) = some x0) (hx : fP m.vars.length m' x0 = some x) (hy : fP m.vars.length m' (Ev.get e u) = some y) (hm : bI m m' = m2) :
  cZ P false fn m (.tup [z, x, y], m2) .ret e m' := by
 show dL P false fn m e m' = _
 unfold dL
 rw [h]
 simp [dP, hl, hx, hy, hz, hk, hm]
/-! ### copies -/
def vG (k : Nat) : List AV → Mem → Option (AV × Mem)
 | [.v (.slice none 0 0)], m => some (.lst .no k [], m)
 | _, _ => none
def rA (k : Nat) : List AV → Mem → Option (AV × Mem)
 | [.lst .here sz rows], m => if sz = k ∧ rows.length ≤ lim then some (.lst .no k rows, m) else none
 | _, _ => none
def sX (k : Nat) : List AV → Mem → Option (AV × Mem)
 | [.lst _ sz rows], m => if sz = k ∧ rows.length ≤ lim then some (.lst .no k rows, m) else none
 | _, _ => none
theorem aQe {P : Program} {f : FuncId} {k : Nat} (hn : aO P f (vG k)) (hh : aO P f (rA k)) : aO P f (sX k) := by
 intro args m r m' h
 unfold sX at h
 split at h
 ·rename_i g sz rows
  split at h
  ·rename_i hc
   obtain ⟨rfl, hl⟩ := hc
   simp only [Option.some.injEq, Prod.mk.injEq] at h
   obtain ⟨rfl, rfl⟩ := h
   have h1 := hh [.lst .here sz rows] m _ _ (if_pos ⟨rfl, hl⟩)
   have h2 := hn [.v (.slice none 0 0)] m _ _ rfl
   refine ⟨h1.1, fun φ w vals hR hA => ?_⟩
   have hs : vals.size = 1 := hA.1
   obtain ⟨v, rfl⟩ : ∃ v, vals = #[v] := ⟨vals[0], by apply Array.ext <;> simp_all⟩
   have hv := hA.2 0 _ v rfl rfl
   cases hv with
   | lst _ _ _ a c val hcc hr ha hsp hcell hrep hg =>
    cases a with
    | none =>
     have hc0 := ha rfl
     have hr0 : rows = [] := List.eq_nil_of_length_eq_zero (by omega)
     subst hr0
     subst hc0
     refine h2.2 φ w _ hR ⟨rfl, fun i a u e1 e2 => ?_⟩
     cases i with
     | zero => simp at e1 e2; subst e1; subst e2; exact .v _
     | succ i => simp at e1
    | some ad =>
     refine h1.2 φ w _ hR ⟨rfl, fun i a u e1 e2 => ?_⟩
     cases i with
     | zero =>
      simp at e1 e2; subst e1; subst e2
      exact .lst .here sz rows (some ad) c val hcc hr ha hsp hcell hrep (by intro e; cases e)
     | succ i => simp at e1
  ·cases h
 ·cases h
theorem aHn {k : Nat} {g : Grow} {rows : List (List AV)} (h : rows.length ≤ lim) (m : Mem) : sX k [.lst g k rows] m = some (.lst .no k rows, m) := if_pos ⟨rfl, h⟩
theorem bRi : mS Tryz.prog 62 62 1 = true := by kernel_rfl
theorem bT3 : bG Tryz.prog 42 0 [] = some (.lst .full 1 []) := by kernel_rfl
attribute [local go_sem] bT3
theorem bO6 : bG Tryz.prog 62 0 [] = some (.lst .full 1 []) := by kernel_rfl
attribute [local go_sem] bO6
def aAm : Nat → Option (List Nat) := fun _ => some [0, 2, 4]
attribute [go_sem] aAm
theorem bDm : aO Tryz.prog 134 (vG 1) := by
 have hC := aI (P := Tryz.prog) (l := []) aF
 refine aP mixed hC Tryz.func134 rfl aAm false rfl fun args m r h => ?_
 unfold vG at h
 split at h
 ·simp only [Option.some.injEq] at h
  subst h
  refine ⟨nbT, ?_⟩
  refine en ?_
  refine go0 ?_
  refine rcT rfl ?_
  refine go0 ?_
  exact dA rfl rfl (bU _)
 ·cases h
theorem bAc : aO Tryz.prog 134 (rA 1) := by
 have hC := aI (P := Tryz.prog) (l := []) aF
 refine aP mixed hC Tryz.func134 rfl aAm false rfl fun args m r h => ?_
 unfold rA at h
 split at h
 ·rename_i sz rows
  split at h
  ·rename_i hl
   obtain ⟨rfl, hl⟩ := hl
   simp only [Option.some.injEq] at h
   subst h
   refine ⟨nbT, ?_⟩
   refine en ?_
   have a1 := aX7 (m := m) (xs := []) sI (dC (g := .here) (k := 1) (rows := rows)) (by simpa using hl)
   rw [List.nil_append] at a1
   refine go0 ?_
   refine rcF rfl ?_
   refine go1 @a1 ?_
   exact dA rfl rfl bNz
  ·cases h
 ·cases h
theorem aSr : aO Tryz.prog 134 (sX 1) := aQe bDm bAc
theorem bCm : aO Tryz.prog 69 (vG 1) := by
 have hC := aI (P := Tryz.prog) (l := []) aF
 refine aP mixed hC Tryz.func69 rfl aAm false rfl fun args m r h => ?_
 unfold vG at h
 split at h
 ·simp only [Option.some.injEq] at h
  subst h
  refine ⟨nbT, ?_⟩
  refine en ?_
  refine go0 ?_
  refine rcT rfl ?_
  refine go0 ?_
  exact dA rfl rfl (bU _)
 ·cases h
theorem aYd : aO Tryz.prog 69 (rA 1) := by
 have hC := aI (P := Tryz.prog) (l := []) aF
 refine aP mixed hC Tryz.func69 rfl aAm false rfl fun args m r h => ?_
 unfold rA at h
 split at h
 ·rename_i sz rows
  split at h
  ·rename_i hl
   obtain ⟨rfl, hl⟩ := hl
   simp only [Option.some.injEq] at h
   subst h
   refine ⟨nbT, ?_⟩
   refine en ?_
   have a1 := aX7 (m := m) (xs := []) bRi (dC (g := .here) (k := 1) (rows := rows)) (by simpa using hl)
   rw [List.nil_append] at a1
   refine go0 ?_
   refine rcF rfl ?_
   refine go1 @a1 ?_
   exact dA rfl rfl bNz
  ·cases h
 ·cases h
theorem bI4 : aO Tryz.prog 69 (sX 1) := aQe bCm aYd
/-! ### fix.Add -/
def aHg (a b : Int) : Int × Int := if ((decide (a < 0) == decide (b < 0)) && (decide (IntKind.i64.wrap (a + b) < 0) != decide (a < 0))) = true then (0, 4) else (IntKind.i64.wrap (a + b), 0)
def bU0 : List AV → Mem → Option (AV × Mem)
 | [.v (.int .i64 a), .v (.int .i64 b)], m => some (.tup [.v (.int .i64 (aHg a b).1), .v (.int .i64 (aHg a b).2)], m)
 | _, _ => none
theorem bY6 (a b : Int) (m : Mem) : bU0 [.v (.int .i64 a), .v (.int .i64 b)] m = some (.tup [.v (.int .i64 (aHg a b).1), .v (.int .i64 (aHg a b).2)], m) := rfl
def bW1 : Nat → Option (List Nat) := fun
 | 0 => some [0, 1]
 | 1 => some [0, 1, 6]
 | 2 => some [6, 21]
 | 3 => some [4, 5]
 | 4 => some [4, 5]
 | _ => none
attribute [go_sem] bW1
theorem bZc : aO Tryz.prog 135 bU0 := by
 have hC := aI (P := Tryz.prog) (l := []) aF
 refine aP mixed hC Tryz.func135 rfl bW1 false rfl fun args m r h => ?_
 unfold bU0 at h
 split at h
 ·rename_i x y
  simp only [Option.some.injEq] at h
  subst h
  refine ⟨nbT, ?_⟩
  refine en ?_
  unfold aHg
  cases h1 : (decide (x < 0) == decide (y < 0)) with
  | false =>
   rw [if_neg (by simp)]
   refine go1 @h1 ?_
   refine rcF rfl ?_
   refine go0 ?_
   exact cM rfl rfl rfl
  | true =>
   cases h2 : (decide (IntKind.i64.wrap (x + y) < 0) != decide (x < 0)) with
   | false =>
    rw [if_neg (by simp)]
    refine go1 (jn @h1 @h2) ?_
    refine rcF rfl ?_
    refine go0 ?_
    exact cM rfl rfl rfl
   | true =>
    rw [if_pos (by rfl)]
    refine go1 (jn @h1 @h2) ?_
    refine rcT rfl ?_
    refine go0 ?_
    exact cM rfl rfl rfl
 ·cases h
/-! ### swa.Check -/
def zT (s : Sm) : Int := if s.count < 0 ∨ s.count > 1048576 ∨ s.count = 0 ∧ (s.sums.length : Int) > 0 then 1 else 0
def aFv : List AV → Mem → Option (AV × Mem)
 | [.agg cs], m =>
  match bKn cs with
  | some s => some (.v (.int .i64 (zT s)), m)
  | none => none
 | _, _ => none
theorem bI2 (s : Sm) (m : Mem) : aFv [.agg s.row] m = some (.v (.int .i64 (zT s)), m) := by
 simp only [aFv, aWf]
def aX5 : Nat → Option (List Nat) := fun
 | 0 => some [1]
 | 1 => some [21]
 | 2 => some [2]
 | 3 => some [2]
 | _ => none
attribute [go_sem] aX5
theorem bHz : aO Tryz.prog 133 aFv := by
 have hC := aI (P := Tryz.prog) (l := []) aF
 refine aP mixed hC Tryz.func133 rfl aX5 false rfl fun args m r h => ?_
 unfold aFv at h
 split at h
 ·rename_i cs
  split at h
  ·rename_i s hs0
   obtain rfl := aRw hs0
   simp only [Option.some.injEq] at h
   subst h
   refine ⟨nbT, ?_⟩
   refine en ?_
   have v1 : (m.push s.row).var m.vars.length = some s.row := aJ
   have n1 := bE2 (m := m) (x := s)
   have l1 := aR9 v1
   have l2 := aLs v1
   have fin : ∀ (e : Env) (b : Int), Ev.get e 2 = .v (.int .i64 b) → b = zT s → cZ Tryz.prog false Tryz.f133 m (.v (.int .i64 (zT s)), m) .ret e (m.push s.row) := fun e b h1 h2 => by rw [← h2]; exact aE rfl h1 lV
   repeat' (first | refine bZv (jn @n1 (jn @l1 @l2)) ?_ | (refine iX ?_; (fail_if_success (refine cT (B := true) rfl rfl rfl ?_ ?_)); (fail_if_success (refine cT (B := false) rfl rfl rfl ?_ ?_)); refine cT rfl rfl rfl (fun hB => ?_) (fun hB => ?_) <;> rw [hB]) | (refine hJ ?_; refine aH rfl (fun hc => ?_) (fun hc => ?_) <;> first | (cases hc; done) | skip))
   all_goals exact fin _ _ rfl (by unfold zT; simp only [beq_iff_eq, beq_eq_false_iff_ne, decide_eq_true_eq, decide_eq_false_iff_not] at *; split <;> omega)
  ·cases h
 ·cases h
end
end Go.Proofs.YtmockbddhhmmeaaGreat.Ev

/- States: checks. (Written out by wip/tools/gen_run5.py.) -/
import Derived.Test.YtmockbddhhmmeaaGreatMbgkd9
import Derived.Test.YtmockbddhhmmeaaGreatMa8
namespace Go.Proofs.YtmockbddhhmmeaaGreat.Ev
open Go Go.Proofs
set_option maxRecDepth 10000
set_option maxHeartbeats 8000000
set_option linter.unusedVariables false
set_option linter.unusedSimpArgs false
section
attribute [local irreducible] Next aW cF Ops bQ
attribute [local irreducible] bE dH
attribute [local go_sem] cO bP Option.getD_some cJ aT aV iv kI fA dY pJ iK iW aLo aEp aQn yO lK oQ vU vK jR lL pK pI uQ tE kH aTa aHp sE uC rZ aAh qC vW nF aBc aNy aKj aD7 yC aJr yJ aS9 aT2 aEw aAa aTh aU3 bQ1 bZg cAc dN cV
def aDg (p : Pn) (s : Ss) : Bool := decide (p.stopAt ≥ 0) && aF4 s.stop p.stop.Patience
def tQ (p : Pn) (s : Ss) : Bool := inB s.step 1 p.steps && (s.ended == IntKind.i64.wrap (s.step - 1))
def aA1 (p : Pn) (s : Ss) : Bool := if s.status = 0 then inB s.step 0 (IntKind.i64.wrap (p.steps - 1)) && (s.ended == 0) && !(aDg p s) else if s.status = 1 then tQ p s && (s.step == p.steps) && !(aDg p s) else if s.status = 2 then tQ p s && aDg p s && (s.step.tmod p.eval == 0) else if s.status = 3 then tQ p s && !(aDg p s) && aEb p s else false
def aAq : List AV → Mem → Option (AV × Mem)
 | [.agg ps, .agg ss], m =>
  match iH ps, sC ss with
  | some p, some s => if cQ p = true then some (.v (.bool (aA1 p s)), m) else none
  | _, _ => none
 | _, _ => none
theorem bB5 {p : Pn} {s : Ss} (hd : cQ p = true) (m : Mem) : aAq [.agg p.row, .agg s.row] m = some (.v (.bool (aA1 p s)), m) := by
 simp only [aAq, unPn_row, dZ]
 exact if_pos hd
def bAi : Nat → Option (List Nat) := fun
 | 0 => some [2, 3]
 | 1 => some [2, 3, 5]
 | 2 => some [2, 3, 5, 6]
 | 3 => some [2, 3, 5, 6, 32]
 | 4 => some [2, 3, 5, 6, 32, 33]
 | 5 => some [4]
 | 6 => some [2, 3, 5, 6, 32, 50]
 | 7 => some [4]
 | 8 => some [2, 3, 5, 6, 32, 64]
 | 9 => some [4]
 | 10 => some [2, 3, 5, 6, 78]
 | 11 => some [4]
 | 12 => some [4]
 | _ => none
attribute [go_sem] bAi
def mA : List (FuncId × (List AV → Mem → Option (AV × Mem))) := [(81, bCl), (82, oZ), (83, zU)]
theorem bBe : aO Tryz.prog 60 aAq := by
 have hC := aI (P := Tryz.prog) (l := mA) (aA bEd (aA aDk (aA bCy aF)))
 have t1 := taT mA 81 rfl
 have t2 := taT mA 82 rfl
 have t3 := taT mA 83 rfl
 refine aP mixed hC Tryz.func60 rfl bAi false rfl fun args m r h => ?_
 unfold aAq at h
 split at h
 ·rename_i ps ss
  split at h
  ·rename_i p s hp0 hs0
   obtain rfl := bZ hp0
   obtain rfl := dT hs0
   split at h
   ·rename_i hd
    simp only [Option.some.injEq] at h
    subst h
    refine ⟨nbT, ?_⟩
    refine en ?_
    have vp : ((m.push p.row).push s.row).var m.vars.length = some p.row := aQ aJ
    have vs : ((m.push p.row).push s.row).var (m.push p.row).vars.length = some s.row := aJ
    have n1 := dY (m := m) (x := p)
    have n2 := iW (m := m.push p.row) (x := s)
    have hA := aG (cs := s.row) (aG (cs := p.row) (aM m))
    refine go1 (jn @n1 @n2) ?_
    generalize (m.push p.row).push s.row = m2 at vp vs hA
    generalize (m.push p.row).vars.length = rs at vs
    generalize m.vars.length = rp at vp
    have k1 : (!true) = false := rfl
    have k2 : (!false) = true := rfl
    have l1 := rO vp
    have l2 := aZm vs
    have l3 := nS vp
    have l4 := vA vs
    have l5 := lD vp
    have l6 := aHv vs
    have l7 := rY vs
    have l8 := vT vp
    have l9 := qB vp
    have la := yH vs
    have hev : p.stopAt ≥ 0 → (p.eval = 0) = False := fun hh => by
     have := (dD hd).2.2.2.2.2.2.2.2.1
     unfold sZ at this
     rw [if_neg (by omega)] at this
     simp only [Bool.and_eq_true] at this
     have := this.1.1.1
     unfold yD at this
     simp only [Bool.and_eq_true, decide_eq_true_eq] at this
     exact eq_false (by omega)
    
    have e0 : aA1 p s = if s.status = 0 then inB s.step 0 (IntKind.i64.wrap (p.steps - 1)) && (s.ended == 0) && !(aDg p s) else if s.status = 1 then tQ p s && (s.step == p.steps) && !(aDg p s) else if s.status = 2 then tQ p s && aDg p s && (s.step.tmod p.eval == 0) else if s.status = 3 then tQ p s && !(aDg p s) && aEb p s else false := rfl
    rw [e0]
    clear e0
    have c1 := bCr s.stop p.stop.Patience
    have c2 := eB s.step 1 p.steps
    have c3 := eB s.step 0 (IntKind.i64.wrap (p.steps - 1))
    have c4 := bBn p s
    refine go0 ?_
    refine aNb [(2, .ptr rp 0), (3, .ptr rs 0), (5, .v (.bool (aDg p s)))] m2 ?_ ?_
    ·skip
     cases h0 : decide (p.stopAt ≥ 0) with
     | false =>
      refine go1 (jn @l1 @h0) ?_
      exact ⟨by unfold aDg; rw [h0]; rfl, rfl⟩
     | true =>
      refine go1 (jn @l1 (jn @h0 (jn @l2 (jn @l3 (jn @t1 @c1))))) ?_
      exact ⟨by unfold aDg; rw [h0]; rfl, rfl⟩
    repeat (first | refine gJ ?_ | refine dI ?_)
    refine go0 ?_
    refine aNb [(2, .ptr rp 0), (3, .ptr rs 0), (5, .v (.bool (aDg p s))), (6, .v (.bool (tQ p s)))] m2 ?_ ?_
    ·skip
     cases h0 : inB s.step 1 p.steps with
     | false =>
      refine go1 (jn @l4 (jn @l5 (jn @t2 (jn @c2 @h0)))) ?_
      exact ⟨by unfold tQ; rw [h0]; rfl, rfl⟩
     | true =>
      refine go1 (jn @l4 (jn @l5 (jn @t2 (jn @c2 (jn @h0 @l6))))) ?_
      exact ⟨by unfold tQ; rw [h0]; rfl, rfl⟩
    have hout : aDg p s = true → p.stopAt ≥ 0 := fun hh => by
     unfold aDg at hh
     rw [Bool.and_eq_true, decide_eq_true_eq] at hh
     exact hh.1
    generalize aDg p s = qo at hout ⊢
    generalize tQ p s = qe
    repeat (first | refine gJ ?_ | refine dI ?_)
    refine go1 @l7 ?_
    by_cases z0 : s.status = 0
    ·rw [if_pos z0]
     refine aH rfl (fun hc => ?_) (fun hc => absurd hc (by rw [z0]; decide))
     cases g0 : inB s.step 0 (IntKind.i64.wrap (p.steps - 1)) with
     | false =>
      refine go1 (jn @k1 (jn @k2 (jn @l4 (jn @l5 (jn @t2 (jn @c3 @g0)))))) ?_
      exact aE rfl rfl (aC hA)
     | true =>
      cases g1 : (s.ended == 0) with
      | false =>
       refine go1 (jn @k1 (jn @k2 (jn @l4 (jn @l5 (jn @t2 (jn @c3 (jn @g0 (jn @l6 @g1)))))))) ?_
       exact aE rfl rfl (aC hA)
      | true =>
       refine go1 (jn @k1 (jn @k2 (jn @l4 (jn @l5 (jn @t2 (jn @c3 (jn @g0 (jn @l6 @g1)))))))) ?_
       exact aE rfl rfl (aC hA)
    rw [if_neg z0]
    refine aH rfl (fun hc => absurd (eq_of_beq hc) z0) (fun hc => ?_)
    refine go0 ?_
    by_cases z1 : s.status = 1
    ·rw [if_pos z1]
     refine aH rfl (fun hc => ?_) (fun hc => absurd hc (by rw [z1]; decide))
     cases g0 : qe with
     | false =>
      refine go1 (jn @k1 (jn @k2 @g0)) ?_
      exact aE rfl rfl (aC hA)
     | true =>
      cases g1 : (s.step == p.steps) with
      | false =>
       refine go1 (jn @k1 (jn @k2 (jn @g0 (jn @l4 (jn @l5 @g1))))) ?_
       exact aE rfl rfl (aC hA)
      | true =>
       refine go1 (jn @k1 (jn @k2 (jn @g0 (jn @l4 (jn @l5 @g1))))) ?_
       exact aE rfl rfl (aC hA)
    rw [if_neg z1]
    refine aH rfl (fun hc => absurd (eq_of_beq hc) z1) (fun hc => ?_)
    refine go0 ?_
    by_cases z2 : s.status = 2
    ·rw [if_pos z2]
     refine aH rfl (fun hc => ?_) (fun hc => absurd hc (by rw [z2]; decide))
     cases g0 : qe with
     | false =>
      refine go1 (jn @k1 (jn @k2 @g0)) ?_
      exact aE rfl rfl (aC hA)
     | true =>
      cases g1 : qo with
      | false =>
       refine go1 (jn @k1 (jn @k2 (jn @g0 @g1))) ?_
       exact aE rfl rfl (aC hA)
      | true =>
       have hz := hev (hout g1)
       refine go1 (jn @k1 (jn @k2 (jn @g0 (jn @g1 (jn @l4 (jn @l8 @hz)))))) ?_
       exact aE rfl rfl (aC hA)
    rw [if_neg z2]
    refine aH rfl (fun hc => absurd (eq_of_beq hc) z2) (fun hc => ?_)
    refine go0 ?_
    by_cases z3 : s.status = 3
    ·rw [if_pos z3]
     refine aH rfl (fun hc => ?_) (fun hc => absurd hc (by rw [z3]; decide))
     cases g0 : qe with
     | false =>
      refine go1 (jn @k1 (jn @k2 @g0)) ?_
      exact aE rfl rfl (aC hA)
     | true =>
      cases g1 : (!qo) with
      | false =>
       refine go1 (jn @k1 (jn @k2 (jn @g0 @g1))) ?_
       exact aE rfl rfl (aC hA)
      | true =>
       refine go1 (jn @k1 (jn @k2 (jn @g0 (jn @g1 (jn @l9 (jn @la (jn @t3 @c4))))))) ?_
       exact aE rfl rfl (aC hA)
    rw [if_neg z3]
    refine aH rfl (fun hc => absurd (eq_of_beq hc) z3) (fun hc => ?_)
    refine go0 ?_
    exact aE rfl rfl (aC hA)
   ·cases h
  ·cases h
 ·cases h
def aFi (p : Pn) (s : Ss) : Bool := if p.stopAt < 0 then aPq s.stop else aHr s.stop (tH p s)
def yX : List AV → Mem → Option (AV × Mem)
 | [.agg ps, .agg ss], m =>
  match iH ps, sC ss with
  | some p, some s => some (.v (.bool (aFi p s)), m)
  | _, _ => none
 | _, _ => none
theorem bCx (p : Pn) (s : Ss) (m : Mem) : yX [.agg p.row, .agg s.row] m = some (.v (.bool (aFi p s)), m) := by
 simp only [yX, unPn_row, dZ]
def yM : Nat → Option (List Nat) := fun
 | 0 => some [2, 3]
 | 1 => some [2, 3, 7]
 | 2 => some [4]
 | 3 => some [4]
 | _ => none
attribute [go_sem] yM
def aAt : List (FuncId × (List AV → Mem → Option (AV × Mem))) := [(85, wF), (84, aBt)]
theorem bDn : aO Tryz.prog 61 yX := by
 have hC := aI (P := Tryz.prog) (l := aAt) (aA aIe (aA aR8 aF))
 have t1 := taT aAt 85 rfl
 have t2 := taT aAt 84 rfl
 refine dJ Tryz.func61 rfl false rfl fun args m r h => ?_
 unfold yX at h
 split at h
 ·rename_i ps ss
  split at h
  ·rename_i p s hp0 hs0
   obtain rfl := bZ hp0
   obtain rfl := dT hs0
   simp only [Option.some.injEq] at h
   subst h
   refine ⟨nbT, fun φ wd => ?_⟩
   refine en ?_
   have vp : ((m.push p.row).push s.row).var m.vars.length = some p.row := aQ aJ
   have vs : ((m.push p.row).push s.row).var (m.push p.row).vars.length = some s.row := aJ
   have n1 := dY (m := m) (x := p)
   have n2 := iW (m := m.push p.row) (x := s)
   have hA := aG (cs := s.row) (aG (cs := p.row) (aM m))
   refine xq ?_
   refine aB (kp := yM) mixed hC ?_
   refine go1 (jn @n1 @n2) ?_
   refine xq ?_
   generalize (m.push p.row).push s.row = m2 at vp vs hA
   generalize (m.push p.row).vars.length = rs at vs
   generalize m.vars.length = rp at vp
   have k1 : (!true) = false := rfl
   have k2 : (!false) = true := rfl
   have l1 := rO vp
   have l2 := aZm vs
   have l3 := qB vp
   have l4 := yH vs
   have c1 := aIj p s
   have c2 := aPy s.stop (tH p s)
   have e1 : lS Tryz.prog 8 38 (.agg s.stop.row) (.agg mD) = some (aPq s.stop) := bXl (x := s.stop) (y := wt0)
   unfold aFi
   refine aB (kp := yM) mixed hC ?_
   refine go1 @l1 ?_
   refine xq ?_
   by_cases hz : p.stopAt < 0
   ·rw [if_pos hz]
    refine cK rfl (fun hc => ?_) (fun hc => absurd hz (of_decide_eq_false hc))
    refine xq ?_
    refine aB (kp := yM) mixed hC ?_
    refine go1 (jn @l2 @e1) ?_
    refine xq ?_
    exact aX (aE rfl rfl (aC hA))
   ·rw [if_neg hz]
    refine cK rfl (fun hc => absurd (of_decide_eq_true hc) hz) (fun hc => ?_)
    refine xq ?_
    refine bN (l2 := yM 3) mixed hC (by kernel_rfl) ?_
    refine eJ (jn @l2 (jn @l3 (jn @l4 (jn @t1 (jn @c1 (jn @t2 @c2)))))) ?_
    refine xq ?_
    exact aX (aE rfl rfl (aC hA))
  ·cases h
 ·cases h
def bGg (x : Ct) : Bool := ((x.watch.has == jG.watch.has) && ((x.watch.best == jG.watch.best) && ((x.watch.bad == jG.watch.bad) && true))) && ((x.rest == jG.rest) && ((x.scale == jG.scale) && true))
def aNo (p : Pn) (s : Ss) : Bool := if p.cutAt < 0 then bGg s.cut else aYl s.cut && aHr s.cut.watch (tH p s) && decide (s.cut.watch.bad < p.plateau.Patience) && decide (s.cut.rest ≤ p.plateau.Cooldown)
def aGr : List AV → Mem → Option (AV × Mem)
 | [.agg ps, .agg ss], m =>
  match iH ps, sC ss with
  | some p, some s => some (.v (.bool (aNo p s)), m)
  | _, _ => none
 | _, _ => none
theorem bHs (p : Pn) (s : Ss) (m : Mem) : aGr [.agg p.row, .agg s.row] m = some (.v (.bool (aNo p s)), m) := by
 simp only [aGr, unPn_row, dZ]
def sL : Nat → Option (List Nat) := fun
 | 0 => some [2, 3]
 | 1 => some [2, 3, 7]
 | 2 => some [4]
 | 3 => some [4]
 | _ => none
attribute [go_sem] sL
def qT : List (FuncId × (List AV → Mem → Option (AV × Mem))) := [(33, aA9), (86, aY1), (85, wF), (84, aBt)]
theorem bK7 : aO Tryz.prog 62 aGr := by
 have hC := aI (P := Tryz.prog) (l := qT) (aA aQv (aA bVp (aA aIe (aA aR8 aF))))
 have t1 := taT qT 33 rfl
 have t2 := taT qT 86 rfl
 have t3 := taT qT 85 rfl
 have t4 := taT qT 84 rfl
 refine dJ Tryz.func62 rfl false rfl fun args m r h => ?_
 unfold aGr at h
 split at h
 ·rename_i ps ss
  split at h
  ·rename_i p s hp0 hs0
   obtain rfl := bZ hp0
   obtain rfl := dT hs0
   simp only [Option.some.injEq] at h
   subst h
   refine ⟨nbT, fun φ wd => ?_⟩
   refine en ?_
   have vp : ((m.push p.row).push s.row).var m.vars.length = some p.row := aQ aJ
   have vs : ((m.push p.row).push s.row).var (m.push p.row).vars.length = some s.row := aJ
   have n1 := dY (m := m) (x := p)
   have n2 := iW (m := m.push p.row) (x := s)
   have hA := aG (cs := s.row) (aG (cs := p.row) (aM m))
   refine xq ?_
   refine aB (kp := sL) mixed hC ?_
   refine go1 (jn @n1 @n2) ?_
   refine xq ?_
   generalize (m.push p.row).push s.row = m2 at vp vs hA
   generalize (m.push p.row).vars.length = rs at vs
   generalize m.vars.length = rp at vp
   have k1 : (!true) = false := rfl
   have k2 : (!false) = true := rfl
   have l1 := aIl vp
   have l2 := bGz vs
   have l3 := qB vp
   have l4 := yH vs
   have l5 := aVi vs
   have l6 := aKc vs
   have l7 := aB5 vp
   have l8 := aVt vs
   have l9 := aB7 vp
   have c0 := fun mm => (show aA9 [] mm = some (.agg jG.row, mm) from rfl)
   have c2 := bWe s.cut
   have c3 := aIj p s
   have c4 := aPy s.cut.watch (tH p s)
   have e1 : lS Tryz.prog 8 40 (.agg s.cut.row) (.agg jG.row) = some (bGg s.cut) := cD0 (x := s.cut) (y := jG)
   unfold aNo
   refine aB (kp := sL) mixed hC ?_
   refine go1 @l1 ?_
   refine xq ?_
   by_cases hz : p.cutAt < 0
   ·rw [if_pos hz]
    refine cK rfl (fun hc => ?_) (fun hc => absurd hz (of_decide_eq_false hc))
    refine xq ?_
    refine bN (l2 := sL 2) mixed hC (by kernel_rfl) ?_
    refine eJ (jn @l2 (jn @t1 (jn @c0 @e1))) ?_
    refine xq ?_
    exact aX (aE rfl rfl (aC hA))
   rw [if_neg hz]
   refine cK rfl (fun hc => absurd (of_decide_eq_true hc) hz) (fun hc => ?_)
   refine xq ?_
   cases h0 : aYl s.cut with
   | false =>
    refine bN (l2 := sL 3) mixed hC (by kernel_rfl) ?_
    refine eJ (jn @l2 (jn @t2 (jn @c2 @h0))) ?_
    refine xq ?_
    exact aX (aE rfl rfl (aC hA))
   | true =>
    cases h1 : aHr s.cut.watch (tH p s) with
    | false =>
     refine bN (l2 := sL 3) mixed hC (by kernel_rfl) ?_
     refine eJ (jn @l2 (jn @t2 (jn @c2 (jn @h0 (jn @l5 (jn @l3 (jn @l4 (jn @t3 (jn @c3 (jn @t4 (jn @c4 @h1))))))))))) ?_
     refine xq ?_
     exact aX (aE rfl rfl (aC hA))
    | true =>
     cases h2 : decide (s.cut.watch.bad < p.plateau.Patience) with
     | false =>
      refine bN (l2 := sL 3) mixed hC (by kernel_rfl) ?_
      refine eJ (jn @l2 (jn @t2 (jn @c2 (jn @h0 (jn @l5 (jn @l3 (jn @l4 (jn @t3 (jn @c3 (jn @t4 (jn @c4 (jn @h1 (jn @l6 (jn @l7 @h2)))))))))))))) ?_
      refine xq ?_
      exact aX (aE rfl rfl (aC hA))
     | true =>
      refine bN (l2 := sL 3) mixed hC (by kernel_rfl) ?_
      refine eJ (jn @l2 (jn @t2 (jn @c2 (jn @h0 (jn @l5 (jn @l3 (jn @l4 (jn @t3 (jn @c3 (jn @t4 (jn @c4 (jn @h1 (jn @l6 (jn @l7 (jn @h2 (jn @l8 @l9)))))))))))))))) ?_
      refine xq ?_
      exact aX (aE rfl rfl (aC hA))
  ·cases h
 ·cases h
def aL3 (p : Pn) (s : Ss) : Bool := ((s.ema.length : Int) == aN7 p (p.ema.On && decide (jZ s > 0))) && (s.swa.count == aNx p (jZ s)) && ((s.swa.sums.length : Int) == aN7 p (decide (aNx p (jZ s) > 0)))
def aE0 : List AV → Mem → Option (AV × Mem)
 | [.agg ps, .agg ss], m =>
  match iH ps, sC ss with
  | some p, some s => some (.v (.bool (aL3 p s)), m)
  | _, _ => none
 | _, _ => none
theorem bJ0 (p : Pn) (s : Ss) (m : Mem) : aE0 [.agg p.row, .agg s.row] m = some (.v (.bool (aL3 p s)), m) := by
 simp only [aE0, unPn_row, dZ]
def pM : Nat → Option (List Nat) := fun
 | 0 => some [2, 3]
 | 1 => some [2, 3, 5]
 | 2 => some [4]
 | _ => none
attribute [go_sem] pM
def xJ : List (FuncId × (List AV → Mem → Option (AV × Mem))) := [(90, wY), (91, aOx), (92, aLb)]
theorem bJj : aO Tryz.prog 64 aE0 := by
 have hC := aI (P := Tryz.prog) (l := xJ) (aA aH4 (aA bO7 (aA bQl aF)))
 have t1 := taT xJ 90 rfl
 have t2 := taT xJ 91 rfl
 have t3 := taT xJ 92 rfl
 refine dJ Tryz.func64 rfl false rfl fun args m r h => ?_
 unfold aE0 at h
 split at h
 ·rename_i ps ss
  split at h
  ·rename_i p s hp0 hs0
   obtain rfl := bZ hp0
   obtain rfl := dT hs0
   simp only [Option.some.injEq] at h
   subst h
   refine ⟨nbT, fun φ wd => ?_⟩
   refine en ?_
   have vp : ((m.push p.row).push s.row).var m.vars.length = some p.row := aQ aJ
   have vs : ((m.push p.row).push s.row).var (m.push p.row).vars.length = some s.row := aJ
   have n1 := dY (m := m) (x := p)
   have n2 := iW (m := m.push p.row) (x := s)
   have hA := aG (cs := s.row) (aG (cs := p.row) (aM m))
   refine xq ?_
   refine aB (kp := pM) mixed hC ?_
   refine go1 (jn @n1 @n2) ?_
   refine xq ?_
   generalize (m.push p.row).push s.row = m2 at vp vs hA
   generalize (m.push p.row).vars.length = rs at vs
   generalize m.vars.length = rp at vp
   have k1 : (!true) = false := rfl
   have k2 : (!false) = true := rfl
   have l1 := bFe vs
   have l2 := aQ5 vp
   have l3 := qB vp
   have l4 := yH vs
   have l5 := aVc vs
   have l6 := aJ3 vs
   have c1 := aH8 s
   have c2 := bQ0 p (jZ s)
   have c3 := aGj p (p.ema.On && decide (jZ s > 0))
   have c5 := aGj p (decide (aNx p (jZ s) > 0))
   unfold aL3
   refine bN (l2 := pM 1) mixed hC (by kernel_rfl) ?_
   refine eJ (jn @l3 (jn @l4 (jn @t1 (jn @c1 (jn @t2 @c2))))) ?_
   refine xq ?_
   generalize aNx p (jZ s) = n at c2 c5
   cases ho : p.ema.On with
   | false =>
    rw [ho] at l2
    simp only [Bool.false_and]
    have c3 := aGj p false
    cases h0 : ((s.ema.length : Int) == aN7 p (false)) with
    | false =>
     refine bN (l2 := pM 2) mixed hC (by kernel_rfl) ?_
     refine eJ (jn @ho (jn @l1 (jn @l3 (jn @l2 (jn @l4 (jn @t1 (jn @c1 (jn @t3 (jn @c3 @h0))))))))) ?_
     refine xq ?_
     exact aX (aE rfl rfl (aC hA))
    | true =>
     cases h1 : (s.swa.count == n) with
     | false =>
      refine bN (l2 := pM 2) mixed hC (by kernel_rfl) ?_
      refine eJ (jn @ho (jn @l1 (jn @l3 (jn @l2 (jn @l4 (jn @t1 (jn @c1 (jn @t3 (jn @c3 (jn @h0 (jn @l5 @h1))))))))))) ?_
      refine xq ?_
      exact aX (aE rfl rfl (aC hA))
     | true =>
      refine bN (l2 := pM 2) mixed hC (by kernel_rfl) ?_
      refine eJ (jn @ho (jn @l1 (jn @l3 (jn @l2 (jn @l4 (jn @t1 (jn @c1 (jn @t3 (jn @c3 (jn @h0 (jn @l5 (jn @h1 (jn @l6 @c5))))))))))))) ?_
      refine xq ?_
      exact aX (aE rfl rfl (aC hA))
   | true =>
    rw [ho] at l2
    simp only [Bool.true_and]
    have c3 := aGj p (decide (jZ s > 0))
    cases h0 : ((s.ema.length : Int) == aN7 p (decide (jZ s > 0))) with
    | false =>
     refine bN (l2 := pM 2) mixed hC (by kernel_rfl) ?_
     refine eJ (jn @ho (jn @l1 (jn @l3 (jn @l2 (jn @l4 (jn @t1 (jn @c1 (jn @t3 (jn @c3 @h0))))))))) ?_
     refine xq ?_
     exact aX (aE rfl rfl (aC hA))
    | true =>
     cases h1 : (s.swa.count == n) with
     | false =>
      refine bN (l2 := pM 2) mixed hC (by kernel_rfl) ?_
      refine eJ (jn @ho (jn @l1 (jn @l3 (jn @l2 (jn @l4 (jn @t1 (jn @c1 (jn @t3 (jn @c3 (jn @h0 (jn @l5 @h1))))))))))) ?_
      refine xq ?_
      exact aX (aE rfl rfl (aC hA))
     | true =>
      refine bN (l2 := pM 2) mixed hC (by kernel_rfl) ?_
      refine eJ (jn @ho (jn @l1 (jn @l3 (jn @l2 (jn @l4 (jn @t1 (jn @c1 (jn @t3 (jn @c3 (jn @h0 (jn @l5 (jn @h1 (jn @l6 @c5))))))))))))) ?_
      refine xq ?_
      exact aX (aE rfl rfl (aC hA))
  ·cases h
 ·cases h
end
section
attribute [local irreducible] Next aW cF Ops bQ
attribute [local irreducible] bE dH
attribute [local go_sem] cO bP Option.getD_some cJ aT aV iv bWi bEo bM3 cCt xI bFg bTz bEh bGr bE8 bFn aB9 tF aMx aGl aYx kI fA dY sR oQ dN List.cons_append
def sU (r : Rd) : Bool := !r.has && (r.val != 0)
def aOw : List AV → Mem → Option (AV × Mem)
 | [.agg cs], m =>
  match bSe cs with
  | some r => some (.v (.bool (sU r)), m)
  | none => none
 | _, _ => none
theorem bQo (r : Rd) (m : Mem) : aOw [.agg r.row] m = some (.v (.bool (sU r)), m) := by
 simp only [aOw, aZ5]
def bFa : Nat → Option (List Nat) := fun
 | 0 => some [1]
 | 1 => some [2]
 | _ => none
attribute [go_sem] bFa
theorem bSv : aO Tryz.prog 94 aOw := by
 have hC := aI (P := Tryz.prog) (l := []) aF
 refine aP mixed hC Tryz.func94 rfl bFa false rfl fun args m r h => ?_
 unfold aOw at h
 split at h
 ·rename_i cs
  split at h
  ·rename_i r hr0
   obtain rfl := aQ0 hr0
   simp only [Option.some.injEq] at h
   subst h
   refine ⟨nbT, ?_⟩
   refine en ?_
   have v1 : (m.push r.row).var m.vars.length = some r.row := aJ
   have nr := bM3 (m := m) (x := r)
   have hA := aG (cs := r.row) (aM m)
   refine go1 @nr ?_
   generalize m.push r.row = m2 at v1 hA
   generalize m.vars.length = r1 at v1
   have l1 := bF8 v1
   have l2 := bUu v1
   have k1 : (!true) = false := rfl
   have k2 : (!false) = true := rfl
   unfold sU
   cases hh : r.has with
   | true =>
    rw [hh] at l1
    refine go1 (jn @l1 @k1) ?_
    exact aE rfl rfl (aC hA)
   | false =>
    rw [hh] at l1
    refine go1 (jn @l1 (jn @k2 @l2)) ?_
    exact aE rfl rfl (aC hA)
  ·cases h
 ·cases h
def aGz : List AV → Mem → Option (AV × Mem)
 | [.lst _ 2 rows, .fn (.func 94) [] []], m =>
  match aF1 rows with
  | some l => if l.length ≤ 1000000 then some (iv (aZ sU l 0), m) else none
  | none => none
 | _, _ => none
def aWn : Nat → Option (List Nat) := fun
 | 0 => some [0, 1]
 | 1 => some [0, 1, 7, 8]
 | 2 => some [0, 1, 7, 8, 9]
 | 3 => some [0, 1, 5, 7, 8]
 | 4 => some [0, 1, 5, 7, 8, 16]
 | 5 => some [4]
 | 6 => some [0, 1, 7, 8]
 | 7 => some [4]
 | _ => none
attribute [go_sem] aWn
def aCg : List (FuncId × (List AV → Mem → Option (AV × Mem))) := [(94, aOw)]
theorem bKy : aO Tryz.prog 110 aGz := by
 have hC := aI (P := Tryz.prog) (l := aCg) (aA bSv aF)
 have t1 := taT aCg 94 rfl
 refine aP mixed hC Tryz.func110 rfl aWn false rfl fun args m r h => ?_
 unfold aGz at h
 split at h
 ·rename_i g rows
  split at h
  ·rename_i l hl0
   obtain rfl := xH hl0
   split at h
   ·rename_i hlen
    simp only [Option.some.injEq] at h
    subst h
    refine ⟨nbT, ?_⟩
    refine en ?_
    refine go0 ?_
    refine cE (fun k e m' => ∃ (i : Nat), i ≤ l.length ∧ aZ sU (l.drop i) i = aZ sU l 0 ∧ m = m' ∧ k = l.length - i ∧
     e = [(0, AV.lst g 2 (gO l)), (1, .fn (.func 94) [] []), (7, .v (.int .i64 l.length)), (8, .v (.int .i64 (i : Int)))]) (k := l.length) ⟨0, Nat.zero_le _, rfl, rfl, rfl, rfl⟩ ?_
    rintro k e m' ⟨i, hi, hf, rfl, rfl, rfl⟩
    refine go0 ?_
    refine aH rfl (fun hc => ?_) (fun hc => ?_)
    ·have hi1 : i < l.length := by have := of_decide_eq_true hc; omega
     have f1 := bV1 (g := g) (kk := .i64) hi1
     have f2 := bQo (l.getD i rd0)
     refine go1 (jn @f1 (jn @t1 @f2)) ?_
     refine aH rfl (fun hc => ?_) (fun hc => ?_)
     ·rw [aT1 hi1 hc hf]
      refine go0 ?_
      exact aY rfl rfl
     ·have r6 := cP (i := i) (by omega)
      refine go1 @r6 ?_
      exact ⟨l.length - (i + 1), by omega, i + 1, hi1, bFi hi1 hc hf, rfl, rfl, rfl⟩
    ·have hi1 : i = l.length := by have := of_decide_eq_false hc; omega
     subst hi1
     rw [aTq hf]
     refine go0 ?_
     exact aY rfl rfl
   ·cases h
  ·cases h
 ·cases h
def aLi : List AV → Mem → Option (AV × Mem)
 | [.lst _ 2 rows, .fn (.func 94) [] []], m =>
  match aF1 rows with
  | some l => if l.length ≤ 1000000 then some (.v (.bool (l.any sU)), m) else none
  | none => none
 | _, _ => none
theorem bPv {l : List Rd} {g : Grow} (h : l.length ≤ 1000000) (m : Mem) : aLi [.lst g 2 (gO l), .fn (.func 94) [] []] m = some (.v (.bool (l.any sU)), m) := by
 simp only [aLi, pY]
 exact if_pos h
def bFy : Nat → Option (List Nat) := fun
 | 0 => some [0, 1]
 | 1 => some [4]
 | _ => none
attribute [go_sem] bFy
def aGp : List (FuncId × (List AV → Mem → Option (AV × Mem))) := [(110, aGz)]
theorem bQw : aO Tryz.prog 93 aLi := by
 have hC := aI (P := Tryz.prog) (l := aGp) (aA bKy aF)
 have t1 := taT aGp 110 rfl
 refine aP mixed hC Tryz.func93 rfl bFy false rfl fun args m r h => ?_
 unfold aLi at h
 split at h
 ·rename_i g rows
  split at h
  ·rename_i l hl0
   obtain rfl := xH hl0
   split at h
   ·rename_i hlen
    simp only [Option.some.injEq] at h
    subst h
    refine ⟨nbT, ?_⟩
    refine en ?_
    have f1 : aGz [.lst .no 2 (gO l), .fn (.func 94) [] []] m = some (.v (.int .i64 (aZ sU l 0)), m) := by
     simp only [aGz, pY]
     exact if_pos hlen
    have e : decide (aZ sU l 0 ≥ 0) = l.any sU := oY sU l 0
    refine go1 (jn @t1 (jn @f1 @e)) ?_
    exact aY rfl rfl
   ·cases h
  ·cases h
 ·cases h
/-! ### reading.Check -/
def rV (p : Pn) (x : In) : Bool := cQ p && ((x.readings.length : Int) == p.metrics) && ((x.weights.length : Int) == p.weights) && !(x.readings.any sU)
def bEp (p : Pn) (x : In) : Prop := p.fit ∧ x.readings.length ≤ 1000000 ∧ x.weights.length ≤ 1000000
instance (p : Pn) (x : In) : Decidable (bEp p x) := by unfold bEp; exact inferInstance
def zI : List AV → Mem → Option (AV × Mem)
 | [.agg ps, .agg xs], m =>
  match iH ps, aL1 xs with
  | some p, some x => if bEp p x then some (iv (if rV p x then 0 else 1), m) else none
  | _, _ => none
 | _, _ => none
theorem bB3 {p : Pn} {x : In} (h : bEp p x) (m : Mem) : zI [.agg p.row, .agg x.row] m = some (.v (.int .i64 (if rV p x then 0 else 1)), m) := by
 simp only [zI, unPn_row, sB]
 exact if_pos h
def aSz : Nat → Option (List Nat) := fun
 | 0 => some [2, 3]
 | 1 => some [3, 23]
 | 2 => some [4]
 | 3 => some [26]
 | 4 => some [4]
 | 5 => some [4]
 | _ => none
attribute [go_sem] aSz
def rQ : List (FuncId × (List AV → Mem → Option (AV × Mem))) := [(59, eX), (93, aLi)]
theorem bD7 : aO Tryz.prog 65 zI := by
 have hC := aI (P := Tryz.prog) (l := rQ) (aA xE (aA bQw aF))
 have t1 := taT rQ 59 rfl
 have t2 := taT rQ 93 rfl
 refine aP mixed hC Tryz.func65 rfl aSz false rfl fun args m r h => ?_
 unfold zI at h
 split at h
 ·rename_i ps xs
  split at h
  ·rename_i p x hp0 hx0
   obtain rfl := bZ hp0
   obtain rfl := nE hx0
   split at h
   ·rename_i hd
    obtain ⟨hfit, hr6, hw6⟩ := hd
    simp only [Option.some.injEq] at h
    subst h
    refine ⟨nbT, ?_⟩
    refine en ?_
    have vp : ((m.push p.row).push x.row).var m.vars.length = some p.row := aQ aJ
    have vx : ((m.push p.row).push x.row).var (m.push p.row).vars.length = some x.row := aJ
    have n1 := dY (m := m) (x := p)
    have n2 := aMx (m := m.push p.row) (x := x)
    have hA := aG (cs := x.row) (aG (cs := p.row) (aM m))
    refine go1 (jn @n1 @n2) ?_
    generalize (m.push p.row).push x.row = m2 at vp vx hA
    generalize (m.push p.row).vars.length = rx at vx
    generalize m.vars.length = rp at vp
    have l1 := qB vp
    have l2 := sS vp
    have l3 := aAr vp
    have l4 := wT vx
    have l5 := aY0 vx
    have c1 : ∀ mm, eX [.agg p.row] mm = some (.v (.int .i64 (if cQ p then 0 else 1)), mm) := fun mm => by
     simp only [eX, unPn_row]
     exact if_pos hfit
    have c2 := bPv (l := x.readings) (g := .no) hr6
    have k1 : (!true) = false := rfl
    have k2 : (!false) = true := rfl
    have z0 : ((0 : Int) != 0) = false := rfl
    have z1 : ((1 : Int) != 0) = true := rfl
    have fin : ∀ (e : Env) (n : Int), Ev.get e 4 = .v (.int .i64 n) → n = (if rV p x then 0 else 1) → cZ Tryz.prog false Tryz.f65 m (iv (if rV p x then 0 else 1), m) .ret e m2 := fun e n h1 h2 => by rw [← h2]; exact aE rfl h1 (aC hA)
    cases h0 : cQ p with
    | false =>
     rw [h0] at c1
     simp only [Bool.false_eq_true, if_false] at c1
     refine go1 (jn @l1 (jn @t1 (jn @c1 @z1))) ?_
     refine rcT rfl ?_
     refine go0 ?_
     exact fin _ _ rfl (by unfold rV; rw [h0]; rfl)
    | true =>
     rw [h0] at c1
     simp only [if_true] at c1
     cases h1 : ((x.readings.length : Int) == p.metrics) with
     | false =>
      have q1 : ((x.readings.length : Int) != p.metrics) = true := by unfold bne; rw [h1]; rfl
      refine go1 (jn @l1 (jn @t1 (jn @c1 (jn @z0 (jn @l4 (jn @l2 @q1)))))) ?_
      refine rcT rfl ?_
      refine go0 ?_
      exact fin _ _ rfl (by unfold rV; rw [h1]; simp)
     | true =>
      have q1 : ((x.readings.length : Int) != p.metrics) = false := by unfold bne; rw [h1]; rfl
      cases h2 : ((x.weights.length : Int) == p.weights) with
      | false =>
       have q2 : ((x.weights.length : Int) != p.weights) = true := by unfold bne; rw [h2]; rfl
       refine go1 (jn @l1 (jn @t1 (jn @c1 (jn @z0 (jn @l4 (jn @l2 (jn @q1 (jn @l5 (jn @l3 @q2))))))))) ?_
       refine rcT rfl ?_
       refine go0 ?_
       exact fin _ _ rfl (by unfold rV; rw [h2]; simp)
      | true =>
       have q2 : ((x.weights.length : Int) != p.weights) = false := by unfold bne; rw [h2]; rfl
       refine go1 (jn @l1 (jn @t1 (jn @c1 (jn @z0 (jn @l4 (jn @l2 (jn @q1 (jn @l5 (jn @l3 @q2))))))))) ?_
       refine rcF rfl ?_
       refine go1 (jn @l4 (jn @t2 @c2)) ?_
       cases h3 : x.readings.any sU with
       | true =>
        refine rcT rfl ?_
        refine go0 ?_
        exact fin _ _ rfl (by unfold rV; rw [h3]; simp)
       | false =>
        refine rcF rfl ?_
        refine go0 ?_
        exact fin _ _ rfl (by unfold rV; rw [h0, h1, h2, h3]; rfl)
   ·cases h
  ·cases h
 ·cases h
/-! ### reading.Of -/
def nA (x : In) (at_ : Int) : Int × Bool := if at_ < 0 ∨ at_ ≥ (x.readings.length : Int) then (0, false) else if (x.readings.getD at_.toNat rd0).has = true then ((x.readings.getD at_.toNat rd0).val, true) else (0, false)
def aW6 : List AV → Mem → Option (AV × Mem)
 | [.agg xs, .v (.int .i64 a)], m =>
  match aL1 xs with
  | some x => if x.readings.length ≤ 1000000 then some (.tup [iv (nA x a).1, .v (.bool (nA x a).2)], m) else none
  | none => none
 | _, _ => none
theorem aUm {x : In} (h : x.readings.length ≤ 1000000) (a : Int) (m : Mem) : aW6 [.agg x.row, .v (.int .i64 a)] m = some (.tup [.v (.int .i64 (nA x a).1), .v (.bool (nA x a).2)], m) := by
 simp only [aW6, sB]
 exact if_pos h
def bNk : Nat → Option (List Nat) := fun
 | 0 => some [1, 2]
 | 1 => some [1, 2, 23]
 | 2 => some [4, 5]
 | 3 => some [4, 5]
 | _ => none
attribute [go_sem] bNk
theorem bUc : aO Tryz.prog 120 aW6 := by
 have hC := aI (P := Tryz.prog) (l := []) aF
 refine aP mixed hC Tryz.func120 rfl bNk false rfl fun args m r h => ?_
 unfold aW6 at h
 split at h
 ·rename_i xs a
  split at h
  ·rename_i x hx0
   obtain rfl := nE hx0
   split at h
   ·rename_i hlen
    simp only [Option.some.injEq] at h
    subst h
    refine ⟨nbT, ?_⟩
    refine en ?_
    have v2 : (m.push x.row).var m.vars.length = some x.row := aJ
    have nr := aMx (m := m) (x := x)
    have hA := aG (cs := x.row) (aM m)
    refine go1 @nr ?_
    generalize m.push x.row = m2 at v2 hA
    generalize m.vars.length = r2 at v2
    have l1 := wT v2
    have k1 : (!true) = false := rfl
    have k2 : (!false) = true := rfl
    have bad : ∀ (e : Env), Ev.get e 4 = .v (.int .i64 0) → Ev.get e 5 = .v (.bool false) → nA x a = (0, false) → cZ Tryz.prog false Tryz.f120 m (.tup [iv (nA x a).1, .v (.bool (nA x a).2)], m) .ret e m2 := fun e h1 h2 h3 => by
     rw [h3]
     exact bT rfl (by decide) (.cons rfl (by rw [h1]; rfl) (.cons rfl (by rw [h2]; rfl) .nil)) (aC hA)
    by_cases h1 : a < 0
    ·have q1 : decide (a < 0) = true := decide_eq_true h1
     refine go1 @q1 ?_
     refine rcT rfl ?_
     refine go0 ?_
     exact bad _ rfl rfl (by unfold nA; rw [if_pos (.inl h1)])
    ·have q1 : decide (a < 0) = false := decide_eq_false h1
     by_cases h2 : a ≥ (x.readings.length : Int)
     ·have q2 : decide (a ≥ (x.readings.length : Int)) = true := decide_eq_true h2
      refine go1 (jn @q1 (jn @l1 @q2)) ?_
      refine rcT rfl ?_
      refine go0 ?_
      exact bad _ rfl rfl (by unfold nA; rw [if_pos (.inr h2)])
     ·have q2 : decide (a ≥ (x.readings.length : Int)) = false := decide_eq_false h2
      obtain ⟨i, rfl⟩ := Int.eq_ofNat_of_zero_le (show 0 ≤ a by omega)
      have hi : i < x.readings.length := by omega
      have f1 := bV1 (g := .no) (kk := .i64) hi
      have e0 : nA x (i : Int) = if (x.readings.getD i rd0).has = true then ((x.readings.getD i rd0).val, true) else (0, false) := by
       unfold nA
       rw [if_neg (by omega), Int.toNat_natCast]
      generalize x.readings.getD i rd0 = y at f1 e0
      cases hh : y.has with
      | false =>
       refine go1 (jn @q1 (jn @l1 (jn @q2 (jn @f1 (jn @hh @k2))))) ?_
       refine rcT rfl ?_
       refine go0 ?_
       exact bad _ rfl rfl (by rw [e0, if_neg (by rw [hh]; decide)])
      | true =>
       rw [if_pos hh] at e0
       refine go1 (jn @q1 (jn @l1 (jn @q2 (jn @f1 (jn @hh @k1))))) ?_
       refine rcF rfl ?_
       refine go1 (jn @l1 @f1) ?_
       rw [e0]
       exact bT rfl (by decide) (.cons rfl rfl (.cons rfl rfl .nil)) (aC hA)
   ·cases h
  ·cases h
 ·cases h
end
section
attribute [local irreducible] Next aW cF Ops bQ
attribute [local irreducible] bE dH
attribute [local go_sem] cO bP Option.getD_some cJ aT aV iv bWi bEo bM3 cCt cDi cEo cC0 xI bFg aB9 tF aMx aGl dN aUl aT3
def vO (v : Int) (x : Int) : Bool := v == x
def aOo : List AV → Mem → Option (AV × Mem)
 | [.lst _ 1 rows, .v (.int .i64 v)], m =>
  match unJ rows with
  | some l => if l.length ≤ 1000000 then some (iv (aZ (vO v) l 0), m) else none
  | none => none
 | _, _ => none
def bE5 : Nat → Option (List Nat) := fun
 | 0 => some [0, 1]
 | 1 => some [0, 1, 7, 8]
 | 2 => some [0, 1, 7, 8, 9]
 | 3 => some [0, 1, 5, 7, 8]
 | 4 => some [0, 1, 5, 7, 8, 16]
 | 5 => some [4]
 | 6 => some [0, 1, 7, 8]
 | 7 => some [4]
 | _ => none
attribute [go_sem] bE5
theorem bSf : aO Tryz.prog 155 aOo := by
 have hC := aI (P := Tryz.prog) (l := []) aF
 refine aP mixed hC Tryz.func155 rfl bE5 false rfl fun args m r h => ?_
 unfold aOo at h
 split at h
 ·rename_i g rows v
  split at h
  ·rename_i l hl0
   obtain rfl := iT hl0
   split at h
   ·rename_i hlen
    simp only [Option.some.injEq] at h
    subst h
    refine ⟨nbT, ?_⟩
    refine en ?_
    refine go0 ?_
    refine cE (fun k e m' => ∃ (i : Nat), i ≤ l.length ∧ aZ (vO v) (l.drop i) i = aZ (vO v) l 0 ∧ m = m' ∧ k = l.length - i ∧
     e = [(0, AV.lst g 1 (cG l)), (1, .v (.int .i64 v)), (7, .v (.int .i64 l.length)), (8, .v (.int .i64 (i : Int)))]) (k := l.length) ⟨0, Nat.zero_le _, rfl, rfl, rfl, rfl⟩ ?_
    rintro k e m' ⟨i, hi, hf, rfl, rfl, rfl⟩
    refine go0 ?_
    refine aH rfl (fun hc => ?_) (fun hc => ?_)
    ·have hi1 : i < l.length := by have := of_decide_eq_true hc; omega
     have f1 := aC5 (g := g) (kk := .i64) hi1
     refine go1 @f1 ?_
     refine aH rfl (fun hc => ?_) (fun hc => ?_)
     ·rw [aT1 (d := 0) (p := vO v) hi1 hc hf]
      refine go0 ?_
      exact aY rfl rfl
     ·have r6 := cP (i := i) (by omega)
      refine go1 @r6 ?_
      exact ⟨l.length - (i + 1), by omega, i + 1, hi1, bFi (d := 0) (p := vO v) hi1 hc hf, rfl, rfl, rfl⟩
    ·have hi1 : i = l.length := by have := of_decide_eq_false hc; omega
     subst hi1
     rw [aTq hf]
     refine go0 ?_
     exact aY rfl rfl
   ·cases h
  ·cases h
 ·cases h
def aWv : List AV → Mem → Option (AV × Mem)
 | [.lst _ 1 rows, .v (.int .i64 v)], m =>
  match unJ rows with
  | some l => if l.length ≤ 1000000 then some (.v (.bool (l.any (vO v))), m) else none
  | none => none
 | _, _ => none
theorem bUr {l : List Int} {g : Grow} (h : l.length ≤ 1000000) (v : Int) (m : Mem) : aWv [.lst g 1 (cG l), .v (.int .i64 v)] m = some (.v (.bool (l.any (vO v))), m) := by
 simp only [aWv, jC]
 exact if_pos h
def bPg : Nat → Option (List Nat) := fun
 | 0 => some [0, 1]
 | 1 => some [4]
 | _ => none
attribute [go_sem] bPg
def aJg : List (FuncId × (List AV → Mem → Option (AV × Mem))) := [(155, aOo)]
theorem bS7 : aO Tryz.prog 138 aWv := by
 have hC := aI (P := Tryz.prog) (l := aJg) (aA bSf aF)
 have t1 := taT aJg 155 rfl
 refine aP mixed hC Tryz.func138 rfl bPg false rfl fun args m r h => ?_
 unfold aWv at h
 split at h
 ·rename_i g rows v
  split at h
  ·rename_i l hl0
   obtain rfl := iT hl0
   split at h
   ·rename_i hlen
    simp only [Option.some.injEq] at h
    subst h
    refine ⟨nbT, ?_⟩
    refine en ?_
    have f1 : aOo [.lst .no 1 (cG l), .v (.int .i64 v)] m = some (.v (.int .i64 (aZ (vO v) l 0)), m) := by
     simp only [aOo, jC]
     exact if_pos hlen
    have e : decide (aZ (vO v) l 0 ≥ 0) = l.any (vO v) := oY (vO v) l 0
    refine go1 (jn @t1 (jn @f1 @e)) ?_
    exact aY rfl rfl
   ·cases h
  ·cases h
 ·cases h
/-! ### reading.Missing -/
def tP (l : List Rd) : Nat → List Int
 | 0 => []
 | i + 1 => if (l.getD i rd0).has = true then tP l i else tP l i ++ [(i : Int)]
theorem rK (l : List Rd) : ∀ i, (tP l i).length ≤ i
 | 0 => Nat.le_refl _
 | i + 1 => by
  have := rK l i
  rw [tP]
  split
  ·omega
  ·rw [List.length_append]
   simp
   omega
def jN (l : List Rd) : List Int := tP l l.length
def bAd : List AV → Mem → Option (AV × Mem)
 | [.agg xs], m =>
  match aL1 xs with
  | some x => if x.readings.length ≤ 1000000 then some (.lst .no 1 (cG (jN x.readings)), m) else none
  | none => none
 | _, _ => none
theorem bU3 {x : In} (h : x.readings.length ≤ 1000000) (m : Mem) : bAd [.agg x.row] m = some (.lst .no 1 (cG (jN x.readings)), m) := by
 simp only [bAd, sB]
 exact if_pos h
theorem cC4 {m : Mem} {x : Rd} : aR Tryz.prog (m.push aOj) 89 (.ptr m.vars.length 0) (.agg x.row) = some (m.push x.row) := by
 rw [eW (cs := x.row) rfl bXw (Nat.le_refl _) rfl]
 rfl
def bMx : Nat → Option (List Nat) := fun
 | 0 => some [1]
 | 1 => some [1, 3]
 | 2 => some [3, 7, 8, 9]
 | 3 => some [3, 7, 8, 9, 10]
 | 4 => some [3, 4, 5, 7, 8, 9]
 | 5 => some [3, 4, 7, 8, 9, 16]
 | 6 => some [3, 7, 8, 9]
 | 7 => some [3, 7, 8, 9]
 | 8 => some [2]
 | _ => none
attribute [go_sem] bMx
theorem bVn : aO Tryz.prog 137 bAd := by
 have hC := aI (P := Tryz.prog) (l := []) aF
 refine aP mixed hC Tryz.func137 rfl bMx false rfl fun args m r h => ?_
 unfold bAd at h
 split at h
 ·rename_i xs
  split at h
  ·rename_i x hx0
   obtain rfl := nE hx0
   split at h
   ·rename_i hlen
    simp only [Option.some.injEq] at h
    subst h
    refine ⟨nbT, ?_⟩
    refine en ?_
    have v1 : (m.push x.row).var m.vars.length = some x.row := aJ
    have nr := aMx (m := m) (x := x)
    have hG := zZ (cs := x.row) (oV (m := m))
    have l1 := wT v1
    refine go1 (jn @nr @l1) ?_
    generalize m.push x.row = m2 at hG
    have k1 : (!true) = false := rfl
    have k2 : (!false) = true := rfl
    generalize x.readings = l at hlen
    refine cE (fun k e m' => ∃ (i : Nat) (g : Grow), i ≤ l.length ∧ mL m g m' ∧ k = l.length - i ∧
     e = [(3, AV.lst g 1 (cG (tP l i))), (7, .lst .no 2 (gO l)), (8, .v (.int .i64 l.length)), (9, .v (.int .i64 (i : Int)))]) (k := l.length) ⟨0, _, Nat.zero_le _, hG, rfl, rfl⟩ ?_
    rintro k e m' ⟨i, g, hi, hG, rfl, rfl⟩
    refine go0 ?_
    refine aH rfl (fun hc => ?_) (fun hc => ?_)
    ·have hi1 : i < l.length := by have := of_decide_eq_true hc; omega
     have f1 := bV1 (g := .no) (kk := .i64) hi1
     have r6 := cP (i := i) (by omega)
     have hS : tP l (i + 1) = if (l.getD i rd0).has = true then tP l i else tP l i ++ [(i : Int)] := rfl
     have hln := rK l i
     generalize tP l i = L at hS hln
     generalize l.getD i rd0 = y at f1 hS
     have st := cC4 (m := m') (x := y)
     have v5 : (m'.push y.row).var m'.vars.length = some y.row := aJ
     have hG3 := zZ (cs := y.row) hG
     refine go1 (jn @f1 @st) ?_
     generalize m'.push y.row = m3 at v5 hG3
     generalize m'.vars.length = r5 at v5
     have l2 := bF8 v5
     cases hh : y.has with
     | true =>
      rw [hh] at l2
      refine go1 (jn @l2 @k1) ?_
      refine rcF rfl ?_
      refine go1 @r6 ?_
      exact ⟨l.length - (i + 1), by omega, i + 1, g, hi1, hG3, rfl, by rw [hS, if_pos hh]⟩
     | false =>
      rw [hh] at l2
      refine go1 (jn @l2 @k2) ?_
      refine rcT rfl ?_
      obtain ⟨g2, m4, a1, hG4⟩ := bC0 sI hG3 (xs := cG L) (y := .lst .full 1 [[.v (.int .i64 (i : Int))]]) dC (by rw [dN]; unfold lim; simp; omega)
      refine go1 (jn @a1 @r6) ?_
      refine ⟨l.length - (i + 1), by omega, i + 1, g2, hi1, hG4, rfl, ?_⟩
      rw [hS, if_neg (by rw [hh]; decide)]
      unfold cG
      rw [List.map_append]
      rfl
    ·have hi1 : i = l.length := by have := of_decide_eq_false hc; omega
     subst hi1
     refine go0 ?_
     exact dA rfl rfl (eP hG)
   ·cases h
  ·cases h
 ·cases h
end
noncomputable section
attribute [local irreducible] Next aW cF Ops bQ
attribute [local irreducible] bE dH eZ
attribute [local go_sem] cO bP Option.getD_some cJ aT aV iv aCc oD pF aUt cV zF aKq aD8 aF2 aKy aKx vS oG List.cons_append aH7
def nL (most : Bool) (a b : Kt) : Bool := aOq a.val b.val (aDt most 0)
def aBw (most : Bool) : AV := .fn (.func 125) [] [.eptr [.v (.bool most)]]
def bM (n : Int) (most : Bool) : List AV := [iv n, aBw most]
def aG8 : List AV → Mem → Option (AV × Mem)
 | [.agg ac, .agg bc, .eptr [.v (.bool most)]], m =>
  match aNa ac, aNa bc with
  | some a, some b => if inI a.val ∧ inI b.val then some (.v (.bool (nL most a b)), m) else none
  | _, _ => none
 | _, _ => none
theorem aYg {a b : Kt} (h : inI a.val ∧ inI b.val) (most : Bool) (m : Mem) : aG8 [.agg a.row, .agg b.row, .eptr [.v (.bool most)]] m = some (.v (.bool (nL most a b)), m) := by
 simp only [aG8, vE]
 exact if_pos h
theorem cCu {m : Bool} : cN Tryz.prog 57 [(0, .v (.bool m))] = some (.agg (aDt m 0).row) := by kernel_rfl
def bGu : Nat → Option (List Nat) := fun
 | 0 => some [2, 3, 4]
 | 1 => some [5]
 | _ => none
attribute [go_sem] bGu
def aFc : List (FuncId × (List AV → Mem → Option (AV × Mem))) := [(126, isG)]
theorem aVy : aO Tryz.prog 125 aG8 := by
 have hC := aI (P := Tryz.prog) (l := aFc) (aA bWn aF)
 have t1 := taT aFc 126 rfl
 refine aP mixed hC Tryz.func125 rfl bGu false rfl fun args m r h => ?_
 unfold aG8 at h
 split at h
 ·rename_i ac bc most
  split at h
  ·rename_i a b ha0 hb0
   obtain rfl := lO ha0
   obtain rfl := lO hb0
   split at h
   ·rename_i hd
    simp only [Option.some.injEq] at h
    subst h
    refine ⟨nbT, ?_⟩
    refine en ?_
    have va : ((m.push a.row).push b.row).var m.vars.length = some a.row := aQ aJ
    have vb : ((m.push a.row).push b.row).var (m.push a.row).vars.length = some b.row := aJ
    have n1 := pF (m := m) (x := a)
    have n2 := pF (m := m.push a.row) (x := b)
    have hA := aG (cs := b.row) (aG (cs := a.row) (aM m))
    refine go1 (jn @n1 @n2) ?_
    generalize (m.push a.row).push b.row = m2 at va vb hA
    generalize (m.push a.row).vars.length = rb at vb
    generalize m.vars.length = ra at va
    have l1 := aUo va
    have l2 := aUo vb
    have mk := cCu (m := most)
    have c1 := bDb (x := a.val) (b := b.val) (r := aDt most 0) ⟨hd.1, hd.2, show inI 0 by decide⟩
    refine go1 (jn @l1 (jn @l2 (jn @mk (jn @t1 @c1)))) ?_
    exact aE rfl rfl (aC hA)
   ·cases h
  ·cases h
 ·cases h
/-! ### best.of -/
def wR : List AV := [.v (.int .i64 0), .v .nilFunc]
theorem cBu : zeroCells Tryz.prog 162 = some wR := by kernel_rfl
theorem cCf : wR.all okCell = true := rfl
theorem cA3 {m : Mem} : newVar m m.vars.length wR = some (m.push wR) := bF rfl
theorem bYk : cA Tryz.prog 162 = some 2 := by kernel_rfl
theorem cC7 : oP Tryz.prog 162 = some true := by kernel_rfl
theorem aWe {m : Mem} {n : Int} {b : Bool} : newVar m m.vars.length (bM n b) = some (m.push (bM n b)) := bF rfl
theorem aKg {n : Int} {b : Bool} : cellsOf (.agg (bM n b)) = some (bM n b) := rfl
theorem bGh {n : Int} {b : Bool} : List.map eR (bM n b) = bM n b := rfl
theorem cDd {m : Mem} {r : Nat} {n : Int} {b : Bool} (hv : m.var r = some (bM n b)) : aL Tryz.prog m 162 (.ptr r 0) = some (.agg (bM n b)) := bY (off := 0) hv bYk cC7 nbT rfl
theorem aH9 {r : Nat} : aD Tryz.prog 162 (.ptr r 0) 0 = some (.ptr r 0) := by kernel_rfl
theorem aIi {r : Nat} : aD Tryz.prog 162 (.ptr r 0) 1 = some (.ptr r 1) := by kernel_rfl
theorem bHv {m : Mem} {r : Nat} {n : Int} {b : Bool} (hv : m.var r = some (bM n b)) : aL Tryz.prog m 3 (.ptr r 0) = some (.v (.int .i64 n)) := aK (k := 1) hv (by kernel_rfl) (by kernel_rfl) rfl
theorem aSw {m : Mem} {r : Nat} {n : Int} {b : Bool} (hv : m.var r = some (bM n b)) : aL Tryz.prog m 160 (.ptr r 1) = some (aBw b) := aK (k := 1) hv (by kernel_rfl) (by kernel_rfl) rfl
theorem cD3 {n : Int} {b : Bool} : cN Tryz.prog 162 [(0, .v (.int .i64 n)), (1, .fn (.func 125) [] [.eptr [.v (.bool b)]])] = some (.agg (bM n b)) := by kernel_rfl
def aLr : List AV → Mem → Option (AV × Mem)
 | [.v (.int .i64 n), .v (.bool b)], m => some (.agg (bM (mx n 0) b), m)
 | _, _ => none
theorem aXp (n : Int) (b : Bool) (m : Mem) : aLr [.v (.int .i64 n), .v (.bool b)] m = some (.agg (bM (mx n 0) b), m) := rfl
def aTc : Nat → Option (List Nat) := fun
 | 0 => some [0, 3, 4]
 | 1 => some [4]
 | _ => none
attribute [go_sem] aTc
theorem aZ1 : aO Tryz.prog 108 aLr := by
 have hC := aI (P := Tryz.prog) (l := []) aF
 refine dJ Tryz.func108 rfl false rfl fun args m r h => ?_
 unfold aLr at h
 split at h
 ·rename_i n b
  simp only [Option.some.injEq] at h
  subst h
  refine ⟨nbT, fun φ wd => ?_⟩
  refine en ?_
  have v4 : (m.push wR).var m.vars.length = some wR := aJ
  have nz := cA3 (m := m)
  have zr := cBu
  have zo := cCf
  have hA := aG (cs := wR) (aM m)
  refine xq ?_
  refine iF (l2 := aTc 0) ?_
  refine bX (aXj (t1 := 0) rfl rfl (by decide) rfl rfl rfl rfl ?_)
  refine aFu hC (jn @zr (jn @zo @nz)) ?_
  refine xq ?_
  generalize m.push wR = m2 at v4 hA
  generalize hr4 : m.vars.length = r4 at v4
  have st : aR Tryz.prog m2 162 (.ptr r4 0) (.agg (bM (mx n 0) b)) = some (bO m2 r4 (bM (mx n 0) b)) := aS v4 bYk rfl rfl (Nat.le_refl _) rfl rfl
  have mk := cD3 (n := mx n 0) (b := b)
  refine aB (kp := aTc) mixed hC ?_
  refine go1 (jn @mk @st) ?_
  refine xq ?_
  exact aX (eK rfl (cDd (bA v4)) rfl (aC (bD hA (Nat.le_of_eq hr4))))
 ·cases h
def bIx : List AV → Mem → Option (AV × Mem)
 | [.agg ys, .ptr r1 0, .ptr r2 0], m =>
  match aNa ys, m.var r1, m.var r2 with
  | some y, some [.v (.int .i64 _), .fn (.func 125) [] [.eptr [.v (.bool b)]]], some xs =>
   match aNa xs with
   | some x => if inI x.val ∧ inI y.val then some (.v (.bool (nL b x y)), m) else none
   | none => none
  | _, _, _ => none
 | _, _ => none
theorem bYh {x y : Kt} {b : Bool} {n : Int} {m : Mem} {r1 r2 : Nat} (h1 : m.var r1 = some (bM n b)) (h2 : m.var r2 = some x.row) (h : inI x.val ∧ inI y.val) : bIx [.agg y.row, .ptr r1 0, .ptr r2 0] m = some (.v (.bool (nL b x y)), m) := by
 simp only [bIx, vE, h1, h2, bM, aBw, iv]
 exact if_pos h
def bRf : Nat → Option (List Nat) := fun
 | 0 => some [1, 2, 3]
 | 1 => some [4]
 | _ => none
attribute [go_sem] bRf
attribute [local go_sem] aIi aBw
def aJh : List (FuncId × (List AV → Mem → Option (AV × Mem))) := [(125, aG8)]
theorem bUh : aO Tryz.prog 169 bIx := by
 have hC := aI (P := Tryz.prog) (l := aJh) (aA aVy aF)
 have t1 := taT aJh 125 rfl
 refine aP mixed hC Tryz.func169 rfl bRf false rfl fun args m r h => ?_
 unfold bIx at h
 split at h
 ·rename_i ys r1 r2
  split at h
  ·rename_i y n b xs hy0 hv1 hv2
   obtain rfl := lO hy0
   split at h
   ·rename_i x hx0
    obtain rfl := lO hx0
    split at h
    ·rename_i hd
     simp only [Option.some.injEq] at h
     subst h
     refine ⟨nbT, ?_⟩
     refine en ?_
     have vy : (m.push y.row).var m.vars.length = some y.row := aJ
     have w1 : (m.push y.row).var r1 = some (bM n b) := aQ hv1
     have w2 : (m.push y.row).var r2 = some x.row := aQ hv2
     have n1 := pF (m := m) (x := y)
     have hA := aG (cs := y.row) (aM m)
     refine go1 @n1 ?_
     generalize m.push y.row = m2 at vy w1 w2 hA
     generalize m.vars.length = ry at vy
     have l1 := aSw w1
     have l2 := aUe w2
     have l3 := aUe vy
     have c1 := aYg (a := x) (b := y) hd b
     refine go1 (jn @l1 (jn @l2 (jn @l3 (jn @t1 @c1)))) ?_
     exact aE rfl rfl (aC hA)
    ·cases h
   ·cases h
  ·cases h
 ·cases h
/-! ### what state.kept looks for -/
def mN (p : Pn) (s : Ss) (k : Kt) : Bool := !(inB k.step 0 (IntKind.i64.wrap (jZ s - 1))) || ((IntKind.i64.wrap (k.step + 1)).tmod p.eval != 0)
def uR : List AV → Mem → Option (AV × Mem)
 | [.agg ks, .ptr r1 0, .ptr r2 0], m =>
  match aNa ks, (m.var r1).bind sC, (m.var r2).bind iH with
  | some k, some s, some p => if p.eval ≠ 0 then some (.v (.bool (mN p s k)), m) else none
  | _, _, _ => none
 | _, _ => none
theorem bD8 {p : Pn} {s : Ss} {k : Kt} {m : Mem} {r1 r2 : Nat} (h1 : m.var r1 = some s.row) (h2 : m.var r2 = some p.row) (h : p.eval ≠ 0) : uR [.agg k.row, .ptr r1 0, .ptr r2 0] m = some (.v (.bool (mN p s k)), m) := by
 simp only [uR, vE, h1, h2, Option.bind_some, dZ, unPn_row]
 exact if_pos h
theorem aGe {α : Type} {m : Mem} {r : Nat} {un : List AV → Option α} {x : α} (h : (m.var r).bind un = some x) : ∃ cs, m.var r = some cs ∧ un cs = some x := Option.bind_eq_some_iff.1 h
def aB1 : Nat → Option (List Nat) := fun
 | 0 => some [1, 2, 3]
 | 1 => some [4]
 | _ => none
attribute [go_sem] aB1
attribute [local go_sem] pJ vU
def aC2 : List (FuncId × (List AV → Mem → Option (AV × Mem))) := [(90, wY), (82, oZ)]
theorem bA9 : aO Tryz.prog 89 uR := by
 have hC := aI (P := Tryz.prog) (l := aC2) (aA aH4 (aA aDk aF))
 have t1 := taT aC2 90 rfl
 have t2 := taT aC2 82 rfl
 refine dJ Tryz.func89 rfl false rfl fun args m r h => ?_
 unfold uR at h
 split at h
 ·rename_i ks r1 r2
  split at h
  ·rename_i k s p hk0 hs0 hp0
   obtain rfl := lO hk0
   obtain ⟨ss, vs0, hs1⟩ := aGe hs0
   obtain ⟨ps, vp0, hp1⟩ := aGe hp0
   obtain rfl := dT hs1
   obtain rfl := bZ hp1
   split at h
   ·rename_i hev
    simp only [Option.some.injEq] at h
    subst h
    refine ⟨nbT, fun φ wd => ?_⟩
    refine en ?_
    have vk : (m.push k.row).var m.vars.length = some k.row := aJ
    have vs : (m.push k.row).var r1 = some s.row := aQ vs0
    have vp : (m.push k.row).var r2 = some p.row := aQ vp0
    have n1 := pF (m := m) (x := k)
    have hA := aG (cs := k.row) (aM m)
    refine xq ?_
    refine aB (kp := aB1) mixed hC ?_
    refine go1 @n1 ?_
    refine xq ?_
    generalize m.push k.row = m2 at vk vs vp hA
    generalize m.vars.length = rk at vk
    have l1 := aF8 vk
    have l2 := yH vs
    have l3 := vT vp
    have c1 := aH8 s
    have c2 := eB k.step 0 (IntKind.i64.wrap (jZ s - 1))
    have k1 : (!true) = false := rfl
    have k2 : (!false) = true := rfl
    have hz : (p.eval = 0) = False := eq_false hev
    unfold mN
    cases h1 : inB k.step 0 (IntKind.i64.wrap (jZ s - 1)) with
    | false =>
     rw [h1] at c2
     refine bN (l2 := aB1 1) mixed hC (by kernel_rfl) ?_
     refine eJ (jn @l1 (jn @l2 (jn @t1 (jn @c1 (jn @t2 (jn @c2 @k2)))))) ?_
     refine xq ?_
     exact aX (aE rfl rfl (aC hA))
    | true =>
     rw [h1] at c2
     refine bN (l2 := aB1 1) mixed hC (by kernel_rfl) ?_
     refine eJ (jn @l1 (jn @l2 (jn @t1 (jn @c1 (jn @t2 (jn @c2 (jn @k1 (jn @l3 @hz)))))))) ?_
     refine xq ?_
     exact aX (aE rfl rfl (aC hA))
   ·cases h
  ·cases h
 ·cases h
end
end Go.Proofs.YtmockbddhhmmeaaGreat.Ev

/- Plans: what is watched, what is averaged. (Written out by wip/tools/gen_run2.py.) -/
import Derived.Test.YtmockbddhhmmeaaGreatMbgkd6
namespace Go.Proofs.YtmockbddhhmmeaaGreat.Ev
open Go Go.Proofs
set_option maxRecDepth 10000
set_option maxHeartbeats 8000000
set_option linter.unusedVariables false
set_option linter.unusedSimpArgs false
section
attribute [local irreducible] Next aW cF Ops bQ
attribute [local irreducible] bE dH
attribute [local go_sem] cO bP Option.getD_some cJ aMb aT aV iv kI fA dY lK oQ sR aDc vU vN kP rJ vK bB9 zC jR aCe lL uQ bAx aAo kH aTa aHp aT0 sE uC rZ aAh qC cA8 cE0 cBd cD4 cCp cEi cAo cEk cE8 cDr cE2 aQa bXz bA3 xG qF pX bK9 aAz
def es : ByteArray := ⟨#[]⟩
def yD (p : Pn) (a : Int) (s : ByteArray) : Bool := inB a 0 (p.metrics - 1) && (s == ⟨#[]⟩) && decide (p.eval > 0)
def aMk : List AV → Mem → Option (AV × Mem)
 | [.agg cs, .v (.int .i64 a), .v (.string s)], m =>
  match iH cs with
  | some p => if 0 ≤ p.metrics ∧ p.metrics ≤ 4 then some (.v (.bool (yD p a s)), m) else none
  | none => none
 | _, _ => none
theorem aUq {p : Pn} (h : 0 ≤ p.metrics ∧ p.metrics ≤ 4) (a : Int) (s : ByteArray) (m : Mem) : aMk [.agg p.row, .v (.int .i64 a), .v (.string s)] m = some (.v (.bool (yD p a s)), m) := by
 simp only [aMk, unPn_row]
 exact if_pos h
def bSm : Nat → Option (List Nat) := fun
 | 0 => some [1, 2, 3]
 | 1 => some [6]
 | _ => none
attribute [go_sem] bSm
def aIw : List (FuncId × (List AV → Mem → Option (AV × Mem))) := [(73, oZ)]
theorem aVb : aO Tryz.prog 104 aMk := by
 have hC := aI (P := Tryz.prog) (l := aIw) (aA nP aF)
 have t1 := taT aIw 73 rfl
 refine aP mixed hC Tryz.func104 rfl bSm false rfl fun args m r h => ?_
 unfold aMk at h
 split at h
 ·rename_i cs a s
  split at h
  ·rename_i p hp0
   obtain rfl := bZ hp0
   split at h
   ·rename_i hdom
    simp only [Option.some.injEq] at h
    subst h
    refine ⟨nbT, ?_⟩
    refine en ?_
    have v1 : (m.push p.row).var m.vars.length = some p.row := aJ
    have nr := dY (m := m) (x := p)
    have hA := aG (cs := p.row) (aM m)
    refine go1 @nr ?_
    generalize m.push p.row = m2 at v1 hA
    generalize m.vars.length = r1 at v1
    have l1 := sS v1
    have l2 := vT v1
    have w1 : IntKind.i64.wrap (p.metrics - 1) = p.metrics - 1 := bB (by omega) (by omega)
    have c1 := eB a 0 (p.metrics - 1)
    unfold yD
    cases h0 : inB a 0 (p.metrics - 1) with
    | false =>
     refine go1 (jn @l1 (jn @w1 (jn @t1 (jn @c1 @h0)))) ?_
     exact aE rfl rfl (aC hA)
    | true =>
     cases h1 : (s == ⟨#[]⟩) with
     | false =>
      refine go1 (jn @l1 (jn @w1 (jn @t1 (jn @c1 (jn @h0 @h1))))) ?_
      exact aE rfl rfl (aC hA)
     | true =>
      refine go1 (jn @l1 (jn @w1 (jn @t1 (jn @c1 (jn @h0 (jn @h1 @l2)))))) ?_
      exact aE rfl rfl (aC hA)
   ·cases h
  ·cases h
 ·cases h
def sZ (p : Pn) : Bool := if p.stopAt = -1 then ((p.stop.On == tp0.On) && ((p.stop.Metric == tp0.Metric) && ((p.stop.Max == tp0.Max) && ((p.stop.Patience == tp0.Patience) && ((p.stop.Delta == tp0.Delta) && ((p.stop.Rel == tp0.Rel) && true)))))) else yD p p.stopAt p.stop.Metric && p.stop.On && inB p.stop.Patience 1 1099511627776 && inB p.stop.Delta 0 4503599627370496
def aFt : List AV → Mem → Option (AV × Mem)
 | [.agg cs], m =>
  match iH cs with
  | some p => if 0 ≤ p.metrics ∧ p.metrics ≤ 4 then some (.v (.bool (sZ p)), m) else none
  | none => none
 | _, _ => none
theorem bKm {p : Pn} (h : 0 ≤ p.metrics ∧ p.metrics ≤ 4) (m : Mem) : aFt [.agg p.row] m = some (.v (.bool (sZ p)), m) := by
 simp only [aFt, unPn_row]
 exact if_pos h
def bAp : Nat → Option (List Nat) := fun
 | 0 => some [1]
 | 1 => some [1, 5]
 | 2 => some [2]
 | 3 => some [2]
 | _ => none
attribute [go_sem] bAp
def oN : List (FuncId × (List AV → Mem → Option (AV × Mem))) := [(104, aMk), (105, jP), (106, kS)]
theorem bJy : aO Tryz.prog 77 aFt := by
 have hC := aI (P := Tryz.prog) (l := oN) (aA aVb (aA xX (aA aFx aF)))
 have t1 := taT oN 104 rfl
 have t2 := taT oN 105 rfl
 have t3 := taT oN 106 rfl
 refine aP mixed hC Tryz.func77 rfl bAp false rfl fun args m r h => ?_
 unfold aFt at h
 split at h
 ·rename_i cs
  split at h
  ·rename_i p hp0
   obtain rfl := bZ hp0
   split at h
   ·rename_i hdom
    simp only [Option.some.injEq] at h
    subst h
    refine ⟨nbT, ?_⟩
    refine en ?_
    have v1 : (m.push p.row).var m.vars.length = some p.row := aJ
    have nr := dY (m := m) (x := p)
    have hA := aG (cs := p.row) (aM m)
    refine go1 @nr ?_
    generalize m.push p.row = m2 at v1 hA
    generalize m.vars.length = r1 at v1
    have k1 : (!true) = false := rfl
    have k2 : (!false) = true := rfl
    have lp := qB v1
    have la := rO v1
    have ls := bSh v1
    have lm := zM v1
    have lo := bBh v1
    have lq := nS v1
    have ld := aCw v1
    have e1 : lS Tryz.prog 8 26 (.agg p.stop.row) (.agg bRk) = _ := cEh (x := p.stop) (y := tp0)
    have c1 := aUq hdom p.stopAt p.stop.Metric
    have c2 : ∀ mm, jP [.v (.int .i64 p.stop.Patience)] mm = some (.v (.bool (inB p.stop.Patience 1 1099511627776)), mm) := fun _ => rfl
    have c3 : ∀ mm, kS [.v (.int .i64 p.stop.Delta)] mm = some (.v (.bool (inB p.stop.Delta 0 4503599627370496)), mm) := fun _ => rfl
    unfold sZ
    refine go1 @la ?_
    by_cases ha : p.stopAt = -1
    ·rw [if_pos ha]
     refine aH rfl (fun hc => ?_) (fun hc => absurd hc (by rw [ha]; decide))
     refine go1 (jn @ls @e1) ?_
     exact aE rfl rfl (aC hA)
    ·rw [if_neg ha]
     refine aH rfl (fun hc => absurd (eq_of_beq hc) ha) (fun hc => ?_)
     cases h0 : yD p p.stopAt p.stop.Metric with
     | false =>
      refine go1 (jn @lp (jn @la (jn @lm (jn @t1 (jn @c1 @h0))))) ?_
      exact aE rfl rfl (aC hA)
     | true =>
      cases h1 : p.stop.On with
      | false =>
       refine go1 (jn @lp (jn @la (jn @lm (jn @t1 (jn @c1 (jn @h0 (jn @lo @h1))))))) ?_
       exact aE rfl rfl (aC hA)
      | true =>
       cases h2 : inB p.stop.Patience 1 1099511627776 with
       | false =>
        refine go1 (jn @lp (jn @la (jn @lm (jn @t1 (jn @c1 (jn @h0 (jn @lo (jn @h1 (jn @lq (jn @t2 (jn @c2 @h2))))))))))) ?_
        exact aE rfl rfl (aC hA)
       | true =>
        refine go1 (jn @lp (jn @la (jn @lm (jn @t1 (jn @c1 (jn @h0 (jn @lo (jn @h1 (jn @lq (jn @t2 (jn @c2 (jn @h2 (jn @ld (jn @t3 @c3)))))))))))))) ?_
        exact aE rfl rfl (aC hA)
   ·cases h
  ·cases h
 ·cases h
def sO (p : Pn) : Bool := if p.keepAt = -1 then ((p.keep.On == kp0.On) && ((p.keep.Metric == kp0.Metric) && ((p.keep.Max == kp0.Max) && ((p.keep.Count == kp0.Count) && true)))) else yD p p.keepAt p.keep.Metric && p.keep.On && inB p.keep.Count 1 16
def aFy : List AV → Mem → Option (AV × Mem)
 | [.agg cs], m =>
  match iH cs with
  | some p => if 0 ≤ p.metrics ∧ p.metrics ≤ 4 then some (.v (.bool (sO p)), m) else none
  | none => none
 | _, _ => none
theorem bK8 {p : Pn} (h : 0 ≤ p.metrics ∧ p.metrics ≤ 4) (m : Mem) : aFy [.agg p.row] m = some (.v (.bool (sO p)), m) := by
 simp only [aFy, unPn_row]
 exact if_pos h
def aWg : Nat → Option (List Nat) := fun
 | 0 => some [1]
 | 1 => some [1, 5]
 | 2 => some [2]
 | 3 => some [2]
 | _ => none
attribute [go_sem] aWg
def tJ : List (FuncId × (List AV → Mem → Option (AV × Mem))) := [(104, aMk), (73, oZ)]
theorem bJg : aO Tryz.prog 79 aFy := by
 have hC := aI (P := Tryz.prog) (l := tJ) (aA aVb (aA nP aF))
 have t1 := taT tJ 104 rfl
 have t2 := taT tJ 73 rfl
 refine aP mixed hC Tryz.func79 rfl aWg false rfl fun args m r h => ?_
 unfold aFy at h
 split at h
 ·rename_i cs
  split at h
  ·rename_i p hp0
   obtain rfl := bZ hp0
   split at h
   ·rename_i hdom
    simp only [Option.some.injEq] at h
    subst h
    refine ⟨nbT, ?_⟩
    refine en ?_
    have v1 : (m.push p.row).var m.vars.length = some p.row := aJ
    have nr := dY (m := m) (x := p)
    have hA := aG (cs := p.row) (aM m)
    refine go1 @nr ?_
    generalize m.push p.row = m2 at v1 hA
    generalize m.vars.length = r1 at v1
    have k1 : (!true) = false := rfl
    have k2 : (!false) = true := rfl
    have lp := qB v1
    have la := aMv v1
    have ls := bOb v1
    have lm := zW v1
    have lo := bCa v1
    have lq := aB8 v1
    have e1 : lS Tryz.prog 8 30 (.agg p.keep.row) (.agg bNa) = _ := cEd (x := p.keep) (y := kp0)
    have c1 := aUq hdom p.keepAt p.keep.Metric
    have c2 := eB p.keep.Count 1 16
    unfold sO
    refine go1 @la ?_
    by_cases ha : p.keepAt = -1
    ·rw [if_pos ha]
     refine aH rfl (fun hc => ?_) (fun hc => absurd hc (by rw [ha]; decide))
     refine go1 (jn @ls @e1) ?_
     exact aE rfl rfl (aC hA)
    ·rw [if_neg ha]
     refine aH rfl (fun hc => absurd (eq_of_beq hc) ha) (fun hc => ?_)
     cases h0 : yD p p.keepAt p.keep.Metric with
     | false =>
      refine go1 (jn @lp (jn @la (jn @lm (jn @t1 (jn @c1 @h0))))) ?_
      exact aE rfl rfl (aC hA)
     | true =>
      cases h1 : p.keep.On with
      | false =>
       refine go1 (jn @lp (jn @la (jn @lm (jn @t1 (jn @c1 (jn @h0 (jn @lo @h1))))))) ?_
       exact aE rfl rfl (aC hA)
      | true =>
       refine go1 (jn @lp (jn @la (jn @lm (jn @t1 (jn @c1 (jn @h0 (jn @lo (jn @h1 (jn @lq (jn @t2 @c2)))))))))) ?_
       exact aE rfl rfl (aC hA)
   ·cases h
  ·cases h
 ·cases h
def aH5 (p : Pn) : Bool := if p.cutAt = -1 then ((p.plateau.On == pt0.On) && ((p.plateau.Metric == pt0.Metric) && ((p.plateau.Max == pt0.Max) && ((p.plateau.Factor == pt0.Factor) && ((p.plateau.Patience == pt0.Patience) && ((p.plateau.Cooldown == pt0.Cooldown) && ((p.plateau.Floor == pt0.Floor) && ((p.plateau.Delta == pt0.Delta) && true)))))))) else yD p p.cutAt p.plateau.Metric && p.plateau.On && inB p.plateau.Patience 1 1099511627776 && inB p.plateau.Delta 0 4503599627370496 && inB p.plateau.Floor 0 4503599627370496 && inB p.plateau.Factor 0 4294967295 && inB p.plateau.Cooldown 0 1099511627776
def aLe : List AV → Mem → Option (AV × Mem)
 | [.agg cs], m =>
  match iH cs with
  | some p => if 0 ≤ p.metrics ∧ p.metrics ≤ 4 then some (.v (.bool (aH5 p)), m) else none
  | none => none
 | _, _ => none
theorem bQp {p : Pn} (h : 0 ≤ p.metrics ∧ p.metrics ≤ 4) (m : Mem) : aLe [.agg p.row] m = some (.v (.bool (aH5 p)), m) := by
 simp only [aLe, unPn_row]
 exact if_pos h
def bGl : Nat → Option (List Nat) := fun
 | 0 => some [1]
 | 1 => some [1, 3]
 | 2 => some [1, 3, 8]
 | 3 => some [2]
 | 4 => some [2]
 | _ => none
attribute [go_sem] bGl
def mQ : List (FuncId × (List AV → Mem → Option (AV × Mem))) := [(104, aMk), (105, jP), (106, kS), (73, oZ)]
theorem bOc : aO Tryz.prog 78 aLe := by
 have hC := aI (P := Tryz.prog) (l := mQ) (aA aVb (aA xX (aA aFx (aA nP aF))))
 have t1 := taT mQ 104 rfl
 have t2 := taT mQ 105 rfl
 have t3 := taT mQ 106 rfl
 have t4 := taT mQ 73 rfl
 refine aP mixed hC Tryz.func78 rfl bGl false rfl fun args m r h => ?_
 unfold aLe at h
 split at h
 ·rename_i cs
  split at h
  ·rename_i p hp0
   obtain rfl := bZ hp0
   split at h
   ·rename_i hdom
    simp only [Option.some.injEq] at h
    subst h
    refine ⟨nbT, ?_⟩
    refine en ?_
    have v1 : (m.push p.row).var m.vars.length = some p.row := aJ
    have nr := dY (m := m) (x := p)
    have hA := aG (cs := p.row) (aM m)
    refine go1 @nr ?_
    generalize m.push p.row = m2 at v1 hA
    generalize m.vars.length = r1 at v1
    have k1 : (!true) = false := rfl
    have k2 : (!false) = true := rfl
    have lx := aZ0 v1
    have e1 : lS Tryz.prog 8 28 (.agg p.plateau.row) (.agg aDs) = _ := cDk (x := p.plateau) (y := pt0)
    have c1 := aUq hdom p.cutAt p.plateau.Metric
    have c2 : ∀ mm, jP [.v (.int .i64 p.plateau.Patience)] mm = some (.v (.bool (inB p.plateau.Patience 1 1099511627776)), mm) := fun _ => rfl
    have c3 : ∀ mm, kS [.v (.int .i64 p.plateau.Delta)] mm = some (.v (.bool (inB p.plateau.Delta 0 4503599627370496)), mm) := fun _ => rfl
    have c4 : ∀ mm, kS [.v (.int .i64 p.plateau.Floor)] mm = some (.v (.bool (inB p.plateau.Floor 0 4503599627370496)), mm) := fun _ => rfl
    have c5 := eB p.plateau.Factor 0 4294967295
    have c6 := eB p.plateau.Cooldown 0 1099511627776
    unfold aH5
    have st : aR Tryz.prog (m2.push aDs) 28 (.ptr m2.vars.length 0) (.agg p.plateau.row) = some (m2.push p.plateau.row) := by
     rw [eW (cs := p.plateau.row) rfl cBn (Nat.le_refl _) rfl]
     rfl
    have w1 := aQ (cs' := p.plateau.row) v1
    have v3 : (m2.push p.plateau.row).var m2.vars.length = some p.plateau.row := aJ
    have hA := aG (cs := p.plateau.row) hA
    refine go1 (jn @lx @st) ?_
    generalize m2.push p.plateau.row = m3 at w1 v3 hA
    generalize m2.vars.length = r3 at v3
    have lp := qB w1
    have la := aIl w1
    have ls := cEe v3
    have lm := bDv v3
    have lo := bXr v3
    have lq := aEo v3
    have ld := aQh v3
    have lf := bLg v3
    have lg := aLt v3
    have lh := wA v3
    refine go1 @la ?_
    by_cases ha : p.cutAt = -1
    ·rw [if_pos ha]
     refine aH rfl (fun hc => ?_) (fun hc => absurd hc (by rw [ha]; decide))
     refine go1 (jn @ls @e1) ?_
     exact aE rfl rfl (aC hA)
    ·rw [if_neg ha]
     refine aH rfl (fun hc => absurd (eq_of_beq hc) ha) (fun hc => ?_)
     cases h0 : yD p p.cutAt p.plateau.Metric with
     | false =>
      refine go1 (jn @lp (jn @la (jn @lm (jn @t1 (jn @c1 @h0))))) ?_
      exact aE rfl rfl (aC hA)
     | true =>
      cases h1 : p.plateau.On with
      | false =>
       refine go1 (jn @lp (jn @la (jn @lm (jn @t1 (jn @c1 (jn @h0 (jn @lo @h1))))))) ?_
       exact aE rfl rfl (aC hA)
      | true =>
       cases h2 : inB p.plateau.Patience 1 1099511627776 with
       | false =>
        refine go1 (jn @lp (jn @la (jn @lm (jn @t1 (jn @c1 (jn @h0 (jn @lo (jn @h1 (jn @lq (jn @t2 (jn @c2 @h2))))))))))) ?_
        exact aE rfl rfl (aC hA)
       | true =>
        cases h3 : inB p.plateau.Delta 0 4503599627370496 with
        | false =>
         refine go1 (jn @lp (jn @la (jn @lm (jn @t1 (jn @c1 (jn @h0 (jn @lo (jn @h1 (jn @lq (jn @t2 (jn @c2 (jn @h2 (jn @ld (jn @t3 (jn @c3 @h3))))))))))))))) ?_
         exact aE rfl rfl (aC hA)
        | true =>
         cases h4 : inB p.plateau.Floor 0 4503599627370496 with
         | false =>
          refine go1 (jn @lp (jn @la (jn @lm (jn @t1 (jn @c1 (jn @h0 (jn @lo (jn @h1 (jn @lq (jn @t2 (jn @c2 (jn @h2 (jn @ld (jn @t3 (jn @c3 (jn @h3 (jn @lf (jn @c4 @h4)))))))))))))))))) ?_
          exact aE rfl rfl (aC hA)
         | true =>
          cases h5 : inB p.plateau.Factor 0 4294967295 with
          | false =>
           refine go1 (jn @lp (jn @la (jn @lm (jn @t1 (jn @c1 (jn @h0 (jn @lo (jn @h1 (jn @lq (jn @t2 (jn @c2 (jn @h2 (jn @ld (jn @t3 (jn @c3 (jn @h3 (jn @lf (jn @c4 (jn @h4 (jn @lg (jn @t4 (jn @c5 @h5)))))))))))))))))))))) ?_
           exact aE rfl rfl (aC hA)
          | true =>
           refine go1 (jn @lp (jn @la (jn @lm (jn @t1 (jn @c1 (jn @h0 (jn @lo (jn @h1 (jn @lq (jn @t2 (jn @c2 (jn @h2 (jn @ld (jn @t3 (jn @c3 (jn @h3 (jn @lf (jn @c4 (jn @h4 (jn @lg (jn @t4 (jn @c5 (jn @h5 (jn @lh @c6)))))))))))))))))))))))) ?_
           exact aE rfl rfl (aC hA)
   ·cases h
  ·cases h
 ·cases h
def aHy (p : Pn) : Bool := (((p.ema.On == em0.On) && ((p.ema.Decay == em0.Decay) && true)) || (p.ema.On && inB p.ema.Decay 0 4294967296)) && (if p.swaEvery = 0 then p.swaFrom == 0 else inB p.swaEvery 1 1099511627776 && inB p.swaFrom 0 p.steps)
def aNt : List AV → Mem → Option (AV × Mem)
 | [.agg cs], m =>
  match iH cs with
  | some p => some (.v (.bool (aHy p)), m)
  | none => none
 | _, _ => none
theorem bP8 {p : Pn} (m : Mem) : aNt [.agg p.row] m = some (.v (.bool (aHy p)), m) := by
 simp only [aNt, unPn_row]
def bFt : Nat → Option (List Nat) := fun
 | 0 => some [1]
 | 1 => some [1, 18]
 | 2 => some [2]
 | 3 => some [1, 21]
 | 4 => some [2]
 | 5 => some [2]
 | _ => none
attribute [go_sem] bFt
def xB : List (FuncId × (List AV → Mem → Option (AV × Mem))) := [(73, oZ), (105, jP)]
theorem bOm : aO Tryz.prog 80 aNt := by
 have hC := aI (P := Tryz.prog) (l := xB) (aA nP (aA xX aF))
 have t1 := taT xB 73 rfl
 have t2 := taT xB 105 rfl
 refine aP mixed hC Tryz.func80 rfl bFt false rfl fun args m r h => ?_
 unfold aNt at h
 split at h
 ·rename_i cs
  split at h
  ·rename_i p hp0
   obtain rfl := bZ hp0
   simp only [Option.some.injEq] at h
   subst h
   refine ⟨nbT, ?_⟩
   refine en ?_
   have v1 : (m.push p.row).var m.vars.length = some p.row := aJ
   have nr := dY (m := m) (x := p)
   have hA := aG (cs := p.row) (aM m)
   refine go1 @nr ?_
   generalize m.push p.row = m2 at v1 hA
   generalize m.vars.length = r1 at v1
   have k1 : (!true) = false := rfl
   have k2 : (!false) = true := rfl
   have ls := bU6 v1
   have lo := aQ5 v1
   have ld := aU0 v1
   have lv := pQ v1
   have lf := aAj v1
   have lt := lD v1
   have e1 : lS Tryz.prog 8 32 (.agg p.ema.row) (.agg bMd) = _ := cD7 (x := p.ema) (y := em0)
   have c1 := eB p.ema.Decay 0 4294967296
   have c2 : ∀ mm, jP [.v (.int .i64 p.swaEvery)] mm = some (.v (.bool (inB p.swaEvery 1 1099511627776)), mm) := fun _ => rfl
   have c3 := eB p.swaFrom 0 p.steps
   unfold aHy
   cases hq : ((p.ema.On == em0.On) && ((p.ema.Decay == em0.Decay) && true)) with
   | true =>
    refine go1 (jn @ls (jn @e1 (jn @hq @k1))) ?_
    refine rcF rfl ?_
    refine go1 @lv ?_
    by_cases hz : p.swaEvery = 0
    ·rw [if_pos hz]
     refine aH rfl (fun hc => ?_) (fun hc => absurd hc (by rw [hz]; decide))
     refine go1 @lf ?_
     exact aE rfl rfl (aC hA)
    ·rw [if_neg hz]
     refine aH rfl (fun hc => absurd (eq_of_beq hc) hz) (fun hc => ?_)
     cases g0 : inB p.swaEvery 1 1099511627776 with
     | false =>
      refine go1 (jn @lv (jn @t2 (jn @c2 @g0))) ?_
      exact aE rfl rfl (aC hA)
     | true =>
      refine go1 (jn @lv (jn @t2 (jn @c2 (jn @g0 (jn @lf (jn @lt (jn @t1 @c3))))))) ?_
      exact aE rfl rfl (aC hA)
   | false =>
    cases ho : p.ema.On with
    | false =>
     rw [ho] at hq
     refine go1 (jn @ls (jn @e1 (jn @hq (jn @k2 (jn @lo @ho))))) ?_
     refine rcT rfl ?_
     refine go0 ?_
     exact aE rfl rfl (aC hA)
    | true =>
     rw [ho] at hq
     cases hd : inB p.ema.Decay 0 4294967296 with
     | false =>
      refine go1 (jn @ls (jn @e1 (jn @hq (jn @k2 (jn @lo (jn @ho (jn @ld (jn @t1 (jn @c1 @hd))))))))) ?_
      refine rcT rfl ?_
      refine go0 ?_
      exact aE rfl rfl (aC hA)
     | true =>
      refine go1 (jn @ls (jn @e1 (jn @hq (jn @k1 (jn @k2 (jn @lo (jn @ho (jn @ld (jn @t1 (jn @c1 @hd)))))))))) ?_
      refine rcF rfl ?_
      refine go1 @lv ?_
      by_cases hz : p.swaEvery = 0
      ·rw [if_pos hz]
       refine aH rfl (fun hc => ?_) (fun hc => absurd hc (by rw [hz]; decide))
       refine go1 @lf ?_
       exact aE rfl rfl (aC hA)
      ·rw [if_neg hz]
       refine aH rfl (fun hc => absurd (eq_of_beq hc) hz) (fun hc => ?_)
       cases g0 : inB p.swaEvery 1 1099511627776 with
       | false =>
        refine go1 (jn @lv (jn @t2 (jn @c2 @g0))) ?_
        exact aE rfl rfl (aC hA)
       | true =>
        refine go1 (jn @lv (jn @t2 (jn @c2 (jn @g0 (jn @lf (jn @lt (jn @t1 @c3))))))) ?_
        exact aE rfl rfl (aC hA)
  ·cases h
 ·cases h
end
section
attribute [local irreducible] Next aW cF Ops bQ
attribute [local irreducible] bE dH
attribute [local go_sem] cO bP Option.getD_some cJ aMb aT aV iv kI fA dY lK aDc vN kP rJ qX xK kO kV gR cAk bZq bBa bT9 bU5 bN4 bZj bZi bZk qK aBf aQx aQ9 aOr aA4 aBu aB4 aBq
theorem aU2 {p : Nat → Bool} {n i : Nat} (hi : i < n) (h : p i = false) : (List.range n).all p = false := List.all_eq_false.2 ⟨i, List.mem_range.2 hi, by rw [h]; simp⟩
theorem aMy (p : Nat → Bool) (n : Nat) : (List.range (n + 1)).all p = ((List.range n).all p && p n) := by
 rw [List.range_succ, List.all_append]
 simp
def jF (l : List Sp) (i : Nat) : Int := if i = 0 then 0 else (l.getD (i - 1) sp0).to_
def bJu (l : List Sp) (i : Nat) : Bool := ((l.getD i sp0).from_ == jF l i) && decide (jF l i < (l.getD i sp0).to_)
def iA (p : Pn) : Bool := (List.range p.spans.length).all (bJu p.spans) && (jF p.spans p.spans.length == p.steps) && decide ((p.spans.length : Int) ≤ 16)
def aAg : List AV → Mem → Option (AV × Mem)
 | [.agg cs], m =>
  match iH cs with
  | some p => if p.spans.length ≤ 1000000 then some (.v (.bool (iA p)), m) else none
  | none => none
 | _, _ => none
theorem bD0 {p : Pn} (h : p.spans.length ≤ 1000000) (m : Mem) : aAg [.agg p.row] m = some (.v (.bool (iA p)), m) := by
 simp only [aAg, unPn_row]
 exact if_pos h
theorem cCb {m : Mem} {x : Sp} : aR Tryz.prog (m.push eG) 94 (.ptr m.vars.length 0) (.agg x.row) = some (m.push x.row) := by
 rw [eW (cs := x.row) rfl bJx (Nat.le_refl _) rfl]
 rfl
theorem cBg {m : Mem} {x : Tk} : aR Tryz.prog (m.push aO5) 68 (.ptr m.vars.length 0) (.agg x.row) = some (m.push x.row) := by
 rw [eW (cs := x.row) rfl bZb (Nat.le_refl _) rfl]
 rfl
def aRg : Nat → Option (List Nat) := fun
 | 0 => some [1]
 | 1 => some [1, 3]
 | 2 => some [1, 3, 7, 8, 9]
 | 3 => some [1, 3, 7, 8, 9, 10]
 | 4 => some [1, 3, 5, 7, 8, 9]
 | 5 => some [1, 5, 7, 8, 9, 22]
 | 6 => some [2]
 | 7 => some [1, 3, 7, 8, 9]
 | 8 => some [1, 3, 7, 8, 9]
 | 9 => some [2]
 | _ => none
attribute [go_sem] aRg
theorem bA1 : aO Tryz.prog 74 aAg := by
 have hC := aI (P := Tryz.prog) (l := []) aF
 refine aP mixed hC Tryz.func74 rfl aRg false rfl fun args m r h => ?_
 unfold aAg at h
 split at h
 ·rename_i cs
  split at h
  ·rename_i p hp0
   obtain rfl := bZ hp0
   split at h
   ·rename_i hlen
    simp only [Option.some.injEq] at h
    subst h
    refine ⟨nbT, ?_⟩
    refine en ?_
    have v1 : (m.push p.row).var m.vars.length = some p.row := aJ
    have nr := dY (m := m) (x := p)
    have hA := aG (cs := p.row) (aM m)
    refine go1 @nr ?_
    generalize m.push p.row = m2 at v1 hA
    generalize m.vars.length = r1 at v1
    have l1 := uG v1
    generalize hl : p.spans = l at l1 hlen
    have fin : ∀ (e : Env) (m' : Mem) (b : Bool), Above m m' → Ev.get e 2 = .v (.bool b) → b = iA p → cZ Tryz.prog false Tryz.f74 m (.v (.bool (iA p)), m) .ret e m' := fun e m' b h0 h1 h2 => by rw [← h2]; exact aE rfl h1 (aC h0)
    have hB : iA p = ((List.range l.length).all (bJu l) && (jF l l.length == p.steps) && decide ((l.length : Int) ≤ 16)) := by unfold iA; rw [hl]
    refine go1 @l1 ?_
    refine cE (fun k e m' => ∃ i : Nat, i ≤ l.length ∧ (List.range i).all (bJu l) = true ∧ Above m m' ∧ m'.var r1 = some p.row ∧ k = l.length - i ∧ e = [(1, .ptr r1 0), (3, .v (.int .i64 (jF l i))), (7, .lst .no 2 (gZ l)), (8, .v (.int .i64 (l.length : Int))), (9, .v (.int .i64 (i : Int)))]) (k := l.length) ⟨0, Nat.zero_le _, rfl, hA, v1, rfl, rfl⟩ ?_
    rintro k e m' ⟨i, hi0, hpre, hA2, w1, rfl, rfl⟩
    refine go0 ?_
    refine aH rfl (fun hc => ?_) (fun hc => ?_)
    ·have hi1 : i < l.length := by have := of_decide_eq_true hc; omega
     have f1 := bXx (g := .no) (kk := .i64) hi1
     have r6 := cP (i := i) (by omega)
     have hS : bJu l i = (((l.getD i sp0).from_ == jF l i) && decide (jF l i < (l.getD i sp0).to_)) := rfl
     have hpre2 := aMy (bJu l) i
     rw [hpre, Bool.true_and] at hpre2
     have hnext : jF l (i + 1) = (l.getD i sp0).to_ := rfl
     generalize l.getD i sp0 = s at f1 hS hnext
     have st := cCb (m := m') (x := s)
     have v5 : (m'.push s.row).var m'.vars.length = some s.row := aJ
     have w1' := aQ (cs' := s.row) w1
     have hA3 := aG (cs := s.row) hA2
     refine go1 (jn @f1 @st) ?_
     generalize m'.push s.row = m3 at v5 hA3 w1'
     generalize m'.vars.length = r5 at v5
     have a1 := aB3 v5
     have a2 := aFp v5
     cases q1 : (s.from_ != jF l i) with
     | true =>
      have hn : s.from_ ≠ jF l i := by simpa using q1
      refine go1 (jn @a1 @q1) ?_
      refine rcT rfl ?_
      refine go0 ?_
      exact fin _ _ _ hA3 rfl (by rw [hB, aU2 hi1 (by rw [hS, beq_eq_false_iff_ne.2 hn]; rfl)]; rfl)
     | false =>
      have hn : s.from_ = jF l i := by simpa using q1
      cases q2 : decide (s.to_ ≤ jF l i) with
      | true =>
       have := of_decide_eq_true q2
       refine go1 (jn @a1 (jn @q1 (jn @a2 @q2))) ?_
       refine rcT rfl ?_
       refine go0 ?_
       exact fin _ _ _ hA3 rfl (by rw [hB, aU2 hi1 (by rw [hS, decide_eq_false (by omega), Bool.and_false])]; rfl)
      | false =>
       have := of_decide_eq_false q2
       refine go1 (jn @a1 (jn @q1 (jn @a2 @q2))) ?_
       refine rcF rfl ?_
       refine go1 (jn @a2 @r6) ?_
       exact ⟨l.length - (i + 1), by omega, i + 1, hi1, by rw [hpre2, hS, hn, beq_self_eq_true, decide_eq_true (by omega)]; rfl, hA3, w1', rfl, by rw [hnext]⟩
    ·obtain rfl : i = l.length := by have := of_decide_eq_false hc; omega
     have a1 := lD w1
     have a2 := uG w1
     rw [hl] at a2
     rw [hpre, Bool.true_and] at hB
     cases q1 : (jF l l.length == p.steps) with
     | false =>
      refine go1 (jn @a1 @q1) ?_
      exact fin _ _ _ hA2 rfl (by rw [hB, q1]; rfl)
     | true =>
      refine go1 (jn @a1 (jn @q1 @a2)) ?_
      exact fin _ _ _ hA2 rfl (by rw [hB, q1]; rfl)
   ·cases h
  ·cases h
 ·cases h
def bJk (p : Pn) (i : Nat) : Bool := (((p.frozen.getD i []).length : Int) == p.groups)
def gW (p : Pn) : Bool := (List.range p.frozen.length).all (bJk p) && ((p.frozen.length : Int) == (p.spans.length : Int))
def vB : List AV → Mem → Option (AV × Mem)
 | [.agg cs], m =>
  match iH cs with
  | some p => if p.frozen.length ≤ 1000000 then some (.v (.bool (gW p)), m) else none
  | none => none
 | _, _ => none
theorem aWc {p : Pn} (h : p.frozen.length ≤ 1000000) (m : Mem) : vB [.agg p.row] m = some (.v (.bool (gW p)), m) := by
 simp only [vB, unPn_row]
 exact if_pos h
def aLj : Nat → Option (List Nat) := fun
 | 0 => some [1]
 | 1 => some [1, 6, 7, 8]
 | 2 => some [1, 6, 7, 8, 9]
 | 3 => some [1, 4, 6, 7, 8]
 | 4 => some [1, 6, 7, 8, 16]
 | 5 => some [2]
 | 6 => some [1, 6, 7, 8]
 | 7 => some [2]
 | _ => none
attribute [go_sem] aLj
theorem aXr : aO Tryz.prog 75 vB := by
 have hC := aI (P := Tryz.prog) (l := []) aF
 refine aP mixed hC Tryz.func75 rfl aLj false rfl fun args m r h => ?_
 unfold vB at h
 split at h
 ·rename_i cs
  split at h
  ·rename_i p hp0
   obtain rfl := bZ hp0
   split at h
   ·rename_i hlen
    simp only [Option.some.injEq] at h
    subst h
    refine ⟨nbT, ?_⟩
    refine en ?_
    have v1 : (m.push p.row).var m.vars.length = some p.row := aJ
    have nr := dY (m := m) (x := p)
    have hA := aG (cs := p.row) (aM m)
    refine go1 @nr ?_
    generalize m.push p.row = m2 at v1 hA
    generalize m.vars.length = r1 at v1
    have l1 := wE v1
    have l2 := aD4 v1
    have l3 := uG v1
    have fin : ∀ (e : Env) (b : Bool), Ev.get e 2 = .v (.bool b) → b = gW p → cZ Tryz.prog false Tryz.f75 m (.v (.bool (gW p)), m) .ret e m2 := fun e b h1 h2 => by rw [← h2]; exact aE rfl h1 (aC hA)
    refine go1 @l1 ?_
    refine cE (fun k e m' => ∃ i : Nat, i ≤ p.frozen.length ∧ (List.range i).all (bJk p) = true ∧ m2 = m' ∧ k = p.frozen.length - i ∧ e = [(1, .ptr r1 0), (6, .lst .no 1 (jD p.frozen)), (7, .v (.int .i64 (p.frozen.length : Int))), (8, .v (.int .i64 (i : Int)))]) (k := p.frozen.length) ⟨0, Nat.zero_le _, rfl, rfl, rfl, rfl⟩ ?_
    rintro k e m' ⟨i, hi0, hpre, rfl, rfl, rfl⟩
    refine go0 ?_
    refine aH rfl (fun hc => ?_) (fun hc => ?_)
    ·have hi1 : i < p.frozen.length := by have := of_decide_eq_true hc; omega
     have f1 := bK4 (g := .no) (kk := .i64) hi1
     have r6 := cP (i := i) (by omega)
     have hS : bJk p i = (((p.frozen.getD i []).length : Int) == p.groups) := rfl
     have hpre2 := aMy (bJk p) i
     rw [hpre, Bool.true_and] at hpre2
     generalize p.frozen.getD i [] = row at f1 hS
     refine go1 (jn @f1 @l2) ?_
     cases q1 : ((row.length : Int) != p.groups) with
     | true =>
      have hn : (row.length : Int) ≠ p.groups := by simpa using q1
      refine aH rfl (fun hc => ?_) (fun hc => absurd hc (by decide))
      refine go0 ?_
      exact fin _ _ rfl (by unfold gW; rw [aU2 hi1 (by rw [hS, beq_eq_false_iff_ne.2 hn])]; rfl)
     | false =>
      have hn : (row.length : Int) = p.groups := by simpa using q1
      refine aH rfl (fun hc => absurd hc (by decide)) (fun hc => ?_)
      refine go1 @r6 ?_
      exact ⟨p.frozen.length - (i + 1), by omega, i + 1, hi1, by rw [hpre2, hS, hn]; exact beq_self_eq_true _, rfl, rfl, rfl⟩
    ·obtain rfl : i = p.frozen.length := by have := of_decide_eq_false hc; omega
     refine go1 (jn @l1 @l3) ?_
     exact fin _ _ rfl (by unfold gW; rw [hpre, Bool.true_and])
   ·cases h
  ·cases h
 ·cases h
end
section
attribute [local irreducible] Next aW cF Ops bQ
attribute [local irreducible] bE dH
attribute [local go_sem] cO bP Option.getD_some cJ aMb aT aV iv kI fA dY lK oQ sR vU aDc vN kP rJ qX xK kO bZq bZj bZi bZk aQx aQ9 aOr aA4 aBu aB4 aBq
def tkB (p : Pn) (i : Nat) (t : Tk) : Bool := (t.group == ((i / 3 : Nat) : Int)) && (t.param == ((i % 3 : Nat) : Int)) && fG t.segs && ((t.segs.getD 0 sg0).from_ == 0) && ((t.segs.getD (t.segs.length - 1) sg0).to_ == p.steps)
def bPz (p : Pn) (i : Nat) : Bool := tkB p i (p.tracks.getD i tk0)
def gC (p : Pn) : Bool := (List.range p.tracks.length).all (bPz p) && ((p.tracks.length : Int) == p.groups * 3)
def aA2 (p : Pn) : Prop := p.tracks.length ≤ 1000000 ∧ (∀ t ∈ p.tracks, t.segs.length ≤ 1000000) ∧ 1 ≤ p.groups ∧ p.groups ≤ 8
instance (p : Pn) : Decidable (aA2 p) := by unfold aA2; exact inferInstance
def tY : List AV → Mem → Option (AV × Mem)
 | [.agg cs], m =>
  match iH cs with
  | some p => if aA2 p then some (.v (.bool (gC p)), m) else none
  | none => none
 | _, _ => none
theorem aZ2 {p : Pn} (h : aA2 p) (m : Mem) : tY [.agg p.row] m = some (.v (.bool (gC p)), m) := by
 simp only [tY, unPn_row]
 exact if_pos h
theorem aN9 {l : List Sg} (h : fG l = true) : 0 < l.length := by
 unfold fG at h
 rw [Bool.and_eq_true, decide_eq_true_eq] at h
 omega
def eM : Nat → Option (List Nat) := fun
 | 0 => some [1]
 | 1 => some [1, 6, 7, 8]
 | 2 => some [1, 6, 7, 8, 9]
 | 3 => some [1, 3, 4, 6, 7, 8]
 | 4 => some [1, 4, 6, 7, 8, 30]
 | 5 => some [2]
 | 6 => some [1, 6, 7, 8, 50]
 | 7 => some [2]
 | 8 => some [1, 6, 7, 8]
 | 9 => some [2]
 | _ => none
attribute [go_sem] eM
theorem aX0 : aO Tryz.prog 76 tY := by
 have hC := aI (P := Tryz.prog) (l := [(103, kK)]) (aA aEz aF)
 have t1 := taT [(103, kK)] 103 rfl
 refine dJ Tryz.func76 rfl false rfl fun args m r h => ?_
 unfold tY at h
 split at h
 ·rename_i cs
  split at h
  ·rename_i p hp0
   obtain rfl := bZ hp0
   split at h
   ·rename_i hdom
    obtain ⟨hlen, hsl, g0, g1⟩ := hdom
    simp only [Option.some.injEq] at h
    subst h
    refine ⟨nbT, fun φ wd => ?_⟩
    refine en ?_
    have v1 : (m.push p.row).var m.vars.length = some p.row := aJ
    have nr := dY (m := m) (x := p)
    have hA := aG (cs := p.row) (aM m)
    refine xq ?_
    refine aB (kp := eM) mixed hC ?_
    refine go1 @nr ?_
    refine xq ?_
    generalize m.push p.row = m2 at v1 hA
    generalize m.vars.length = r1 at v1
    have l1 := wB v1
    have fin : ∀ (e : Env) (m' : Mem) (F : Objs) (b : Bool), Above m m' → Ev.get e 2 = .v (.bool b) → b = gC p → aEu Tryz.prog false Tryz.f76 m (.v (.bool (gC p)), m) .ret e m' F := fun e m' F b h0 h1 h2 => by rw [← h2]; exact aX (aE rfl h1 (aC h0))
    have n3 : ¬ (3 : Int) = 0 := by decide
    refine aB (kp := eM) mixed hC ?_
    refine go1 @l1 ?_
    refine xq ?_
    refine wZ (fun k e m' F => ∃ i : Nat, i ≤ p.tracks.length ∧ (List.range i).all (bPz p) = true ∧ Above m m' ∧ m'.var r1 = some p.row ∧ k = p.tracks.length - i ∧ e = [(1, AV.ptr r1 0), (6, .lst .no 3 (jM p.tracks)), (7, .v (.int .i64 (p.tracks.length : Int))), (8, .v (.int .i64 (i : Int)))]) (k := p.tracks.length) ⟨0, Nat.zero_le _, rfl, hA, v1, rfl, rfl⟩ ?_
    rintro k e m' F ⟨i, hi0, hpre, hA2, w1, rfl, rfl⟩
    refine xq ?_
    refine aB (kp := eM) mixed hC ?_
    refine go0 ?_
    refine xq ?_
    refine cK rfl (fun hc => ?_) (fun hc => ?_)
    ·have hi1 : i < p.tracks.length := by have := of_decide_eq_true hc; omega
     have f1 := bX0 (g := .no) (kk := .i64) hi1
     have r6 := cP (i := i) (by omega)
     have hS : bPz p i = tkB p i (p.tracks.getD i tk0) := rfl
     have hpre2 := aMy (bPz p) i
     rw [hpre, Bool.true_and] at hpre2
     have hsl2 := hsl (p.tracks.getD i tk0) (jI hi1)
     generalize p.tracks.getD i tk0 = t at f1 hS hsl2
     have st := cBg (m := m') (x := t)
     have v4 : (m'.push t.row).var m'.vars.length = some t.row := aJ
     have w2 := aQ (cs' := t.row) w1
     have hA3 := aG (cs := t.row) hA2
     refine xq ?_
     refine aB (kp := eM) mixed hC ?_
     refine go1 (jn @f1 @st) ?_
     refine xq ?_
     generalize m'.push t.row = m3 at v4 hA3 w2
     generalize m'.vars.length = r4 at v4
     have a1 := bI3 v4
     have a2 := bI0 v4
     have a3 := aWz v4
     have a4 := lD w2
     have d1 : (i : Int).tdiv 3 = ((i / 3 : Nat) : Int) := rfl
     have d2 : (i : Int).tmod 3 = ((i % 3 : Nat) : Int) := rfl
     have d3 : IntKind.i64.wrap ((i / 3 : Nat) : Int) = ((i / 3 : Nat) : Int) := bB (by omega) (by omega)
     have c1 := aE5 (g := .no) hsl2
     have bad : tkB p i t = false → (false = gC p) := fun hh => by unfold gC; rw [aU2 hi1 (by rw [hS, hh])]; rfl
     refine aB (kp := eM) mixed hC ?_
     cases q1 : (t.group != ((i / 3 : Nat) : Int)) with
     | true =>
      have hn : t.group ≠ ((i / 3 : Nat) : Int) := by simpa using q1
      refine go1 (jn @n3 (jn @d1 (jn @d2 (jn @d3 (jn @a1 @q1))))) ?_
      refine xq ?_
      refine xcT rfl ?_
      refine xq ?_
      refine aB (kp := eM) mixed hC ?_
      refine go0 ?_
      refine xq ?_
      exact fin _ _ _ _ hA3 rfl (bad (by unfold tkB; rw [beq_eq_false_iff_ne.2 hn]; rfl))
     | false =>
      have hn1 : t.group = ((i / 3 : Nat) : Int) := by simpa using q1
      cases q2 : (t.param != ((i % 3 : Nat) : Int)) with
      | true =>
       have hn : t.param ≠ ((i % 3 : Nat) : Int) := by simpa using q2
       refine go1 (jn @n3 (jn @d1 (jn @d2 (jn @d3 (jn @a1 (jn @q1 (jn @a2 @q2))))))) ?_
       refine xq ?_
       refine xcT rfl ?_
       refine xq ?_
       refine aB (kp := eM) mixed hC ?_
       refine go0 ?_
       refine xq ?_
       exact fin _ _ _ _ hA3 rfl (bad (by unfold tkB; rw [beq_eq_false_iff_ne.2 hn, Bool.and_false]; rfl))
      | false =>
       have hn2 : t.param = ((i % 3 : Nat) : Int) := by simpa using q2
       cases q3 : fG t.segs with
       | false =>
        rw [q3] at c1
        simp only [Bool.false_eq_true, if_false] at c1
        have z1 : ((1 : Int) != 0) = true := rfl
        refine go1 (jn @n3 (jn @d1 (jn @d2 (jn @d3 (jn @a1 (jn @q1 (jn @a2 (jn @q2 (jn @a3 (jn @t1 (jn @c1 @z1))))))))))) ?_
        refine xq ?_
        refine xcT rfl ?_
        refine xq ?_
        refine aB (kp := eM) mixed hC ?_
        refine go0 ?_
        refine xq ?_
        exact fin _ _ _ _ hA3 rfl (bad (by unfold tkB; rw [q3, Bool.and_false]; rfl))
       | true =>
        rw [q3] at c1
        simp only [if_true] at c1
        have z0 : ((0 : Int) != 0) = false := rfl
        refine go1 (jn @n3 (jn @d1 (jn @d2 (jn @d3 (jn @a1 (jn @q1 (jn @a2 (jn @q2 (jn @a3 (jn @t1 (jn @c1 @z0))))))))))) ?_
        refine xq ?_
        refine xcF rfl ?_
        refine xq ?_
        have hpos := aN9 q3
        have s0 : cI Tryz.prog 66 (.lst .no 10 (eO t.segs)) (.v (.int .i64 0)) = some (.eptr (t.segs.getD 0 sg0).row) := aVg (kk := .i64) (i := 0) hpos
        have s1 := aVg (g := .no) (kk := .i64) (l := t.segs) (i := t.segs.length - 1) (by omega)
        have w3 : IntKind.i64.wrap ((t.segs.length : Int) - 1) = ((t.segs.length - 1 : Nat) : Int) := by rw [bB (by omega) (by omega)]; omega
        have hT : tkB p i t = (((t.segs.getD 0 sg0).from_ == 0) && ((t.segs.getD (t.segs.length - 1) sg0).to_ == p.steps)) := by
         unfold tkB
         rw [hn1, hn2, q3, beq_self_eq_true, beq_self_eq_true]
         simp only [Bool.true_and]
        generalize t.segs.getD 0 sg0 = sa at s0 hT
        generalize t.segs.getD (t.segs.length - 1) sg0 = sb at s1 hT
        refine bN (l2 := eM 6) mixed hC (by kernel_rfl) ?_
        cases q4 : (sa.from_ != 0) with
        | true =>
         have hn : sa.from_ ≠ 0 := by simpa using q4
         refine eJ (jn @a3 (jn @s0 @q4)) ?_
         refine xq ?_
         refine xcT rfl ?_
         refine xq ?_
         refine aB (kp := eM) mixed hC ?_
         refine go0 ?_
         refine xq ?_
         exact fin _ _ _ _ hA3 rfl (bad (by rw [hT, beq_eq_false_iff_ne.2 hn]; rfl))
        | false =>
         have hn : sa.from_ = 0 := by simpa using q4
         cases q5 : (sb.to_ != p.steps) with
         | true =>
          have hn : sb.to_ ≠ p.steps := by simpa using q5
          refine eJ (jn @a3 (jn @s0 (jn @q4 (jn @w3 (jn @s1 (jn @a4 @q5)))))) ?_
          refine xq ?_
          refine xcT rfl ?_
          refine xq ?_
          refine aB (kp := eM) mixed hC ?_
          refine go0 ?_
          refine xq ?_
          exact fin _ _ _ _ hA3 rfl (bad (by rw [hT, beq_eq_false_iff_ne.2 hn, Bool.and_false]))
         | false =>
          have hn9 : sb.to_ = p.steps := by simpa using q5
          refine eJ (jn @a3 (jn @s0 (jn @q4 (jn @w3 (jn @s1 (jn @a4 @q5)))))) ?_
          refine xq ?_
          refine xcF rfl ?_
          refine xq ?_
          refine aB (kp := eM) mixed hC ?_
          refine go1 @r6 ?_
          refine xq ?_
          exact ⟨p.tracks.length - (i + 1), by omega, i + 1, hi1, by rw [hpre2, hS, hT, hn, hn9, beq_self_eq_true, beq_self_eq_true]; rfl, hA3, w2, rfl, rfl⟩
    ·obtain rfl : i = p.tracks.length := by have := of_decide_eq_false hc; omega
     have a1 := wB w1
     have a2 := aD4 w1
     have w3 : IntKind.i64.wrap (p.groups * 3) = p.groups * 3 := bB (by omega) (by omega)
     refine xq ?_
     refine aB (kp := eM) mixed hC ?_
     refine go1 (jn @a1 (jn @a2 @w3)) ?_
     refine xq ?_
     exact fin _ _ _ _ hA2 rfl (by unfold gC; rw [hpre, Bool.true_and])
   ·cases h
  ·cases h
 ·cases h
/-! ### plan.Check -/
def Pn.fit (p : Pn) : Prop := p.spans.length ≤ 1000000 ∧ p.frozen.length ≤ 1000000 ∧ p.tracks.length ≤ 1000000 ∧ ∀ t ∈ p.tracks, t.segs.length ≤ 1000000
instance (p : Pn) : Decidable p.fit := by unfold Pn.fit; exact inferInstance
def cQ (p : Pn) : Bool := (inB p.steps 1 1000000 && (inB p.weights 0 16 && inB p.metrics 0 4)) && (inB p.groups 1 8 && (inB p.eval 0 p.steps && (iA p && (gW p && gC p)))) && (sZ p && (aH5 p && (sO p && aHy p)))
def eX : List AV → Mem → Option (AV × Mem)
 | [.agg cs], m =>
  match iH cs with
  | some p => if p.fit then some (iv (if cQ p then 0 else 1), m) else none
  | none => none
 | _, _ => none
theorem aU7 {p : Pn} (h : p.fit) (m : Mem) : eX [.agg p.row] m = some (.v (.int .i64 (if cQ p then 0 else 1)), m) := by
 simp only [eX, unPn_row]
 exact if_pos h
def aJi : Nat → Option (List Nat) := fun
 | 0 => some [1]
 | 1 => some [1, 3]
 | 2 => some [1, 3]
 | 3 => some [1, 3]
 | 4 => some [2]
 | 5 => some [1, 16]
 | 6 => some [1, 16]
 | 7 => some [1, 16]
 | 8 => some [1, 16]
 | 9 => some [1, 16]
 | 10 => some [2]
 | 11 => some [1, 36]
 | 12 => some [1, 36]
 | 13 => some [1, 36]
 | 14 => some [36]
 | 15 => some [2]
 | 16 => some [2]
 | _ => none
attribute [go_sem] aJi
def dS : List (FuncId × (List AV → Mem → Option (AV × Mem))) := [(73, oZ), (74, aAg), (75, vB), (76, tY), (77, aFt), (78, aLe), (79, aFy), (80, aNt)]
theorem xE : aO Tryz.prog 59 eX := by
 have hC := aI (P := Tryz.prog) (l := dS) (aA nP (aA bA1 (aA aXr (aA aX0 (aA bJy (aA bOc (aA bJg (aA bOm aF))))))))
 have t1 := taT dS 73 rfl
 have t2 := taT dS 74 rfl
 have t3 := taT dS 75 rfl
 have t4 := taT dS 76 rfl
 have t5 := taT dS 77 rfl
 have t6 := taT dS 78 rfl
 have t7 := taT dS 79 rfl
 have t8 := taT dS 80 rfl
 refine aP mixed hC Tryz.func59 rfl aJi false rfl fun args m r h => ?_
 unfold eX at h
 split at h
 ·rename_i cs
  split at h
  ·rename_i p hp0
   obtain rfl := bZ hp0
   split at h
   ·rename_i hfit
    obtain ⟨hf1, hf2, hf3, hf4⟩ := hfit
    simp only [Option.some.injEq] at h
    subst h
    refine ⟨nbT, ?_⟩
    refine en ?_
    have v1 : (m.push p.row).var m.vars.length = some p.row := aJ
    have nr := dY (m := m) (x := p)
    have hA := aG (cs := p.row) (aM m)
    refine go1 @nr ?_
    generalize m.push p.row = m2 at v1 hA
    generalize m.vars.length = r1 at v1
    have l0 := qB v1
    have l1 := lD v1
    have l2 := aAr v1
    have l3 := sS v1
    have l4 := aD4 v1
    have l5 := vT v1
    have k1 : (!true) = false := rfl
    have k2 : (!false) = true := rfl
    have d1 := eB p.steps 1 1000000
    have d2 := eB p.weights 0 16
    have d3 := eB p.metrics 0 4
    have d4 := eB p.groups 1 8
    have d5 := eB p.eval 0 p.steps
    have d6 := bD0 hf1
    have d7 := aWc hf2
    have fin : ∀ (e : Env) (x : Int), Ev.get e 2 = .v (.int .i64 x) → x = (if cQ p then 0 else 1) → cZ Tryz.prog false Tryz.f59 m (iv (if cQ p then 0 else 1), m) .ret e m2 := fun e x h1 h2 => by rw [← h2]; exact aE rfl h1 (aC hA)
    cases h0 : inB p.steps 1 1000000 with
    | false =>
     refine go1 (jn @l1 (jn @t1 (jn @d1 (jn @h0 @k2)))) ?_
     refine rcT rfl ?_
     refine go0 ?_
     refine rcT rfl ?_
     refine go0 ?_
     exact fin _ _ rfl (by unfold cQ; rw [h0]; simp)
    | true =>
     refine go1 (jn @l1 (jn @t1 (jn @d1 (jn @h0 @k1)))) ?_
     refine rcF rfl ?_
     cases h1 : inB p.weights 0 16 with
     | false =>
      refine go1 (jn @l2 (jn @t1 (jn @d2 (jn @h1 @k2)))) ?_
      refine rcT rfl ?_
      refine go0 ?_
      refine rcT rfl ?_
      refine go0 ?_
      exact fin _ _ rfl (by unfold cQ; rw [h0, h1]; simp)
     | true =>
      refine go1 (jn @l2 (jn @t1 (jn @d2 (jn @h1 @k1)))) ?_
      refine rcF rfl ?_
      cases h2 : inB p.metrics 0 4 with
      | false =>
       refine go1 (jn @l3 (jn @t1 (jn @d3 (jn @h2 @k2)))) ?_
       refine rcT rfl ?_
       refine go0 ?_
       exact fin _ _ rfl (by unfold cQ; rw [h0, h1, h2]; simp)
      | true =>
       refine go1 (jn @l3 (jn @t1 (jn @d3 (jn @h2 @k1)))) ?_
       refine rcF rfl ?_
       cases h3 : inB p.groups 1 8 with
       | false =>
        refine go1 (jn @l4 (jn @t1 (jn @d4 (jn @h3 @k2)))) ?_
        refine rcT rfl ?_
        refine go0 ?_
        refine rcT rfl ?_
        refine go0 ?_
        exact fin _ _ rfl (by unfold cQ; rw [h0, h1, h2, h3]; simp)
       | true =>
        refine go1 (jn @l4 (jn @t1 (jn @d4 (jn @h3 @k1)))) ?_
        refine rcF rfl ?_
        cases h4 : inB p.eval 0 p.steps with
        | false =>
         refine go1 (jn @l5 (jn @l1 (jn @t1 (jn @d5 (jn @h4 @k2))))) ?_
         refine rcT rfl ?_
         refine go0 ?_
         refine rcT rfl ?_
         refine go0 ?_
         exact fin _ _ rfl (by unfold cQ; rw [h0, h1, h2, h3, h4]; simp)
        | true =>
         refine go1 (jn @l5 (jn @l1 (jn @t1 (jn @d5 (jn @h4 @k1))))) ?_
         refine rcF rfl ?_
         cases h5 : iA p with
         | false =>
          refine go1 (jn @l0 (jn @t2 (jn @d6 (jn @h5 @k2)))) ?_
          refine rcT rfl ?_
          refine go0 ?_
          refine rcT rfl ?_
          refine go0 ?_
          exact fin _ _ rfl (by unfold cQ; rw [h0, h1, h2, h3, h4, h5]; simp)
         | true =>
          refine go1 (jn @l0 (jn @t2 (jn @d6 (jn @h5 @k1)))) ?_
          refine rcF rfl ?_
          cases h6 : gW p with
          | false =>
           refine go1 (jn @l0 (jn @t3 (jn @d7 (jn @h6 @k2)))) ?_
           refine rcT rfl ?_
           refine go0 ?_
           refine rcT rfl ?_
           refine go0 ?_
           exact fin _ _ rfl (by unfold cQ; rw [h0, h1, h2, h3, h4, h5, h6]; simp)
          | true =>
           refine go1 (jn @l0 (jn @t3 (jn @d7 (jn @h6 @k1)))) ?_
           refine rcF rfl ?_
           have d8 := aZ2 (p := p) ⟨hf3, hf4, dW.1 h3⟩
           cases h7 : gC p with
           | false =>
            refine go1 (jn @l0 (jn @t4 (jn @d8 (jn @h7 @k2)))) ?_
            refine rcT rfl ?_
            refine go0 ?_
            exact fin _ _ rfl (by unfold cQ; rw [h0, h1, h2, h3, h4, h5, h6, h7]; simp)
           | true =>
            refine go1 (jn @l0 (jn @t4 (jn @d8 (jn @h7 @k1)))) ?_
            refine rcF rfl ?_
            have hmd := dW.1 h2
            have d9 := bKm hmd
            have da := bQp hmd
            have db := bK8 hmd
            have dc := bP8 (p := p)
            cases h8 : sZ p with
            | false =>
             refine go1 (jn @l0 (jn @t5 (jn @d9 (jn @h8 @k2)))) ?_
             refine rcT rfl ?_
             refine go0 ?_
             refine rcT rfl ?_
             refine go0 ?_
             exact fin _ _ rfl (by unfold cQ; rw [h0, h1, h2, h3, h4, h5, h6, h7, h8]; simp)
            | true =>
             refine go1 (jn @l0 (jn @t5 (jn @d9 (jn @h8 @k1)))) ?_
             refine rcF rfl ?_
             cases h9 : aH5 p with
             | false =>
              refine go1 (jn @l0 (jn @t6 (jn @da (jn @h9 @k2)))) ?_
              refine rcT rfl ?_
              refine go0 ?_
              refine rcT rfl ?_
              refine go0 ?_
              exact fin _ _ rfl (by unfold cQ; rw [h0, h1, h2, h3, h4, h5, h6, h7, h8, h9]; simp)
             | true =>
              refine go1 (jn @l0 (jn @t6 (jn @da (jn @h9 @k1)))) ?_
              refine rcF rfl ?_
              cases h10 : sO p with
              | false =>
               refine go1 (jn @l0 (jn @t7 (jn @db (jn @h10 @k2)))) ?_
               refine rcT rfl ?_
               refine go0 ?_
               refine rcT rfl ?_
               refine go0 ?_
               exact fin _ _ rfl (by unfold cQ; rw [h0, h1, h2, h3, h4, h5, h6, h7, h8, h9, h10]; simp)
              | true =>
               refine go1 (jn @l0 (jn @t7 (jn @db (jn @h10 @k1)))) ?_
               refine rcF rfl ?_
               cases h11 : aHy p with
               | false =>
                refine go1 (jn @l0 (jn @t8 (jn @dc (jn @h11 @k2)))) ?_
                refine rcT rfl ?_
                refine go0 ?_
                exact fin _ _ rfl (by unfold cQ; rw [h0, h1, h2, h3, h4, h5, h6, h7, h8, h9, h10, h11]; simp)
               | true =>
                refine go1 (jn @l0 (jn @t8 (jn @dc (jn @h11 @k1)))) ?_
                refine rcF rfl ?_
                refine go0 ?_
                exact fin _ _ rfl (by unfold cQ; rw [h0, h1, h2, h3, h4, h5, h6, h7, h8, h9, h10, h11]; rfl)
   ·cases h
  ·cases h
 ·cases h
end
section
attribute [local irreducible] Next aW cF Ops bQ
attribute [local irreducible] bE dH
attribute [local go_sem] cO bP Option.getD_some cJ aT aV iv aLo aEp aQn cE6 cEq cB0 yO aBl aRc bRa bQ2 bBo vS oG rM aQa aUa bG0 aTh bSr aU3 wD nW xN aVh aAz qF xG pX
def aF4 (w : Wt) (p : Int) : Bool := decide (p ≥ 1) && decide (w.bad ≥ p)
def bCl : List AV → Mem → Option (AV × Mem)
 | [.agg cs, .v (.int .i64 p)], m =>
  match bIm cs with
  | some w => some (.v (.bool (aF4 w p)), m)
  | none => none
 | _, _ => none
theorem bCr (w : Wt) (p : Int) (m : Mem) : bCl [.agg w.row, .v (.int .i64 p)] m = some (.v (.bool (aF4 w p)), m) := by
 simp only [bCl, aN8]
def bWl : Nat → Option (List Nat) := fun
 | 0 => some [1, 2]
 | 1 => some [4]
 | _ => none
attribute [go_sem] bWl
theorem bEd : aO Tryz.prog 81 bCl := by
 have hC := aI (P := Tryz.prog) (l := []) aF
 refine aP mixed hC Tryz.func81 rfl bWl false rfl fun args m r h => ?_
 unfold bCl at h
 split at h
 ·rename_i cs p
  split at h
  ·rename_i w hw
   obtain rfl := aHh hw
   simp only [Option.some.injEq] at h
   subst h
   refine ⟨nbT, ?_⟩
   refine en ?_
   have v2 : (m.push w.row).var m.vars.length = some w.row := aJ
   have nr := aQn (m := m) (x := w)
   have hA := aG (cs := w.row) (aM m)
   refine go1 @nr ?_
   generalize m.push w.row = m2 at v2 hA
   generalize m.vars.length = r2 at v2
   have l1 := aTx v2
   unfold aF4
   cases hp : decide (p ≥ 1) with
   | false =>
    refine go1 @hp ?_
    exact aE rfl rfl (aC hA)
   | true =>
    refine go1 (jn @hp @l1) ?_
    exact aE rfl rfl (aC hA)
  ·cases h
 ·cases h
def aDt (m : Bool) (d : Int) : Ru := ⟨m, d, false⟩
def fX (w : Wt) (x : Int) (r : Ru) : Wt := if (!w.has || aOq x w.best r) = true then ⟨true, x, 0⟩ else ⟨w.has, w.best, mn (mx w.bad 0) 1099511627775 + 1⟩
def aBm (w : Wt) (x : Int) (r : Ru) : Prop := inI x ∧ inI w.best ∧ inI r.delta
instance (w : Wt) (x : Int) (r : Ru) : Decidable (aBm w x r) := by unfold aBm; exact inferInstance
def aRj : List AV → Mem → Option (AV × Mem)
 | [.agg cs, .v (.int .i64 x), .agg rs], m =>
  match bIm cs, aZa rs with
  | some w, some r => if aBm w x r then some (.agg (fX w x r).row, m) else none
  | _, _ => none
 | _, _ => none
theorem bHg {w : Wt} {x : Int} {r : Ru} (h : aBm w x r) (m : Mem) : aRj [.agg w.row, .v (.int .i64 x), .agg r.row] m = some (.agg (fX w x r).row, m) := by
 simp only [aRj, aN8, uN]
 exact if_pos h
theorem cCv {x : Int} : cN Tryz.prog 38 [(0, .v (.bool true)), (1, .v (.int .i64 x))] = some (.agg (Wt.mk true x 0).row) := by kernel_rfl
theorem bY5 (b : Int) : 0 ≤ mn (mx b 0) 1099511627775 ∧ mn (mx b 0) 1099511627775 ≤ 1099511627775 := by
 unfold mn mx
 split <;> split <;> omega
def bF0 : Nat → Option (List Nat) := fun
 | 0 => some [1, 3, 5, 6]
 | 1 => some [1, 3, 6, 16]
 | 2 => some [6]
 | 3 => some [3, 6]
 | 4 => some [6]
 | _ => none
attribute [go_sem] bF0
def aFf : List (FuncId × (List AV → Mem → Option (AV × Mem))) := [(126, isG)]
theorem aWw : aO Tryz.prog 141 aRj := by
 have hC := aI (P := Tryz.prog) (l := aFf) (aA bWn aF)
 have t1 := taT aFf 126 rfl
 refine aP mixed hC Tryz.func141 rfl bF0 false rfl fun args m r h => ?_
 unfold aRj at h
 split at h
 ·rename_i cs x rs
  split at h
  ·rename_i w r hw hr
   obtain rfl := aHh hw
   obtain rfl := nJ hr
   split at h
   ·rename_i hd
    simp only [Option.some.injEq] at h
    subst h
    refine ⟨nbT, ?_⟩
    refine en ?_
    have v3 : (((m.push w.row).push r.row).push mD).var m.vars.length = some w.row := aQ (aQ aJ)
    have v5 : (((m.push w.row).push r.row).push mD).var (m.push w.row).vars.length = some r.row := aQ aJ
    have v6 : (((m.push w.row).push r.row).push mD).var ((m.push w.row).push r.row).vars.length = some mD := aJ
    have n1 := aQn (m := m) (x := w)
    have n2 := rM (m := m.push w.row) (x := r)
    have n3 := cB0 (m := (m.push w.row).push r.row)
    have hA := aG (cs := mD) (aG (cs := r.row) (aG (cs := w.row) (aM m)))
    have hge : m.vars.length ≤ ((m.push w.row).push r.row).vars.length := by rw [cH, cH]; omega
    have hne : m.vars.length ≠ ((m.push w.row).push r.row).vars.length := by rw [cH, cH]; omega
    refine go1 (jn @n1 (jn @n2 @n3)) ?_
    generalize ((m.push w.row).push r.row).push mD = m2 at v3 v5 v6 hA
    generalize ((m.push w.row).push r.row).vars.length = r6 at v6 hge hne
    generalize (m.push w.row).vars.length = r5 at v5
    generalize hr3 : m.vars.length = r3 at v3 hne ⊢
    have l1 := bFm v3
    have l2 := bNd v3
    have l3 := aTx v3
    have l4 := bSp v5
    have c1 := bDb (x := x) (b := w.best) (r := r) hd
    have k1 : (!true) = false := rfl
    have k2 : (!false) = true := rfl
    have st1 : aR Tryz.prog m2 38 (.ptr r6 0) (.agg (Wt.mk true x 0).row) = some (bO m2 r6 (Wt.mk true x 0).row) := aS v6 bQm rfl rfl (Nat.le_refl _) rfl rfl
    have m1 := cCv (x := x)
    have e0 : fX w x r = if (!w.has || aOq x w.best r) = true then ⟨true, x, 0⟩ else ⟨w.has, w.best, mn (mx w.bad 0) 1099511627775 + 1⟩ := rfl
    have fin1 : fX w x r = ⟨true, x, 0⟩ → ∀ e, Ev.get e 6 = .ptr r6 0 → cZ Tryz.prog false Tryz.f141 m (.agg (fX w x r).row, m) .ret e (bO m2 r6 (Wt.mk true x 0).row) := fun he e h6 => by
     rw [he]
     exact eK (a := 6) (x0 := .agg (Wt.mk true x 0).row) rfl (by rw [h6]; exact bVw (bA v6)) rfl (aC (bD hA hge))
    cases hh : w.has with
    | false =>
     rw [hh] at l1 e0
     refine go1 (jn @l1 @k2) ?_
     refine rcT rfl ?_
     refine go1 (jn @m1 @st1) ?_
     exact fin1 (by rw [e0, if_pos (by simp)]) _ rfl
    | true =>
     rw [hh] at l1 e0
     cases hi : aOq x w.best r with
     | true =>
      rw [hi] at c1 e0
      refine go1 (jn @l1 (jn @k1 (jn @l2 (jn @l4 (jn @t1 @c1))))) ?_
      refine rcT rfl ?_
      refine go1 (jn @m1 @st1) ?_
      exact fin1 (by rw [e0, if_pos (by simp)]) _ rfl
     | false =>
      rw [hi] at c1 e0
      refine go1 (jn @l1 (jn @k1 (jn @l2 (jn @l4 (jn @t1 @c1))))) ?_
      refine rcF rfl ?_
      rw [if_neg (by simp), ← hh] at e0
      obtain ⟨b0, b1⟩ := bY5 w.bad
      have w1 : IntKind.i64.wrap (mn (mx w.bad 0) 1099511627775 + 1) = mn (mx w.bad 0) 1099511627775 + 1 := bB (by omega) (by omega)
      have st2 : aR Tryz.prog m2 3 (.ptr r3 2) (.v (.int .i64 (mn (mx w.bad 0) 1099511627775 + 1))) = some (bO m2 r3 (fX w x r).row) := by
       rw [e0]
       exact aS v3 bP rfl rfl nbT rfl rfl
      have l5 := bVw (bA (cs := (fX w x r).row) v3)
      have st3 : aR Tryz.prog (bO m2 r3 (fX w x r).row) 38 (.ptr r6 0) (.agg (fX w x r).row) = some (bO (bO m2 r3 (fX w x r).row) r6 (fX w x r).row) := aS (cD v6 hne.symm) bQm rfl rfl (Nat.le_refl _) rfl rfl
      refine go1 (jn @l3 (jn @w1 (jn @st2 (jn @l5 @st3)))) ?_
      exact eK rfl (bVw (bA (cD v6 hne.symm))) rfl (aC (bD (bD hA (Nat.le_of_eq hr3)) hge))
   ·cases h
  ·cases h
 ·cases h
end
section
attribute [local irreducible] Next aW cF Ops bQ
attribute [local irreducible] bE dH
attribute [local go_sem] cO bP Option.getD_some cJ aT aV iv aLo aEp yO aBl aRc bRa bQ2 bBo vS oG rM aQa aUa bG0 aVh aAz qF xG pX aSc aEk aEx bAq aRu bQ1 bZg
def jG : Ct := ⟨wt0, 0, 4294967296⟩
def aA9 : List AV → Mem → Option (AV × Mem)
 | [], m => some (.agg jG.row, m)
 | _, _ => none
def bAf : Nat → Option (List Nat) := fun
 | 0 => some [0]
 | 1 => some [0]
 | _ => none
attribute [go_sem] bAf
theorem aQv : aO Tryz.prog 33 aA9 := by
 have hC := aI (P := Tryz.prog) (l := []) aF
 refine aP mixed hC Tryz.func33 rfl bAf false rfl fun args m r h => ?_
 unfold aA9 at h
 split at h
 ·simp only [Option.some.injEq] at h
  subst h
  refine ⟨nbT, ?_⟩
  refine en ?_
  have v0 : (m.push kZ).var m.vars.length = some kZ := aJ
  have nz := bBo (m := m)
  have hA := aG (cs := kZ) (aM m)
  refine go1 @nz ?_
  generalize m.push kZ = m2 at v0 hA
  generalize hr0 : m.vars.length = r0 at v0 ⊢
  have st1 : aR Tryz.prog m2 40 (.ptr r0 0) (.agg jG.row) = some (bO m2 r0 jG.row) := aS v0 aYu rfl rfl (Nat.le_refl _) rfl rfl
  refine go0 ?_
  refine iX (e := [(1, .agg jG.row), (0, .ptr r0 0)]) ?_
  refine go1 @st1 ?_
  have hl := aZn (x := jG) (bA (cs := jG.row) v0)
  have hm := aC (bD (q := r0) (cs := jG.row) hA (Nat.le_of_eq hr0))
  exact eK rfl hl rfl hm
 ·cases h
def aJ2 (c : Ct) (v fl : Int) : Int := if c.scale < 0 ∨ c.scale > 4294967296 then 0 else mx (fZ v c.scale).1 (mn v fl)
def aP8 : List AV → Mem → Option (AV × Mem)
 | [.agg cs, .v (.int .i64 v), .v (.int .i64 fl)], m =>
  match bJp cs with
  | some c => if inI v then some (iv (aJ2 c v fl), m) else none
  | none => none
 | _, _ => none
theorem bTj {c : Ct} {v : Int} (h : inI v) (fl : Int) (m : Mem) : aP8 [.agg c.row, .v (.int .i64 v), .v (.int .i64 fl)] m = some (.v (.int .i64 (aJ2 c v fl)), m) := by
 simp only [aP8, aM0]
 exact if_pos h
def bRx : Nat → Option (List Nat) := fun
 | 0 => some [1, 2, 3]
 | 1 => some [1, 2, 3, 16]
 | 2 => some [6]
 | 3 => some [1, 2, 7]
 | 4 => some [6]
 | _ => none
attribute [go_sem] bRx
def aIq : List (FuncId × (List AV → Mem → Option (AV × Mem))) := [(114, aGo)]
theorem bVg : aO Tryz.prog 97 aP8 := by
 have hC := aI (P := Tryz.prog) (l := aIq) (aA aH1 aF)
 have t1 := taT aIq 114 rfl
 refine aP mixed hC Tryz.func97 rfl bRx false rfl fun args m r h => ?_
 unfold aP8 at h
 split at h
 ·rename_i cs v fl
  split at h
  ·rename_i c hc0
   obtain rfl := aIp hc0
   split at h
   ·rename_i hv
    simp only [Option.some.injEq] at h
    subst h
    refine ⟨nbT, ?_⟩
    refine en ?_
    have v3 : (m.push c.row).var m.vars.length = some c.row := aJ
    have nr := aRc (m := m) (x := c)
    have hA := aG (cs := c.row) (aM m)
    refine go1 @nr ?_
    generalize m.push c.row = m2 at v3 hA
    generalize m.vars.length = r3 at v3
    have l1 := aHl v3
    unfold aJ2
    by_cases h1 : c.scale < 0
    ·have q1 : decide (c.scale < 0) = true := decide_eq_true h1
     refine go1 (jn @l1 @q1) ?_
     refine rcT rfl ?_
     refine go0 ?_
     rw [if_pos (.inl h1)]
     exact aE rfl rfl (aC hA)
    ·have q1 : decide (c.scale < 0) = false := decide_eq_false h1
     by_cases h2 : c.scale > 4294967296
     ·have q2 : decide (c.scale > 4294967296) = true := decide_eq_true h2
      refine go1 (jn @l1 (jn @q1 @q2)) ?_
      refine rcT rfl ?_
      refine go0 ?_
      rw [if_pos (.inr h2)]
      exact aE rfl rfl (aC hA)
     ·have q2 : decide (c.scale > 4294967296) = false := decide_eq_false h2
      have c1 := aF0 hv (show inI c.scale from ⟨by omega, by omega⟩)
      refine go1 (jn @l1 (jn @q1 @q2)) ?_
      refine rcF rfl ?_
      refine go1 (jn @l1 (jn @t1 @c1)) ?_
      rw [if_neg (by omega)]
      exact aE rfl rfl (aC hA)
   ·cases h
  ·cases h
 ·cases h
def aPq (w : Wt) : Bool := (w.has == wt0.has) && ((w.best == wt0.best) && ((w.bad == wt0.bad) && true))
def aYl (c : Ct) : Bool := if (!c.watch.has && !(aPq c.watch)) = true then false else inB c.rest 0 1099511627776 && inB c.watch.bad 0 1099511627776 && decide (c.scale ≥ 0) && decide (c.scale ≤ 4294967296)
def aY1 : List AV → Mem → Option (AV × Mem)
 | [.agg cs], m =>
  match bJp cs with
  | some c => some (.v (.bool (aYl c)), m)
  | none => none
 | _, _ => none
theorem bWe (c : Ct) (m : Mem) : aY1 [.agg c.row] m = some (.v (.bool (aYl c)), m) := by
 simp only [aY1, aM0]
def bQc : Nat → Option (List Nat) := fun
 | 0 => some [1]
 | 1 => some [1, 12]
 | 2 => some [2]
 | 3 => some [2]
 | _ => none
attribute [go_sem] bQc
def aJk : List (FuncId × (List AV → Mem → Option (AV × Mem))) := [(107, sD)]
theorem bVp : aO Tryz.prog 86 aY1 := by
 have hC := aI (P := Tryz.prog) (l := aJk) (aA aT9 aF)
 have t1 := taT aJk 107 rfl
 refine aP mixed hC Tryz.func86 rfl bQc false rfl fun args m r h => ?_
 unfold aY1 at h
 split at h
 ·rename_i cs
  split at h
  ·rename_i c hc0
   obtain rfl := aIp hc0
   simp only [Option.some.injEq] at h
   subst h
   refine ⟨nbT, ?_⟩
   refine en ?_
   have v1 : (m.push c.row).var m.vars.length = some c.row := aJ
   have nr := aRc (m := m) (x := c)
   have hA := aG (cs := c.row) (aM m)
   refine go1 @nr ?_
   generalize m.push c.row = m2 at v1 hA
   generalize m.vars.length = r1 at v1
   have k1 : (!true) = false := rfl
   have k2 : (!false) = true := rfl
   have l1 := aU1 v1
   have l2 := aIm v1
   have l3 := aV7 v1
   have l4 := aUu v1
   have l5 := aHl v1
   have e1 : lS Tryz.prog 8 38 (.agg c.watch.row) (.agg mD) = some (aPq c.watch) := bXl (x := c.watch) (y := wt0)
   have c1 : ∀ mm, sD [.v (.int .i64 c.rest)] mm = some (.v (.bool (inB c.rest 0 1099511627776)), mm) := fun _ => rfl
   have c2 : ∀ mm, sD [.v (.int .i64 c.watch.bad)] mm = some (.v (.bool (inB c.watch.bad 0 1099511627776)), mm) := fun _ => rfl
   have hf : ∀ e : Env, Ev.get e 2 = .v (.bool false) → (!c.watch.has && !(aPq c.watch)) = true → cZ Tryz.prog false Tryz.f86 m (.v (.bool (aYl c)), m) .ret e m2 := fun e h2 h3 => by
    unfold aYl
    rw [if_pos h3]
    exact aE rfl h2 (aC hA)
   cases hx : (!c.watch.has && !(aPq c.watch)) with
   | true =>
    rw [hx] at hf
    rw [Bool.and_eq_true] at hx
    obtain ⟨h1, h2⟩ := hx
    have h1 : c.watch.has = false := by simpa using h1
    have h2 : aPq c.watch = false := by simpa using h2
    rw [h1] at l1
    rw [h2] at e1
    refine go1 (jn @l1 (jn @k2 (jn @l2 @e1))) ?_
    refine rcT rfl ?_
    refine go0 ?_
    exact hf _ rfl rfl
   | false =>
    have e0 : aYl c = (inB c.rest 0 1099511627776 && inB c.watch.bad 0 1099511627776 && decide (c.scale ≥ 0) && decide (c.scale ≤ 4294967296)) := by
     unfold aYl
     rw [if_neg (by rw [hx]; decide)]
    refine aNb [(1, .ptr r1 0), (12, .v (.bool false))] m2 ?_ ?_
    ·cases h1 : c.watch.has with
     | true =>
      rw [h1] at l1
      refine go1 (jn @l1 @k1) ?_
      exact ⟨rfl, rfl⟩
     | false =>
      have h2 : aPq c.watch = true := by rw [h1] at hx; simpa using hx
      rw [h1] at l1
      rw [h2] at e1
      refine go1 (jn @l1 (jn @k1 (jn @k2 (jn @l2 @e1)))) ?_
      exact ⟨rfl, rfl⟩
    repeat (first | refine gJ ?_ | refine dI ?_)
    refine rcF rfl ?_
    rw [e0]
    cases h1 : inB c.rest 0 1099511627776 with
    | false =>
     rw [h1] at c1
     refine go1 (jn @l3 (jn @t1 @c1)) ?_
     exact aE rfl rfl (aC hA)
    | true =>
     rw [h1] at c1
     cases h2 : inB c.watch.bad 0 1099511627776 with
     | false =>
      rw [h2] at c2
      refine go1 (jn @l3 (jn @t1 (jn @c1 (jn @l4 @c2)))) ?_
      exact aE rfl rfl (aC hA)
     | true =>
      rw [h2] at c2
      cases h3 : decide (c.scale ≥ 0) with
      | false =>
       refine go1 (jn @l3 (jn @t1 (jn @c1 (jn @l4 (jn @c2 (jn @l5 @h3)))))) ?_
       exact aE rfl rfl (aC hA)
      | true =>
       refine go1 (jn @l3 (jn @t1 (jn @c1 (jn @l4 (jn @c2 (jn @l5 @h3)))))) ?_
       exact aE rfl rfl (aC hA)
  ·cases h
 ·cases h
end
end Go.Proofs.YtmockbddhhmmeaaGreat.Ev

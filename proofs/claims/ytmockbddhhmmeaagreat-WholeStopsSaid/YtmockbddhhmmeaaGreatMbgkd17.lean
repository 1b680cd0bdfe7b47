/- The document's digits: quotients, cut and rounded. -/
import Derived.Test.YtmockbddhhmmeaaGreatMbgkd16
namespace Go.Proofs.YtmockbddhhmmeaaGreat.Ev
open Go Go.Proofs
set_option maxRecDepth 10000
set_option maxHeartbeats 8000000
set_option linter.unusedVariables false
set_option linter.unusedSimpArgs false
noncomputable section
attribute [local irreducible] Next aW cF Ops bQ
attribute [local irreducible] bE dH eZ eC
attribute [local go_sem] cO bP szW Option.getD_some cJ aT aV List.cons_append gD bH5 bIc aQg aSv bK1 ldW
theorem bVd {a : List Nat} {i k : Nat} (hi : i < a.length) (hk : k < 16) : aPo a (16 * (a.length - (i + 1)) + k) = a.getD i 0 / 2 ^ (15 - k) % 2 := by
 unfold aPo
 rw [show a.length - 1 - (16 * (a.length - (i + 1)) + k) / 16 = i by omega, show (16 * (a.length - (i + 1)) + k) % 16 = k by omega]
theorem bDc (a d : List Nat) (t : Nat) : fJ a d (t + 1) = bGc d (fJ a d t) (aPo a t) := rfl
def aWk : List AV → Mem → Option (AV × Mem)
 | [.lst _ 1 r1, .lst _ 1 r2], m =>
  match unW r1, unW r2 with
  | some a, some d => if aEv a d ∧ a.length ≤ 20 then some (.lst .no 1 (bV (jK a d)), m) else none
  | _, _ => none
 | _, _ => none
theorem bUy {g1 g2 : Grow} {a d : List Nat} (h : aEv a d ∧ a.length ≤ 20) (m : Mem) : aWk [.lst g1 1 (bV a), .lst g2 1 (bV d)] m = some (.lst .no 1 (bV (jK a d)), m) := by
 simp only [aWk, hH]
 exact if_pos h
def bNj : Nat → Option (List Nat) := fun
 | 0 => some [0, 1]
 | 1 => some [0, 1, 5]
 | 2 => some [0, 1, 5, 6]
 | 3 => some [0, 1, 5, 6, 7]
 | 4 => some [0, 1, 5, 6, 7, 17]
 | 5 => some [0, 1, 5, 6, 7]
 | 6 => some [0, 1, 5, 6, 7, 8]
 | 7 => some [0, 1, 5, 6, 7, 8, 21]
 | 8 => some [0, 1, 5, 6, 7, 8]
 | 9 => some [0, 1, 5, 6, 7, 8, 9]
 | 10 => some [0, 1, 5, 6, 7, 8, 9, 10]
 | 11 => some [0, 1, 5, 6, 7, 8, 9, 10, 30]
 | 12 => some [0, 1, 5, 6, 7, 8, 9, 10]
 | 13 => some [0, 1, 5, 6, 7, 8, 9, 10]
 | 14 => some [0, 1, 5, 6, 7, 8]
 | 15 => some [0, 1, 5, 6, 7, 8]
 | 16 => some [0, 1, 5, 6, 7, 8, 48]
 | 17 => some [0, 1, 5, 6, 7, 8]
 | 18 => some [0, 1, 5, 6, 7, 8]
 | 19 => some [4]
 | _ => none
attribute [go_sem] bNj
def sP : List (FuncId × (List AV → Mem → Option (AV × Mem))) := [(57, aJs), (49, aJb), (56, aQj)]
theorem bV7 : aO Tryz.prog 55 aWk := by
 have hC := aI (P := Tryz.prog) (l := sP) (aA aF3 (aA aK0 (aA aXb aF)))
 have t1 := taT sP 57 rfl
 have t2 := taT sP 49 rfl
 have t3 := taT sP 56 rfl
 refine aP mixed hC Tryz.func55 rfl bNj false rfl fun args m r h => ?_
 unfold aWk at h
 split at h
 ·rename_i g1 r1 g2 r2
  split at h
  ·rename_i a d ha0 hd0
   obtain rfl := fB ha0
   obtain rfl := fB hd0
   split at h
   ·rename_i hd
    obtain ⟨⟨ha, hdd⟩, hl20⟩ := hd
    obtain ⟨oa, la⟩ := eN.1 ha
    obtain ⟨od, ld⟩ := eN.1 hdd
    simp only [Option.some.injEq] at h
    subst h
    refine ⟨nbT, ?_⟩
    refine en ?_
    have w0 : IntKind.i64.wrap ((a.length : Int) - 1) = (a.length : Int) - 1 := fC (by omega) (by omega)
    have hend : jK a d = (fJ a d (16 * (a.length - 0))).2 := rfl
    have hq := aAy a d
    have hb := fun i k h1 h2 => bVd (a := a) (i := i) (k := k) h1 h2
    have hda := nC oa
    refine go1 @w0 ?_
    refine cE (fun n e m' => ∃ (j : Nat) (g5 g6 : Grow), j ≤ a.length ∧ m = m' ∧ n = j ∧
     e = [(0, AV.lst g1 1 (bV a)), (1, .lst g2 1 (bV d)), (5, .lst g5 1 (bV (fJ a d (16 * (a.length - j))).2)), (6, .lst g6 1 (bV (fJ a d (16 * (a.length - j))).1)), (7, .v (.int .i64 ((j : Int) - 1)))]) (k := a.length) ⟨a.length, _, _, Nat.le_refl _, rfl, rfl, by rw [Nat.sub_self]; rfl⟩ ?_
    rintro j e m' ⟨_, g5, g6, hj, rfl, rfl, rfl⟩
    refine go0 ?_
    refine aH rfl (fun hc => ?_) (fun hc => ?_)
    ·have hj1 : 1 ≤ j := by have := of_decide_eq_true hc; omega
     obtain ⟨i, rfl⟩ : ∃ i, j = i + 1 := ⟨j - 1, by omega⟩
     have e1 : ((i + 1 : Nat) : Int) - 1 = (i : Int) := by omega
     rw [e1]
     have r7 : IntKind.i64.wrap ((i : Int) - 1) = (i : Int) - 1 := fC (by omega) (by omega)
     have hT : 16 * (a.length - (i + 1)) + 16 = 16 * (a.length - i) := by omega
     have hTb : 16 * (a.length - (i + 1)) + 16 ≤ 320 := by omega
     have hbi := fun k => hb i k (by omega)
     have q1 := bLa (g := g1) (kk := .i64) (l := a) (i := i) (by omega)
     have hai : a.getD i 0 < 65536 := bTg oa i
     generalize a.getD i 0 = x at hbi q1 hai
     generalize 16 * (a.length - (i + 1)) = T at hT hTb hbi ⊢
     refine go0 ?_
     refine cE (fun n e m' => ∃ (k : Nat) (g5 g6 : Grow), k ≤ 16 ∧ m = m' ∧ n = 16 - k ∧
      e = [(0, AV.lst g1 1 (bV a)), (1, .lst g2 1 (bV d)), (5, .lst g5 1 (bV (fJ a d (T + k)).2)), (6, .lst g6 1 (bV (fJ a d (T + k)).1)), (7, .v (.int .i64 (i : Int))), (8, .v (.int .i64 (k : Int)))]) (k := 16) ⟨0, g5, g6, Nat.zero_le _, rfl, rfl, rfl⟩ ?_
     rintro _ e m' ⟨k, h5, h6, hk, rfl, rfl, rfl⟩
     refine go0 ?_
     refine aH rfl (fun hc => ?_) (fun hc => ?_)
     ·have hk1 : k < 16 := by have := of_decide_eq_true hc; omega
      have r8 := cP (i := k) (by omega)
      have hbit := hbi k hk1
      obtain ⟨o1, o2, o3, o4⟩ := hq (T + k)
      have hnext := bDc a d (T + k)
      rw [hbit, show T + k + 1 = T + (k + 1) by omega] at hnext
      generalize fJ a d (T + k) = S at o1 o2 o3 o4 hnext ⊢
      refine go1 @q1 ?_
      refine cE (fun n e m' => ∃ (p : Nat), k ≤ p ∧ p ≤ 15 ∧ m = m' ∧ n = 15 - p ∧
       e = [(0, AV.lst g1 1 (bV a)), (1, .lst g2 1 (bV d)), (5, .lst h5 1 (bV S.2)), (6, .lst h6 1 (bV S.1)), (7, .v (.int .i64 (i : Int))), (8, .v (.int .i64 (k : Int))), (9, .v (.int .u64 ((x / 2 ^ (p - k) : Nat) : Int))), (10, .v (.int .i64 (p : Int)))]) (k := 15 - k) ⟨k, Nat.le_refl _, by omega, rfl, rfl, by rw [Nat.sub_self, Nat.pow_zero, Nat.div_one]⟩ ?_
      rintro _ e m' ⟨p, hp0, hp1, rfl, rfl, rfl⟩
      refine go0 ?_
      refine aH rfl (fun hc => ?_) (fun hc => ?_)
      ·have hp2 : p < 15 := by have := of_decide_eq_true hc; omega
       have r10 := cP (i := p) (by omega)
       have hx : x / 2 ^ (p - k) ≤ x := Nat.div_le_self _ _
       have u1 : IntKind.u64.wrap (((x / 2 ^ (p - k) : Nat) : Int).tdiv 2) = ((x / 2 ^ (p + 1 - k) : Nat) : Int) := by
        rw [show ((x / 2 ^ (p - k) : Nat) : Int).tdiv 2 = ((x / 2 ^ (p - k) / 2 : Nat) : Int) from rfl, uw (by omega), Nat.div_div_eq_div_mul, ← Nat.pow_succ, show (p - k).succ = p + 1 - k by omega]
       refine go1 (jn @u1 @r10) ?_
       exact ⟨15 - (p + 1), by omega, p + 1, by omega, hp2, rfl, rfl, rfl⟩
      ·have hp2 : p = 15 := by have := of_decide_eq_false hc; omega
       subst hp2
       generalize x / 2 ^ (15 - k) = z at hnext ⊢
       have m1 : ((z : Nat) : Int).tmod 2 = ((z % 2 : Nat) : Int) := rfl
       have hz : z % 2 < 65536 := by omega
       generalize z % 2 = bt at m1 hz hnext
       have p1 := gY S.1 S.1
       have p2 := gY (dG S.1 S.1) [bt]
       have p3 := gY S.2 S.2
       have p4 := gX S.1 S.1
       have p5 := gX (dG S.1 S.1) [bt]
       have p6 := gX S.2 S.2
       simp only [List.length_cons, List.length_nil] at p2
       have k1 : okW S.1 = true := eN.2 ⟨o1, by omega⟩
       have k2 : okW S.2 = true := eN.2 ⟨o2, by omega⟩
       have k3 : okW (dG S.1 S.1) = true := eN.2 ⟨p4, by omega⟩
       have k4 : okW (dG (dG S.1 S.1) [bt]) = true := eN.2 ⟨p5, by omega⟩
       have k5 : okW (dG S.2 S.2) = true := eN.2 ⟨p6, by omega⟩
       have k6 : okW [bt] = true := eN.2 ⟨aEs hz, by simp⟩
       have k7 : okW [1] = true := rfl
       have c1 := sN (g1 := .no) (g2 := .no) ⟨k1, k1⟩
       have c2 := sN (g1 := .no) (g2 := .no) ⟨k3, k6⟩
       have c3 := sN (g1 := .no) (g2 := .no) ⟨k2, k2⟩
       have c4 := aKh (g1 := .no) (g2 := .no) ⟨k4, hdd⟩
       have c5 := bFs (g1 := .no) (g2 := .no) ⟨k4, hdd⟩
       have c6 := sN (g1 := .no) (g2 := .no) ⟨k5, k7⟩
       have hnn : fJ a d (T + (k + 1)) = if aU d ≤ aU (dG (dG S.1 S.1) [bt]) then (vF (dG (dG S.1 S.1) [bt]) d, dG (dG S.2 S.2) [1]) else (dG (dG S.1 S.1) [bt], dG S.2 S.2) := hnext
       generalize dG (dG S.1 S.1) [bt] = R1 at *
       generalize dG S.2 S.2 = Q1 at *
       refine go1 (jn @m1 (jn @t1 (jn @c1 (jn @c2 (jn @c3 (jn @t2 @c4)))))) ?_
       refine aH rfl (fun hc => ?_) (fun hc => ?_)
       ·have hle : aU d ≤ aU R1 := by
         have := of_decide_eq_true hc
         unfold rW at this
         split at this <;> omega
        have c5 := c5 hle
        rw [if_pos hle] at hnn
        refine go1 (jn @t3 (jn @c5 (jn @t1 (jn @c6 @r8)))) ?_
        exact ⟨16 - (k + 1), by omega, k + 1, .no, .no, hk1, rfl, rfl, by rw [hnn]⟩
       ·have hle : ¬ aU d ≤ aU R1 := by
         have := of_decide_eq_false hc
         unfold rW at this
         split at this
         ·omega
         ·split at this <;> omega
        rw [if_neg hle] at hnn
        refine go1 @r8 ?_
        exact ⟨16 - (k + 1), by omega, k + 1, .no, .no, hk1, rfl, rfl, by rw [hnn]⟩
     ·have hk1 : k = 16 := by have := of_decide_eq_false hc; omega
      subst hk1
      rw [hT]
      refine go1 @r7 ?_
      exact ⟨i, by omega, i, h5, h6, by omega, rfl, rfl, rfl⟩
    ·have hj0 : j = 0 := by have := of_decide_eq_false hc; omega
     subst hj0
     refine go0 ?_
     exact dA rfl (by rw [hend]; rfl) (bU _)
   ·cases h
  ·cases h
 ·cases h
/-! ### Rounded -/
def aMe : List AV → Mem → Option (AV × Mem)
 | [.lst _ 1 r1, .lst _ 1 r2], m =>
  match unW r1, unW r2 with
  | some a, some d => if aEv a d ∧ a.length ≤ 20 ∧ d.length ≤ 1000 ∧ 0 < aU d then some (.lst .no 1 (bV (pB a d)), m) else none
  | _, _ => none
 | _, _ => none
theorem bLv {g1 g2 : Grow} {a d : List Nat} (h : aEv a d ∧ a.length ≤ 20 ∧ d.length ≤ 1000 ∧ 0 < aU d) (m : Mem) : aMe [.lst g1 1 (bV a), .lst g2 1 (bV d)] m = some (.lst .no 1 (bV (pB a d)), m) := by
 simp only [aMe, hH]
 exact if_pos h
def bGd : Nat → Option (List Nat) := fun
 | 0 => some [0, 1]
 | 1 => some [0, 1, 5]
 | 2 => some [1, 5, 6]
 | 3 => some [5, 7]
 | 4 => some [5, 34]
 | 5 => some [4]
 | 6 => some [4]
 | _ => none
attribute [go_sem] bGd
def iL : List (FuncId × (List AV → Mem → Option (AV × Mem))) := [(55, aWk), (40, aG7), (56, aQj), (57, aJs), (49, aJb), (58, bNv)]
theorem bOy : aO Tryz.prog 43 aMe := by
 have hC := aI (P := Tryz.prog) (l := iL) (aA bV7 (aA aP6 (aA aXb (aA aF3 (aA aK0 (aA bY8 aF))))))
 have t1 := taT iL 55 rfl
 have t2 := taT iL 40 rfl
 have t3 := taT iL 56 rfl
 have t4 := taT iL 57 rfl
 have t5 := taT iL 49 rfl
 have t6 := taT iL 58 rfl
 refine aP mixed hC Tryz.func43 rfl bGd false rfl fun args m r h => ?_
 unfold aMe at h
 split at h
 ·rename_i g1 r1 g2 r2
  split at h
  ·rename_i a d ha0 hd0
   obtain rfl := fB ha0
   obtain rfl := fB hd0
   split at h
   ·rename_i hd
    obtain ⟨⟨ha, hdd⟩, hl20, hdl, hv⟩ := hd
    obtain ⟨oa, la⟩ := eN.1 ha
    obtain ⟨od, ld⟩ := eN.1 hdd
    simp only [Option.some.injEq] at h
    subst h
    refine ⟨nbT, ?_⟩
    refine en ?_
    have hG := oV (m := m)
    have c1 := bUy (g1 := .no) (g2 := .no) ⟨⟨ha, hdd⟩, hl20⟩
    have hql := aRe a d
    have k1 : okW (jK a d) = true := eN.2 ⟨aAb a d, by omega⟩
    have c2 := aY7 (g1 := .no) (g2 := .no) ⟨k1, hdd⟩
    have k2 : okW (oB (jK a d) d) = true := eN.2 ⟨aS4 _ _, by rw [aN3]; omega⟩
    have k3 : okW (a ++ [0]) = true := eN.2 ⟨aYv oa, by simp; omega⟩
    have c3 := bFs (g1 := .no) (g2 := .no) ⟨k3, k2⟩ (bPa oa od hv)
    have e3 : vF (a ++ [0]) (oB (jK a d) d) = jX a d := rfl
    rw [e3] at c3
    have hrl : (jX a d).length = a.length + 1 := by unfold jX; rw [aRn]; simp
    have orr : okD (jX a d) := aW3 _ _
    have k4 : okW (jX a d) = true := eN.2 ⟨orr, by omega⟩
    have c4 := sN (g1 := .no) (g2 := .no) ⟨k4, k4⟩
    have p1 := gY (jX a d) (jX a d)
    have k5 : okW (dG (jX a d) (jX a d)) = true := eN.2 ⟨gX _ _, by omega⟩
    have c5 := aKh (g1 := .no) (g2 := .no) ⟨k5, hdd⟩
    rw [lC orr orr] at c5
    have c6 := bZw (g1 := .no) k1
    have k7 : okW [1] = true := rfl
    have c7 := sN (g1 := .no) (g2 := .no) ⟨k1, k7⟩
    obtain ⟨g5, m6, a1, hG6, _⟩ := nQ (t := 113) (t2 := 113) aI3 hG (xs := []) (y := .lst g1 1 (bV a)) dC (by unfold lim; simp only [gD, List.length_nil]; omega)
    rw [List.nil_append] at a1
    obtain ⟨g7, m8, a2, hG8, _⟩ := nQ (t := 113) (t2 := 113) aI3 hG6 (xs := bV a) (y := .lst .full 1 (bV [0])) dC (by unfold lim; simp only [gD, List.length_cons, List.length_nil]; omega)
    rw [aIc] at a2
    have hround : pB a d = if upL a d = true then dG (jK a d) [1] else jK a d := rfl
    have hup : upL a d = (decide (aU d < aU (jX a d) + aU (jX a d)) || (decide (aU (jX a d) + aU (jX a d) = aU d) && decide (aU (jK a d) % 2 = 1))) := rfl
    generalize oB (jK a d) d = tq at *
    generalize dG (jX a d) (jX a d) = r2 at *
    generalize jX a d = rs at *
    generalize hqq : jK a d = q at *
    generalize pB a d = res at *
    generalize upL a d = up at *
    generalize aU rs + aU rs = v2 at *
    refine go1 (jn @t1 (jn @c1 (jn @a1 (jn @a2 (jn @t2 (jn @c2 (jn @t3 (jn @c3 (jn @t4 (jn @c4 (jn @t5 @c5))))))))))) ?_
    rcases Nat.lt_trichotomy (aU d) v2 with h1 | h1 | h1
    ·have hcm : rW v2 (aU d) = 1 := by unfold rW; rw [if_neg (by omega), if_pos h1]
     rw [hcm]
     have z1 : decide ((1 : Int) > 0) = true := rfl
     rw [decide_eq_true h1, Bool.true_or] at hup
     rw [if_pos hup] at hround
     refine go1 @z1 ?_
     refine rcT rfl ?_
     refine go1 (jn @t4 @c7) ?_
     exact dA rfl (by rw [hround]; rfl) (eP hG8)
    ·have hcm : rW v2 (aU d) = 0 := by unfold rW; rw [if_neg (by omega), if_neg (by omega)]
     rw [hcm]
     have z1 : decide ((0 : Int) > 0) = false := rfl
     have z2 : ((0 : Int) == 0) = true := rfl
     rw [decide_eq_false (by omega), decide_eq_true h1.symm, Bool.false_or, Bool.true_and] at hup
     rw [← hup] at c6
     cases up with
     | true =>
      rw [if_pos rfl] at hround
      refine go1 (jn @z1 (jn @z2 (jn @t6 @c6))) ?_
      refine rcT rfl ?_
      refine go1 (jn @t4 @c7) ?_
      exact dA rfl (by rw [hround]; rfl) (eP hG8)
     | false =>
      rw [if_neg (by decide)] at hround
      refine go1 (jn @z1 (jn @z2 (jn @t6 @c6))) ?_
      refine rcF rfl ?_
      refine go0 ?_
      exact dA rfl (by rw [hround]; rfl) (eP hG8)
    ·have hcm : rW v2 (aU d) = -1 := by unfold rW; rw [if_pos h1]
     rw [hcm]
     have z1 : decide ((-1 : Int) > 0) = false := rfl
     have z2 : ((-1 : Int) == 0) = false := rfl
     rw [decide_eq_false (by omega), decide_eq_false (by omega), Bool.false_or, Bool.false_and] at hup
     rw [if_neg (by rw [hup]; decide)] at hround
     refine go1 (jn @z1 @z2) ?_
     refine rcF rfl ?_
     refine go0 ?_
     exact dA rfl (by rw [hround]; rfl) (eP hG8)
   ·cases h
  ·cases h
 ·cases h
end
noncomputable section
attribute [local irreducible] Next aW cF Ops bQ
attribute [local irreducible] bE dH eZ eC
attribute [local go_sem] cO bP szW Option.getD_some cJ aT aV List.cons_append gD bH5 bIc aQg aSv bK1 ldW vS oG rM wD nW xN
theorem cEp {x y : Int} : lZ Tryz.prog 126 (.agg [.v (.int .u64 x), .v (.int .u64 y)]) (.v (.int .i64 1)) = some (.v (.int .u64 y)) := by kernel_rfl
attribute [local go_sem] cEp
def zH : List AV → Mem → Option (AV × Mem)
 | [.lst _ 1 r1, .v (.bool b)], m =>
  match unW r1 with
  | some a => if okW a = true then some (.tup [iv (fS (aU a) b).1, iv (fS (aU a) b).2], m) else none
  | _ => none
 | _, _ => none
theorem bBm {g1 : Grow} {a : List Nat} {b : Bool} (h : okW a = true) (m : Mem) : zH [.lst g1 1 (bV a), .v (.bool b)] m = some (.tup [.v (.int .i64 (fS (aU a) b).1), .v (.int .i64 (fS (aU a) b).2)], m) := by
 simp only [zH, hH]
 exact if_pos h
theorem cCk (V : Nat) : rW V (aU (fW 63)) = rW V 9223372036854775808 := by rw [aHj]
def aQz : Nat → Option (List Nat) := fun
 | 0 => some [0, 1]
 | 1 => some [0, 1, 6]
 | 2 => some [0, 1, 20]
 | 3 => some [4, 5]
 | 4 => some [1, 7]
 | 5 => some [7, 24]
 | 6 => some [4, 5]
 | 7 => some [4, 5]
 | _ => none
attribute [go_sem] aQz
def mF : List (FuncId × (List AV → Mem → Option (AV × Mem))) := [(44, aL4), (49, aJb), (51, aV6)]
theorem bEa : aO Tryz.prog 42 zH := by
 have hC := aI (P := Tryz.prog) (l := mF) (aA bGv (aA aK0 (aA bTe aF)))
 have t1 := taT mF 44 rfl
 have t2 := taT mF 49 rfl
 have t3 := taT mF 51 rfl
 refine aP mixed hC Tryz.func42 rfl aQz false rfl fun args m r h => ?_
 unfold zH at h
 split at h
 ·rename_i g1 r1 b
  split at h
  ·rename_i a ha0
   obtain rfl := fB ha0
   split at h
   ·rename_i ha
    obtain ⟨oa, la⟩ := eN.1 ha
    simp only [Option.some.injEq] at h
    subst h
    refine ⟨nbT, ?_⟩
    refine en ?_
    have htl := aBh 63
    have k1 : okW (fW 63) = true := eN.2 ⟨rX 63, by omega⟩
    have c1 : ∀ mm, aL4 [.v (.int .i64 63)] mm = some (.lst .no 1 (bV (fW 63)), mm) := fun mm => bFx (n := 63) (by decide) mm
    have c2 := aKh (g1 := .no) (g2 := .no) ⟨ha, k1⟩
    rw [cCk] at c2
    have c3 := bTd (g1 := .no) ha
    rw [bYl] at c3
    generalize fW 63 = tw at *
    generalize aU a = V at *
    generalize hM0 : ((pR V 0 : Nat) : Int) = M0 at *
    unfold fS
    have k2 : (!true) = false := rfl
    have k3 : (!false) = true := rfl
    refine go1 (jn @t1 (jn @c1 (jn @t2 @c2))) ?_
    rcases Nat.lt_trichotomy V 9223372036854775808 with h1 | h1 | h1
    ·have hcm : rW V 9223372036854775808 = -1 := by unfold rW; rw [if_pos h1]
     rw [hcm]
     have z1 : decide ((-1 : Int) > 0) = false := rfl
     have z2 : ((-1 : Int) == 0) = false := rfl
     rw [Nat.mod_eq_of_lt (by omega)] at c3
     refine go1 (jn @z1 @z2) ?_
     refine rcF rfl ?_
     refine go1 (jn @t3 @c3) ?_
     cases b with
     | true =>
      have w1 : IntKind.u64.wrap (0 - (V : Int)) = -(V : Int) % 18446744073709551616 := by rw [hZ, Int.zero_sub]
      have w2 : IntKind.i64.wrap (-(V : Int) % 18446744073709551616) = -(V : Int) := by rw [aJ4]; split <;> omega
      refine rcT rfl ?_
      refine go1 (jn @w1 @w2) ?_
      rw [if_pos rfl, if_pos (by omega)]
      exact cM rfl rfl rfl
     | false =>
      have w2 : IntKind.i64.wrap (V : Int) = (V : Int) := fC (by omega) (by omega)
      refine rcF rfl ?_
      refine go1 @w2 ?_
      rw [if_neg (by decide), if_pos (by omega)]
      exact cM rfl rfl rfl
    ·have hcm : rW V 9223372036854775808 = 0 := by unfold rW; rw [if_neg (by omega), if_neg (by omega)]
     rw [hcm]
     have z1 : decide ((0 : Int) > 0) = false := rfl
     have z2 : ((0 : Int) == 0) = true := rfl
     rw [Nat.mod_eq_of_lt (by omega)] at c3
     cases b with
     | true =>
      have w1 : IntKind.u64.wrap (0 - (V : Int)) = -(V : Int) % 18446744073709551616 := by rw [hZ, Int.zero_sub]
      have w2 : IntKind.i64.wrap (-(V : Int) % 18446744073709551616) = -(V : Int) := by rw [aJ4]; split <;> omega
      refine go1 (jn @z1 (jn @z2 @k2)) ?_
      refine rcF rfl ?_
      refine go1 (jn @t3 @c3) ?_
      refine rcT rfl ?_
      refine go1 (jn @w1 @w2) ?_
      rw [if_pos rfl, if_pos (by omega)]
      exact cM rfl rfl rfl
     | false =>
      refine go1 (jn @z1 (jn @z2 @k3)) ?_
      refine rcT rfl ?_
      refine go0 ?_
      rw [if_neg (by decide), if_neg (by omega)]
      exact cM rfl rfl rfl
    ·have hcm : rW V 9223372036854775808 = 1 := by unfold rW; rw [if_neg (by omega), if_pos h1]
     rw [hcm]
     have z1 : decide ((1 : Int) > 0) = true := rfl
     refine go1 @z1 ?_
     refine rcT rfl ?_
     refine go0 ?_
     cases b with
     | true =>
      rw [if_pos rfl, if_neg (by omega)]
      exact cM rfl rfl rfl
     | false =>
      rw [if_neg (by decide), if_neg (by omega)]
      exact cM rfl rfl rfl
   ·cases h
  ·cases h
 ·cases h
/-! ### Mul -/
theorem bPw {x y : Int} (hx : inI x) (hy : inI y) : fZ x y = fS (rhe (bJ x * bJ y) 4294967296) (decide (x < 0) != decide (y < 0)) := by
 obtain ⟨p0, p1⟩ := aGu hx hy
 unfold fZ
 generalize bJ x * bJ y = p at *
 have hbig : ∀ (u : Int) (b : Bool), 9223372036854775808 < u → fS u b = (0, 4) := fun u b hu => by
  unfold fS
  cases b
  ·rw [if_neg (by decide), if_neg (by omega)]
  ·rw [if_pos rfl, if_neg (by omega)]
 by_cases h1 : p / 18446744073709551616 ≥ 4294967296
 ·have e : fF p 4294967296 = (0, 4) := by unfold fF; rw [if_neg (by decide), if_pos h1]
  have hr : 9223372036854775808 < rhe p 4294967296 := by
   unfold rhe
   split <;> omega
  rw [e, hbig (rhe p 4294967296) _ hr]
  rfl
 ·by_cases h2 : rhe p 4294967296 = 18446744073709551616
  ·have e : fF p 4294967296 = (0, 4) := by unfold fF; rw [if_neg (by decide), if_neg h1, if_pos h2]
   rw [e, h2, hbig 18446744073709551616 _ (by decide)]
   rfl
  ·have e : fF p 4294967296 = (rhe p 4294967296, 0) := by unfold fF; rw [if_neg (by decide), if_neg h1, if_neg h2]
   rw [e]
   rfl
def bPo : Nat → Option (List Nat) := fun
 | 0 => some [0, 1]
 | 1 => some [0, 1, 6]
 | 2 => some [4, 5]
 | _ => none
attribute [go_sem] bPo
def lE : List (FuncId × (List AV → Mem → Option (AV × Mem))) := [(41, uK), (40, aG7), (44, aL4), (43, aMe), (42, zH)]
theorem bU9 : aO Tryz.prog 30 aGo := by
 have hC := aI (P := Tryz.prog) (l := lE) (aA aCz (aA aP6 (aA bGv (aA bOy (aA bEa aF)))))
 have t1 := taT lE 41 rfl
 have t2 := taT lE 40 rfl
 have t3 := taT lE 44 rfl
 have t4 := taT lE 43 rfl
 have t5 := taT lE 42 rfl
 refine aP mixed hC Tryz.func30 rfl bPo false rfl fun args m r h => ?_
 unfold aGo at h
 split at h
 ·rename_i x y
  split at h
  ·rename_i hyp
   obtain ⟨hx, hy⟩ := hyp
   simp only [Option.some.injEq] at h
   subst h
   refine ⟨nbT, ?_⟩
   refine en ?_
   obtain ⟨a0, a1⟩ := kG hx
   obtain ⟨b0, b1⟩ := kG hy
   have c1 := nB hx
   have c2 := nB hy
   rw [bPw hx hy]
   have va : aU (eV 4 (bJ x).toNat) = (bJ x).toNat := by rw [nH, Nat.mod_eq_of_lt (by show _ < 18446744073709551616; omega)]
   have vb : aU (eV 4 (bJ y).toNat) = (bJ y).toNat := by rw [nH, Nat.mod_eq_of_lt (by show _ < 18446744073709551616; omega)]
   have oa := mJ 4 (bJ x).toNat
   have ob := mJ 4 (bJ y).toNat
   have lla := gK 4 (bJ x).toNat
   have llb := gK 4 (bJ y).toNat
   have hp : bJ x * bJ y = (((bJ x).toNat * (bJ y).toNat : Nat) : Int) := by rw [Int.natCast_mul, Int.toNat_of_nonneg a0, Int.toNat_of_nonneg b0]
   rw [hp, ← va, ← vb, ← aC8 oa ob]
   generalize eV 4 (bJ x).toNat = A at *
   generalize eV 4 (bJ y).toNat = B at *
   have k1 : okW A = true := eN.2 ⟨oa, by omega⟩
   have k2 : okW B = true := eN.2 ⟨ob, by omega⟩
   have c3 := aY7 (g1 := .no) (g2 := .no) ⟨k1, k2⟩
   have htl := aBh 32
   have htv : aU (fW 32) = 4294967296 := aHj 32
   have k3 : okW (fW 32) = true := eN.2 ⟨rX 32, by omega⟩
   have c4 : ∀ mm, aL4 [.v (.int .i64 32)] mm = some (.lst .no 1 (bV (fW 32)), mm) := fun mm => bFx (n := 32) (by decide) mm
   have hpl := aN3 A B
   have hpo := aS4 A B
   generalize oB A B = PP at *
   have k4 : okW PP = true := eN.2 ⟨hpo, by omega⟩
   have c5 := bLv (g1 := .no) (g2 := .no) (a := PP) (d := fW 32) ⟨⟨k4, k3⟩, by omega, by omega, by omega⟩
   have hrv := bB8 (d := fW 32) hpo (rX 32) (by omega)
   rw [htv] at hrv
   have hrl := bCv PP (fW 32)
   have k5 : okW (pB PP (fW 32)) = true := eN.2 ⟨bHo _ _, by omega⟩
   have c6 := bBm (g1 := .no) (b := (decide (x < 0) != decide (y < 0))) k5
   rw [hrv] at c6
   generalize pB PP (fW 32) = RR at *
   generalize fW 32 = TW at *
   have e32 : ((4294967296 : Nat) : Int) = 4294967296 := rfl
   rw [e32] at c6
   generalize fS (rhe (aU PP : Int) 4294967296) (decide (x < 0) != decide (y < 0)) = res at *
   refine go1 (jn @t1 (jn @c1 (jn @c2 (jn @t2 (jn @c3 (jn @t3 (jn @c4 (jn @t4 (jn @c5 (jn @t5 @c6)))))))))) ?_
   exact bT rfl (by decide) (.cons rfl rfl (.cons rfl rfl .nil)) (bU m)
  ·cases h
 ·cases h
/-! ### Apart -/
def aAe (x y : Int) : List Nat := if (decide (x < 0) == decide (y < 0)) = true then eV 4 (bJ (x - y)).toNat else dG (eV 4 (bJ x).toNat) (eV 4 (bJ y).toNat)
def aKu : List AV → Mem → Option (AV × Mem)
 | [.v (.int .i64 x), .v (.int .i64 y)], m => if inI x ∧ inI y then some (.lst .no 1 (bV (aAe x y)), m) else none
 | _, _ => none
theorem aGf {x : Int} (h0 : 0 ≤ bJ x) (h1 : bJ x < 18446744073709551616) : (aU (eV 4 (bJ x).toNat) : Int) = bJ x := by
 rw [nH, Nat.mod_eq_of_lt (by show _ < 18446744073709551616; omega)]
 omega
theorem bDx {x y : Int} (hx : inI x) (hy : inI y) : (aU (aAe x y) : Int) = bJ (x - y) ∧ okW (aAe x y) = true := by
 obtain ⟨a0, a1⟩ := kG hx
 obtain ⟨b0, b1⟩ := kG hy
 obtain ⟨x0, x1⟩ := hx
 obtain ⟨y0, y1⟩ := hy
 unfold aAe
 split
 ·rename_i h
  have hs : bJ (x - y) = if x - y < 0 then -(x - y) else x - y := rfl
  constructor
  ·exact aGf (by rw [hs]; split <;> omega) (by rw [hs]; split <;> omega)
  ·exact eN.2 ⟨mJ _ _, by rw [gK]; decide⟩
 ·rename_i h
  have h2 : decide (x < 0) ≠ decide (y < 0) := fun hh => h (by rw [hh]; exact beq_self_eq_true _)
  have hl := gY (eV 4 (bJ x).toNat) (eV 4 (bJ y).toNat)
  rw [gK, gK] at hl
  constructor
  ·rw [lC (mJ _ _) (mJ _ _), Int.natCast_add, aGf a0 (by omega), aGf b0 (by omega)]
   unfold bJ
   by_cases hx0 : x < 0 <;> by_cases hy0 : y < 0
   ·simp [hx0, hy0] at h2
   ·rw [if_pos hx0, if_neg hy0, if_pos (by omega)]; omega
   ·rw [if_neg hx0, if_pos hy0, if_neg (by omega)]; omega
   ·simp [hx0, hy0] at h2
  ·exact eN.2 ⟨gX _ _, by omega⟩
theorem bKz {x y : Int} (h : inI x ∧ inI y) (m : Mem) : aKu [.v (.int .i64 x), .v (.int .i64 y)] m = some (.lst .no 1 (bV (aAe x y)), m) := if_pos h
def aZb : Nat → Option (List Nat) := fun
 | 0 => some [0, 1]
 | 1 => some [0, 1, 9]
 | 2 => some [4]
 | 3 => some [4]
 | _ => none
attribute [go_sem] aZb
def tU : List (FuncId × (List AV → Mem → Option (AV × Mem))) := [(41, uK), (57, aJs)]
theorem bJt : aO Tryz.prog 50 aKu := by
 have hC := aI (P := Tryz.prog) (l := tU) (aA aCz (aA aF3 aF))
 have t1 := taT tU 41 rfl
 have t2 := taT tU 57 rfl
 refine aP mixed hC Tryz.func50 rfl aZb false rfl fun args m r h => ?_
 unfold aKu at h
 split at h
 ·rename_i x y
  split at h
  ·rename_i hyp
   obtain ⟨hx, hy⟩ := hyp
   simp only [Option.some.injEq] at h
   subst h
   refine ⟨nbT, ?_⟩
   refine en ?_
   have c1 := nB hx
   have c2 := nB hy
   have k1 : okW (eV 4 (bJ x).toNat) = true := eN.2 ⟨mJ _ _, by rw [gK]; decide⟩
   have k2 : okW (eV 4 (bJ y).toNat) = true := eN.2 ⟨mJ _ _, by rw [gK]; decide⟩
   have c3 := sN (g1 := .no) (g2 := .no) ⟨k1, k2⟩
   obtain ⟨x0, x1⟩ := hx
   obtain ⟨y0, y1⟩ := hy
   have hap : aAe x y = if (decide (x < 0) == decide (y < 0)) = true then eV 4 (bJ (x - y)).toNat else dG (eV 4 (bJ x).toNat) (eV 4 (bJ y).toNat) := rfl
   generalize eV 4 (bJ x).toNat = A at *
   generalize eV 4 (bJ y).toNat = B at *
   generalize aAe x y = R at *
   cases hs : (decide (x < 0) == decide (y < 0)) with
   | true =>
    have hs2 : (x < 0 ↔ y < 0) := by
     have := eq_of_beq hs
     by_cases h1 : x < 0 <;> by_cases h2 : y < 0 <;> simp [h1, h2] at this ⊢
    have w1 : IntKind.i64.wrap (x - y) = x - y := fC (by omega) (by omega)
    have c4 := nB (x := x - y) ⟨by omega, by omega⟩
    rw [hs, if_pos rfl] at hap
    rw [← hap] at c4
    refine go1 @hs ?_
    refine rcT rfl ?_
    refine go1 (jn @w1 (jn @t1 @c4)) ?_
    exact dA rfl rfl (bU _)
   | false =>
    rw [hs, if_neg (by decide)] at hap
    rw [← hap] at c3
    refine go1 @hs ?_
    refine rcF rfl ?_
    refine go1 (jn @t1 (jn @c1 (jn @c2 (jn @t2 @c3)))) ?_
    exact dA rfl rfl (bU _)
  ·cases h
 ·cases h
end
noncomputable section
attribute [local irreducible] Next aW cF Ops bQ
attribute [local irreducible] bE dH eZ eC
attribute [local go_sem] cO bP Option.getD_some cJ aT aV iv List.cons_append vS oG rM wD nW xN
def bOl : Nat → Option (List Nat) := fun
 | 0 => some [0, 3]
 | 1 => some [0, 3, 6]
 | 2 => some [0, 3, 6, 12]
 | 3 => some [0, 3, 6]
 | 4 => some [0, 6, 15]
 | 5 => some [4, 5]
 | 6 => some [0, 6, 18]
 | 7 => some [0, 6]
 | 8 => some [0, 6, 20]
 | 9 => some [0, 6]
 | 10 => some [7, 8]
 | 11 => some [4, 5]
 | _ => none
attribute [go_sem] bOl
def aI6 : List (FuncId × (List AV → Mem → Option (AV × Mem))) := [(30, aGo)]
theorem bTw : aO Tryz.prog 48 aPv := by
 have hC := aI (P := Tryz.prog) (l := aI6) (aA bU9 aF)
 have t1 := taT aI6 30 rfl
 refine aP mixed hC Tryz.func48 rfl bOl false rfl fun args m r h => ?_
 unfold aPv at h
 split at h
 ·rename_i b cs
  split at h
  ·rename_i r hr
   obtain rfl := nJ hr
   split at h
   ·rename_i hyp
    obtain ⟨hb, hd⟩ := hyp
    simp only [Option.some.injEq] at h
    subst h
    refine ⟨nbT, ?_⟩
    refine en ?_
    have v3 : (m.push r.row).var m.vars.length = some r.row := aJ
    have nr := rM (m := m) (x := r)
    have hA := aG (cs := r.row) (aM m)
    refine go1 @nr ?_
    generalize m.push r.row = m2 at v3 hA
    generalize m.vars.length = r3 at v3
    have a1 := aPx v3
    have a2 := bF4 v3
    obtain ⟨s0, s1⟩ := aZp hb
    obtain ⟨d0, d1⟩ := aSg hd
    have hdx : mx r.delta 0 = if r.delta < 0 then 0 else r.delta := rfl
    have hmn : mn (bJ b) 9223372036854775807 = if b = -9223372036854775808 then 9223372036854775807 else if b < 0 then -b else b := by
     obtain ⟨b0, b1⟩ := hb
     unfold mn bJ
     split <;> split <;> (try split) <;> omega
    have c2 : ∀ mm, aGo [.v (.int .i64 (mn (bJ b) 9223372036854775807)), .v (.int .i64 (mx r.delta 0))] mm = some (.tup [.v (.int .i64 (fZ (mn (bJ b) 9223372036854775807) (mx r.delta 0)).1), .v (.int .i64 (fZ (mn (bJ b) 9223372036854775807) (mx r.delta 0)).2)], mm) := fun mm => if_pos ⟨s0, d0⟩
    have hg : rF b r = if r.rel = false then (mx r.delta 0, true) else ((fZ (mn (bJ b) 9223372036854775807) (mx r.delta 0)).1, (fZ (mn (bJ b) 9223372036854775807) (mx r.delta 0)).2 == 0) := rfl
    rw [hg]
    generalize fZ (mn (bJ b) 9223372036854775807) (mx r.delta 0) = q at c2 ⊢
    have k1 : (!true) = false := rfl
    have k2 : (!false) = true := rfl
    refine go1 @a1 ?_
    refine aH rfl (fun hc => ?_) (fun hc => ?_)
    rw [if_pos (of_decide_eq_true hc)] at hdx
    rw [hdx] at c2
    rw [hdx]
    refine go1 @a2 ?_
    rotate_left 1
    rw [if_neg (of_decide_eq_false hc)] at hdx
    rw [hdx] at c2
    rw [hdx]
    refine go1 @a2 ?_
    all_goals
     cases hrel : r.rel with
     | false =>
      refine aH rfl (fun hc => ?_) (fun hc => absurd hc (by decide))
      refine go0 ?_
      exact bT rfl (by decide) (.cons rfl rfl (.cons rfl rfl .nil)) (aC hA)
     | true =>
      refine aH rfl (fun hc => absurd hc (by decide)) (fun hc => ?_)
      rw [hmn] at c2
      obtain ⟨b0, b1⟩ := hb
      by_cases hb1 : b = -9223372036854775808
      ·rw [if_pos hb1] at c2
       have q1 : (b == -9223372036854775808) = true := by rw [hb1]; rfl
       have q2 : decide ((9223372036854775807 : Int) < 0) = false := rfl
       refine go1 @q1 ?_
       refine rcT rfl ?_
       refine go1 @q2 ?_
       refine rcF rfl ?_
       refine go1 (jn @t1 @c2) ?_
       exact bT rfl (by decide) (.cons rfl rfl (.cons rfl rfl .nil)) (aC hA)
      ·rw [if_neg hb1] at c2
       have q1 : (b == -9223372036854775808) = false := by simpa using hb1
       refine go1 @q1 ?_
       refine rcF rfl ?_
       by_cases hb2 : b < 0
       ·rw [if_pos hb2] at c2
        have q2 : decide (b < 0) = true := decide_eq_true hb2
        have w1 : IntKind.i64.wrap (0 - b) = -b := by rw [Int.zero_sub]; exact fC (by omega) (by omega)
        refine go1 @q2 ?_
        refine rcT rfl ?_
        refine go1 (jn @w1 (jn @t1 @c2)) ?_
        exact bT rfl (by decide) (.cons rfl rfl (.cons rfl rfl .nil)) (aC hA)
       ·rw [if_neg hb2] at c2
        have q2 : decide (b < 0) = false := decide_eq_false hb2
        refine go1 @q2 ?_
        refine rcF rfl ?_
        refine go1 (jn @t1 @c2) ?_
        exact bT rfl (by decide) (.cons rfl rfl (.cons rfl rfl .nil)) (aC hA)
   ·cases h
  ·cases h
 ·cases h
/-! ### Is -/
def bW6 : Nat → Option (List Nat) := fun
 | 0 => some [0, 1, 5]
 | 1 => some [0, 1, 5, 25]
 | 2 => some [6]
 | 3 => some [0, 1, 7, 8]
 | 4 => some [6]
 | _ => none
attribute [go_sem] bW6
def sA : List (FuncId × (List AV → Mem → Option (AV × Mem))) := [(48, aPv), (50, aKu), (41, uK), (49, aJb)]
theorem bYr : aO Tryz.prog 34 isG := by
 have hC := aI (P := Tryz.prog) (l := sA) (aA bTw (aA bJt (aA aCz (aA aK0 aF))))
 have t1 := taT sA 48 rfl
 have t2 := taT sA 50 rfl
 have t3 := taT sA 41 rfl
 have t4 := taT sA 49 rfl
 refine aP mixed hC Tryz.func34 rfl bW6 false rfl fun args m r h => ?_
 unfold isG at h
 split at h
 ·rename_i x b cs
  split at h
  ·rename_i r hr
   obtain rfl := nJ hr
   split at h
   ·rename_i hyp
    obtain ⟨hx, hb, hd⟩ := hyp
    simp only [Option.some.injEq] at h
    subst h
    refine ⟨nbT, ?_⟩
    refine en ?_
    have v3 : (m.push r.row).var m.vars.length = some r.row := aJ
    have nr := rM (m := m) (x := r)
    have hA := aG (cs := r.row) (aM m)
    refine go1 @nr ?_
    generalize m.push r.row = m2 at v3 hA
    generalize m.vars.length = r3 at v3
    have a1 := bFl v3
    have a2 := bSp v3
    have c1 : ∀ mm, aPv [.v (.int .i64 b), .agg r.row] mm = some (.tup [.v (.int .i64 (rF b r).1), .v (.bool (rF b r).2)], mm) := fun mm => by
     simp only [aPv, uN]
     exact if_pos ⟨hb, hd⟩
    obtain ⟨g0, g1⟩ := bPb hb hd
    have c2 := bKz ⟨hx, hb⟩
    obtain ⟨av, ak⟩ := bDx hx hb
    have hbet : aOq x b r = (decide ((if r.max then x else b) > (if r.max then b else x)) && (rF b r).2 && decide ((if r.max then x else b) - (if r.max then b else x) > (rF b r).1)) := rfl
    have c3 := nB g0
    have sv : (aU (eV 4 (bJ (rF b r).1).toNat) : Int) = (rF b r).1 := by
     have e : bJ (rF b r).1 = (rF b r).1 := if_neg (by omega)
     obtain ⟨_, g3⟩ := g0
     rw [aGf (by omega) (by omega), e]
    have sk : okW (eV 4 (bJ (rF b r).1).toNat) = true := eN.2 ⟨mJ _ _, by rw [gK]; decide⟩
    generalize eV 4 (bJ (rF b r).1).toNat = S at *
    generalize rF b r = g at *
    generalize aAe x b = A at *
    have c4 := aKh (g1 := .no) (g2 := .no) ⟨ak, sk⟩
    generalize aU A = va at *
    generalize aU S = vs at *
    have hcm : decide (rW va vs > 0) = decide (bJ (x - b) > g.1) := by
     rw [Bool.eq_iff_iff]
     simp only [decide_eq_true_eq]
     unfold rW
     split
     ·constructor
      ·intro hh; omega
      ·intro hh; omega
     ·split
      ·constructor
       ·intro hh; omega
       ·intro hh; omega
      ·constructor
       ·intro hh; omega
       ·intro hh; omega
    have k1 : (!true) = false := rfl
    have k2 : (!false) = true := rfl
    generalize aOq x b r = res at *
    cases hm : r.max with
    | true =>
     rw [hm] at a1 hbet
     simp only [if_true] at hbet
     by_cases hle : x ≤ b
     ·have q1 : decide (x ≤ b) = true := decide_eq_true hle
      rw [decide_eq_false (by omega), Bool.false_and, Bool.false_and] at hbet
      refine go1 (jn @a1 @q1) ?_
      refine rcT rfl ?_
      refine go0 ?_
      exact aE rfl (by rw [hbet]; rfl) (aC hA)
     ·have q1 : decide (x ≤ b) = false := decide_eq_false hle
      have es : bJ (x - b) = x - b := if_neg (by omega)
      rw [es] at hcm
      rw [decide_eq_true (by omega), Bool.true_and] at hbet
      refine go1 (jn @a1 (jn @q1 @k1)) ?_
      refine rcF rfl ?_
      cases hg : g.2 with
      | false =>
       rw [hg, Bool.false_and] at hbet
       refine go1 (jn @a2 (jn @t1 (jn @c1 @hg))) ?_
       exact aE rfl (by rw [hbet]; rfl) (aC hA)
      | true =>
       rw [hg, Bool.true_and] at hbet
       refine go1 (jn @a2 (jn @t1 (jn @c1 (jn @hg (jn @t2 (jn @c2 (jn @t3 (jn @c3 (jn @t4 (jn @c4 @hcm)))))))))) ?_
       exact aE rfl (by rw [hbet]; rfl) (aC hA)
    | false =>
     rw [hm] at a1 hbet
     simp only [Bool.false_eq_true, if_false] at hbet
     by_cases hle : x ≥ b
     ·have q1 : decide (x ≥ b) = true := decide_eq_true hle
      rw [decide_eq_false (by omega), Bool.false_and, Bool.false_and] at hbet
      refine go1 (jn @a1 (jn @q1 @k2)) ?_
      refine rcT rfl ?_
      refine go0 ?_
      exact aE rfl (by rw [hbet]; rfl) (aC hA)
     ·have q1 : decide (x ≥ b) = false := decide_eq_false hle
      have es : bJ (x - b) = b - x := by unfold bJ; rw [if_pos (by omega)]; omega
      rw [es] at hcm
      rw [decide_eq_true (by omega), Bool.true_and] at hbet
      refine go1 (jn @a1 (jn @q1 @k2)) ?_
      refine rcF rfl ?_
      cases hg : g.2 with
      | false =>
       rw [hg, Bool.false_and] at hbet
       refine go1 (jn @a2 (jn @t1 (jn @c1 @hg))) ?_
       exact aE rfl (by rw [hbet]; rfl) (aC hA)
      | true =>
       rw [hg, Bool.true_and] at hbet
       refine go1 (jn @a2 (jn @t1 (jn @c1 (jn @hg (jn @t2 (jn @c2 (jn @t3 (jn @c3 (jn @t4 (jn @c4 @hcm)))))))))) ?_
       exact aE rfl (by rw [hbet]; rfl) (aC hA)
   ·cases h
  ·cases h
 ·cases h
end
noncomputable section
attribute [local irreducible] Next aW cF Ops bQ
attribute [local irreducible] bE dH eZ eC
attribute [local go_sem] cO bP aDq Option.getD_some cJ aT aV iv List.cons_append vS oG rM wD nW xN dN gR
def bPk (b : Int → Int → Bool) (w : Wt) (x : Int) : Wt := if (!w.has || b x w.best) = true then ⟨true, x, 0⟩ else ⟨w.has, w.best, mn (mx w.bad 0) 1099511627775 + 1⟩
def lG (b : Int → Int → Bool) (l : List Int) : Nat → Int
 | 0 => 0
 | i + 1 => if (i == 0 || b (l.getD i 0) (lG b l i)) = true then l.getD i 0 else lG b l i
def jW (b : Int → Int → Bool) (l : List Int) (i : Nat) : Bool := i == 0 || b (l.getD i 0) (lG b l i)
def oW (b : Int → Int → Bool) (l : List Int) : Nat → Nat
 | 0 => 0
 | i + 1 => if jW b l i = true then 0 else oW b l i + 1
theorem bG7 (b : Int → Int → Bool) (l : List Int) : ∀ n, oW b l n ≤ n
 | 0 => Nat.le_refl _
 | n + 1 => by
  have := bG7 b l n
  rw [oW]
  split <;> omega
theorem aSn (b : Int → Int → Bool) (l : List Int) : ∀ n, n + 1 ≤ l.length → n + 1 ≤ 1000000 → (l.take (n + 1)).foldl (bPk b) wt0 = ⟨true, lG b l (n + 1), (oW b l (n + 1) : Nat)⟩
 | 0, h, _ => by
  have e : l.take 1 = [l.getD 0 0] := by
   rw [List.take_add_one, List.getD, List.getElem?_eq_getElem (by omega)]
   simp
  rw [e]
  rfl
 | n + 1, h, hn => by
  have e : l.take (n + 1 + 1) = l.take (n + 1) ++ [l.getD (n + 1) 0] := by
   rw [List.take_add_one, List.getD, List.getElem?_eq_getElem (by omega)]
   rfl
  rw [e, List.foldl_append, aSn b l n (by omega) (by omega)]
  have hm : jW b l (n + 1) = b (l.getD (n + 1) 0) (lG b l (n + 1)) := rfl
  have hle := bG7 b l (n + 1)
  have u1 : oW b l (n + 1 + 1) = if jW b l (n + 1) = true then 0 else oW b l (n + 1) + 1 := rfl
  have u2 : lG b l (n + 1 + 1) = if jW b l (n + 1) = true then l.getD (n + 1) 0 else lG b l (n + 1) := rfl
  rw [u1, u2, hm, List.foldl_cons, List.foldl_nil]
  unfold bPk
  simp only [Bool.not_true, Bool.false_or]
  generalize oW b l (n + 1) = k at hle
  split
  ·rfl
  ·congr 1
   unfold mn mx
   rw [if_neg (by omega), if_neg (by omega)]
   rfl
theorem aM8 (b : Int → Int → Bool) (l : List Int) : ∀ i, oW b l (i + 1) ≤ i ∧ jW b l (i - oW b l (i + 1)) = true ∧ ∀ k, i - oW b l (i + 1) < k → k ≤ i → jW b l k = false
 | 0 => by
  have hm : jW b l 0 = true := rfl
  have e : oW b l (0 + 1) = 0 := by rw [oW, if_pos hm]
  rw [e]
  exact ⟨Nat.le_refl _, hm, fun k h1 h2 => by omega⟩
 | i + 1 => by
  obtain ⟨h1, h2, h3⟩ := aM8 b l i
  cases hm : jW b l (i + 1) with
  | true =>
   have e : oW b l (i + 1 + 1) = 0 := by rw [oW, if_pos hm]
   rw [e]
   exact ⟨Nat.zero_le _, hm, fun k k1 k2 => by omega⟩
  | false =>
   have e : oW b l (i + 1 + 1) = oW b l (i + 1) + 1 := by rw [oW, if_neg (by rw [hm]; decide)]
   rw [e]
   refine ⟨by omega, by rw [show i + 1 - (oW b l (i + 1) + 1) = i - oW b l (i + 1) by omega]; exact h2, fun k k1 k2 => ?_⟩
   by_cases hk : k = i + 1
   ·rw [hk]; exact hm
   ·exact h3 k (by omega) (by omega)
/-- So many readings, one behind the other, were not better. -/
def wJ (b : Int → Int → Bool) (l : List Int) (p : Int) (i : Nat) : Bool := (List.range (i + 1)).any fun k => decide ((k : Int) > (i : Int) - p) && jW b l k
def sG (b : Int → Int → Bool) (l : List Int) (p : Int) (i : Nat) : Bool := decide (p ≥ 1) && (decide ((i : Int) ≥ p) && !wJ b l p i)
theorem aNz (b : Int → Int → Bool) (l : List Int) (p : Int) (i : Nat) : sG b l p i = (decide (p ≥ 1) && decide ((oW b l (i + 1) : Nat) ≥ p)) := by
 obtain ⟨h1, h2, h3⟩ := aM8 b l i
 unfold sG
 by_cases hp : p ≥ 1
 ·rw [decide_eq_true hp, Bool.true_and, Bool.true_and]
  by_cases hb : ((oW b l (i + 1) : Nat) : Int) ≥ p
  ·rw [decide_eq_true hb, decide_eq_true (show (i : Int) ≥ p by omega), Bool.true_and]
   have : wJ b l p i = false := by
    unfold wJ
    rw [List.any_eq_false]
    intro k hk
    have hk := List.mem_range.1 hk
    simp only [Bool.and_eq_true, decide_eq_true_eq, not_and]
    intro hgt
    rw [h3 k (by omega) (by omega)]
    decide
   rw [this]
   rfl
  ·rw [decide_eq_false hb]
   have : wJ b l p i = true := by
    unfold wJ
    rw [List.any_eq_true]
    refine ⟨i - oW b l (i + 1), List.mem_range.2 (by omega), ?_⟩
    rw [h2, Bool.and_true]
    exact decide_eq_true (by omega)
   rw [this, Bool.not_true, Bool.and_false]
 ·rw [decide_eq_false hp]
  rfl
/-- The first place at which a run stops. -/
def qM (h : Nat → Bool) (n : Nat) : Nat → Nat → Int
 | 0, _ => -1
 | f + 1, i => if i < n then (if h i = true then (i : Int) else qM h n f (i + 1)) else -1
def aTb (h : Nat → Bool) (n : Nat) : Int := qM h n (n + 1) 0
theorem yK {h : Nat → Bool} {n : Nat} : ∀ f i, (∀ k, i ≤ k → k < n → h k = false) → qM h n f i = -1
 | 0, i, _ => rfl
 | f + 1, i, hk => by
  rw [qM]
  split
  ·rename_i hi
   rw [if_neg (by rw [hk i (Nat.le_refl _) hi]; decide)]
   exact yK f (i + 1) fun k h1 h2 => hk k (by omega) h2
  ·rfl
theorem aFo {h : Nat → Bool} {n a : Nat} (ha : a < n) (hh : h a = true) : ∀ f i, i ≤ a → a - i < f → (∀ k, i ≤ k → k < a → h k = false) → qM h n f i = (a : Int)
 | 0, i, _, hf, _ => by omega
 | f + 1, i, hi, hf, hk => by
  rw [qM, if_pos (by omega)]
  by_cases e : i = a
  ·subst e
   rw [if_pos hh]
  ·rw [if_neg (by rw [hk i (Nat.le_refl _) (by omega)]; decide)]
   exact aFo ha hh f (i + 1) (by omega) (by omega) fun k h1 h2 => hk k (by omega) h2
theorem aMq {h : Nat → Bool} {n : Nat} (hk : ∀ k, k < n → h k = false) : aTb h n = -1 := yK _ _ fun k _ h2 => hk k h2
theorem aWa {h : Nat → Bool} {n a : Nat} (ha : a < n) (hh : h a = true) (hk : ∀ k, k < a → h k = false) : aTb h n = (a : Int) := aFo ha hh _ _ (Nat.zero_le _) (by omega) fun k _ h2 => hk k h2
/-! ### Marks -/
def bC (b : List Bool) : List AV := b.map fun x => .v (.bool x)
theorem bL8 (b : List Bool) : (bC b).length = b.length := List.length_map ..
theorem cBe {r n i : Nat} {kk : IntKind} (hi : i < n) : cI Tryz.prog 62 (.vs r 0 1 n n) (.v (.int kk (i : Int))) = some (.ptr r i) := by
 unfold cI
 simp only [bGi, aVk, aDq]
 rw [if_pos ⟨trivial, by omega, by omega⟩, Int.toNat_natCast]
 simp
theorem aQ1 : ∀ (l : List Bool) (i : Nat) (v : Bool), i < l.length → cB (bC l) i [.v (.bool v)] = bC (l.set i v)
 | [], i, v, h => by simp at h
 | a :: l, 0, v, _ => by simp [cB, bC]
 | a :: l, i + 1, v, h => by
  have := aQ1 l i v (by simpa using h)
  simp only [cB, bC, List.map_cons, List.length_cons, List.length_nil, List.take_succ_cons, List.set_cons_succ] at this ⊢
  rw [show i + 1 + (0 + 1) = (i + (0 + 1)) + 1 by omega, List.drop_succ_cons]
  simpa using this
theorem bXq {m : Mem} {r i : Nat} {b : List Bool} {v : Bool} (hv : m.var r = some (bC b)) (hi : i < b.length) : aR Tryz.prog m 4 (.ptr r i) (.v (.bool v)) = some (m.putv r (bC (b.set i v))) :=
 aS (cs := [.v (.bool v)]) hv aDq rfl rfl (by rw [bL8]; omega) rfl (aQ1 b i v hi)
theorem cBa {m : Mem} {r i : Nat} {b : List Bool} (hv : m.var r = some (bC b)) (hi : i < b.length) : aL Tryz.prog m 4 (.ptr r i) = some (.v (.bool (b.getD i false))) :=
 aK (k := 1) hv (by kernel_rfl) (by kernel_rfl) (by
  rw [List.head?_drop]
  simp [bC, List.getD, List.getElem?_eq_getElem hi])
theorem bKt {n : Nat} (h : n ≤ 4294967296) : gE Tryz.prog 62 (.v (.int .i64 (n : Int))) (.v (.int .i64 (n : Int))) = some (bC (List.replicate n false), 1, n) := by
 have hb : lA Tryz.prog 4 = some 1 := by kernel_rfl
 have hz : zeroCells Tryz.prog 4 = some [.v (.bool false)] := by kernel_rfl
 unfold gE
 simp only [aVk, aDq, hb, hz]
 rw [if_pos ⟨rfl, trivial, by omega, by omega, by omega⟩, Int.toNat_natCast]
 simp [bC]
theorem bQx {m : Mem} {l : List Bool} : newVar m m.vars.length (bC l) = some (m.push (bC l)) := bF (by
 rw [List.all_eq_true]
 intro c hc
 obtain ⟨n, _, rfl⟩ := List.mem_map.1 hc
 rfl)
theorem aY4 : ∀ b : List Bool, (bC b).mapM gF = some (bC b)
 | [] => rfl
 | x :: b => by
  have := aY4 b
  unfold bC at this ⊢
  rw [List.map_cons, List.mapM_cons]
  simp only [show gF (AV.v (Value.bool x)) = some (AV.v (Value.bool x)) from rfl, this, Option.pure_def, Option.bind_eq_bind, Option.bind_some]
theorem aPd {P : Program} {fn : Func} {m m' : Mem} {e : Env} {t : Tmp} {b : List Bool} {r n : Nat} (h : fn.results = #[.tmp t]) (hg : Ev.get e t = .vs r 0 1 n n) (hr : m.vars.length ≤ r) (hv : m'.var r = some (bC b)) (hn : n = b.length) (hm : bI m m' = m) :
  cZ P false fn m (.lst .no 1 (eA b), m) .ret e m' := by
 show dL P false fn m e m' = _
 unfold dL
 rw [h]
 have hnr : ¬ r < m.vars.length := by omega
 simp only [dP, hg, Option.bind_some, kJ, fP, hnr, if_false, hv, hn, bL8, and_self, if_true, aY4, Option.map_some, hm]
 simp [tV, bC, eA]
/-- The marks of the first n readings; the others are not marked yet. -/
def jH (b : Int → Int → Bool) (l : List Int) (n : Nat) : List Bool := (List.range l.length).map fun j => decide (j < n) && jW b l j
theorem aMm (b : Int → Int → Bool) (l : List Int) (n : Nat) : (jH b l n).length = l.length := by unfold jH; simp
theorem bO2 (b : Int → Int → Bool) (l : List Int) : jH b l 0 = List.replicate l.length false := by
 unfold jH
 apply List.ext_getElem?
 intro j
 by_cases hj : j < l.length <;> simp [hj]
theorem bDa {b : Int → Int → Bool} {l : List Int} {n : Nat} (h : n < l.length) : (jH b l n).set n (jW b l n) = jH b l (n + 1) := by
 unfold jH
 apply List.ext_getElem?
 intro j
 rw [List.getElem?_set]
 simp only [List.length_map, List.length_range]
 by_cases h1 : n = j
 ·subst h1
  rw [if_pos rfl, if_pos h]
  simp [h]
 ·rw [if_neg h1]
  by_cases hj : j < l.length
  ·simp only [List.getElem?_map, List.getElem?_range hj, Option.map_some, Option.some.injEq]
   congr 1
   rw [Bool.eq_iff_iff]
   simp only [decide_eq_true_eq]
   omega
  ·simp [hj]
theorem aN5 {b : Int → Int → Bool} {l : List Int} {n j : Nat} (hj : j < l.length) (hn : j < n) : (jH b l n).getD j false = jW b l j := by
 unfold jH
 simp [List.getD, hj, hn]
theorem aW1 {b : Int → Int → Bool} {l : List Int} (h : ∀ x ∈ l, inI x) : ∀ n, n ≤ l.length → inI (lG b l n)
 | 0, _ => (by decide : inI 0)
 | n + 1, hn => by
  have := aW1 (b := b) h n (by omega)
  rw [lG]
  split
  ·exact h _ (jI (by omega))
  ·exact this
def fQ (r : Ru) : Int → Int → Bool := fun a c => aOq a c r
open Classical in
def aL0 : List AV → Mem → Option (AV × Mem)
 | [.lst _ 1 rows, .agg cs], m =>
  match unJ rows, aZa cs with
  | some l, some r => if (∀ x ∈ l, inI x) ∧ inI r.delta ∧ l.length ≤ 1000000 then some (.lst .no 1 (eA (jH (fQ r) l l.length)), m) else none
  | _, _ => none
 | _, _ => none
theorem bQ6 {g : Grow} {l : List Int} {r : Ru} (h : (∀ x ∈ l, inI x) ∧ inI r.delta ∧ l.length ≤ 1000000) (m : Mem) : aL0 [.lst g 1 (cG l), .agg r.row] m = some (.lst .no 1 (eA (jH (fQ r) l l.length)), m) := by
 simp only [aL0, jC, uN]
 exact if_pos h
def gS : Nat → Option (List Nat) := fun
 | 0 => some [0, 3]
 | 1 => some [0, 3, 5]
 | 2 => some [0, 3, 5, 6]
 | 3 => some [0, 3, 5, 6, 7]
 | 4 => some [0, 3, 5, 6, 7, 14]
 | 5 => some [0, 3, 5, 6, 7]
 | 6 => some [0, 3, 5, 6, 7]
 | 7 => some [0, 3, 5, 6, 7, 34]
 | 8 => some [0, 3, 5, 6, 7]
 | 9 => some [4]
 | _ => none
attribute [go_sem] gS
theorem bPu : aO Tryz.prog 26 aL0 := by
 have hC := aI (P := Tryz.prog) (l := [(34, isG)]) (aA bYr aF)
 have t1 := taT [(34, isG)] 34 rfl
 refine dJ Tryz.func26 rfl false rfl fun args m r h => ?_
 unfold aL0 at h
 split at h
 ·rename_i g1 rows cs
  split at h
  ·rename_i l r hl0 hr0
   obtain rfl := iT hl0
   obtain rfl := nJ hr0
   split at h
   ·rename_i hd
    obtain ⟨hl, hd, hlen⟩ := hd
    simp only [Option.some.injEq] at h
    subst h
    refine ⟨nbT, fun φ wd => ?_⟩
    refine en ?_
    have v3 : (m.push r.row).var m.vars.length = some r.row := aJ
    have nr := rM (m := m) (x := r)
    have hA := aG (cs := r.row) (aM m)
    refine xq ?_
    refine aB (kp := gS) mixed hC ?_
    refine go1 @nr ?_
    refine xq ?_
    have hge : m.vars.length ≤ (m.push r.row).vars.length := by rw [cH]; omega
    have hne : m.vars.length ≠ (m.push r.row).vars.length := by rw [cH]; omega
    generalize m.push r.row = m2 at v3 hA hge hne
    generalize m.vars.length = r3 at v3 hne
    have mk := bKt (n := l.length) (by omega)
    have nb := bQx (m := m2) (l := List.replicate l.length false)
    have v5 : (m2.push (bC (List.replicate l.length false))).var m2.vars.length = some (bC (List.replicate l.length false)) := aJ
    have w3 := aQ (cs' := bC (List.replicate l.length false)) v3
    have hA2 := aG (cs := bC (List.replicate l.length false)) hA
    rw [← bO2 (fQ r) l] at v5 w3 hA2 mk nb
    refine aB (kp := gS) mixed hC ?_
    refine go1 (jn @mk @nb) ?_
    refine xq ?_
    refine aB (kp := gS) mixed hC ?_
    refine go0 ?_
    refine xq ?_
    refine aB (kp := gS) mixed hC ?_
    refine go0 ?_
    refine xq ?_
    generalize m2.push (bC (jH (fQ r) l 0)) = m5 at v5 w3 hA2
    generalize m2.vars.length = r5 at v5 hge hne
    have hml := aMm (fQ r) l
    refine wZ (fun k e m' F => ∃ (i : Nat), i ≤ l.length ∧ F = [] ∧ Above m m' ∧ m'.var r3 = some r.row ∧ m'.var r5 = some (bC (jH (fQ r) l i)) ∧ k = l.length - i ∧
     e = [(0, AV.lst g1 1 (cG l)), (3, .ptr r3 0), (5, .vs r5 0 1 l.length l.length), (6, .v (.int .i64 (lG (fQ r) l i))), (7, .v (.int .i64 (i : Int)))]) (k := l.length) ⟨0, Nat.zero_le _, rfl, hA2, w3, v5, rfl, rfl⟩ ?_
    rintro k e m' F ⟨i, hi, rfl, hA3, u3, u5, rfl, rfl⟩
    refine xq ?_
    refine aB (kp := gS) mixed hC ?_
    refine go0 ?_
    refine xq ?_
    refine cK rfl (fun hc => ?_) (fun hc => ?_)
    ·have hi1 : i < l.length := by have := of_decide_eq_true hc; omega
     have r7 := cP (i := i) (by omega)
     have f1 := aC5 (g := g1) (kk := .i64) hi1
     have q5 := cBe (r := r5) (n := l.length) (i := i) (kk := .i64) hi1
     have hbi := aW1 (b := fQ r) hl i (by omega)
     have hli := hl _ (jI (d := 0) hi1)
     have k3 := bSp u3
     have c1 := bDb (x := l.getD i 0) (b := lG (fQ r) l i) (r := r) ⟨hli, hbi, hd⟩
     have st := fun v => bXq (v := v) u5 (i := i) (by rw [hml]; exact hi1)
     have hset := bDa (b := fQ r) (l := l) hi1
     have hmk : jW (fQ r) l i = (i == 0 || aOq (l.getD i 0) (lG (fQ r) l i) r) := rfl
     have hbs : lG (fQ r) l (i + 1) = if jW (fQ r) l i = true then l.getD i 0 else lG (fQ r) l i := rfl
     have y3 := cD (cs := bC (jH (fQ r) l (i + 1))) u3 hne
     have y5 := bA (cs := bC (jH (fQ r) l (i + 1))) u5
     have hA4 := bD (cs := bC (jH (fQ r) l (i + 1))) hA3 hge
     have ld := cBa y5 (i := i) (by rw [hml]; exact hi1)
     rw [aN5 hi1 (Nat.lt_succ_self i)] at ld
     have st2 := st (jW (fQ r) l i)
     rw [hset] at st2
     generalize l.getD i 0 = x at *
     generalize lG (fQ r) l i = bb at *
     generalize hbb2 : lG (fQ r) l (i + 1) = bb2 at *
     generalize jW (fQ r) l i = mk at *
     generalize hM2 : jH (fQ r) l (i + 1) = M2 at *
     have zeq : ((i : Int) == 0) = (i == 0) := by rw [Bool.eq_iff_iff]; simp
     refine xq ?_
     cases hz : (i == 0) with
     | true =>
      rw [hz] at zeq
      rw [hz, Bool.true_or] at hmk
      subst hmk
      refine bN (l2 := gS 6) mixed hC (by kernel_rfl) ?_
      refine eJ (jn @zeq (jn @q5 @st2)) ?_
      refine xq ?_
      rw [if_pos rfl] at hbs
      refine aB (kp := gS) mixed hC ?_
      refine go1 (jn @q5 @ld) ?_
      refine xq ?_
      refine xcT rfl ?_
      refine xq ?_
      refine aB (kp := gS) mixed hC ?_
      refine go1 @f1 ?_
      refine xq ?_
      refine aB (kp := gS) mixed hC ?_
      refine go1 @r7 ?_
      refine xq ?_
      exact ⟨l.length - (i + 1), by omega, i + 1, hi1, rfl, hA4, y3, by rw [hM2]; exact y5, rfl, by rw [hbb2, hbs]⟩
     | false =>
      rw [hz] at zeq
      rw [hz, Bool.false_or] at hmk
      rw [← hmk] at c1
      refine bN (l2 := gS 6) mixed hC (by kernel_rfl) ?_
      refine eJ (jn @zeq (jn @q5 (jn @f1 (jn @k3 (jn @t1 (jn @c1 @st2)))))) ?_
      refine xq ?_
      refine aB (kp := gS) mixed hC ?_
      refine go1 (jn @q5 @ld) ?_
      refine xq ?_
      cases mk with
      | true =>
       rw [if_pos rfl] at hbs
       refine xcT rfl ?_
       refine xq ?_
       refine aB (kp := gS) mixed hC ?_
       refine go1 @f1 ?_
       refine xq ?_
       refine aB (kp := gS) mixed hC ?_
       refine go1 @r7 ?_
       refine xq ?_
       exact ⟨l.length - (i + 1), by omega, i + 1, hi1, rfl, hA4, y3, by rw [hM2]; exact y5, rfl, by rw [hbb2, hbs]⟩
      | false =>
       rw [if_neg (by decide)] at hbs
       refine xcF rfl ?_
       refine xq ?_
       refine aB (kp := gS) mixed hC ?_
       refine go1 @r7 ?_
       refine xq ?_
       exact ⟨l.length - (i + 1), by omega, i + 1, hi1, rfl, hA4, y3, by rw [hM2]; exact y5, rfl, by rw [hbb2, hbs]⟩
    ·have he : i = l.length := by have := of_decide_eq_false hc; omega
     subst he
     refine xq ?_
     refine aB (kp := gS) mixed hC ?_
     refine go0 ?_
     refine xq ?_
     exact aX (aPd rfl rfl (by omega) u5 (by rw [hml]) (aC hA3))
   ·cases h
  ·cases h
 ·cases h
end
noncomputable section
attribute [local irreducible] Next aW cF Ops bQ
attribute [local irreducible] bE dH eZ eC
attribute [local go_sem] cO bP aDq Option.getD_some cJ aT aV iv List.cons_append vS oG rM wD nW xN dN gR aH7
def mB (b : Int → Int → Bool) (l : List Int) (p : Int) (i j : Nat) : Bool := (List.range (i + 1)).any fun k => decide (j ≤ k) && (decide ((k : Int) > (i : Int) - p) && jW b l k)
theorem aVj (b : Int → Int → Bool) (l : List Int) (p : Int) (i : Nat) : mB b l p i (i + 1) = false := by
 unfold mB
 rw [List.any_eq_false]
 intro k hk
 have := List.mem_range.1 hk
 rw [decide_eq_false (by omega), Bool.false_and]
 decide
theorem aPu {b : Int → Int → Bool} {l : List Int} {p : Int} {i k : Nat} (hk : k ≤ i) (hp : (k : Int) > (i : Int) - p) : mB b l p i k = (mB b l p i (k + 1) || jW b l k) := by
 unfold mB
 rw [Bool.eq_iff_iff, Bool.or_eq_true, List.any_eq_true, List.any_eq_true]
 simp only [Bool.and_eq_true, decide_eq_true_eq]
 constructor
 ·rintro ⟨j, hj, h1, h2, h3⟩
  by_cases e : j = k
  ·subst e
   exact .inr h3
  ·exact .inl ⟨j, hj, by omega, h2, h3⟩
 ·rintro (⟨j, hj, h1, h2, h3⟩ | h)
  ·exact ⟨j, hj, by omega, h2, h3⟩
  ·exact ⟨k, List.mem_range.2 (by omega), Nat.le_refl _, hp, h⟩
theorem aU9 {b : Int → Int → Bool} {l : List Int} {p : Int} {i j : Nat} (h : j = 0 ∨ (j : Int) - 1 ≤ (i : Int) - p) : mB b l p i j = wJ b l p i := by
 unfold mB wJ
 rw [Bool.eq_iff_iff, List.any_eq_true, List.any_eq_true]
 simp only [Bool.and_eq_true, decide_eq_true_eq]
 constructor
 ·rintro ⟨k, hk, h1, h2, h3⟩
  exact ⟨k, hk, h2, h3⟩
 ·rintro ⟨k, hk, h2, h3⟩
  exact ⟨k, hk, by omega, h2, h3⟩
def pP (l : List Int) (p : Int) (r : Ru) : Int := aTb (sG (fQ r) l p) l.length
open Classical in
def aGc : List AV → Mem → Option (AV × Mem)
 | [.lst _ 1 rows, .v (.int .i64 p), .agg cs], m =>
  match unJ rows, aZa cs with
  | some l, some r => if (∀ x ∈ l, inI x) ∧ inI r.delta ∧ l.length ≤ 1000000 ∧ 0 ≤ p ∧ p ≤ 2000000000000 then some (.v (.int .i64 (pP l p r)), m) else none
  | _, _ => none
 | _, _ => none
theorem bLk {g : Grow} {l : List Int} {p : Int} {r : Ru} (h : (∀ x ∈ l, inI x) ∧ inI r.delta ∧ l.length ≤ 1000000 ∧ 0 ≤ p ∧ p ≤ 2000000000000) (m : Mem) : aGc [.lst g 1 (cG l), .v (.int .i64 p), .agg r.row] m = some (.v (.int .i64 (pP l p r)), m) := by
 simp only [aGc, jC, uN]
 exact if_pos h
def aX6 : Nat → Option (List Nat) := fun
 | 0 => some [0, 1, 5]
 | 1 => some [0, 1, 7]
 | 2 => some [0, 1, 7, 8]
 | 3 => some [0, 1, 7, 8, 17]
 | 4 => some [0, 1, 7, 8]
 | 5 => some [0, 1, 7, 8, 9]
 | 6 => some [0, 1, 7, 8, 9, 10]
 | 7 => some [0, 1, 7, 8, 9, 10, 29]
 | 8 => some [0, 1, 7, 8, 9, 10]
 | 9 => some [0, 1, 7, 8, 9, 10]
 | 10 => some [0, 1, 7, 8, 49]
 | 11 => some [6]
 | 12 => some [6]
 | _ => none
attribute [go_sem] aX6
def aCu : List (FuncId × (List AV → Mem → Option (AV × Mem))) := [(26, aL0)]
theorem bHn : aO Tryz.prog 10 aGc := by
 have hC := aI (P := Tryz.prog) (l := aCu) (aA bPu aF)
 have t1 := taT aCu 26 rfl
 refine aP mixed hC Tryz.func10 rfl aX6 false rfl fun args m r h => ?_
 unfold aGc at h
 split at h
 ·rename_i g1 rows p cs
  split at h
  ·rename_i l r hl0 hr0
   obtain rfl := iT hl0
   obtain rfl := nJ hr0
   split at h
   ·rename_i hd
    obtain ⟨hl, hdl, hlen, p0, p1⟩ := hd
    simp only [Option.some.injEq] at h
    subst h
    refine ⟨nbT, ?_⟩
    refine en ?_
    have v3 : (m.push r.row).var m.vars.length = some r.row := aJ
    have nr := rM (m := m) (x := r)
    have hA := aG (cs := r.row) (aM m)
    refine go1 @nr ?_
    generalize m.push r.row = m2 at v3 hA
    generalize m.vars.length = r3 at v3
    have k3 := bSp v3
    have c1 := bQ6 (g := .no) ⟨hl, hdl, hlen⟩
    have hml := aMm (fQ r) l l.length
    have hmg := fun j hj => aN5 (b := fQ r) (l := l) (n := l.length) (j := j) hj hj
    refine go1 (jn @k3 (jn @t1 @c1)) ?_
    generalize jH (fQ r) l l.length = M at *
    have hnone := fun h => aMq (h := sG (fQ r) l p) (n := l.length) h
    have hat := fun a h1 h2 h3 => aWa (h := sG (fQ r) l p) (n := l.length) (a := a) h1 h2 h3
    have hv : pP l p r = aTb (sG (fQ r) l p) l.length := rfl
    refine cE (fun n e m' => ∃ (i : Nat), i ≤ l.length ∧ m2 = m' ∧ (∀ k, k < i → sG (fQ r) l p k = false) ∧ n = l.length - i ∧
     e = [(0, AV.lst g1 1 (cG l)), (1, .v (.int .i64 p)), (7, .lst .no 1 (eA M)), (8, .v (.int .i64 (i : Int)))]) (k := l.length) ⟨0, Nat.zero_le _, rfl, fun k hk => by omega, rfl, rfl⟩ ?_
    rintro _ e m' ⟨i, hi, rfl, hb, rfl, rfl⟩
    refine go0 ?_
    refine aH rfl (fun hc => ?_) (fun hc => ?_)
    ·have hi1 : i < l.length := by have := of_decide_eq_true hc; omega
     have r8 := cP (i := i) (by omega)
     have w1 : IntKind.i64.wrap ((i : Int) - p) = (i : Int) - p := fC (by omega) (by omega)
     have hh : sG (fQ r) l p i = (decide (p ≥ 1) && (decide ((i : Int) ≥ p) && !wJ (fQ r) l p i)) := rfl
     have hnext : sG (fQ r) l p i = false → ∀ k, k < i + 1 → sG (fQ r) l p k = false := fun h k hk => by
      by_cases e : k = i
      ·rw [e]; exact h
      ·exact hb k (by omega)
     have hhit := hat i hi1
     have hstep := fun k h1 h2 => aPu (b := fQ r) (l := l) (p := p) (i := i) (k := k) h1 h2
     have hend := fun j h => aU9 (b := fQ r) (l := l) (p := p) (i := i) (j := j) h
     have htop := aVj (fQ r) l p i
     generalize sG (fQ r) l p i = hi0 at *
     generalize wJ (fQ r) l p i = gd at *
     refine go0 ?_
     refine cE (fun n e m' => ∃ (j : Nat), j ≤ i + 1 ∧ m2 = m' ∧ n = j ∧
      e = [(0, AV.lst g1 1 (cG l)), (1, .v (.int .i64 p)), (7, .lst .no 1 (eA M)), (8, .v (.int .i64 (i : Int))), (9, .v (.bool (mB (fQ r) l p i j))), (10, .v (.int .i64 ((j : Int) - 1)))]) (k := i + 1) ⟨i + 1, Nat.le_refl _, rfl, rfl, by rw [htop, show ((i + 1 : Nat) : Int) - 1 = (i : Int) by omega]⟩ ?_
     rintro j e m' ⟨_, hj, rfl, rfl, rfl⟩
     by_cases hq : (j : Int) - 1 > (i : Int) - p ∧ 1 ≤ j
     ·obtain ⟨k, rfl⟩ : ∃ k, j = k + 1 := ⟨j - 1, by omega⟩
      have e1 : ((k + 1 : Nat) : Int) - 1 = (k : Int) := by omega
      rw [e1] at hq ⊢
      have q1 : decide ((k : Int) > (i : Int) - p) = true := decide_eq_true hq.1
      have q2 : decide ((k : Int) ≥ 0) = true := decide_eq_true (by omega)
      have f1 := aF9 (g := .no) (kk := .i64) (l := M) (i := k) (by omega)
      rw [hmg k (by omega)] at f1
      have hs := hstep k (by omega) hq.1
      have r10 : IntKind.i64.wrap ((k : Int) - 1) = (k : Int) - 1 := fC (by omega) (by omega)
      generalize jW (fQ r) l k = mk at f1 hs
      refine go1 (jn @w1 (jn @q1 @q2)) ?_
      refine rcT rfl ?_
      cases hg : mB (fQ r) l p i (k + 1) with
      | true =>
       rw [hg, Bool.true_or] at hs
       refine go1 @r10 ?_
       exact ⟨k, by omega, k, by omega, rfl, rfl, by rw [hs]⟩
      | false =>
       rw [hg, Bool.false_or] at hs
       refine go1 (jn @f1 @r10) ?_
       exact ⟨k, by omega, k, by omega, rfl, rfl, by rw [hs]⟩
     ·have he := hend j (by omega)
      rw [he]
      repeat refine dI ?_
      refine uM [(0, AV.lst g1 1 (cG l)), (1, .v (.int .i64 p)), (7, .lst .no 1 (eA M)), (8, .v (.int .i64 (i : Int))), (9, .v (.bool gd)), (10, .v (.int .i64 ((j : Int) - 1))), (29, .v (.bool false))] m2 ?_ ?_
      ·by_cases hq1 : (j : Int) - 1 > (i : Int) - p
       ·have q1 : decide ((j : Int) - 1 > (i : Int) - p) = true := decide_eq_true hq1
        have q2 : decide ((j : Int) - 1 ≥ 0) = false := decide_eq_false (by omega)
        refine go1 (jn @w1 (jn @q1 @q2)) ?_
        exact ⟨rfl, rfl, rfl⟩
       ·have q1 : decide ((j : Int) - 1 > (i : Int) - p) = false := decide_eq_false hq1
        refine go1 (jn @w1 @q1) ?_
        exact ⟨rfl, rfl, rfl⟩
      refine go0 ?_
      refine rcF rfl ?_
      cases z1 : decide (p ≥ 1) with
      | false =>
       rw [z1, Bool.false_and] at hh
       refine go1 @z1 ?_
       refine rcF rfl ?_
       refine go1 @r8 ?_
       exact ⟨l.length - (i + 1), by omega, i + 1, hi1, rfl, hnext hh, rfl, rfl⟩
      | true =>
       rw [z1, Bool.true_and] at hh
       cases z2 : decide ((i : Int) ≥ p) with
       | false =>
        rw [z2, Bool.false_and] at hh
        refine go1 (jn @z1 @z2) ?_
        refine rcF rfl ?_
        refine go1 @r8 ?_
        exact ⟨l.length - (i + 1), by omega, i + 1, hi1, rfl, hnext hh, rfl, rfl⟩
       | true =>
        rw [z2, Bool.true_and] at hh
        have k1 : (!true) = false := rfl
        have k2 : (!false) = true := rfl
        cases gd with
        | true =>
         refine go1 (jn @z1 (jn @z2 @k1)) ?_
         refine rcF rfl ?_
         refine go1 @r8 ?_
         exact ⟨l.length - (i + 1), by omega, i + 1, hi1, rfl, hnext hh, rfl, rfl⟩
        | false =>
         refine go1 (jn @z1 (jn @z2 @k2)) ?_
         refine rcT rfl ?_
         refine go0 ?_
         exact aE rfl (by rw [hv, hhit hh hb]; rfl) (aC hA)
    ·have he : i = l.length := by have := of_decide_eq_false hc; omega
     subst he
     refine go0 ?_
     exact aE rfl (by rw [hv, hnone hb]; rfl) (aC hA)
   ·cases h
  ·cases h
 ·cases h
end
end Go.Proofs.YtmockbddhhmmeaaGreat.Ev

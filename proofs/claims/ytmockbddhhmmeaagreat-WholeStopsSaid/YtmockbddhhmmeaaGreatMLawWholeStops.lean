/- The law WholeBest, walked. -/
import Derived.Test.YtmockbddhhmmeaaGreatMbgkd15
import Derived.Test.YtmockbddhhmmeaaGreatMbgkd18
import Derived.Test.YtmockbddhhmmeaaGreatRows
import Derived.KernelRfl
namespace Go.Proofs.YtmockbddhhmmeaaGreat.Ev
open Go Go.Proofs
set_option maxRecDepth 10000
set_option maxHeartbeats 8000000
set_option linter.unusedVariables false
set_option linter.unusedSimpArgs false
noncomputable section
attribute [local irreducible] Next aW cF Ops bQ
attribute [local irreducible] bE dH eZ eC
attribute [local go_sem] cO bP Option.getD_some cJ aT aV iv kI pJ cCd fA iK dY iW List.cons_append aVs aUj bDj tM aMw rZ uQ kH tE yJ cV kW
theorem bC3 {p : Pn} (h : iO p = true) : p.fit := by
 unfold iO liC at h
 simp only [Bool.and_eq_true, Bool.not_eq_true', decide_eq_true_eq] at h
 obtain ⟨h1, h2, h3, h4, h5, _⟩ := h
 refine ⟨by omega, by omega, by omega, fun t ht => ?_⟩
 obtain ⟨i, hi⟩ := List.getElem?_of_mem ht
 have hlt := (List.getElem?_eq_some_iff.1 hi).1
 have := List.any_eq_false.1 h1 i (List.mem_range.2 (by omega))
 unfold liA at this
 have e : p.tracks.getD i tk0 = t := by rw [List.getD, hi]; rfl
 rw [e] at this
 simp only [decide_eq_true_eq] at this
 omega
theorem aJl {p : Pn} {s : Ss} {l : List In} (h : tL p s l = true) : p.fit ∧ l.length ≤ 60 ∧ p.steps ≤ 300 ∧ ∀ x ∈ l, x.readings.length ≤ 30 ∧ x.weights.length ≤ 30 := by
 unfold tL at h
 simp only [Bool.and_eq_true, Bool.not_eq_true', decide_eq_false_iff_not] at h
 obtain ⟨h1, _, h3, h4, h5⟩ := h
 refine ⟨bC3 h1, by omega, by omega, fun x hx => ?_⟩
 obtain ⟨i, hi⟩ := List.getElem?_of_mem hx
 have hlt := (List.getElem?_eq_some_iff.1 hi).1
 have := List.any_eq_false.1 h5 i (List.mem_range.2 hlt)
 unfold aI9 at this
 have e : l.getD i in0 = x := by rw [List.getD, hi]; rfl
 rw [e] at this
 simp only [Bool.or_eq_true, decide_eq_true_eq, not_or] at this
 omega
theorem bHk {p : Pn} {s : Ss} {l : List In} (hp : pnT p) (hl : ∀ x ∈ l, inT x) (h : tL p s l = true) : aUs p l := by
 obtain ⟨h1, h2, _, h3⟩ := aJl h
 exact ⟨⟨h1, hp.1, hp.2.1, hp.2.2.1, hp.2.2.2⟩, by omega, fun x hx => ⟨⟨by have := h3 x hx; omega, by have := h3 x hx; omega⟩, (hl x hx).1, (hl x hx).2⟩⟩
theorem cEx {m : Mem} {x : Ss} : aR Tryz.prog (m.push cL) 46 (.ptr m.vars.length 0) (.agg x.row) = some (m.push x.row) := by
 rw [eW (cs := x.row) rfl tM (Nat.le_refl _) rfl]
 rfl
open Classical in
def bS8 : Nat → Option (List Nat) := fun
 | 0 => some [1, 2]
 | 1 => some [1, 2, 14]
 | 2 => some [4]
 | 3 => some [1, 2, 6, 7]
 | 4 => some [1, 2, 6, 7, 29]
 | 5 => some [4]
 | 6 => some [1, 2, 6, 8]
 | 7 => some [2, 6, 9]
 | 8 => some [4]
 | _ => none
attribute [go_sem] bS8
end
noncomputable section
attribute [local irreducible] Next aW cF Ops bQ
attribute [local irreducible] bE dH eZ eC
attribute [local go_sem] cO bP Option.getD_some cJ aT aV iv kI pJ cCd fA iK dY iW List.cons_append aVs aUj bDj tM aMw sE lK qC vK jR aX9 aCe aXy nF aBc cV kW xF dN aKy aKx aD8 aF2 vS bQk bE7 aUl
open Classical in
def wStopsG : List AV → Mem → Option (AV × Mem)
 | [.agg ps, .lst _ 2 rows], m =>
  match iH ps, aAn rows with
  | some p, some l => if pnT p ∧ ∀ x ∈ l, inT x then some (.v (.bool true), m) else none
  | _, _ => none
 | _, _ => none
theorem bCb {V : List Kt} {i : Nat} (h : i < V.length) : cG (gH (V.take i)) ++ [[.v (.int .i64 (V.getD i kt0).val)]] = cG (gH (V.take (i + 1))) := by
 rw [bK0 (d := kt0) h]
 unfold gH
 rw [List.map_append, ← bK2]
 rfl
theorem bOn {p : Pn} {l : List In} (hl : ∀ x ∈ l, inT x) : ∀ v ∈ gH (mV p p.stopAt l), inI v := by
 intro v hv
 obtain ⟨k, hk, rfl⟩ := List.mem_map.1 hv
 exact aXg (fun x hx => (hl x hx).1) _ k hk
def cC : Nat → Option (List Nat) := fun
 | 0 => some [1, 2]
 | 1 => some [1, 2, 21]
 | 2 => some [4]
 | 3 => some [1, 2, 5, 6, 7]
 | 4 => some [1, 2, 5, 6, 31]
 | 5 => some [4]
 | 6 => some [1, 2, 5, 6, 8]
 | 7 => some [1, 2, 5, 6, 8, 9]
 | 8 => some [1, 2, 5, 6, 8, 9, 10]
 | 9 => some [1, 2, 5, 6, 8, 9, 10, 42]
 | 10 => some [1, 2, 5, 6, 8, 9, 10]
 | 11 => some [1, 2, 5, 6, 8, 9, 10]
 | 12 => some [1, 2, 5, 6, 8, 9, 11]
 | 13 => some [1, 2, 5, 6, 8, 9, 11, 55]
 | 14 => some [1, 2, 5, 6, 8, 11]
 | 15 => some [1, 2, 5, 6, 8, 11, 72]
 | 16 => some [4]
 | 17 => some [1, 2, 5, 6, 104]
 | 18 => some [4]
 | 19 => some [4]
 | _ => none
attribute [go_sem] cC
def qQ : List (FuncId × (List AV → Mem → Option (AV × Mem))) := [(6, aLn), (7, bUg), (8, bJw), (9, aOv), (10, aGc)]
theorem wStops_ok : aO Tryz.prog 3 wStopsG := by
 have hC := aI (P := Tryz.prog) (l := qQ) (aA bQ3 (aA bAu (aA bRr (aA bSo (aA bHn aF)))))
 have t1 := taT qQ 6 rfl
 have t2 := taT qQ 7 rfl
 have t3 := taT qQ 8 rfl
 have t4 := taT qQ 9 rfl
 have t5 := taT qQ 10 rfl
 refine dJ Tryz.func3 rfl false rfl fun args m r h => ?_
 unfold wStopsG at h
 split at h
 ·rename_i ps gl rows
  split at h
  ·rename_i p l hp0 hl0
   obtain rfl := bZ hp0
   obtain rfl := oA hl0
   split at h
   ·rename_i hd
    obtain ⟨hp, hl⟩ := hd
    simp only [Option.some.injEq] at h
    subst h
    refine ⟨nbT, fun φ wd => ?_⟩
    refine en ?_
    have v2 : (m.push p.row).var m.vars.length = some p.row := aJ
    have hA := aG (cs := p.row) (aM m)
    have cy := bYz
    refine xq ?_
    refine aB (kp := cC) mixed hC ?_
    refine go0 ?_
    refine xq ?_
    generalize m.push p.row = m2 at v2 hA
    generalize m.vars.length = r2 at v2
    have l1 := qB v2
    have l2 := pQ v2
    have c1 := bRl p ss0 l .no
    have k1 : (!true) = false := rfl
    have k2 : (!false) = true := rfl
    cases hs : tL p ss0 l with
    | false =>
     rw [hs] at c1
     refine aB (kp := cC) mixed hC ?_
     refine go1 (jn @l1 (jn @t1 (jn @c1 @k2))) ?_
     refine xq ?_
     refine xcT rfl ?_
     refine xq ?_
     refine aB (kp := cC) mixed hC ?_
     refine go1 (jn @t2 @cy) ?_
     refine xq ?_
     exact aX (aE rfl rfl (aC hA))
    | true =>
     rw [hs] at c1
     cases hsw : (p.swaEvery != 0) with
     | true =>
      refine aB (kp := cC) mixed hC ?_
      refine go1 (jn @l1 (jn @t1 (jn @c1 (jn @k1 (jn @l2 @hsw))))) ?_
      refine xq ?_
      refine xcT rfl ?_
      refine xq ?_
      refine aB (kp := cC) mixed hC ?_
      refine go1 (jn @t2 @cy) ?_
      refine xq ?_
      exact aX (aE rfl rfl (aC hA))
     | false =>
      have hsw0 : p.swaEvery = 0 := by simpa using hsw
      obtain ⟨_, hl60, hst300, _⟩ := aJl hs
      have c3 := bNu (g := .no) (bHk hp hl hs)
      have hlaw := bHp (p := p) (l := l) hsw0
      generalize pW p l = Y at c3 hlaw
      obtain ⟨S, T, E⟩ := Y
      dsimp only at c3 hlaw
      refine aB (kp := cC) mixed hC ?_
      refine go1 (jn @l1 (jn @t1 (jn @c1 (jn @k1 (jn @l2 @hsw))))) ?_
      refine xq ?_
      refine xcF rfl ?_
      have st := cEx (m := m2) (x := S)
      have v6 : (m2.push S.row).var m2.vars.length = some S.row := aJ
      have u2 := aQ (cs' := S.row) v2
      have hA3 := aG (cs := S.row) hA
      refine xq ?_
      refine aB (kp := cC) mixed hC ?_
      refine go1 (jn @l1 (jn @t3 (jn @c3 @st))) ?_
      refine xq ?_
      generalize m2.push S.row = m3 at v6 u2 hA3 ⊢
      generalize m2.vars.length = r6 at v6 ⊢
      clear l1 l2
      have l1 := qB u2
      have l2 := rO u2
      cases he : (E != 0) with
      | true =>
       refine aB (kp := cC) mixed hC ?_
       refine go1 @he ?_
       refine xq ?_
       refine xcT rfl ?_
       refine xq ?_
       refine aB (kp := cC) mixed hC ?_
       refine go1 (jn @he (jn @t2 @cy)) ?_
       refine xq ?_
       exact aX (aE rfl rfl (aC hA3))
      | false =>
       have hE : E = 0 := by simpa using he
       obtain ⟨hpl, hcase⟩ := hlaw hE
       have hparts := dD hpl
       have hmet : p.stopAt < p.metrics := by
        by_cases ha : p.stopAt ≥ 0
        ·exact (wG hpl ha).1
        ·have := hparts.2.2.1
         omega
       refine aB (kp := cC) mixed hC ?_
       refine go1 @he ?_
       refine xq ?_
       refine xcF rfl ?_
       have c4 := bPq (p := p) (a := p.stopAt) (l := l) (g := .no) ⟨by omega, hmet⟩
       have hvin := bOn (p := p) hl
       have hvl : (mV p p.stopAt l).length ≤ 60 := by
        have := aBd p p.stopAt l (min l.length p.steps.toNat)
        unfold mV
        omega
       have hplace : lF p (mV p p.stopAt l) = if p.stopAt ≥ 0 then pP (gH (mV p p.stopAt l)) p.stop.Patience (sQ p) else -1 := rfl
       generalize mV p p.stopAt l = V at c4 hvin hvl hcase hplace
       refine xq ?_
       refine aB (kp := cC) mixed hC ?_
       refine go1 (jn @l1 (jn @l2 (jn @t4 @c4))) ?_
       refine xq ?_
       refine aB (kp := cC) mixed hC ?_
       refine go0 ?_
       refine xq ?_
       refine aB (kp := cC) mixed hC ?_
       refine go0 ?_
       refine xq ?_
       have hG : mL m .full m3 := ⟨m, .inl ⟨rfl, rfl⟩, hA3⟩
       refine wZ (fun k e m' F => ∃ (i : Nat) (g : Grow), i ≤ V.length ∧ F = [] ∧ mL m g m' ∧ m'.var r2 = some p.row ∧ m'.var r6 = some S.row ∧ k = V.length - i ∧
        e = [(1, AV.lst gl 2 (iQ l)), (2, .ptr r2 0), (5, .lst .no 6 (kU T)), (6, .ptr r6 0), (8, .lst .no 2 (bR V)), (9, .lst g 1 (cG (gH (V.take i)))), (10, .v (.int .i64 (i : Int)))]) (k := V.length) ⟨0, _, Nat.zero_le _, rfl, hG, u2, v6, rfl, rfl⟩ ?_
       rintro k e m' F ⟨i, g, hi, rfl, hG1, w2, w6, rfl, rfl⟩
       refine xq ?_
       refine aB (kp := cC) mixed hC ?_
       refine go0 ?_
       refine xq ?_
       refine cK rfl (fun hc => ?_) (fun hc => ?_)
       ·have hi1 : i < V.length := by have := of_decide_eq_true hc; omega
        have f1 := bK6 (g := .no) (kk := .i64) hi1
        have r10 := cP (i := i) (by omega)
        have hnx := bCb hi1
        generalize V.getD i kt0 = y at f1 hnx
        have htl : (gH (V.take i)).length ≤ 60 := by unfold gH; rw [List.length_map, List.length_take]; omega
        obtain ⟨g5, m6, a1, hG6, hv6⟩ := nQ (t := 42) (t2 := 42) sI hG1 (xs := cG (gH (V.take i))) (y := .lst .full 1 [[.v (.int .i64 y.val)]]) dC (by unfold lim; simp only [dN, List.length_cons, List.length_nil]; omega)
        rw [hnx] at a1
        refine xq ?_
        refine aB (kp := cC) mixed hC ?_
        refine go1 (jn @f1 @a1) ?_
        refine xq ?_
        refine aB (kp := cC) mixed hC ?_
        refine go1 @r10 ?_
        refine xq ?_
        exact ⟨V.length - (i + 1), by omega, i + 1, g5, hi1, rfl, hG6, by rw [hv6]; exact w2, by rw [hv6]; exact w6, rfl, rfl⟩
       ·have hi1 : i = V.length := by have := of_decide_eq_false hc; omega
        subst hi1
        rw [List.take_length]
        have b1 := rO w2
        have b2 := nS w2
        have b3 := aZr w2
        have b4 := aCw w2
        have b5 := aW5 w2
        have b6 := lD w2
        have b7 := rY w6
        have b8 := aHv w6
        have c5 := fun (ha : p.stopAt ≥ 0) => bLk (g := .no) (l := gH V) (p := p.stop.Patience) (r := sQ p) ⟨hvin, hp.2.2.1, by unfold gH; rw [List.length_map]; omega, by have := wG hpl ha; omega, by have := wG hpl ha; omega⟩
        unfold sQ at c5
        refine xq ?_
        refine aB (kp := cC) mixed hC ?_
        refine go0 ?_
        refine xq ?_
        rcases hcase with ⟨a, e1, e2, e3, e4, e5, e6, e7⟩ | ⟨e1, e2, e3, e4⟩ | ⟨e1, e2, e3, e4⟩
        ·have ha : p.stopAt ≥ 0 := by
          by_cases ha : p.stopAt ≥ 0
          ·exact ha
          ·rw [if_neg ha] at hplace
           omega
         have c5 := c5 ha
         rw [if_pos ha, e1] at hplace
         have hpl2 : pP (gH V) p.stop.Patience ⟨p.stop.Max, p.stop.Delta, p.stop.Rel⟩ = (a : Int) := hplace.symm
         rw [hpl2] at c5
         have q1 : decide (p.stopAt ≥ 0) = true := decide_eq_true ha
         refine aB (kp := cC) mixed hC ?_
         refine go1 (jn @b1 @q1) ?_
         refine xq ?_
         refine xcT rfl ?_
         refine xq ?_
         refine aB (kp := cC) mixed hC ?_
         refine go1 (jn @b2 (jn @b3 (jn @b4 (jn @b5 (jn @t5 @c5))))) ?_
         refine xq ?_
         have q2 : decide ((a : Int) ≥ 0) = true := decide_eq_true (Int.natCast_nonneg a)
         have f1 := bK6 (g := .no) (kk := .i64) e2
         rw [e3] at b7
         rw [e4] at b8
         generalize V.getD a kt0 = y at f1 e5 e6 e7 b8
         have w1 : IntKind.i64.wrap (y.step + 1) = y.step + 1 := fC (by omega) (by omega)
         have q3 : ((2 : Int) == 2) = true := rfl
         have q4 : (y.step == y.step) = true := by simp
         have q5 : ((T.length : Int) == y.step + 1) = true := by rw [e5]; simp
         refine aB (kp := cC) mixed hC ?_
         refine go1 @q2 ?_
         refine xq ?_
         refine xcT rfl ?_
         refine xq ?_
         refine bN (l2 := cC 16) mixed hC (by kernel_rfl) ?_
         refine eJ (jn @b7 (jn @b8 (jn @q3 (jn @f1 (jn @q4 (jn @w1 (jn @q5 (jn @t2 @cy)))))))) ?_
         refine xq ?_
         exact aX (aE rfl rfl (eP hG1))
        ·have q2 : decide ((-1 : Int) ≥ 0) = false := rfl
         rw [e3] at b7
         have q3 : ((1 : Int) == 1) = true := rfl
         have q4 : decide (((l.length : Nat) : Int) ≥ p.steps) = true := decide_eq_true e2
         have q5 : (((T.length : Nat) : Int) == p.steps) = true := by rw [e4]; simp
         rw [e1] at hplace
         cases q1 : decide (p.stopAt ≥ 0) with
         | true =>
          have ha := of_decide_eq_true q1
          have c5 := c5 ha
          rw [if_pos ha] at hplace
          have hpl2 : pP (gH V) p.stop.Patience ⟨p.stop.Max, p.stop.Delta, p.stop.Rel⟩ = -1 := hplace.symm
          rw [hpl2] at c5
          refine aB (kp := cC) mixed hC ?_
          refine go1 (jn @b1 @q1) ?_
          refine xq ?_
          refine xcT rfl ?_
          refine xq ?_
          refine aB (kp := cC) mixed hC ?_
          refine go1 (jn @b2 (jn @b3 (jn @b4 (jn @b5 (jn @t5 @c5))))) ?_
          refine xq ?_
          refine aB (kp := cC) mixed hC ?_
          refine go1 @q2 ?_
          refine xq ?_
          refine xcF rfl ?_
          refine xq ?_
          refine aB (kp := cC) mixed hC ?_
          refine go1 (jn @b6 @q4) ?_
          refine xq ?_
          refine xcT rfl ?_
          refine xq ?_
          refine aB (kp := cC) mixed hC ?_
          refine go1 (jn @b7 (jn @q3 (jn @b6 (jn @q5 (jn @t2 @cy))))) ?_
          refine xq ?_
          exact aX (aE rfl rfl (eP hG1))
         | false =>
          refine aB (kp := cC) mixed hC ?_
          refine go1 (jn @b1 @q1) ?_
          refine xq ?_
          refine xcF rfl ?_
          refine xq ?_
          refine aB (kp := cC) mixed hC ?_
          refine go1 @q2 ?_
          refine xq ?_
          refine xcF rfl ?_
          refine xq ?_
          refine aB (kp := cC) mixed hC ?_
          refine go1 (jn @b6 @q4) ?_
          refine xq ?_
          refine xcT rfl ?_
          refine xq ?_
          refine aB (kp := cC) mixed hC ?_
          refine go1 (jn @b7 (jn @q3 (jn @b6 (jn @q5 (jn @t2 @cy))))) ?_
          refine xq ?_
          exact aX (aE rfl rfl (eP hG1))
        ·have q2 : decide ((-1 : Int) ≥ 0) = false := rfl
         rw [e3] at b7
         have q3 : ((0 : Int) == 0) = true := rfl
         have q4 : decide (((l.length : Nat) : Int) ≥ p.steps) = false := decide_eq_false e2
         have q5 : (((T.length : Nat) : Int) == ((l.length : Nat) : Int)) = true := by rw [e4]; simp
         rw [e1] at hplace
         cases q1 : decide (p.stopAt ≥ 0) with
         | true =>
          have ha := of_decide_eq_true q1
          have c5 := c5 ha
          rw [if_pos ha] at hplace
          have hpl2 : pP (gH V) p.stop.Patience ⟨p.stop.Max, p.stop.Delta, p.stop.Rel⟩ = -1 := hplace.symm
          rw [hpl2] at c5
          refine aB (kp := cC) mixed hC ?_
          refine go1 (jn @b1 @q1) ?_
          refine xq ?_
          refine xcT rfl ?_
          refine xq ?_
          refine aB (kp := cC) mixed hC ?_
          refine go1 (jn @b2 (jn @b3 (jn @b4 (jn @b5 (jn @t5 @c5))))) ?_
          refine xq ?_
          refine aB (kp := cC) mixed hC ?_
          refine go1 @q2 ?_
          refine xq ?_
          refine xcF rfl ?_
          refine xq ?_
          refine aB (kp := cC) mixed hC ?_
          refine go1 (jn @b6 @q4) ?_
          refine xq ?_
          refine xcF rfl ?_
          refine xq ?_
          refine aB (kp := cC) mixed hC ?_
          refine go1 (jn @b7 (jn @q3 (jn @b6 (jn @q5 (jn @t2 @cy))))) ?_
          refine xq ?_
          exact aX (aE rfl rfl (eP hG1))
         | false =>
          refine aB (kp := cC) mixed hC ?_
          refine go1 (jn @b1 @q1) ?_
          refine xq ?_
          refine xcF rfl ?_
          refine xq ?_
          refine aB (kp := cC) mixed hC ?_
          refine go1 @q2 ?_
          refine xq ?_
          refine xcF rfl ?_
          refine xq ?_
          refine aB (kp := cC) mixed hC ?_
          refine go1 (jn @b6 @q4) ?_
          refine xq ?_
          refine xcF rfl ?_
          refine xq ?_
          refine aB (kp := cC) mixed hC ?_
          refine go1 (jn @b7 (jn @q3 (jn @b6 (jn @q5 (jn @t2 @cy))))) ?_
          refine xq ?_
          exact aX (aE rfl rfl (eP hG1))
   ·cases h
  ·cases h
 ·cases h
end
end Go.Proofs.YtmockbddhhmmeaaGreat.Ev
namespace Go.Proofs.YtmockbddhhmmeaaGreat.wholeStops
open Go Go.Proofs Go.ChangeShapes Go.WideShapes Go.ChangeAt Go.RowKit
set_option linter.unusedVariables false
theorem own : ownKnob Tryz.prog.godebug = none := by kernel_rfl
theorem laid : laidOutB Tryz.prog = true := by kernel_rfl
theorem bIq {H : Type} : ∀ ds : List (DataW H), ds.length = 2 → Rows.wholeStopsSpec.fn H ds = { results := [.lit (.bool true)], args := ds }
 | [d0, d1], _ => rfl
set_option maxRecDepth 100000 in
theorem bRj : ∀ vs, Ev.TypedAll Tryz.prog 12 [34, 35] vs → ∃ m', Ev.wStopsG vs ⟨[], []⟩ = some (.v (.bool true), m') := by
 rintro (_ | ⟨a, _ | ⟨b, _ | ⟨x, r⟩⟩⟩) h
 ·exact h.elim
 ·exact h.2.elim
 ·obtain ⟨h0, h1, _⟩ := h
  obtain ⟨p, hp, rfl⟩ := Ev.arg_pn h0
  obtain ⟨l, hl, rfl⟩ := Ev.arg_ins h1
  refine ⟨⟨[], []⟩, ?_⟩
  simp only [Ev.wStopsG, Ev.unPn_row, Ev.unsIn_rowsIn]
  exact if_pos ⟨hp, hl⟩
 ·exact h.2.2.elim
set_option maxRecDepth 100000 in
theorem bZf (os : Os) (started : os.Started) (H : Type) (enc : TypeId × Value → H) :
  ReturnsInHanded {} Tryz.checked os 3 .any (Rows.wholeStopsSpec.pre6 enc Tryz.prog Tryz.f3 Rows.wholeStopsRow.domain false) (Rows.wholeStopsSpec.post enc Tryz.prog Tryz.f3 false true false false) :=
 Ev.law_lifted (C := Tryz.checked) own started (by kernel_rfl) Tryz.func3
  (ChangeSpec.witness6 (enc := enc) (C := Tryz.checked) false ⟨#[], #[.agg #[.int .i64 0, .int .i64 0, .int .i64 0, .int .i64 0, .int .i64 0, .slice none 0 0, .slice none 0 0, .slice none 0 0, .bool false, .string ⟨#[]⟩, .bool false, .int .i64 0, .int .i64 0, .bool false, .bool false, .string ⟨#[]⟩, .bool false, .int .i64 0, .int .i64 0, .int .i64 0, .int .i64 0, .int .i64 0, .bool false, .string ⟨#[]⟩, .bool false, .int .i64 0, .bool false, .int .i64 0, .int .i64 0, .int .i64 0, .int .i64 0, .int .i64 0, .int .i64 0], .slice none 0 0], []⟩ 3 (by kernel_rfl) (by kernel_rfl) (by kernel_rfl) (by kernel_rfl))
  laid rfl [34, 35] Tryz.params3 12 (by kernel_rfl) (tb := 4) rfl Tryz.underlying4 bIq Ev.wStops_ok bRj
theorem over : Rows.wholeStopsRow.holds Tryz.pinned (OpenSpec.ofChange Rows.wholeStopsSpec) :=
 OpenClaim.holds_of_wide 3 Tryz.f3 rfl rfl rfl rfl rfl rfl rfl ⟨rfl, rfl, rfl, rfl, rfl⟩ rfl rfl rfl rfl rfl (by kernel_rfl) Tryz.func3 (by kernel_rfl)
  (of_decide_eq_true (by kernel_rfl)) (by unfold Func.isWrapper; first | (rw [if_pos (by decide +kernel)]; kernel_rfl) | (rw [if_neg (by decide +kernel)]; exact ⟨rfl, rfl⟩))
  (fun os started H enc _ => bZf os started H enc)
theorem proved : Rows.WholeStopsSaid := over
end Go.Proofs.YtmockbddhhmmeaaGreat.wholeStops
namespace Go.Proofs.YtmockbddhhmmeaaGreat
/-- The row, under a short name, for the claim. -/
theorem wholeStops_holds : Rows.WholeStopsSaid := wholeStops.proved
end Go.Proofs.YtmockbddhhmmeaaGreat

/- What was seen. -/
import Derived.Test.YtmockbddhhmmeaaGreatMbgkd14
import Derived.Test.YtmockbddhhmmeaaGreatMbgkd1
import Derived.Test.YtmockbddhhmmeaaGreatMa4
import Derived.Test.YtmockbddhhmmeaaGreatMa5
namespace Go.Proofs.YtmockbddhhmmeaaGreat.Ev
open Go Go.Proofs
set_option maxRecDepth 10000
set_option maxHeartbeats 8000000
set_option linter.unusedVariables false
set_option linter.unusedSimpArgs false
noncomputable section
attribute [local irreducible] Next aW cF Ops bQ
attribute [local irreducible] bE dH eZ eC
attribute [local go_sem] cO bP Option.getD_some cJ aT aV iv kI pJ fA iK dY iW List.cons_append vU lK sR vW nF kW xI aGx aEe bEh bGr bE8 bFn bW8 cV
def bNt : Nat → Option (List Nat) := fun
 | 0 => some [1]
 | 1 => some [1, 5]
 | 2 => some [2]
 | 3 => some [2]
 | _ => none
attribute [go_sem] bNt
/-! ### Looked -/
def iG (p : Pn) (i : Int) : Bool := decide (p.eval > 0) && (i.tmod p.eval == IntKind.i64.wrap (p.eval - 1))
def aE6 : List AV → Mem → Option (AV × Mem)
 | [.agg ps, .v (.int .i64 i)], m =>
  match iH ps with
  | some p => some (.v (.bool (iG p i)), m)
  | none => none
 | _, _ => none
theorem bIh (p : Pn) (i : Int) (m : Mem) : aE6 [.agg p.row, .v (.int .i64 i)] m = some (.v (.bool (iG p i)), m) := by
 simp only [aE6, unPn_row]
def aNv : Nat → Option (List Nat) := fun
 | 0 => some [1, 2]
 | 1 => some [4]
 | _ => none
attribute [go_sem] aNv
theorem bIz : aO Tryz.prog 25 aE6 := by
 have hC := aI (P := Tryz.prog) (l := []) aF
 refine aP mixed hC Tryz.func25 rfl aNv false rfl fun args m r h => ?_
 unfold aE6 at h
 split at h
 ·rename_i ps i
  split at h
  ·rename_i p hp0
   obtain rfl := bZ hp0
   simp only [Option.some.injEq] at h
   subst h
   refine ⟨nbT, ?_⟩
   refine en ?_
   have v1 : (m.push p.row).var m.vars.length = some p.row := aJ
   have hA := aG (cs := p.row) (aM m)
   refine go0 ?_
   generalize m.push p.row = m1 at v1 hA
   generalize m.vars.length = r1 at v1
   have l1 := vT v1
   unfold iG
   repeat refine dI ?_
   refine cU (kp := aNv) (by kernel_rfl) (by kernel_rfl) ?_
   cases h1 : decide (p.eval > 0) with
   | false =>
    refine go1 (jn @l1 @h1) ?_
    exact aE rfl rfl (aC hA)
   | true =>
    have hz : (p.eval = 0) = False := eq_false (by have := of_decide_eq_true h1; omega)
    refine go1 (jn @l1 (jn @h1 @hz)) ?_
    exact aE rfl rfl (aC hA)
  ·cases h
 ·cases h
/-! ### seen -/
def wI (p : Pn) (a : Int) (x : In) (i : Nat) : Bool := decide (a ≥ 0) && (iG p (i : Int) && (x.readings.getD a.toNat rd0).has)
def eH (p : Pn) (a : Int) (l : List In) : Nat → List Kt × Bool
 | 0 => ([], false)
 | i + 1 => if (eH p a l i).2 = true then eH p a l i else if ((l.getD i in0).readings.length : Int) ≠ p.metrics then ((eH p a l i).1, true) else
  if wI p a (l.getD i in0) i = true then ((eH p a l i).1 ++ [⟨i, ((l.getD i in0).readings.getD a.toNat rd0).val⟩], false) else ((eH p a l i).1, false)
theorem bBy {p : Pn} {a : Int} {l : List In} {i : Nat} (h : (eH p a l i).2 = true) : ∀ n, i ≤ n → eH p a l n = eH p a l i := by
 intro n
 induction n with
 | zero => intro hn; rw [show i = 0 by omega]
 | succ n ih =>
  intro hn
  by_cases he : i = n + 1
  ·rw [he]
  ·have e := ih (by omega)
   rw [eH, e, if_pos h]
theorem aBd (p : Pn) (a : Int) (l : List In) : ∀ n, (eH p a l n).1.length ≤ n
 | 0 => Nat.le_refl _
 | n + 1 => by
  have := aBd p a l n
  rw [eH]
  split
  ·omega
  ·split
   ·show (eH p a l n).1.length ≤ n + 1
    omega
   ·split
    ·rw [List.length_append]
     simp
     omega
    ·show (eH p a l n).1.length ≤ n + 1
     omega
def mV (p : Pn) (a : Int) (l : List In) : List Kt := (eH p a l (min l.length p.steps.toNat)).1
def aOv : List AV → Mem → Option (AV × Mem)
 | [.agg ps, .v (.int .i64 a), .lst _ 2 rows], m =>
  match iH ps, aAn rows with
  | some p, some l => if l.length ≤ 1000000 ∧ a < p.metrics then some (.lst .no 2 (bR (mV p a l)), m) else none
  | _, _ => none
 | _, _ => none
theorem bPq {p : Pn} {a : Int} {l : List In} {g : Grow} (h : l.length ≤ 1000000 ∧ a < p.metrics) (m : Mem) : aOv [.agg p.row, .v (.int .i64 a), .lst g 2 (iQ l)] m = some (.lst .no 2 (bR (mV p a l)), m) := by
 simp only [aOv, unPn_row, unsIn_rowsIn]
 exact if_pos h
theorem bOi : bG Tryz.prog 41 0 [] = some (.lst .full 2 []) := by kernel_rfl
attribute [local go_sem] bOi
def aUw : Nat → Option (List Nat) := fun
 | 0 => some [1, 2, 3]
 | 1 => some [1, 2, 3, 7]
 | 2 => some [1, 2, 3, 7, 8]
 | 3 => some [1, 2, 3, 7, 8, 19]
 | 4 => some [1, 2, 3, 7, 8]
 | 5 => some [1, 2, 3, 7, 8, 30]
 | 6 => some [6]
 | 7 => some [1, 2, 3, 7, 8, 49]
 | 8 => some [1, 2, 3, 7, 8]
 | 9 => some [6]
 | _ => none
attribute [go_sem] aUw
def aEj : List (FuncId × (List AV → Mem → Option (AV × Mem))) := [(25, aE6)]
theorem bSo : aO Tryz.prog 9 aOv := by
 have hC := aI (P := Tryz.prog) (l := aEj) (aA bIz aF)
 have t1 := taT aEj 25 rfl
 refine aP mixed hC Tryz.func9 rfl aUw false rfl fun args m r h => ?_
 unfold aOv at h
 split at h
 ·rename_i ps a gl rows
  split at h
  ·rename_i p l hp0 hl0
   obtain rfl := bZ hp0
   obtain rfl := oA hl0
   split at h
   ·rename_i hd
    obtain ⟨hlen, ham⟩ := hd
    simp only [Option.some.injEq] at h
    subst h
    refine ⟨nbT, ?_⟩
    refine en ?_
    have v1 : (m.push p.row).var m.vars.length = some p.row := aJ
    have hG := zZ (cs := p.row) (oV (m := m))
    refine go0 ?_
    generalize m.push p.row = m1 at v1 hG
    generalize m.vars.length = r1 at v1
    have hend : mV p a l = (eH p a l (min l.length p.steps.toNat)).1 := rfl
    have hsl := aBd p a l
    refine cE (fun k e m' => ∃ (i : Nat) (acc : List Kt) (g : Grow), i ≤ min l.length p.steps.toNat ∧ eH p a l i = (acc, false) ∧ mL m g m' ∧ m'.var r1 = some p.row ∧ k = min l.length p.steps.toNat - i ∧
     e = [(1, AV.v (.int .i64 a)), (2, .lst gl 2 (iQ l)), (3, .ptr r1 0), (7, .lst g 2 (bR acc)), (8, .v (.int .i64 (i : Int)))]) (k := min l.length p.steps.toNat) ⟨0, [], _, Nat.zero_le _, rfl, hG, v1, rfl, rfl⟩ ?_
    rintro k e m' ⟨i, acc, g, hi, hs, hG', v1', rfl, rfl⟩
    have l1 := lD v1'
    have l2 := sS v1'
    have l3 := qB v1'
    have hal : acc.length ≤ i := by have := hsl i; rw [hs] at this; exact this
    by_cases hi1 : i < min l.length p.steps.toNat
    ·have k1 : decide ((i : Int) < (l.length : Int)) = true := decide_eq_true (by omega)
     have k2 : decide ((i : Int) < p.steps) = true := decide_eq_true (by omega)
     refine go1 (jn @l1 (jn @k1 @k2)) ?_
     refine rcT rfl ?_
     have f1 := bZ0 (g := gl) (kk := .i64) (l := l) (i := i) (by omega)
     have r6 := cP (i := i) (by omega)
     have hN : eH p a l (i + 1) = if ((l.getD i in0).readings.length : Int) ≠ p.metrics then (acc, true) else if wI p a (l.getD i in0) i = true then (acc ++ [⟨i, ((l.getD i in0).readings.getD a.toNat rd0).val⟩], false) else (acc, false) := by
      rw [eH, hs, if_neg (by simp)]
     generalize l.getD i in0 = x at f1 hN
     refine go0 ?_
     repeat refine dI ?_
     refine cU (kp := aUw) (by kernel_rfl) (by kernel_rfl) ?_
     refine go1 (jn @f1 @l2) ?_
     refine aH rfl (fun hc => ?_) (fun hc => ?_)
     ·have hne : (x.readings.length : Int) ≠ p.metrics := by simpa using hc
      rw [if_pos hne] at hN
      refine go0 ?_
      exact dA rfl (by rw [hend, bBy (i := i + 1) (by rw [hN]) _ hi1, hN]; rfl) (eP hG')
     ·have heq : (x.readings.length : Int) = p.metrics := by simpa using hc
      rw [if_neg (by simpa using heq)] at hN
      have cl := bIh p (i : Int)
      have same : wI p a x i = false → eH p a l (i + 1) = (acc, false) := fun hh => by rw [hN, if_neg (by rw [hh]; decide)]
      have hh0 : wI p a x i = (decide (a ≥ 0) && (iG p (i : Int) && (x.readings.getD a.toNat rd0).has)) := rfl
      cases h1 : decide (a ≥ 0) with
      | false =>
       refine go1 @h1 ?_
       refine rcF rfl ?_
       refine go1 @r6 ?_
       exact ⟨min l.length p.steps.toNat - (i + 1), by omega, i + 1, acc, g, hi1, same (by rw [hh0, h1]; rfl), hG', v1', rfl, rfl⟩
      | true =>
       have ha0 := of_decide_eq_true h1
       obtain ⟨q, rfl⟩ := Int.eq_ofNat_of_zero_le ha0
       cases h2 : iG p (i : Int) with
       | false =>
        rw [h2] at cl
        refine go1 (jn @h1 (jn @l3 (jn @t1 @cl))) ?_
        refine rcF rfl ?_
        refine go1 @r6 ?_
        exact ⟨min l.length p.steps.toNat - (i + 1), by omega, i + 1, acc, g, hi1, same (by rw [hh0, h2]; simp), hG', v1', rfl, rfl⟩
       | true =>
        rw [h2] at cl
        have f2 := bV1 (g := .no) (kk := .i64) (l := x.readings) (i := q) (by omega)
        rw [Int.toNat_natCast] at hh0 hN
        generalize x.readings.getD q rd0 = y at f2 hh0 hN
        cases h3 : y.has with
        | false =>
         refine go1 (jn @h1 (jn @l3 (jn @t1 (jn @cl (jn @f1 (jn @f2 @h3)))))) ?_
         refine aH rfl (fun hc => by first | (cases hc; done) | (rw [h3] at hc; cases hc)) (fun hc => ?_)
         refine go1 @r6 ?_
         exact ⟨min l.length p.steps.toNat - (i + 1), by omega, i + 1, acc, g, hi1, by rw [hN, if_neg (by rw [hh0, h3]; simp)], hG', v1', rfl, rfl⟩
        | true =>
         refine go1 (jn @h1 (jn @l3 (jn @t1 (jn @cl (jn @f1 (jn @f2 @h3)))))) ?_
         refine aH rfl (fun hc => ?_) (fun hc => by first | (cases hc; done) | (rw [h3] at hc; cases hc))
         obtain ⟨g2, m6, a1, hG6, hv6⟩ := nQ (t := 41) (t2 := 41) aYe hG' (xs := bR acc) (y := .lst .full 2 (bR [⟨(i : Int), y.val⟩])) dC (by have h1 := cV acc; have h2 := cV [⟨(i : Int), y.val⟩]; unfold lim; simp only [List.length_cons, List.length_nil] at h2; omega)
         rw [bCk] at a1
         have mk := cBy (x := ⟨(i : Int), y.val⟩)
         refine go1 (jn @f1 (jn @f2 (jn @mk (jn @a1 @r6)))) ?_
         exact ⟨min l.length p.steps.toNat - (i + 1), by omega, i + 1, acc ++ [⟨i, y.val⟩], g2, hi1, by rw [hN, if_pos (by rw [hh0, h1, h2, h3]; rfl)], hG6, by rw [hv6]; exact v1', rfl, rfl⟩
    ·have he : i = min l.length p.steps.toNat := by omega
     repeat refine dI ?_
     refine uM [(1, AV.v (.int .i64 a)), (2, .lst gl 2 (iQ l)), (3, .ptr r1 0), (7, .lst g 2 (bR acc)), (8, .v (.int .i64 (i : Int))), (19, .v (.bool false))] m' ?_ ?_
     ·by_cases h9 : i < l.length
      ·have k1 : decide ((i : Int) < (l.length : Int)) = true := decide_eq_true (by omega)
       have k2 : decide ((i : Int) < p.steps) = false := decide_eq_false (by omega)
       refine go1 (jn @l1 (jn @k1 @k2)) ?_
       exact ⟨rfl, rfl, rfl⟩
      ·have k1 : decide ((i : Int) < (l.length : Int)) = false := decide_eq_false (by omega)
       refine go1 (jn @l1 @k1) ?_
       exact ⟨rfl, rfl, rfl⟩
     refine go0 ?_
     refine rcF rfl ?_
     refine go0 ?_
     exact dA rfl (by rw [hend, ← he, hs]; rfl) (eP hG')
   ·cases h
  ·cases h
 ·cases h
end
section
attribute [local irreducible] Next aW cF Ops bQ
section
variable {α : Type}
end
section
variable {α : Type}
end
end
noncomputable section
attribute [local irreducible] Next aW cF Ops bQ
attribute [local irreducible] bE dH eZ eC
attribute [local go_sem] cO bP Option.getD_some cJ aT aV iv aCc oD pF List.cons_append zF aKq aD8 aF2 aKy aKx aUt cV bOi
def bP3 : Nat → Option (List Nat) := fun
 | 0 => some [2, 3, 4]
 | 1 => some [3, 4, 7]
 | 2 => some [6]
 | 3 => some [6]
 | _ => none
attribute [go_sem] bP3
/-! ### Best -/
def gV (most : Bool) (y : Kt) : Int := if most = true then -y.val else y.val
def hV (most : Bool) (l : List Kt) (i : Nat) : Int := gV most (l.getD i kt0)
def bUa : Nat → Option (List Nat) := fun
 | 0 => some [0, 1, 2]
 | 1 => some [0, 1, 2, 7]
 | 2 => some [0, 1, 2, 7, 8]
 | 3 => some [0, 1, 2, 7, 8, 21]
 | 4 => some [0, 1, 2, 7, 8]
 | 5 => some [0, 1, 2, 7, 8, 9]
 | 6 => some [0, 1, 2, 7, 8, 9, 27]
 | 7 => some [0, 1, 2, 7, 8, 9]
 | 8 => some [0, 1, 2, 7, 8, 9, 10]
 | 9 => some [0, 1, 2, 7, 8, 9, 10, 11]
 | 10 => some [0, 1, 2, 7, 8, 9, 10, 11, 33]
 | 11 => some [0, 1, 2, 7, 8, 9, 10, 11]
 | 12 => some [0, 1, 2, 7, 8, 9, 10, 11, 63]
 | 13 => some [0, 1, 2, 7, 8, 9, 10, 11]
 | 14 => some [0, 1, 2, 7, 8, 9, 68]
 | 15 => some [0, 1, 2, 7, 8, 9]
 | 16 => some [6]
 | _ => none
attribute [go_sem] bUa
end
section
attribute [local irreducible] Next aW cF Ops bQ
/-! ### what a step does to what is kept -/
theorem aSl (T : Tn) : T.emaT.s.step = T.s.step ∧ T.emaT.s.status = T.s.status := by
 unfold Tn.emaT
 split <;> exact ⟨rfl, rfl⟩
theorem bQu (T : Tn) : T.wts.1.s.step = T.s.step ∧ T.wts.1.s.status = T.s.status := by
 unfold Tn.wts
 split
 ·split
  ·exact ⟨rfl, rfl⟩
  ·exact aSl _
 ·exact aSl _
theorem bC4 (T : Tn) (x : Int) : (T.keeps x).s.step = T.s.step ∧ (T.keeps x).s.status = T.s.status ∧ (T.keeps x).s.kept = (aTn T x).1 := by
 unfold Tn.keeps Tn.keepsY
 split
 ·exact ⟨rfl, rfl, rfl⟩
 ·split <;> exact ⟨rfl, rfl, rfl⟩
theorem bKq (T : Tn) (x : Int) : (T.cuts x).s.step = T.s.step ∧ (T.cuts x).s.status = T.s.status ∧ (T.cuts x).s.kept = T.s.kept := by
 unfold Tn.cuts Tn.cutsY
 split <;> exact ⟨rfl, rfl, rfl⟩
theorem bC8 (T : Tn) (x : Int) : (T.stops x).s.step = T.s.step ∧ ((T.stops x).s.status = T.s.status ∨ (T.stops x).s.status = 2) ∧ (T.stops x).s.kept = T.s.kept := by
 unfold Tn.stops Tn.stopsY
 split
 ·exact ⟨rfl, .inr rfl, rfl⟩
 ·exact ⟨rfl, .inl rfl, rfl⟩
def oR (T : Tn) : List Kt := if (rdP T T.p.keepAt).2 = true then (aTn T (rdP T T.p.keepAt).1).1 else T.s.kept
theorem bIp (T : Tn) : T.look.s.step = T.s.step ∧ (T.look.s.status = T.s.status ∨ T.look.s.status = 2) ∧ T.look.s.kept = oR T := by
 have h1 : T.miss.look1.s.step = T.s.step ∧ T.miss.look1.s.status = T.s.status ∧ T.miss.look1.s.kept = oR T := by
  unfold Tn.look1 oR
  by_cases hb : (rdP T T.p.keepAt).2 = true
  ·rw [if_pos (show (rdP T.miss T.miss.p.keepAt).2 = true from hb), if_pos hb]
   exact bC4 T.miss _
  ·rw [if_neg (show ¬ (rdP T.miss T.miss.p.keepAt).2 = true from hb), if_neg hb]
   exact ⟨rfl, rfl, rfl⟩
 have h2 : T.miss.look1.look2.s.step = T.miss.look1.s.step ∧ T.miss.look1.look2.s.status = T.miss.look1.s.status ∧ T.miss.look1.look2.s.kept = T.miss.look1.s.kept := by
  unfold Tn.look2
  split
  ·exact bKq _ _
  ·exact ⟨rfl, rfl, rfl⟩
 have h3 : T.look.s.step = T.miss.look1.look2.s.step ∧ (T.look.s.status = T.miss.look1.look2.s.status ∨ T.look.s.status = 2) ∧ T.look.s.kept = T.miss.look1.look2.s.kept := by
  unfold Tn.look Tn.look3
  split
  ·exact bC8 _ _
  ·exact ⟨rfl, .inl rfl, rfl⟩
 refine ⟨h3.1.trans (h2.1.trans h1.1), ?_, h3.2.2.trans (h2.2.2.trans h1.2.2)⟩
 rcases h3.2.1 with h | h
 ·exact .inl (h.trans (h2.2.1.trans h1.2.1))
 ·exact .inr h
theorem bIv (T : Tn) : T.run3.s.step = T.s.step ∧ (T.run3.s.status = T.s.status ∨ T.run3.s.status = 1) ∧ T.run3.s.kept = T.s.kept := by
 unfold Tn.run3
 split
 ·exact ⟨rfl, .inl rfl, rfl⟩
 ·split
  ·exact ⟨rfl, .inr rfl, rfl⟩
  ·exact ⟨rfl, .inl rfl, rfl⟩
theorem bAe {T T' : Tn} (hx : T'.x = T.x) (hp : T'.p = T.p) (hk : T'.s.kept = T.s.kept) (hs : T'.step = T.step) : oR T' = oR T := by
 unfold oR rdP aTn
 rw [hx, hp, hk, hs]
/-- A step: it fails, and nothing is kept; or it doesn't. -/
theorem bNx {T : Tn} (h0 : T.s.status = 0) : T.run.s.step = T.s.step ∧ ((T.run.s.status = 3 ∧ T.run.s.kept = T.s.kept) ∨ ((T.run.s.status = 0 ∨ T.run.s.status = 1 ∨ T.run.s.status = 2) ∧ T.run.s.kept = if lX T = true then oR T else T.s.kept)) := by
 obtain ⟨w1, w2⟩ := bQu T.begins
 obtain ⟨e1, e2, e3, _, _, e6⟩ := aNj T.begins
 have hx : T.begins.wts.1.x = T.x := e1
 have hp : T.begins.wts.1.p = T.p := e2
 have hk : T.begins.wts.1.s.kept = T.s.kept := e3
 have hs : T.begins.wts.1.step = T.step := e6
 have hst : T.begins.wts.1.s.status = 0 := w2.trans h0
 have hsp : T.begins.wts.1.s.step = T.s.step := w1
 unfold Tn.run
 split
 ·obtain ⟨r1, r2, r3⟩ := bIv T.begins.wts.1.run2
  have hl : lX T.begins.wts.1 = lX T := by unfold lX; rw [hp, hs]
  have h2 : T.begins.wts.1.run2.s.step = T.s.step ∧ (T.begins.wts.1.run2.s.status = 0 ∨ T.begins.wts.1.run2.s.status = 2) ∧ T.begins.wts.1.run2.s.kept = if lX T = true then oR T else T.s.kept := by
   unfold Tn.run2
   rw [hl]
   split
   ·obtain ⟨l1, l2, l3⟩ := bIp T.begins.wts.1
    refine ⟨l1.trans hsp, ?_, ?_⟩
    ·rcases l2 with h | h
     ·exact .inl (h.trans hst)
     ·exact .inr h
    ·rw [l3, bAe hx hp hk hs]
   ·exact ⟨hsp, .inl hst, hk⟩
  refine ⟨r1.trans h2.1, .inr ⟨?_, r3.trans h2.2.2⟩⟩
  rcases r2 with h | h
  ·rcases h2.2.1 with h3 | h3
   ·exact .inl (h.trans h3)
   ·exact .inr (.inr (h.trans h3))
  ·exact .inr (.inl h)
 ·exact ⟨hsp, .inl ⟨rfl, hk⟩⟩
/-! ### looked, by the two -/
theorem bL6 (i e : Nat) (he : 0 < e) : (i + 1) % e = 0 ↔ i % e = e - 1 := by
 have h1 := Nat.div_add_mod i e
 have h2 := Nat.mod_lt i he
 by_cases h : i % e = e - 1
 ·refine ⟨fun _ => h, fun _ => ?_⟩
  have : i + 1 = e * (i / e + 1) := by rw [Nat.mul_add]; omega
  rw [this]
  exact Nat.mul_mod_right e _
 ·refine ⟨fun hh => ?_, fun hh => absurd hh h⟩
  have e1 : i + 1 = (i % e + 1) + e * (i / e) := by omega
  rw [e1, Nat.add_mul_mod_self_left, Nat.mod_eq_of_lt (by omega)] at hh
  omega
theorem bA4 {T : Tn} {i : Nat} (hi : T.step = (i : Int)) (hi6 : i ≤ 1000000) (he : 0 ≤ T.p.eval ∧ T.p.eval ≤ 1000000) : lX T = iG T.p (i : Int) := by
 unfold lX iG
 rw [hi]
 by_cases h0 : T.p.eval > 0
 ·rw [decide_eq_true h0, Bool.true_and, Bool.true_and]
  obtain ⟨e, hee⟩ := Int.eq_ofNat_of_zero_le he.1
  rw [hee] at h0 he ⊢
  rw [bB (n := (i : Int) + 1) (by omega) (by omega), bB (n := (e : Int) - 1) (by omega) (by omega)]
  have m := bL6 i e (by omega)
  rw [Bool.eq_iff_iff]
  simp only [beq_iff_eq]
  have e1 : ((i : Int) + 1).tmod (e : Int) = (((i + 1) % e : Nat) : Int) := by
   rw [show (i : Int) + 1 = ((i + 1 : Nat) : Int) by omega]
   rfl
  have e2 : (i : Int).tmod (e : Int) = ((i % e : Nat) : Int) := rfl
  rw [e1, e2]
  omega
 ·rw [decide_eq_false h0, Bool.false_and, Bool.false_and]
end
section
attribute [local irreducible] Next aW cF Ops bQ
end
section
attribute [local irreducible] Next aW cF Ops bQ
theorem dO {d : Nat} {p : List AV} (h : dM Tryz.prog (d + 1) 3 p) : ∃ n, inI n ∧ p = [iv n] := by
 unfold dM at h
 rw [Tryz.underlying3] at h
 obtain ⟨n, rfl, n0, n1⟩ := h
 simp [IntKind.min, IntKind.max, IntKind.signed, IntKind.bits] at n0 n1
 exact ⟨n, ⟨n0, n1⟩, rfl⟩
theorem oM {d : Nat} {p : List AV} (h : dM Tryz.prog (d + 1) 4 p) : ∃ b, p = [.v (.bool b)] := by
 unfold dM at h
 rw [Tryz.underlying4] at h
 exact h
theorem bA2 {d : Nat} {p : List AV} (h : dM Tryz.prog (d + 1) 9 p) : ∃ s, cB2 s ∧ p = [.v (.string s)] := by
 unfold dM at h
 rw [Tryz.underlying9] at h
 obtain ⟨s, rfl, h1⟩ := h
 exact ⟨s, h1, rfl⟩
theorem aXu {t : TypeId} {k : Nat} (h : cA Tryz.prog t = some k) : Tryz.prog.cellsOf t = k := by
 unfold cA at h
 unfold Program.cellsOf
 cases hi : Tryz.prog.info? t with
 | none => rw [hi] at h; cases h
 | some i => rw [hi] at h; simp at h ⊢; exact h
/-- A list, each of whose rows is so. -/
theorem bEl {α : Type} {d : Nat} {t : TypeId} {row : α → List AV} {Q : α → Prop} (hr : ∀ {p : List AV}, dM Tryz.prog d t p → ∃ x, Q x ∧ p = row x) : ∀ {rows : List (List AV)}, (∀ r ∈ rows, dM Tryz.prog d t r) → ∃ l : List α, (∀ x ∈ l, Q x) ∧ rows = l.map row
 | [], _ => ⟨[], (fun s hs => by simp at hs), rfl⟩
 | r :: rows, h => by
  obtain ⟨l, h1, rfl⟩ := bEl hr fun q hq => h q (List.mem_cons_of_mem _ hq)
  obtain ⟨s, h2, rfl⟩ := hr (h r (List.mem_cons_self ..))
  refine ⟨s :: l, fun x hx => ?_, rfl⟩
  rcases List.mem_cons.1 hx with rfl | hx
  ·exact h2
  ·exact h1 x hx
theorem aAw {α : Type} {d k : Nat} {t s : TypeId} {row : α → List AV} {Q : α → Prop} (hs : Tryz.prog.underlying s = some (.slice t)) (hk : cA Tryz.prog t = some k) (hr : ∀ {p : List AV}, dM Tryz.prog d t p → ∃ x, Q x ∧ p = row x) {p : List AV} (h : dM Tryz.prog (d + 1) s p) : ∃ l : List α, (∀ x ∈ l, Q x) ∧ p = [.lst .no k (l.map row)] := by
 unfold dM at h
 rw [hs] at h
 obtain ⟨rows, rfl, _, h2⟩ := h
 obtain ⟨l, h3, rfl⟩ := bEl hr h2
 exact ⟨l, h3, by rw [aXu hk]⟩
theorem cAl {d : Nat} {p : List AV} (h : dM Tryz.prog (d + 2) 94 p) : ∃ x : Sp, True ∧ p = x.row := by
 unfold dM at h
 rw [Tryz.underlying94] at h
 obtain ⟨parts, rfl, hl, h⟩ := h
 match parts, hl with
 | [p0, p1], _ =>
  obtain ⟨a, _, rfl⟩ := dO (h 0 _ p0 rfl rfl)
  obtain ⟨b, _, rfl⟩ := dO (h 1 _ p1 rfl rfl)
  exact ⟨⟨a, b⟩, trivial, rfl⟩
theorem cAv {d : Nat} {p : List AV} (h : dM Tryz.prog (d + 2) 71 p) : ∃ x : Cv, p = x.row := by
 unfold dM at h
 rw [Tryz.underlying71] at h
 obtain ⟨parts, rfl, hl, h⟩ := h
 match parts, hl with
 | [p0, p1, p2, p3], _ =>
  obtain ⟨a, _, rfl⟩ := dO (h 0 _ p0 rfl rfl)
  obtain ⟨b, _, rfl⟩ := dO (h 1 _ p1 rfl rfl)
  obtain ⟨c, _, rfl⟩ := dO (h 2 _ p2 rfl rfl)
  obtain ⟨e, _, rfl⟩ := dO (h 3 _ p3 rfl rfl)
  exact ⟨⟨a, b, c, e⟩, rfl⟩
theorem cA6 {d : Nat} {p : List AV} (h : dM Tryz.prog (d + 3) 73 p) : ∃ x : Sg, True ∧ p = x.row := by
 unfold dM at h
 rw [Tryz.underlying73] at h
 obtain ⟨parts, rfl, hl, h⟩ := h
 match parts, hl with
 | [p0, p1, p2, p3, p4, p5, p6], _ =>
  obtain ⟨a, _, rfl⟩ := dO (h 0 _ p0 rfl rfl)
  obtain ⟨b, _, rfl⟩ := dO (h 1 _ p1 rfl rfl)
  obtain ⟨c, _, rfl⟩ := dO (h 2 _ p2 rfl rfl)
  obtain ⟨e, _, rfl⟩ := dO (h 3 _ p3 rfl rfl)
  obtain ⟨v, rfl⟩ := cAv (h 4 _ p4 rfl rfl)
  obtain ⟨f, _, rfl⟩ := dO (h 5 _ p5 rfl rfl)
  obtain ⟨g, _, rfl⟩ := dO (h 6 _ p6 rfl rfl)
  exact ⟨⟨a, b, c, e, v, f, g⟩, trivial, rfl⟩
theorem bZ5 {d : Nat} {p : List AV} (h : dM Tryz.prog (d + 5) 68 p) : ∃ x : Tk, True ∧ p = x.row := by
 unfold dM at h
 rw [Tryz.underlying68] at h
 obtain ⟨parts, rfl, hl, h⟩ := h
 match parts, hl with
 | [p0, p1, p2], _ =>
  obtain ⟨a, _, rfl⟩ := dO (h 0 _ p0 rfl rfl)
  obtain ⟨b, _, rfl⟩ := dO (h 1 _ p1 rfl rfl)
  obtain ⟨l, _, rfl⟩ := aAw (row := Sg.row) (Q := fun _ => True) Tryz.underlying66 bUp (fun h => cA6 (d := d) h) (h 2 _ p2 rfl rfl)
  exact ⟨⟨a, b, l⟩, trivial, rfl⟩
theorem cAh {d : Nat} {p : List AV} (h : dM Tryz.prog (d + 1) 4 p) : ∃ x : Bool, True ∧ p = [.v (.bool x)] := by
 obtain ⟨b, h⟩ := oM h
 exact ⟨b, trivial, h⟩
theorem bZn {d : Nat} {p : List AV} (h : dM Tryz.prog (d + 2) 62 p) : ∃ x : List Bool, True ∧ p = [.lst .no 1 (eA x)] := by
 obtain ⟨l, _, rfl⟩ := aAw (row := fun x : Bool => [.v (.bool x)]) (Q := fun _ => True) Tryz.underlying62 aDq (fun h => cAh (d := d) h) h
 exact ⟨l, trivial, rfl⟩
theorem cAa {d : Nat} {p : List AV} (h : dM Tryz.prog (d + 2) 26 p) : ∃ x : Tp, inI x.Delta ∧ p = x.row := by
 unfold dM at h
 rw [Tryz.underlying26] at h
 obtain ⟨parts, rfl, hl, h⟩ := h
 match parts, hl with
 | [p0, p1, p2, p3, p4, p5], _ =>
  obtain ⟨a, rfl⟩ := oM (h 0 _ p0 rfl rfl)
  obtain ⟨b, b0, rfl⟩ := bA2 (h 1 _ p1 rfl rfl)
  obtain ⟨c, rfl⟩ := oM (h 2 _ p2 rfl rfl)
  obtain ⟨e, e0, rfl⟩ := dO (h 3 _ p3 rfl rfl)
  obtain ⟨f, f0, rfl⟩ := dO (h 4 _ p4 rfl rfl)
  obtain ⟨g, rfl⟩ := oM (h 5 _ p5 rfl rfl)
  exact ⟨⟨a, b, c, e, f, g⟩, f0, rfl⟩
theorem cB3 {d : Nat} {p : List AV} (h : dM Tryz.prog (d + 2) 28 p) : ∃ x : Pt, (inI x.Factor ∧ inI x.Cooldown ∧ inI x.Delta) ∧ p = x.row := by
 unfold dM at h
 rw [Tryz.underlying28] at h
 obtain ⟨parts, rfl, hl, h⟩ := h
 match parts, hl with
 | [p0, p1, p2, p3, p4, p5, p6, p7], _ =>
  obtain ⟨a, rfl⟩ := oM (h 0 _ p0 rfl rfl)
  obtain ⟨b, b0, rfl⟩ := bA2 (h 1 _ p1 rfl rfl)
  obtain ⟨c, rfl⟩ := oM (h 2 _ p2 rfl rfl)
  obtain ⟨e, e0, rfl⟩ := dO (h 3 _ p3 rfl rfl)
  obtain ⟨f, f0, rfl⟩ := dO (h 4 _ p4 rfl rfl)
  obtain ⟨g, g0, rfl⟩ := dO (h 5 _ p5 rfl rfl)
  obtain ⟨i, i0, rfl⟩ := dO (h 6 _ p6 rfl rfl)
  obtain ⟨j, j0, rfl⟩ := dO (h 7 _ p7 rfl rfl)
  exact ⟨⟨a, b, c, e, f, g, i, j⟩, ⟨e0, g0, j0⟩, rfl⟩
theorem cAy {d : Nat} {p : List AV} (h : dM Tryz.prog (d + 2) 30 p) : ∃ x : Kp, p = x.row := by
 unfold dM at h
 rw [Tryz.underlying30] at h
 obtain ⟨parts, rfl, hl, h⟩ := h
 match parts, hl with
 | [p0, p1, p2, p3], _ =>
  obtain ⟨a, rfl⟩ := oM (h 0 _ p0 rfl rfl)
  obtain ⟨b, b0, rfl⟩ := bA2 (h 1 _ p1 rfl rfl)
  obtain ⟨c, rfl⟩ := oM (h 2 _ p2 rfl rfl)
  obtain ⟨e, e0, rfl⟩ := dO (h 3 _ p3 rfl rfl)
  exact ⟨⟨a, b, c, e⟩, rfl⟩
theorem cBr {d : Nat} {p : List AV} (h : dM Tryz.prog (d + 2) 32 p) : ∃ x : Em, p = x.row := by
 unfold dM at h
 rw [Tryz.underlying32] at h
 obtain ⟨parts, rfl, hl, h⟩ := h
 match parts, hl with
 | [p0, p1], _ =>
  obtain ⟨a, rfl⟩ := oM (h 0 _ p0 rfl rfl)
  obtain ⟨b, b0, rfl⟩ := dO (h 1 _ p1 rfl rfl)
  exact ⟨⟨a, b⟩, rfl⟩
/-- A plan's numbers, as they come. -/
def pnT (p : Pn) : Prop := inI p.plateau.Delta ∧ inI p.plateau.Factor ∧ inI p.stop.Delta ∧ inI p.plateau.Cooldown
theorem cB8 {d : Nat} {p : List AV} (h : dM Tryz.prog (d + 7) 34 p) : ∃ x : Pn, pnT x ∧ p = x.row := by
 unfold dM at h
 rw [Tryz.underlying34] at h
 obtain ⟨parts, rfl, hl, h⟩ := h
 match parts, hl with
 | [p0, p1, p2, p3, p4, p5, p6, p7, p8, p9, p10, p11, p12, p13, p14, p15, p16], _ =>
  obtain ⟨c0, _, rfl⟩ := dO (h 0 _ p0 rfl rfl)
  obtain ⟨c1, _, rfl⟩ := dO (h 1 _ p1 rfl rfl)
  obtain ⟨c2, _, rfl⟩ := dO (h 2 _ p2 rfl rfl)
  obtain ⟨c3, _, rfl⟩ := dO (h 3 _ p3 rfl rfl)
  obtain ⟨c4, _, rfl⟩ := dO (h 4 _ p4 rfl rfl)
  obtain ⟨c5, _, rfl⟩ := aAw (row := Sp.row) (Q := fun _ => True) Tryz.underlying22 bJx (fun h => cAl (d := d + 3) h) (h 5 _ p5 rfl rfl)
  obtain ⟨c6, _, rfl⟩ := aAw (row := fun x => [.lst .no 1 (eA x)]) (Q := fun _ => True) Tryz.underlying23 cBi (fun h => bZn (d := d + 3) h) (h 6 _ p6 rfl rfl)
  obtain ⟨c7, _, rfl⟩ := aAw (row := Tk.row) (Q := fun _ => True) Tryz.underlying24 bZb (fun h => bZ5 (d := d) h) (h 7 _ p7 rfl rfl)
  obtain ⟨s, s0, rfl⟩ := cAa (h 8 _ p8 rfl rfl)
  obtain ⟨t, ⟨t0, t1, t2⟩, rfl⟩ := cB3 (h 9 _ p9 rfl rfl)
  obtain ⟨k, rfl⟩ := cAy (h 10 _ p10 rfl rfl)
  obtain ⟨e, rfl⟩ := cBr (h 11 _ p11 rfl rfl)
  obtain ⟨c12, _, rfl⟩ := dO (h 12 _ p12 rfl rfl)
  obtain ⟨c13, _, rfl⟩ := dO (h 13 _ p13 rfl rfl)
  obtain ⟨c14, _, rfl⟩ := dO (h 14 _ p14 rfl rfl)
  obtain ⟨c15, _, rfl⟩ := dO (h 15 _ p15 rfl rfl)
  obtain ⟨c16, _, rfl⟩ := dO (h 16 _ p16 rfl rfl)
  exact ⟨⟨c0, c1, c2, c3, c4, c5, c6, c7, s, t, k, e, c12, c13, c14, c15, c16⟩, ⟨t2, t0, s0, t1⟩, rfl⟩
theorem arg_pn {d : Nat} {a : AV} (h : qU Tryz.prog (d + 7) 34 a) : ∃ x : Pn, pnT x ∧ a = .agg x.row := by
 unfold qU at h
 rw [Tryz.underlying34] at h
 obtain ⟨cs, rfl, h⟩ := h
 obtain ⟨R, h1, rfl⟩ := cB8 h
 exact ⟨R, h1, rfl⟩
theorem cCy {d : Nat} {p : List AV} (h : dM Tryz.prog (d + 2) 89 p) : ∃ x : Rd, inI x.val ∧ p = x.row := by
 unfold dM at h
 rw [Tryz.underlying89] at h
 obtain ⟨parts, rfl, hl, h⟩ := h
 match parts, hl with
 | [p0, p1], _ =>
  obtain ⟨a, rfl⟩ := oM (h 0 _ p0 rfl rfl)
  obtain ⟨b, b0, rfl⟩ := dO (h 1 _ p1 rfl rfl)
  exact ⟨⟨a, b⟩, b0, rfl⟩
def inT (x : In) : Prop := (∀ y ∈ x.readings, inI y.val) ∧ ∀ y ∈ x.weights, inI y
theorem cCo {d : Nat} {p : List AV} (h : dM Tryz.prog (d + 4) 82 p) : ∃ x : In, inT x ∧ p = x.row := by
 unfold dM at h
 rw [Tryz.underlying82] at h
 obtain ⟨parts, rfl, hl, h⟩ := h
 match parts, hl with
 | [p0, p1], _ =>
  obtain ⟨a, a0, rfl⟩ := aAw (row := Rd.row) (Q := fun x => inI x.val) Tryz.underlying80 bXw (fun h => cCy (d := d) h) (h 0 _ p0 rfl rfl)
  obtain ⟨b, b0, rfl⟩ := aAw (row := fun n : Int => [iv n]) (Q := fun n => inI n) Tryz.underlying42 bP (fun h => dO (d := d + 1) h) (h 1 _ p1 rfl rfl)
  exact ⟨⟨a, b⟩, ⟨a0, b0⟩, rfl⟩
theorem arg_ins {d : Nat} {a : AV} (h : qU Tryz.prog (d + 5) 35 a) : ∃ l : List In, (∀ x ∈ l, inT x) ∧ a = .lst .no 2 (iQ l) := by
 unfold qU at h
 rw [Tryz.underlying35] at h
 obtain ⟨l, h1, h2⟩ := aAw (row := In.row) (Q := inT) Tryz.underlying35 bKk (fun h => cCo (d := d) h) h
 exact ⟨l, h1, (List.cons.inj h2).1⟩
end
noncomputable section
attribute [local irreducible] Next aW cF Ops bQ
attribute [local irreducible] bE dH eZ eC
attribute [local go_sem] cO bP Option.getD_some cJ aT aV iv aCc oD pF List.cons_append aUt cV cDx cEr
open Classical in
def bUj : Nat → Option (List Nat) := fun
 | 0 => some [0, 1]
 | 1 => some [0, 1, 10]
 | 2 => some [4]
 | 3 => some [0, 1, 5]
 | 4 => some [0, 1, 5, 14]
 | 5 => some [0, 1, 5]
 | 6 => some [0, 1, 5, 25]
 | 7 => some [4]
 | 8 => some [4]
 | _ => none
attribute [go_sem] bUj
end
end Go.Proofs.YtmockbddhhmmeaaGreat.Ev

/- Early stopping: where a run stops; plain. -/
import Derived.Test.YtmockbddhhmmeaaGreatMbgkd17
namespace Go.Proofs.YtmockbddhhmmeaaGreat.Ev
open Go Go.Proofs
set_option maxRecDepth 10000
set_option maxHeartbeats 8000000
set_option linter.unusedVariables false
set_option linter.unusedSimpArgs false
section
attribute [local irreducible] Next aW cF Ops bQ
/-! ### what a step does to the watch, the status, the end -/
def Tn.pick (T : Tn) : Bool := (rdP T T.p.stopAt).2 && aF4 (fX T.s.stop (rdP T T.p.stopAt).1 T.rule) T.p.stop.Patience
def Tn.watch (T : Tn) : Wt := if (rdP T T.p.stopAt).2 = true then fX T.s.stop (rdP T T.p.stopAt).1 T.rule else T.s.stop
def yF (T U : Tn) : Prop := T.p = U.p ∧ T.x = U.x ∧ T.step = U.step ∧ T.s.stop = U.s.stop ∧ T.s.status = U.s.status
theorem aOm (T : Tn) : yF T T := ⟨rfl, rfl, rfl, rfl, rfl⟩
theorem yF.trans {T U V : Tn} (h : yF T U) (h2 : yF U V) : yF T V := ⟨h.1.trans h2.1, h.2.1.trans h2.2.1, h.2.2.1.trans h2.2.2.1, h.2.2.2.1.trans h2.2.2.2.1, h.2.2.2.2.trans h2.2.2.2.2⟩
theorem aYp (T : Tn) (x : Int) : yF (T.keeps x) T := by
 unfold Tn.keeps Tn.keepsY
 split
 ·exact ⟨rfl, rfl, rfl, rfl, rfl⟩
 ·split <;> exact ⟨rfl, rfl, rfl, rfl, rfl⟩
theorem bCc (T : Tn) (x : Int) : yF (T.cuts x) T := by
 unfold Tn.cuts Tn.cutsY
 split <;> exact ⟨rfl, rfl, rfl, rfl, rfl⟩
theorem aY8 (T : Tn) : yF T.look1 T := by
 unfold Tn.look1
 split
 ·exact aYp _ _
 ·exact aOm _
theorem aZx (T : Tn) : yF T.look2 T := by
 unfold Tn.look2
 split
 ·exact bCc _ _
 ·exact aOm _
theorem bCe (T : Tn) : yF T.emaT T := by
 unfold Tn.emaT
 split <;> exact ⟨rfl, rfl, rfl, rfl, rfl⟩
theorem bHu {T : Tn} (h : T.p.swaEvery = 0) : wV T = false := by
 unfold wV
 rw [decide_eq_false (by omega)]
 rfl
theorem bDy {T : Tn} (h0 : T.s.status = 0) : T.look.s.stop = T.watch ∧ T.look.s.status = (if T.pick = true then 2 else 0) ∧ (T.pick = true → T.look.s.ended = T.step) ∧ T.look.p = T.p ∧ T.look.step = T.step := by
 have hs : yF T.miss.look1.look2 T := (aZx _).trans ((aY8 _).trans ⟨rfl, rfl, rfl, rfl, rfl⟩)
 unfold Tn.look
 generalize T.miss.look1.look2 = U at hs
 obtain ⟨e1, e2, e3, e4, e5⟩ := hs
 have er : rdP U U.p.stopAt = rdP T T.p.stopAt := by unfold rdP; rw [e1, e2]
 have eu : U.rule = T.rule := by unfold Tn.rule; rw [e1]
 unfold Tn.look3 Tn.watch Tn.pick
 rw [er]
 cases hb : (rdP T T.p.stopAt).2 with
 | false =>
  rw [if_neg (by decide), if_neg (by decide), Bool.false_and, if_neg (by decide)]
  exact ⟨e4, e5.trans h0, fun h => (by cases h), e1, e3⟩
 | true =>
  rw [if_pos rfl, if_pos rfl, Bool.true_and]
  unfold Tn.stops Tn.stopsY
  rw [eu, e4, e1]
  cases ho : aF4 (fX T.s.stop (rdP T T.p.stopAt).1 T.rule) T.p.stop.Patience with
  | false =>
   rw [if_neg (by decide), if_neg (by decide)]
   exact ⟨rfl, e5.trans h0, fun h => (by cases h), e1, e3⟩
  | true =>
   rw [if_pos rfl, if_pos rfl]
   exact ⟨rfl, rfl, fun _ => e3, e1, e3⟩
theorem aNe (T : Tn) : T.run3.s.stop = T.s.stop ∧ T.run3.s.status = (if (T.step != IntKind.i64.wrap (T.p.steps - 1)) = true then T.s.status else if (T.s.status == 0) = true then 1 else T.s.status) ∧ (T.s.status ≠ 0 → T.run3.s.ended = T.s.ended) := by
 unfold Tn.run3
 split
 ·exact ⟨rfl, rfl, fun _ => rfl⟩
 ·by_cases h : T.s.status = 0
  ·rw [if_pos (show ((T.tell 11 0).s.status == 0) = true from beq_iff_eq.2 h), if_pos (beq_iff_eq.2 h)]
   exact ⟨rfl, rfl, fun h2 => absurd h h2⟩
  ·rw [if_neg (show ¬ ((T.tell 11 0).s.status == 0) = true from fun hh => h (beq_iff_eq.1 hh)), if_neg (fun hh => h (beq_iff_eq.1 hh))]
   exact ⟨rfl, rfl, fun _ => rfl⟩
theorem bH7 {T : Tn} (h0 : T.s.status = 0) (hsw : T.p.swaEvery = 0) : T.run.s.stop = (if lX T = true then T.watch else T.s.stop) ∧
  T.run.s.status = (if (lX T && T.pick) = true then 2 else if (T.step != IntKind.i64.wrap (T.p.steps - 1)) = true then 0 else 1) ∧ ((lX T && T.pick) = true → T.run.s.ended = T.step) := by
 have hw : T.begins.wts = (T.begins.emaT, true) := by
  unfold Tn.wts
  rw [if_neg (by rw [bHu (T := T.begins) hsw]; decide)]
 have hs : yF T.begins.emaT T := (bCe _).trans ⟨rfl, rfl, rfl, rfl, rfl⟩
 unfold Tn.run
 rw [hw, if_pos rfl]
 generalize T.begins.emaT = U at hs
 obtain ⟨e1, e2, e3, e4, e5⟩ := hs
 have hl : lX U = lX T := by unfold lX; rw [e1, e3]
 have er : rdP U U.p.stopAt = rdP T T.p.stopAt := by unfold rdP; rw [e1, e2]
 have eu : U.rule = T.rule := by unfold Tn.rule; rw [e1]
 have hwt : U.watch = T.watch := by unfold Tn.watch; rw [er, e4, eu]
 have hpk : U.pick = T.pick := by unfold Tn.pick; rw [er, e4, eu, e1]
 obtain ⟨w1, w2, w3, w4, w5⟩ := bDy (T := U) (e5.trans h0)
 rw [hwt] at w1
 rw [hpk] at w2 w3
 unfold Tn.run2
 rw [hl]
 cases hb : lX T with
 | false =>
  rw [if_neg (by decide), if_neg (by decide), Bool.false_and, if_neg (by decide)]
  obtain ⟨r1, r2, _⟩ := aNe U
  refine ⟨r1.trans e4, ?_, fun h => by cases h⟩
  rw [r2, e1, e3, e5, h0]
  rfl
 | true =>
  rw [if_pos rfl, if_pos rfl, Bool.true_and]
  obtain ⟨r1, r2, r3⟩ := aNe U.look
  refine ⟨r1.trans w1, ?_, fun h => ?_⟩
  ·rw [r2, w2, w4, w5, e1, e3]
   cases T.pick with
   | true =>
    rw [if_pos rfl]
    split
    ·rfl
    ·rfl
   | false =>
    simp only [Bool.false_eq_true, if_false]
    rfl
  ·rw [r3 (by rw [w2, if_pos h]; decide), w3 h, e3]
/-! ### a list's beginning -/
theorem aRm {b : Int → Int → Bool} {l r : List Int} : ∀ n, n ≤ l.length → lG b (l ++ r) n = lG b l n
 | 0, _ => rfl
 | n + 1, h => by
  have e : (l ++ r).getD n 0 = l.getD n 0 := by simp [List.getD, List.getElem?_append_left (show n < l.length by omega)]
  rw [lG, lG, aRm n (by omega), e]
theorem bAr {b : Int → Int → Bool} {l r : List Int} : ∀ n, n ≤ l.length → oW b (l ++ r) n = oW b l n
 | 0, _ => rfl
 | n + 1, h => by
  have e : (l ++ r).getD n 0 = l.getD n 0 := by simp [List.getD, List.getElem?_append_left (show n < l.length by omega)]
  have hm : jW b (l ++ r) n = jW b l n := by unfold jW; rw [e, aRm n (by omega)]
  rw [oW, oW, bAr n (by omega), hm]
theorem bJ4 {b : Int → Int → Bool} {l r : List Int} {p : Int} {i : Nat} (h : i < l.length) : sG b (l ++ r) p i = sG b l p i := by
 rw [aNz, aNz, bAr (i + 1) (by omega)]
/-- The watch behind a list; does it stop at its last one? -/
def yW (r : Ru) (V : List Int) : Wt := V.foldl (bPk (fQ r)) wt0
theorem aLv (r : Ru) (V : List Int) (x : Int) : yW r (V ++ [x]) = fX (yW r V) x r := by
 unfold yW
 rw [List.foldl_append]
 rfl
theorem bPj {r : Ru} {V : List Int} {x : Int} {p : Int} (h : V.length + 1 ≤ 1000000) : aF4 (fX (yW r V) x r) p = sG (fQ r) (V ++ [x]) p V.length := by
 have hl : (V ++ [x]).length = V.length + 1 := by simp
 have := aSn (fQ r) (V ++ [x]) V.length (by omega) h
 rw [List.take_of_length_le (by omega)] at this
 rw [← aLv]
 unfold yW
 rw [this, aNz]
 rfl
end
section
attribute [local irreducible] Next aW cF Ops bQ
def gH (k : List Kt) : List Int := k.map Kt.val
def sQ (p : Pn) : Ru := ⟨p.stop.Max, p.stop.Delta, p.stop.Rel⟩
def aHq (p : Pn) (k : List Kt) (i : Nat) : Bool := sG (fQ (sQ p)) (gH k) p.stop.Patience i
theorem wG {p : Pn} (h : cQ p = true) (hk : p.stopAt ≥ 0) : p.stopAt < p.metrics ∧ 1 ≤ p.stop.Patience ∧ p.stop.Patience ≤ 1099511627776 := by
 have h3 := dD h
 have h4 := h3.2.2.2.2.2.2.2.2.1
 unfold sZ at h4
 rw [if_neg (by omega)] at h4
 simp only [Bool.and_eq_true, dW] at h4
 obtain ⟨⟨⟨h5, _⟩, h6⟩, _⟩ := h4
 unfold yD at h5
 simp only [Bool.and_eq_true, dW] at h5
 omega
/-- What a run is like behind so many inputs: it goes on, or it is done, or it has stopped. -/
def bMz (p : Pn) (l : List In) (n : Nat) (S : Ss) (acc : List Ou) : Prop :=
 (n : Int) ≤ p.steps ∧ acc.length = n ∧ (eH p p.stopAt l n).2 = false ∧ (p.stopAt ≥ 0 → S.stop = yW (sQ p) (gH (eH p p.stopAt l n).1) ∧ ∀ k, k < (eH p p.stopAt l n).1.length → aHq p (eH p p.stopAt l n).1 k = false)
def bMb (p : Pn) (l : List In) (i : Nat) (S : Ss) (acc : List Ou) : Prop :=
 (S.status = 0 ∧ S.step = (i : Int) ∧ (i : Int) < p.steps ∧ bMz p l i S acc) ∨
 (S.status = 1 ∧ ∃ n : Nat, n ≤ i ∧ (n : Int) = p.steps ∧ bMz p l n S acc) ∨
 (S.status = 2 ∧ p.stopAt ≥ 0 ∧ ∃ n : Nat, n < i ∧ (n : Int) < p.steps ∧ acc.length = n + 1 ∧ S.ended = (n : Int) ∧ ∃ (k : List Kt) (v : Int), (eH p p.stopAt l (n + 1)).1 = k ++ [⟨n, v⟩] ∧ aHq p (k ++ [⟨n, v⟩]) k.length = true ∧ ∀ j, j < k.length → aHq p (k ++ [⟨n, v⟩]) j = false)
theorem aLk {p : Pn} {k k2 : List Kt} {j : Nat} (h : j < k.length) : aHq p (k ++ k2) j = aHq p k j := by
 unfold aHq gH
 rw [List.map_append]
 exact bJ4 (by rw [List.length_map]; exact h)
theorem bGj {p : Pn} {l : List In} (hp : eF p zB = true) (hsw : p.swaEvery = 0) : ∀ (i : Nat) {S : Ss} {acc : List Ou}, qE p l zB i = (S, acc, 0) → bMb p l i S acc
 | 0, S, acc, h => by
  cases h
  have hst := (dD (by unfold eF at hp; simp only [Bool.and_eq_true] at hp; exact hp.1)).1
  exact .inl ⟨rfl, rfl, by omega, by omega, rfl, rfl, fun _ => ⟨rfl, fun k hk => by cases hk⟩⟩
 | i + 1, S, acc, h => by
  have hpl : cQ p = true := by unfold eF at hp; simp only [Bool.and_eq_true] at hp; exact hp.1
  have hparts := dD hpl
  cases hY : qE p l zB i with
  | mk S0 Y =>
   obtain ⟨acc0, E0⟩ := Y
   rw [qE, hY] at h
   dsimp only at h
   split at h
   ·rename_i hE
    cases h
    exact absurd rfl hE
   ·rename_i hE
    have hE0 : E0 = 0 := by simpa using hE
    subst hE0
    have ih := bGj hp hsw i hY
    split at h
    ·rename_i hs
     cases h
     rcases ih with ⟨h0, _⟩ | ⟨h1, n, hn, hr⟩ | ⟨h1, ha, n, hn, hr⟩
     ·exact absurd h0 hs
     ·exact .inr (.inl ⟨h1, n, by omega, hr⟩)
     ·exact .inr (.inr ⟨h1, ha, n, by omega, hr⟩)
    ·rename_i hs
     have hs0 : S0.status = 0 := by simpa using hs
     rcases ih with ⟨_, hstep, hlt, hle, hacc, hsn, hw⟩ | ⟨h1, _⟩ | ⟨h1, _⟩
     ·split at h
      ·rename_i hz
       simp only [Prod.mk.injEq] at h
       exact absurd h.2.2 hz
      ·rename_i hz
       have hz0 : (eY p S0 (l.getD i in0)).2.2 = 0 := by simpa using hz
       have hS : S = (eY p S0 (l.getD i in0)).1 := by cases h; rfl
       have hA : acc.length = i + 1 := by cases h; rw [List.length_append, hacc]; rfl
       clear h
       have hseen : eH p p.stopAt l (i + 1) = if ((l.getD i in0).readings.length : Int) ≠ p.metrics then ((eH p p.stopAt l i).1, true) else if wI p p.stopAt (l.getD i in0) i = true then ((eH p p.stopAt l i).1 ++ [⟨i, ((l.getD i in0).readings.getD p.stopAt.toNat rd0).val⟩], false) else ((eH p p.stopAt l i).1, false) := by
        rw [eH, if_neg (by rw [hsn]; decide)]
       have hlk := aBd p p.stopAt l i
       generalize l.getD i in0 = x at hz0 hS hseen
       unfold eY at hz0 hS
       split at hz0
       ·cases hz0
       ·rename_i h1
        rw [if_neg h1] at hS
        split at hz0
        ·rename_i h2
         exact absurd hz0 h2
        ·rename_i h2
         rw [if_neg h2] at hS
         have hrd : rV p x = true := by simpa using h1
         have hlen : (x.readings.length : Int) = p.metrics := by
          unfold rV at hrd
          simp only [Bool.and_eq_true, beq_iff_eq] at hrd
          exact hrd.1.1.2
         rw [if_neg (by omega)] at hseen
         have hsn2 : (eH p p.stopAt l (i + 1)).2 = false := by rw [hseen]; split <;> rfl
         obtain ⟨r1, _⟩ := bNx (T := gA p S0 x) hs0
         obtain ⟨q1, q2, q3⟩ := bH7 (T := gA p S0 x) hs0 hsw
         have e1 : S.step = ((i + 1 : Nat) : Int) := by
          rw [hS]
          show IntKind.i64.wrap ((gA p S0 x).run.s.step + 1) = _
          rw [r1]
          show IntKind.i64.wrap (S0.step + 1) = _
          rw [hstep, bB (by omega) (by omega)]
          omega
         have e2 : S.status = (gA p S0 x).run.s.status := by rw [hS]; rfl
         have e3 : S.stop = (gA p S0 x).run.s.stop := by rw [hS]; rfl
         have e4 : S.ended = (gA p S0 x).run.s.ended := by rw [hS]; rfl
         have hlb : lX (gA p S0 x) = iG p (i : Int) := bA4 (T := gA p S0 x) (i := i) hstep (by omega) (by show 0 ≤ p.eval ∧ p.eval ≤ 1000000; omega)
         rw [hlb] at q1 q2 q3
         have hst : ((gA p S0 x).step != IntKind.i64.wrap ((gA p S0 x).p.steps - 1)) = decide ((i : Int) + 1 < p.steps) := by
          show (S0.step != IntKind.i64.wrap (p.steps - 1)) = _
          rw [hstep, bB (by omega) (by omega), Bool.eq_iff_iff]
          simp only [bne_iff_ne, ne_eq, decide_eq_true_eq]
          omega
         rw [hst] at q2
         have hpk : (gA p S0 x).pick = ((nA x p.stopAt).2 && aF4 (fX S0.stop (nA x p.stopAt).1 (sQ p)) p.stop.Patience) := rfl
         have hwt : (gA p S0 x).watch = if (nA x p.stopAt).2 = true then fX S0.stop (nA x p.stopAt).1 (sQ p) else S0.stop := rfl
         rw [hpk] at q2 q3
         rw [hwt] at q1
         have hend : S0.step = (i : Int) := hstep
         -- what is seen, and what is taken
         have go : (p.stopAt ≥ 0 → S.stop = yW (sQ p) (gH (eH p p.stopAt l (i + 1)).1) ∧ ∀ k, k < (eH p p.stopAt l (i + 1)).1.length → aHq p (eH p p.stopAt l (i + 1)).1 k = false) → (iG p (i : Int) && ((nA x p.stopAt).2 && aF4 (fX S0.stop (nA x p.stopAt).1 (sQ p)) p.stop.Patience)) = false → bMb p l (i + 1) S acc := by
          intro hg hno
          rw [hno, if_neg (by decide)] at q2
          by_cases hl : (i : Int) + 1 < p.steps
          ·rw [if_pos (decide_eq_true hl)] at q2
           exact .inl ⟨e2.trans q2, e1, by omega, by omega, hA, hsn2, hg⟩
          ·rw [if_neg (by rw [decide_eq_false hl]; decide)] at q2
           exact .inr (.inl ⟨e2.trans q2, i + 1, Nat.le_refl _, by omega, by omega, hA, hsn2, hg⟩)
         by_cases ha : p.stopAt ≥ 0
         ·obtain ⟨f1, f2, f3⟩ := wG hpl ha
          obtain ⟨g1, g2⟩ := hw ha
          have hro : nA x p.stopAt = if (x.readings.getD p.stopAt.toNat rd0).has = true then ((x.readings.getD p.stopAt.toNat rd0).val, true) else (0, false) := by unfold nA; rw [if_neg (by omega)]
          have hhit : wI p p.stopAt x i = (iG p (i : Int) && (x.readings.getD p.stopAt.toNat rd0).has) := by unfold wI; rw [decide_eq_true ha, Bool.true_and]
          rw [hhit] at hseen
          generalize x.readings.getD p.stopAt.toNat rd0 = y at hro hseen
          generalize hsk : (eH p p.stopAt l i).1 = k at *
          by_cases hb : (iG p (i : Int) && y.has) = true
          ·rw [if_pos hb] at hseen
           simp only [Bool.and_eq_true] at hb
           rw [if_pos hb.2] at hro
           rw [hro, hb.1] at q2 q3
           rw [hro, hb.1, if_pos rfl, if_pos rfl] at q1
           rw [hro, hb.1, hseen] at go
           simp only [Bool.true_and] at q2 q3 go
           have ho := bPj (r := sQ p) (V := gH k) (x := y.val) (p := p.stop.Patience) (by unfold gH; rw [List.length_map]; omega)
           rw [← g1] at ho
           have hv : gH (k ++ [⟨(i : Int), y.val⟩]) = gH k ++ [y.val] := by unfold gH; rw [List.map_append]; rfl
           have hvl : (gH k).length = k.length := by unfold gH; rw [List.length_map]
           have hhk : aHq p (k ++ [⟨(i : Int), y.val⟩]) k.length = aF4 (fX S0.stop y.val (sQ p)) p.stop.Patience := by
            unfold aHq
            rw [hv, ho, hvl]
           have hold : ∀ j, j < k.length → aHq p (k ++ [⟨(i : Int), y.val⟩]) j = false := fun j hj => by rw [aLk hj]; exact g2 j hj
           cases hout : aF4 (fX S0.stop y.val (sQ p)) p.stop.Patience with
           | true =>
            rw [hout] at q2 q3 hhk
            rw [if_pos rfl] at q2
            refine .inr (.inr ⟨e2.trans q2, ha, i, Nat.lt_succ_self i, by omega, hA, ?_, k, y.val, by rw [hseen], hhk, hold⟩)
            rw [e4, q3 rfl]
            exact hend
           | false =>
            rw [hout] at hhk
            refine go (fun _ => ⟨?_, fun j hj => ?_⟩) hout
            ·show S.stop = yW (sQ p) (gH (k ++ [⟨(i : Int), y.val⟩]))
             rw [hv, aLv, ← g1, e3, q1]
            ·have hj : j < (k ++ [(⟨(i : Int), y.val⟩ : Kt)]).length := hj
             rw [List.length_append] at hj
             by_cases hj2 : j < k.length
             ·exact hold j hj2
             ·have e : j = k.length := by simp at hj; omega
              rw [e]
              exact hhk
          ·rw [if_neg hb] at hseen
           have hb2 : (iG p (i : Int) && y.has) = false := by simpa using hb
           have hno : (iG p (i : Int) && (nA x p.stopAt).2) = false := by
            rw [hro]
            cases hy : y.has with
            | true => rw [hy] at hb2; simpa using hb2
            | false => simp
           refine go (fun _ => ?_) (by rw [← Bool.and_assoc, hno, Bool.false_and])
           rw [hseen]
           refine ⟨?_, g2⟩
           rw [e3, q1, ← g1]
           cases hlo : iG p (i : Int) with
           | false => rw [if_neg (by decide)]; rfl
           | true =>
            rw [hlo, Bool.true_and] at hno
            rw [if_pos rfl, hno, if_neg (by decide)]
         ·refine go (fun h => absurd h ha) ?_
          have : (nA x p.stopAt).2 = false := by unfold nA; rw [if_pos (.inl (by omega))]
          rw [this, Bool.false_and, Bool.and_false]
     ·rw [hs0] at h1
      exact absurd h1 (by decide)
     ·rw [hs0] at h1
      exact absurd h1 (by decide)
end
section
attribute [local irreducible] Next aW cF Ops bQ
theorem bJh (p : Pn) (a : Int) (l : List In) (n : Nat) : ∀ N, n ≤ N → ∃ r, (eH p a l N).1 = (eH p a l n).1 ++ r := by
 intro N
 induction N with
 | zero => intro h; rw [show n = 0 by omega]; exact ⟨[], (List.append_nil _).symm⟩
 | succ N ih =>
  intro h
  by_cases he : n = N + 1
  ·rw [he]
   exact ⟨[], (List.append_nil _).symm⟩
  ·obtain ⟨r, hr⟩ := ih (by omega)
   rw [eH]
   split
   ·exact ⟨r, hr⟩
   ·split
    ·exact ⟨r, hr⟩
    ·split
     ·refine ⟨r ++ [⟨N, ((l.getD N in0).readings.getD a.toNat rd0).val⟩], ?_⟩
      rw [← List.append_assoc, ← hr]
     ·exact ⟨r, hr⟩
theorem aXg {p : Pn} {a : Int} {l : List In} (hl : ∀ x ∈ l, ∀ y ∈ x.readings, inI y.val) : ∀ n, ∀ k ∈ (eH p a l n).1, inI k.val
 | 0, k, hk => by cases hk
 | n + 1, k, hk => by
  have ih := aXg (p := p) (a := a) hl n
  rw [eH] at hk
  split at hk
  ·exact ih k hk
  ·split at hk
   ·exact ih k hk
   ·split at hk
    ·rcases List.mem_append.1 hk with h | h
     ·exact ih k h
     ·have e := List.mem_singleton.1 h
      rw [e]
      show inI ((l.getD n in0).readings.getD a.toNat rd0).val
      have hx : ∀ y ∈ (l.getD n in0).readings, inI y.val := by
       by_cases hn : n < l.length
       ·exact hl _ (jI hn)
       ·have e2 : l.getD n in0 = in0 := by simp [List.getD, List.getElem?_eq_none (Nat.le_of_not_lt hn)]
        rw [e2]
        intro y hy
        cases hy
      by_cases hm : a.toNat < (l.getD n in0).readings.length
      ·exact hx _ (jI hm)
      ·have e3 : (l.getD n in0).readings.getD a.toNat rd0 = rd0 := by rw [List.getD, List.getElem?_eq_none (Nat.le_of_not_lt hm)]; rfl
       rw [e3]
       exact (by decide : inI 0)
    ·exact ih k hk
def lF (p : Pn) (V : List Kt) : Int := if p.stopAt ≥ 0 then pP (gH V) p.stop.Patience (sQ p) else -1
theorem aMo {p : Pn} {V : List Kt} (h : p.stopAt ≥ 0 → ∀ k, k < V.length → aHq p V k = false) : lF p V = -1 := by
 unfold lF
 split
 ·rename_i ha
  unfold pP
  refine aMq fun k hk => h ha k ?_
  unfold gH at hk
  rwa [List.length_map] at hk
 ·rfl
theorem bNw {p : Pn} {V : List Kt} {a : Nat} (ha : p.stopAt ≥ 0) (h1 : a < V.length) (h2 : aHq p V a = true) (h3 : ∀ k, k < a → aHq p V k = false) : lF p V = (a : Int) := by
 unfold lF
 rw [if_pos ha]
 exact aWa (by unfold gH; rw [List.length_map]; exact h1) h2 h3
theorem bHp {p : Pn} {l : List In} (hsw : p.swaEvery = 0) (h : (pW p l).2.2 = 0) : cQ p = true ∧
  ((∃ a : Nat, lF p (mV p p.stopAt l) = (a : Int) ∧ a < (mV p p.stopAt l).length ∧ (pW p l).1.status = 2 ∧ (pW p l).1.ended = ((mV p p.stopAt l).getD a kt0).step ∧ ((pW p l).2.1.length : Int) = ((mV p p.stopAt l).getD a kt0).step + 1 ∧ 0 ≤ ((mV p p.stopAt l).getD a kt0).step ∧ ((mV p p.stopAt l).getD a kt0).step ≤ 1000000) ∨
  (lF p (mV p p.stopAt l) = -1 ∧ (l.length : Int) ≥ p.steps ∧ (pW p l).1.status = 1 ∧ ((pW p l).2.1.length : Int) = p.steps) ∨
  (lF p (mV p p.stopAt l) = -1 ∧ ¬ (l.length : Int) ≥ p.steps ∧ (pW p l).1.status = 0 ∧ (pW p l).2.1.length = l.length)) := by
 unfold pW aCk at h ⊢
 by_cases hok : eF p zB = true
 ·rw [if_pos hok] at h ⊢
  have hpl : cQ p = true := by unfold eF at hok; simp only [Bool.and_eq_true] at hok; exact hok.1
  have hst := (dD hpl).1
  refine ⟨hpl, ?_⟩
  cases hY : qE p l zB l.length with
  | mk S Y =>
   obtain ⟨acc, E⟩ := Y
   rw [hY] at h
   have hE : E = 0 := h
   subst hE
   have hsl : mV p p.stopAt l = (eH p p.stopAt l (min l.length p.steps.toNat)).1 := rfl
   rcases bGj hok hsw l.length hY with ⟨h0, h1, h2, g1, g2, g3, g4⟩ | ⟨h0, n, hn, hns, g1, g2, g3, g4⟩ | ⟨h0, ha, n, hn, hns, g2, g5, k, v, g6, g7, g8⟩
   ·rw [Nat.min_eq_left (by omega)] at hsl
    rw [hsl]
    exact .inr (.inr ⟨aMo fun ha => (g4 ha).2, by omega, h0, g2⟩)
   ·rw [show min l.length p.steps.toNat = n by omega] at hsl
    rw [hsl]
    refine .inr (.inl ⟨aMo fun ha => (g4 ha).2, by omega, h0, ?_⟩)
    show (acc.length : Int) = p.steps
    omega
   ·obtain ⟨r, hr⟩ := bJh p p.stopAt l (n + 1) (min l.length p.steps.toNat) (by omega)
    rw [g6] at hr
    rw [hr] at hsl
    rw [hsl]
    have hlen : k.length < (k ++ [(⟨n, v⟩ : Kt)]).length := by simp
    have hget : (k ++ [(⟨n, v⟩ : Kt)] ++ r).getD k.length kt0 = ⟨n, v⟩ := by simp [List.getD]
    refine .inl ⟨k.length, bNw ha (by simp) (by rw [aLk hlen]; exact g7) (fun j hj => by rw [aLk (by simp; omega)]; exact g8 j hj), by simp, h0, ?_, ?_, ?_, ?_⟩
    ·rw [hget]; exact g5
    ·rw [hget]
     show (acc.length : Int) = (n : Int) + 1
     omega
    ·rw [hget]
     exact Int.natCast_nonneg n
    ·rw [hget]
     show (n : Int) ≤ _
     omega
 ·rw [if_neg hok] at h
  cases h
end
end Go.Proofs.YtmockbddhhmmeaaGreat.Ev

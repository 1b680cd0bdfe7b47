/- Which cycle has a place. -/
import Derived.Test.YtmockbddhhmmeaaGreatMbgkd5
namespace Go.Proofs.YtmockbddhhmmeaaGreat.Ev
open Go Go.Proofs
set_option maxRecDepth 10000
set_option maxHeartbeats 8000000
set_option linter.unusedVariables false
set_option linter.unusedSimpArgs false
section
attribute [local irreducible] Next aW cF Ops bQ
attribute [local irreducible] bE dH
attribute [local go_sem] cO bP Option.getD_some cJ aT aV iv aXm aGa aP4 qK aBf bT9 bU5 bN4 bWs cAj bWp bZ8
def aHm (times a : Int) : Nat → Sp → Int → Sp × Int
 | 0, s, n => (s, n)
 | k + 1, s, n => if s.to_ ≤ a then aHm times a k (uX times s) (n + 1) else (s, n)
theorem bQi {times a : Int} {s : Sp} {n : Int} (h : ¬ s.to_ ≤ a) : ∀ k, aHm times a k s n = (s, n)
 | 0 => rfl
 | k + 1 => by rw [aHm, if_neg h]
def vL (first times a : Int) : Sp × Int := if times = 1 then (⟨a / first * first, a / first * first + first⟩, a / first) else aHm times a (a + 1).toNat ⟨0, first⟩ 0
theorem aV1 {t : Int} {s : Sp} (h : aTz s) (hs : s.to_ ≤ 1048576) (t1 : 1 ≤ t) (t2 : t ≤ 16) : aTz (uX t s) ∧ s.to_ < (uX t s).to_ := by
 obtain ⟨f0, f1, f2⟩ := h
 obtain ⟨p0, p1⟩ := cBo (d := s.to_ - s.from_) (t := t) (by omega) (by omega) t1 t2
 unfold aTz uX mn
 simp only
 split <;> (refine ⟨⟨by omega, by omega, by omega⟩, by omega⟩)
def bV0 : List AV → Mem → Option (AV × Mem)
 | [.v (.int .i64 a), .v (.int .i64 b), .v (.int .i64 c)], m => if rD a b c = true then some (.tup [.agg (vL a b c).1.row, iv (vL a b c).2], m) else none
 | _, _ => none
theorem aV0 {m : Mem} {r : Nat} {s : Sp} {old : List AV} (hv : m.var r = some old) (ho : old.length = 2) : aR Tryz.prog m 94 (.ptr r 0) (.agg [.v (.int .i64 s.from_), .v (.int .i64 s.to_)]) = some (bO m r s.row) :=
 aS (cs := s.row) hv bJx rfl rfl (by omega) rfl (by have e : s.row.length = 2 := rfl; unfold cB; simp [ho, e])
def bW5 : Nat → Option (List Nat) := fun
 | 0 => some [0, 1, 2, 6]
 | 1 => some [0, 1, 2, 6, 12]
 | 2 => some [0, 6, 8]
 | 3 => some [6, 7]
 | 4 => some [1, 2, 6, 9, 10]
 | 5 => some [1, 2, 6, 9, 10, 31]
 | 6 => some [1, 2, 6, 9, 10]
 | 7 => some [1, 2, 6, 9, 10]
 | 8 => some [6, 7]
 | _ => none
attribute [go_sem] bW5
def aN1 : List (FuncId × (List AV → Mem → Option (AV × Mem))) := [(175, aWd)]
theorem bYx : aO Tryz.prog 164 bV0 := by
 have hC := aI (P := Tryz.prog) (l := aN1) (aA bV2 aF)
 have t1 := taT aN1 175 rfl
 refine aP mixed hC Tryz.func164 rfl bW5 false rfl fun args m r h => ?_
 unfold bV0 at h
 split at h
 ·rename_i a b c
  split at h
  ·rename_i hyp
   have hyp2 := hyp
   unfold rD at hyp2
   rw [Bool.and_eq_true, Bool.and_eq_true, dW, dW, dW] at hyp2
   obtain ⟨⟨⟨a0, a1⟩, b0, b1⟩, c0, c1⟩ := hyp2
   simp only [Option.some.injEq] at h
   subst h
   refine ⟨nbT, ?_⟩
   refine en ?_
   have v6 : (m.push eG).var m.vars.length = some eG := aJ
   have hA := aG (cs := eG) (aM m)
   have hle : m.vars.length ≤ m.vars.length := Nat.le_refl _
   refine go0 ?_
   generalize m.push eG = m2 at v6 hA
   generalize hr6 : m.vars.length = r6 at v6 hle
   unfold vL
   by_cases hb : b = 1
   ·subst hb
    rw [if_pos rfl]
    refine aH rfl (fun hc => ?_) (fun hc => absurd hc (by decide))
    have na : ¬ a = 0 := by omega
    have q1 : c.tdiv a = c / a := Int.tdiv_eq_ediv_of_nonneg c0
    have d0 : 0 ≤ c / a := Int.ediv_nonneg c0 (by omega)
    have d1 : c / a * a ≤ c := Int.ediv_mul_le c na
    have d2 : c / a ≤ c := Int.ediv_le_self a c0
    have d3 : 0 ≤ c / a * a := Int.mul_nonneg d0 (by omega)
    have w1 : IntKind.i64.wrap (c / a) = c / a := bB (by omega) (by omega)
    have w2 : IntKind.i64.wrap (c / a * a) = c / a * a := bB (by omega) (by omega)
    have w3 : IntKind.i64.wrap (c / a * a + a) = c / a * a + a := bB (by omega) (by omega)
    have st := aV0 (s := ⟨c / a * a, c / a * a + a⟩) v6 rfl
    refine go1 (jn @na (jn @q1 (jn @w1 (jn @w2 (jn @w3 @st))))) ?_
    exact bT rfl (by decide) (.cons (bCj (bA v6)) rfl (.cons rfl rfl .nil)) (aC (bD hA (Nat.le_of_eq hr6)))
   ·rw [if_neg hb]
    refine aH rfl (fun hc => absurd (eq_of_beq hc) hb) (fun hc => ?_)
    have st : aR Tryz.prog (m2.push eG) 94 (.ptr m2.vars.length 0) (.agg [.v (.int .i64 0), .v (.int .i64 a)]) = some (m2.push (⟨0, a⟩ : Sp).row) := by
     rw [aV0 (s := ⟨0, a⟩) (aJ (cs := eG)) rfl, lH]
    refine go1 @st ?_
    have h9 := (fM v6).1
    have hge : m.vars.length ≤ m2.vars.length := uL hA
    refine cE (fun k e m' => ∃ (s : Sp) (n : Int) (j : Nat), aTz s ∧ 0 ≤ n ∧ n ≤ s.to_ ∧ c + 1 - s.to_ ≤ j ∧ aHm b c j s n = aHm b c (c + 1).toNat ⟨0, a⟩ 0 ∧ Above m m' ∧ m'.var r6 = some eG ∧ m'.var m2.vars.length = some s.row ∧ j = k ∧
     e = [(1, .v (.int .i64 b)), (2, .v (.int .i64 c)), (6, .ptr r6 0), (9, .ptr m2.vars.length 0), (10, .v (.int .i64 n))]) (k := (c + 1).toNat)
     ⟨⟨0, a⟩, 0, _, ⟨by show (0 : Int) ≤ 0; decide, by show (0 : Int) < a; omega, by show a ≤ _; omega⟩, by decide, by show (0 : Int) ≤ a; omega, by show c + 1 - a ≤ _; omega, rfl, aG hA, aQ v6, aJ, rfl, rfl⟩ ?_
    rintro k e m' ⟨s, n, j, hs, n0, n1, hj, hcy, hA2, w6, w9, rfl, rfl⟩
    have l0 := aFp w9
    have l1 := bCj w9
    refine go1 @l0 ?_
    refine aH rfl (fun hc => ?_) (fun hc => ?_)
    ·have hto := of_decide_eq_true hc
     obtain ⟨s1, s2⟩ := aV1 hs (by omega) b0 b1
     have k1 : ∀ mm, aWd [.agg s.row, .v (.int .i64 b)] mm = some (.agg (uX b s).row, mm) := fun mm => by
      simp only [aWd, aZy]
      exact if_pos ⟨hs, b0, b1⟩
     have s3 := aV0 (s := uX b s) w9 rfl
     obtain ⟨j2, rfl⟩ : ∃ j2, j = j2 + 1 := ⟨j - 1, by omega⟩
     rw [aHm, if_pos hto] at hcy
     have s4 := s3
     have e1 : (.agg (uX b s).row : AV) = .agg [.v (.int .i64 (uX b s).from_), .v (.int .i64 (uX b s).to_)] := rfl
     rw [← e1] at s4
     have w1 : IntKind.i64.wrap (n + 1) = n + 1 := bB (by omega) (by have := hs.2.2; omega)
     refine go1 (jn @l1 (jn @t1 (jn @k1 (jn @s4 @w1)))) ?_
     exact ⟨j2, by omega, uX b s, n + 1, j2, s1, by omega, by omega, by omega, hcy, bD hA2 hge, cD w6 (by omega), bA w9, rfl, rfl⟩
    ·have hto := of_decide_eq_false hc
     rw [bQi hto] at hcy
     rw [← hcy]
     have s5 := aV0 (s := s) w6 rfl
     have e1 : (.agg s.row : AV) = .agg [.v (.int .i64 s.from_), .v (.int .i64 s.to_)] := rfl
     rw [← e1] at s5
     refine go1 (jn @l1 @s5) ?_
     exact bT rfl (by decide) (.cons (bCj (bA w6)) rfl (.cons rfl rfl .nil)) (aC (bD hA2 (Nat.le_of_eq hr6)))
  ·cases h
 ·cases h
def fO (a b c : Int) : Sp × Int × Int := if rD a b c = true then ((vL a b c).1, (vL a b c).2, 0) else (sp0, 0, 1)
def aE8 : List AV → Mem → Option (AV × Mem)
 | [.v (.int .i64 a), .v (.int .i64 b), .v (.int .i64 c)], m => some (.tup [.agg (fO a b c).1.row, iv (fO a b c).2.1, iv (fO a b c).2.2], m)
 | _, _ => none
def aRq : Nat → Option (List Nat) := fun
 | 0 => some [0, 1, 2, 6]
 | 1 => some [0, 1, 2, 6, 15]
 | 2 => some [6, 7, 8]
 | 3 => some [6, 9, 10]
 | 4 => some [6, 7, 8]
 | _ => none
attribute [go_sem] aRq
def qW : List (FuncId × (List AV → Mem → Option (AV × Mem))) := [(163, aKo), (164, bV0)]
theorem bAt : aO Tryz.prog 150 aE8 := by
 have hC := aI (P := Tryz.prog) (l := qW) (aA bKd (aA bYx aF))
 have t1 := taT qW 163 rfl
 have t2 := taT qW 164 rfl
 refine aP mixed hC Tryz.func150 rfl aRq false rfl fun args m r h => ?_
 unfold aE8 at h
 split at h
 ·rename_i a b c
  simp only [Option.some.injEq] at h
  subst h
  refine ⟨nbT, ?_⟩
  refine en ?_
  have v6 : (m.push eG).var m.vars.length = some eG := aJ
  have hA := aG (cs := eG) (aM m)
  have c1 : ∀ mm, aKo [.v (.int .i64 a), .v (.int .i64 b), .v (.int .i64 c)] mm = some (.v (.bool (rD a b c)), mm) := fun _ => rfl
  unfold fO
  cases hm : rD a b c with
  | false =>
   have k2 : (!false) = true := rfl
   rw [hm] at c1
   refine go1 (jn @t1 (jn @c1 @k2)) ?_
   refine rcT rfl ?_
   have st : aR Tryz.prog (m.push eG) 94 (.ptr m.vars.length 0) (.agg eG) = some (bO (m.push eG) m.vars.length sp0.row) := aV0 (s := sp0) v6 rfl
   refine go1 @st ?_
   rw [if_neg (by decide)]
   exact bT rfl (by decide) (.cons (bCj (bA v6)) rfl (.cons rfl rfl (.cons rfl rfl .nil))) (aC (bD hA (Nat.le_refl _)))
  | true =>
   have k1 : (!true) = false := rfl
   rw [hm] at c1
   have c2 : ∀ mm, bV0 [.v (.int .i64 a), .v (.int .i64 b), .v (.int .i64 c)] mm = some (.tup [.agg (vL a b c).1.row, .v (.int .i64 (vL a b c).2)], mm) := fun mm => if_pos hm
   rw [if_pos rfl]
   generalize vL a b c = z at c2
   refine go1 (jn @t1 (jn @c1 @k1)) ?_
   refine rcF rfl ?_
   generalize m.push eG = m2 at v6 hA
   generalize hr6 : m.vars.length = r6 at v6
   have e1 : (.agg z.1.row : AV) = .agg [.v (.int .i64 z.1.from_), .v (.int .i64 z.1.to_)] := rfl
   have st : aR Tryz.prog (m2.push eG) 94 (.ptr m2.vars.length 0) (.agg z.1.row) = some (m2.push z.1.row) := by
    rw [e1, aV0 (s := z.1) (aJ (cs := eG)) rfl, lH]
   have l9 := bCj (aJ (m := m2) (cs := z.1.row))
   have w6 := aQ (cs' := z.1.row) v6
   have s6 := aV0 (s := z.1) w6 rfl
   rw [← e1] at s6
   refine go1 (jn @t2 (jn @c2 (jn @st (jn @l9 @s6)))) ?_
   exact bT rfl (by decide) (.cons (bCj (bA w6)) rfl (.cons rfl rfl (.cons rfl rfl .nil))) (aC (bD (aG hA) (Nat.le_of_eq hr6)))
 ·cases h
end
section
attribute [local irreducible] Next aW cF Ops bQ
attribute [local irreducible] bE dH
attribute [local go_sem] cO bP Option.getD_some cJ aT aV iv aXm aGa aP4 qK aBf bT9 bU5 bN4 bEz aKs aO2 cAm cAf cCc bTo bGq aB2 aKw bDe cBs bH0 bJf bJl aB4 aBq aA4 aBu kO
def iV (s : Sg) : Bool := decide (0 ≤ s.from_) && decide (s.from_ < s.to_) && decide (s.to_ ≤ 1048576) && inB s.begin_ 0 s.from_ && jV s.curve &&
 (if s.first = 0 then (s.times == 0) && inB s.n (s.to_ - s.begin_) 1048576 else inB s.first 1 1048576 && inB s.times 1 16 && (s.n == 0))
def aIa : List AV → Mem → Option (AV × Mem)
 | [.agg cs], m =>
  match bC1 cs with
  | some s => some (.v (.bool (iV s)), m)
  | none => none
 | _, _ => none
def bE0 : Nat → Option (List Nat) := fun
 | 0 => some [1]
 | 1 => some [1, 31]
 | 2 => some [2]
 | 3 => some [1, 34]
 | 4 => some [2]
 | 5 => some [2]
 | _ => none
attribute [go_sem] bE0
def xQ : List (FuncId × (List AV → Mem → Option (AV × Mem))) := [(142, oZ), (143, lR)]
theorem bRh : aO Tryz.prog 124 aIa := by
 have hC := aI (P := Tryz.prog) (l := xQ) (aA bLf (aA aCq aF))
 have t1 := taT xQ 142 rfl
 have t2 := taT xQ 143 rfl
 refine aP mixed hC Tryz.func124 rfl bE0 false rfl fun args m r h => ?_
 unfold aIa at h
 split at h
 ·rename_i cs
  split at h
  ·rename_i s hs0
   obtain rfl := aBn hs0
   simp only [Option.some.injEq] at h
   subst h
   refine ⟨nbT, ?_⟩
   refine en ?_
   have v2 : (m.push s.row).var m.vars.length = some s.row := aJ
   have nr := aO2 (m := m) (x := s)
   have hA := aG (cs := s.row) (aM m)
   refine go1 @nr ?_
   generalize m.push s.row = m2 at v2 hA
   generalize m.vars.length = r2 at v2
   have l1 := aIk v2
   have l2 := bTp v2
   have l3 := aOd v2
   have l4 := bXc v2
   have l5 := aHt v2
   have l6 := aS6 v2
   have l7 := aQr v2
   have c1 := eB s.begin_ 0 s.from_
   have c2 := aCt s.curve
   have c4 := eB s.first 1 1048576
   have c5 := eB s.times 1 16
   have fin : ∀ (e : Env) (b : Bool), Ev.get e 2 = .v (.bool b) → b = iV s → cZ Tryz.prog false Tryz.f124 m (.v (.bool (iV s)), m) .ret e m2 := fun e b h1 h2 => by rw [← h2]; exact aE rfl h1 (aC hA)
   have k1 : (!true) = false := rfl
   have k2 : (!false) = true := rfl
   have z0 : ((0 : Int) != 0) = false := rfl
   have z1 : ((1 : Int) != 0) = true := rfl
   cases q1 : decide (s.from_ < 0) with
   | true =>
    have := of_decide_eq_true q1
    have no : false = iV s := by unfold iV; rw [decide_eq_false (by omega)]; rfl
    refine go1 (jn @l1 @q1) ?_
    refine rcT rfl ?_
    refine go0 ?_
    exact fin _ _ rfl no
   | false =>
    have h1 := of_decide_eq_false q1
    cases q2 : decide (s.from_ ≥ s.to_) with
    | true =>
     have := of_decide_eq_true q2
     have no : false = iV s := by unfold iV; rw [decide_eq_false (p := s.from_ < s.to_) (by omega), Bool.and_false]; rfl
     refine go1 (jn @l1 (jn @q1 (jn @l2 @q2))) ?_
     refine rcT rfl ?_
     refine go0 ?_
     exact fin _ _ rfl no
    | false =>
     have h2 := of_decide_eq_false q2
     cases q3 : decide (s.to_ > 1048576) with
     | true =>
      have := of_decide_eq_true q3
      have no : false = iV s := by unfold iV; rw [decide_eq_false (p := s.to_ ≤ 1048576) (by omega), Bool.and_false]; rfl
      refine go1 (jn @l1 (jn @q1 (jn @l2 (jn @q2 @q3)))) ?_
      refine rcT rfl ?_
      refine go0 ?_
      exact fin _ _ rfl no
     | false =>
      have h3 := of_decide_eq_false q3
      cases q4 : inB s.begin_ 0 s.from_ with
      | false =>
       have no : false = iV s := by unfold iV; rw [q4, Bool.and_false]; rfl
       rw [q4] at c1
       refine go1 (jn @l1 (jn @q1 (jn @l2 (jn @q2 (jn @q3 (jn @l3 (jn @t1 (jn @c1 @k2)))))))) ?_
       refine rcT rfl ?_
       refine go0 ?_
       exact fin _ _ rfl no
      | true =>
       have h4 := dW.1 q4
       rw [q4] at c1
       cases q5 : jV s.curve with
       | false =>
        have no : false = iV s := by unfold iV; rw [q5, Bool.and_false]; rfl
        rw [q5] at c2
        simp only [Bool.false_eq_true, if_false] at c2
        refine go1 (jn @l1 (jn @q1 (jn @l2 (jn @q2 (jn @q3 (jn @l3 (jn @t1 (jn @c1 (jn @k1 (jn @l5 (jn @t2 (jn @c2 @z1)))))))))))) ?_
        refine rcT rfl ?_
        refine go0 ?_
        exact fin _ _ rfl no
       | true =>
        rw [q5] at c2
        simp only [if_true] at c2
        have e0 : iV s = (if s.first = 0 then (s.times == 0) && inB s.n (s.to_ - s.begin_) 1048576 else inB s.first 1 1048576 && inB s.times 1 16 && (s.n == 0)) := by
         unfold iV
         rw [q4, q5, decide_eq_true (p := 0 ≤ s.from_) (by omega), decide_eq_true (p := s.from_ < s.to_) (by omega), decide_eq_true (p := s.to_ ≤ 1048576) (by omega)]
         simp only [Bool.true_and]
        rw [e0] at fin ⊢
        refine go1 (jn @l1 (jn @q1 (jn @l2 (jn @q2 (jn @q3 (jn @l3 (jn @t1 (jn @c1 (jn @k1 (jn @l5 (jn @t2 (jn @c2 @z0)))))))))))) ?_
        refine rcF rfl ?_
        refine go1 @l6 ?_
        have w1 : IntKind.i64.wrap (s.to_ - s.begin_) = s.to_ - s.begin_ := bB (by omega) (by omega)
        have c3 := eB s.n (s.to_ - s.begin_) 1048576
        by_cases hf : s.first = 0
        ·rw [if_pos hf] at fin ⊢
         refine aH rfl (fun hc => ?_) (fun hc => absurd hc (by rw [hf]; decide))
         cases ht : (s.times == 0) with
         | false =>
          refine go1 (jn @l7 @ht) ?_
          exact aE rfl rfl (aC hA)
         | true =>
          refine go1 (jn @l7 (jn @ht (jn @l4 (jn @l2 (jn @l3 (jn @w1 (jn @t1 @c3))))))) ?_
          exact aE rfl rfl (aC hA)
        ·rw [if_neg hf] at fin ⊢
         refine aH rfl (fun hc => absurd (eq_of_beq hc) hf) (fun hc => ?_)
         cases ha : inB s.first 1 1048576 with
         | false =>
          rw [ha] at c4
          refine go1 (jn @l6 (jn @t1 @c4)) ?_
          exact aE rfl rfl (aC hA)
         | true =>
          rw [ha] at c4
          cases hb : inB s.times 1 16 with
          | false =>
           rw [hb] at c5
           refine go1 (jn @l6 (jn @t1 (jn @c4 (jn @l7 @c5)))) ?_
           exact aE rfl rfl (aC hA)
          | true =>
           rw [hb] at c5
           refine go1 (jn @l6 (jn @t1 (jn @c4 (jn @l7 (jn @c5 @l4))))) ?_
           exact aE rfl rfl (aC hA)
  ·cases h
 ·cases h
theorem sJ {s : Sg} (h : iV s = true) : 0 ≤ s.from_ ∧ s.from_ < s.to_ ∧ s.to_ ≤ 1048576 ∧ 0 ≤ s.begin_ ∧ s.begin_ ≤ s.from_ ∧ jV s.curve = true := by
 unfold iV at h
 simp only [Bool.and_eq_true, decide_eq_true_eq, dW] at h
 obtain ⟨⟨⟨⟨⟨h1, h2⟩, h3⟩, h4⟩, h5⟩, _⟩ := h
 exact ⟨h1, h2, h3, h4.1, h4.2, h5⟩
def aKa (s : Sg) (step : Int) : Int × Int :=
 if s.first = 0 then eL s.curve (IntKind.i64.wrap (step - s.begin_)) s.n
 else if (fO s.first s.times (IntKind.i64.wrap (step - s.begin_))).2.2 ≠ 0 then (0, (fO s.first s.times (IntKind.i64.wrap (step - s.begin_))).2.2)
 else eL s.curve (IntKind.i64.wrap (IntKind.i64.wrap (step - s.begin_) - (fO s.first s.times (IntKind.i64.wrap (step - s.begin_))).1.from_)) (IntKind.i64.wrap ((fO s.first s.times (IntKind.i64.wrap (step - s.begin_))).1.to_ - (fO s.first s.times (IntKind.i64.wrap (step - s.begin_))).1.from_))
def aW9 : List AV → Mem → Option (AV × Mem)
 | [.agg cs, .v (.int .i64 step)], m =>
  match bC1 cs with
  | some s => some (.tup [iv (aKa s step).1, iv (aKa s step).2], m)
  | none => none
 | _, _ => none
theorem bV5 (s : Sg) (step : Int) (m : Mem) : aW9 [.agg s.row, .v (.int .i64 step)] m = some (.tup [.v (.int .i64 (aKa s step).1), .v (.int .i64 (aKa s step).2)], m) := by
 simp only [aW9, aD9]
 rfl
def bQa : Nat → Option (List Nat) := fun
 | 0 => some [1, 2]
 | 1 => some [2, 6]
 | 2 => some [2, 6, 16]
 | 3 => some [4, 5]
 | 4 => some [2, 6, 7, 9]
 | 5 => some [2, 6, 7, 9, 36]
 | 6 => some [4, 5]
 | 7 => some [4, 5]
 | _ => none
attribute [go_sem] bQa
def yN : List (FuncId × (List AV → Mem → Option (AV × Mem))) := [(149, aAv), (150, aE8)]
theorem bT2 : aO Tryz.prog 128 aW9 := by
 have hC := aI (P := Tryz.prog) (l := yN) (aA bDd (aA bAt aF))
 have t1 := taT yN 149 rfl
 have t2 := taT yN 150 rfl
 refine aP mixed hC Tryz.func128 rfl bQa false rfl fun args m r h => ?_
 unfold aW9 at h
 split at h
 ·rename_i cs step
  split at h
  ·rename_i s hs0
   obtain rfl := aBn hs0
   simp only [Option.some.injEq] at h
   subst h
   refine ⟨nbT, ?_⟩
   refine en ?_
   have v2 : (m.push s.row).var m.vars.length = some s.row := aJ
   have nr := aO2 (m := m) (x := s)
   have hA := aG (cs := s.row) (aM m)
   refine go1 @nr ?_
   generalize m.push s.row = m2 at v2 hA
   generalize m.vars.length = r2 at v2
   have l3 := aOd v2
   have l4 := bXc v2
   have l5 := aHt v2
   have l6 := aS6 v2
   have l7 := aQr v2
   unfold aKa
   refine go1 (jn @l3 @l6) ?_
   generalize IntKind.i64.wrap (step - s.begin_) = i
   by_cases hf : s.first = 0
   ·rw [if_pos hf]
    refine aH rfl (fun hc => ?_) (fun hc => absurd hc (by rw [hf]; decide))
    have c1 := aM5 s.curve i s.n
    refine go1 (jn @l5 (jn @l4 (jn @t1 @c1))) ?_
    exact bT rfl (by decide) (.cons rfl rfl (.cons rfl rfl .nil)) (aC hA)
   ·rw [if_neg hf]
    refine aH rfl (fun hc => absurd (eq_of_beq hc) hf) (fun hc => ?_)
    have c2 : ∀ mm, aE8 [.v (.int .i64 s.first), .v (.int .i64 s.times), .v (.int .i64 i)] mm = some (.tup [.agg (fO s.first s.times i).1.row, .v (.int .i64 (fO s.first s.times i).2.1), .v (.int .i64 (fO s.first s.times i).2.2)], mm) := fun _ => rfl
    generalize fO s.first s.times i = z at *
    have e1 : (.agg z.1.row : AV) = .agg [.v (.int .i64 z.1.from_), .v (.int .i64 z.1.to_)] := rfl
    have st : aR Tryz.prog (m2.push eG) 94 (.ptr m2.vars.length 0) (.agg z.1.row) = some (m2.push z.1.row) := by
     rw [e1, aV0 (s := z.1) (aJ (cs := eG)) rfl, lH]
    refine go1 (jn @l6 (jn @l7 (jn @t2 (jn @c2 @st)))) ?_
    have w2 := aQ (cs' := z.1.row) v2
    have w5 : (m2.push z.1.row).var m2.vars.length = some z.1.row := aJ
    have hA2 := aG (cs := z.1.row) hA
    generalize m2.push z.1.row = m3 at w2 w5 hA2
    generalize m2.vars.length = r7 at w5
    by_cases he : z.2.2 = 0
    ·rw [if_neg (by rw [he]; decide)]
     have q1 : (z.2.2 != 0) = false := by rw [he]; rfl
     refine aH rfl (fun hc => by rw [q1] at hc; cases hc) (fun hc => ?_)
     have c3 := aM5 s.curve (IntKind.i64.wrap (i - z.1.from_)) (IntKind.i64.wrap (z.1.to_ - z.1.from_))
     have x5 := aHt w2
     have x1 := aB3 w5
     have x2 := aFp w5
     refine go1 (jn @x5 (jn @x1 (jn @x2 (jn @t1 @c3)))) ?_
     exact bT rfl (by decide) (.cons rfl rfl (.cons rfl rfl .nil)) (aC hA2)
    ·rw [if_pos he]
     have q1 : (z.2.2 != 0) = true := by simpa using he
     refine aH rfl (fun hc => ?_) (fun hc => by rw [q1] at hc; cases hc)
     refine go0 ?_
     exact bT rfl (by decide) (.cons rfl rfl (.cons rfl rfl .nil)) (aC hA2)
  ·cases h
 ·cases h
end
section
attribute [local irreducible] Next aW cF Ops bQ
attribute [local irreducible] bE dH
attribute [local go_sem] cO bP Option.getD_some cJ aT aV iv bEz aKs aO2 cAm cAf cCc bTo bGq aB2 aKw aB4 aBq aA4 aBu kO
def aQo (l : List Sg) (i : Nat) : Bool := iV (l.getD i sg0) && (decide (i = 0) || decide ((l.getD (i - 1) sg0).to_ = (l.getD i sg0).from_))
def aBz (l : List Sg) (i : Nat) : Bool := (List.range i).all (aQo l)
theorem aVd (l : List Sg) (i : Nat) : aBz l (i + 1) = (aBz l i && aQo l i) := by
 unfold aBz
 rw [List.range_succ, List.all_append]
 simp
def fG (l : List Sg) : Bool := decide (l.length ≠ 0) && aBz l l.length
theorem aO0 {l : List Sg} {i : Nat} (hi : i < l.length) (h : aQo l i = false) : fG l = false := by
 unfold fG aBz
 rw [show (List.range l.length).all (aQo l) = false from List.all_eq_false.2 ⟨i, List.mem_range.2 hi, by rw [h]; simp⟩, Bool.and_false]
def kK : List AV → Mem → Option (AV × Mem)
 | [.lst _ 10 rows], m =>
  match aAi rows with
  | some l => if l.length ≤ 1000000 then some (iv (if fG l then 0 else 1), m) else none
  | none => none
 | _, _ => none
theorem aE5 {l : List Sg} {g : Grow} (h : l.length ≤ 1000000) (m : Mem) : kK [.lst g 10 (eO l)] m = some (.v (.int .i64 (if fG l then 0 else 1)), m) := by
 simp only [kK, jT]
 exact if_pos h
theorem cDa {m : Mem} {x : Sg} : aR Tryz.prog (m.push aK9) 73 (.ptr m.vars.length 0) (.agg x.row) = some (m.push x.row) := by
 rw [eW (cs := x.row) rfl bUp (Nat.le_refl _) rfl]
 rfl
def eD : Nat → Option (List Nat) := fun
 | 0 => some [0]
 | 1 => some [0, 5, 6, 7]
 | 2 => some [0, 5, 6, 7, 8]
 | 3 => some [0, 3, 4, 5, 6, 7]
 | 4 => some [0, 5, 6, 7, 29]
 | 5 => some [2]
 | 6 => some [0, 5, 6, 7]
 | 7 => some [33]
 | 8 => some [2]
 | 9 => some [2]
 | _ => none
attribute [go_sem] eD
theorem aEz : aO Tryz.prog 103 kK := by
 have hC := aI (P := Tryz.prog) (l := [(124, aIa)]) (aA bRh aF)
 have t1 := taT [(124, aIa)] 124 rfl
 refine dJ Tryz.func103 rfl false rfl fun args m r h => ?_
 unfold kK at h
 split at h
 ·rename_i g rows
  split at h
  ·rename_i l hl0
   obtain rfl := oC hl0
   split at h
   ·rename_i hlen
    simp only [Option.some.injEq] at h
    subst h
    refine ⟨nbT, fun φ wd => ?_⟩
    refine en ?_
    have k1 : (!true) = false := rfl
    have k2 : (!false) = true := rfl
    have fin : ∀ (e : Env) (m' : Mem) (F : Objs) (x : Int), Above m m' → Ev.get e 2 = .v (.int .i64 x) → x = (if fG l then 0 else 1) → aEu Tryz.prog false Tryz.f103 m (iv (if fG l then 0 else 1), m) .ret e m' F := fun e m' F x h1 h2 h3 => by
     rw [← h3]; exact aX (aE rfl h2 (aC h1))
    refine xq ?_
    refine aB (kp := eD) mixed hC ?_
    refine go0 ?_
    refine xq ?_
    refine aB (kp := eD) mixed hC ?_
    refine go0 ?_
    refine xq ?_
    refine wZ (fun k e m' F => ∃ i : Nat, i ≤ l.length ∧ aBz l i = true ∧ Above m m' ∧ k = l.length - i ∧ e = [(0, AV.lst g 10 (eO l)), (5, AV.lst g 10 (eO l)), (6, .v (.int .i64 (l.length : Int))), (7, .v (.int .i64 (i : Int)))]) (k := l.length) ⟨0, Nat.zero_le _, rfl, aM m, rfl, rfl⟩ ?_
    rintro k e m' F ⟨i, hi0, hpre, hA, rfl, rfl⟩
    refine xq ?_
    refine aB (kp := eD) mixed hC ?_
    refine go0 ?_
    refine xq ?_
    refine cK rfl (fun hc => ?_) (fun hc => ?_)
    ·have hi1 : i < l.length := by have := of_decide_eq_true hc; omega
     have f1 := aVg (g := g) (kk := .i64) hi1
     have hS : aQo l i = (iV (l.getD i sg0) && (decide (i = 0) || decide ((l.getD (i - 1) sg0).to_ = (l.getD i sg0).from_))) := rfl
     have r6 := cP (i := i) (by omega)
     have hpre2 := aVd l i
     rw [hpre, Bool.true_and] at hpre2
     generalize hs : l.getD i sg0 = s at f1 hS
     have st := cDa (m := m') (x := s)
     refine xq ?_
     refine aB (kp := eD) mixed hC ?_
     refine go1 (jn @f1 @st) ?_
     refine xq ?_
     have v4 : (m'.push s.row).var m'.vars.length = some s.row := aJ
     have hA2 := aG (cs := s.row) hA
     generalize m'.push s.row = m2 at v4 hA2
     generalize m'.vars.length = r4 at v4
     have l4 := cDh v4
     have l0 := aIk v4
     have c1 : ∀ mm, aIa [.agg s.row] mm = some (.v (.bool (iV s)), mm) := fun mm => by simp only [aIa, aD9]
     refine bN (l2 := eD 4) mixed hC (by kernel_rfl) ?_
     cases ho : iV s with
     | false =>
      rw [ho] at c1
      refine eJ (jn @l4 (jn @t1 (jn @c1 @k2))) ?_
      refine xq ?_
      refine xcT rfl ?_
      refine xq ?_
      refine aB (kp := eD) mixed hC ?_
      refine go0 ?_
      refine xq ?_
      exact fin _ _ _ _ hA2 rfl (by rw [aO0 hi1 (by rw [hS, ho]; rfl)]; rfl)
     | true =>
      rw [ho] at c1
      rw [ho, Bool.true_and] at hS
      by_cases hz : i = 0
      ·have q1 : decide ((i : Int) > 0) = false := decide_eq_false (by omega)
       rw [decide_eq_true hz, Bool.true_or] at hS
       refine eJ (jn @l4 (jn @t1 (jn @c1 (jn @k1 @q1)))) ?_
       refine xq ?_
       refine xcF rfl ?_
       refine xq ?_
       refine aB (kp := eD) mixed hC ?_
       refine go1 @r6 ?_
       refine xq ?_
       exact ⟨l.length - (i + 1), by omega, i + 1, hi1, by rw [hpre2, hS], hA2, rfl, rfl⟩
      ·have q1 : decide ((i : Int) > 0) = true := decide_eq_true (by omega)
       have w1 : IntKind.i64.wrap ((i : Int) - 1) = ((i - 1 : Nat) : Int) := by rw [bB (by omega) (by omega)]; omega
       have f2 := aVg (g := g) (kk := .i64) (l := l) (i := i - 1) (by omega)
       rw [decide_eq_false hz, Bool.false_or] at hS
       generalize l.getD (i - 1) sg0 = s2 at f2 hS
       by_cases ht : s2.to_ = s.from_
       ·have q2 : (s2.to_ != s.from_) = false := by rw [ht]; exact bne_self_eq_false _
        refine eJ (jn @l4 (jn @t1 (jn @c1 (jn @k1 (jn @q1 (jn @w1 (jn @f2 (jn @l0 @q2)))))))) ?_
        refine xq ?_
        refine xcF rfl ?_
        refine xq ?_
        refine aB (kp := eD) mixed hC ?_
        refine go1 @r6 ?_
        refine xq ?_
        exact ⟨l.length - (i + 1), by omega, i + 1, hi1, by rw [hpre2, hS, decide_eq_true ht], hA2, rfl, rfl⟩
       ·have q2 : (s2.to_ != s.from_) = true := by simpa using ht
        refine eJ (jn @l4 (jn @t1 (jn @c1 (jn @k1 (jn @q1 (jn @w1 (jn @f2 (jn @l0 @q2)))))))) ?_
        refine xq ?_
        refine xcT rfl ?_
        refine xq ?_
        refine aB (kp := eD) mixed hC ?_
        refine go0 ?_
        refine xq ?_
        exact fin _ _ _ _ hA2 rfl (by rw [aO0 hi1 (by rw [hS, decide_eq_false ht])]; rfl)
    ·obtain rfl : i = l.length := by have := of_decide_eq_false hc; omega
     refine xq ?_
     refine aB (kp := eD) mixed hC ?_
     refine go0 ?_
     refine xq ?_
     by_cases hz : l.length = 0
     ·have q1 : (((l.length : Nat) : Int) == 0) = true := by rw [hz]; rfl
      refine cK rfl (fun hc => ?_) (fun hc => by rw [q1] at hc; cases hc)
      refine xq ?_
      refine aB (kp := eD) mixed hC ?_
      refine go0 ?_
      refine xq ?_
      exact fin _ _ _ _ hA rfl (by unfold fG; rw [decide_eq_false (by omega)]; rfl)
     ·have q1 : (((l.length : Nat) : Int) == 0) = false := by rw [beq_eq_false_iff_ne]; omega
      refine cK rfl (fun hc => by rw [q1] at hc; cases hc) (fun hc => ?_)
      refine xq ?_
      refine aB (kp := eD) mixed hC ?_
      refine go0 ?_
      refine xq ?_
      exact fin _ _ _ _ hA rfl (by unfold fG; rw [decide_eq_true hz, hpre]; rfl)
   ·cases h
  ·cases h
 ·cases h
theorem nG {l : List Sg} (h : fG l = true) {i : Nat} (hi : i < l.length) : iV (l.getD i sg0) = true ∧ (0 < i → (l.getD (i - 1) sg0).to_ = (l.getD i sg0).from_) := by
 unfold fG at h
 rw [Bool.and_eq_true] at h
 have := List.all_eq_true.1 h.2 i (List.mem_range.2 hi)
 unfold aQo at this
 simp only [Bool.and_eq_true, Bool.or_eq_true, decide_eq_true_eq] at this
 exact ⟨this.1, fun h0 => this.2.resolve_left (by omega)⟩
theorem aSq {l : List Sg} (h : fG l = true) {j : Nat} : ∀ d, j + d + 1 < l.length → (l.getD j sg0).to_ ≤ (l.getD (j + d + 1) sg0).from_
 | 0, hd => by
  have := (nG h (i := j + 0 + 1) hd).2 (by omega)
  rw [show j + 0 + 1 - 1 = j by omega] at this
  omega
 | d + 1, hd => by
  have h1 := aSq (j := j) h d (by omega)
  have h2 := (nG h (i := j + (d + 1) + 1) hd).2 (by omega)
  have h3 := sJ (nG h (i := j + d + 1) (by omega)).1
  rw [show j + (d + 1) + 1 - 1 = j + d + 1 by omega] at h2
  omega
theorem aD5 {l : List Sg} (h : fG l = true) {j i : Nat} (hj : j < i) (hi : i < l.length) : (l.getD j sg0).to_ ≤ (l.getD i sg0).from_ := by
 have := aSq h (j := j) (i - j - 1) (by omega)
 rwa [show j + (i - j - 1) + 1 = i by omega] at this
def aOn (a b : Int) : Int := if a < b then -1 else if a > b then 1 else 0
def bT8 : List AV → Mem → Option (AV × Mem)
 | [.v (.int .i64 x)], m => some (.v (.bool false), m)
 | _, _ => none
def bXg : Nat → Option (List Nat) := fun
 | 0 => some [0]
 | 1 => some [2]
 | _ => none
attribute [go_sem] bXg
theorem bYq : aO Tryz.prog 159 bT8 := by
 have hC := aI (P := Tryz.prog) (l := []) aF
 refine aP mixed hC Tryz.func159 rfl bXg false rfl fun args m r h => ?_
 unfold bT8 at h
 split at h
 ·rename_i x
  simp only [Option.some.injEq] at h
  subst h
  refine ⟨nbT, ?_⟩
  refine en ?_
  have q1 : (x != x) = false := bne_self_eq_false x
  refine go1 @q1 ?_
  exact aY rfl rfl
 ·cases h
def bVe : List AV → Mem → Option (AV × Mem)
 | [.v (.int .i64 a), .v (.int .i64 b)], m => some (iv (aOn a b), m)
 | _, _ => none
def bXi : Nat → Option (List Nat) := fun
 | 0 => some [0, 1]
 | 1 => some [0, 1, 5]
 | 2 => some [0, 1, 5, 6]
 | 3 => some [0, 1, 6, 11]
 | 4 => some [12]
 | 5 => some [4]
 | 6 => some [4]
 | 7 => some [0, 1, 13]
 | 8 => some [4]
 | 9 => some [0, 1, 16]
 | 10 => some [4]
 | 11 => some [19]
 | 12 => some [4]
 | 13 => some [4]
 | _ => none
attribute [go_sem] bXi
def aOs : List (FuncId × (List AV → Mem → Option (AV × Mem))) := [(159, bT8)]
theorem bY3 : aO Tryz.prog 148 bVe := by
 have hC := aI (P := Tryz.prog) (l := aOs) (aA bYq aF)
 have t1 := taT aOs 159 rfl
 refine aP mixed hC Tryz.func148 rfl bXi false rfl fun args m r h => ?_
 unfold bVe at h
 split at h
 ·rename_i a b
  simp only [Option.some.injEq] at h
  subst h
  refine ⟨nbT, ?_⟩
  refine en ?_
  have c1 : ∀ (x : Int) (mm : Mem), bT8 [.v (.int .i64 x)] mm = some (.v (.bool false), mm) := fun _ _ => rfl
  unfold aOn
  refine go1 (jn @t1 @c1) ?_
  refine rcF rfl ?_
  refine go0 ?_
  refine rcF rfl ?_
  refine go0 ?_
  refine aH rfl (fun hc => ?_) (fun hc => ?_)
  ·rw [if_pos (of_decide_eq_true hc)]
   refine go0 ?_
   exact aY rfl rfl
  ·rw [if_neg (of_decide_eq_false hc)]
   refine go0 ?_
   refine aH rfl (fun hc => ?_) (fun hc => ?_)
   ·rw [if_pos (of_decide_eq_true hc)]
    refine go0 ?_
    exact aY rfl rfl
   ·rw [if_neg (of_decide_eq_false hc)]
    refine go0 ?_
    exact aY rfl rfl
 ·cases h
def aVx : List AV → Mem → Option (AV × Mem)
 | [.agg cs, .v (.int .i64 b)], m =>
  match bC1 cs with
  | some s => some (iv (aOn s.from_ b), m)
  | none => none
 | _, _ => none
theorem bGw (s : Sg) (b : Int) (m : Mem) : aVx [.agg s.row, .v (.int .i64 b)] m = some (.v (.int .i64 (aOn s.from_ b)), m) := by
 simp only [aVx, aD9]
 rfl
def bQr : Nat → Option (List Nat) := fun
 | 0 => some [1, 2]
 | 1 => some [4]
 | _ => none
attribute [go_sem] bQr
def aJc : List (FuncId × (List AV → Mem → Option (AV × Mem))) := [(148, bVe)]
theorem bTi : aO Tryz.prog 147 aVx := by
 have hC := aI (P := Tryz.prog) (l := aJc) (aA bY3 aF)
 have t1 := taT aJc 148 rfl
 refine aP mixed hC Tryz.func147 rfl bQr false rfl fun args m r h => ?_
 unfold aVx at h
 split at h
 ·rename_i cs b
  split at h
  ·rename_i s hs0
   obtain rfl := aBn hs0
   simp only [Option.some.injEq] at h
   subst h
   refine ⟨nbT, ?_⟩
   refine en ?_
   have v2 : (m.push s.row).var m.vars.length = some s.row := aJ
   have nr := aO2 (m := m) (x := s)
   have l1 := aIk v2
   have c1 : ∀ mm, bVe [.v (.int .i64 s.from_), .v (.int .i64 b)] mm = some (.v (.int .i64 (aOn s.from_ b)), mm) := fun _ => rfl
   refine go1 (jn @nr (jn @l1 (jn @t1 @c1))) ?_
   exact aE rfl rfl lV
  ·cases h
 ·cases h
end
section
attribute [local irreducible] Next aW cF Ops bQ
attribute [local irreducible] bE dH
attribute [local go_sem] cO bP Option.getD_some cJ aT aV iv bEz aKs aO2 bTo aB2 aKw aB4 aBq kO
def loN (l : List Sg) (step : Int) : Nat := (l.takeWhile fun s => decide (s.from_ < step)).length
theorem bM8 {step : Int} : ∀ {l : List Sg} {n : Nat}, n ≤ l.length → (∀ j, j < n → (l.getD j sg0).from_ < step) → (n < l.length → ¬ (l.getD n sg0).from_ < step) → loN l step = n
 | [], n, h, _, _ => by simp at h; subst h; rfl
 | s :: l, 0, _, _, h => by
  have := h (by simp)
  unfold loN
  rw [List.takeWhile_cons, if_neg (by simpa using this)]
  rfl
 | s :: l, n + 1, hn, h1, h2 => by
  have h0 := h1 0 (by omega)
  unfold loN
  rw [List.takeWhile_cons, if_pos (by simpa using h0)]
  have := bM8 (l := l) (n := n) (by simpa using hn) (fun j hj => by simpa using h1 (j + 1) (by omega)) (fun hl => by simpa using h2 (by simpa using hl))
  unfold loN at this
  rw [List.length_cons, this]
def aK8 (l : List Sg) (step : Int) : Bool := decide (loN l step < l.length) && decide ((l.getD (loN l step) sg0).from_ = step)
def bsG : List AV → Mem → Option (AV × Mem)
 | [.lst _ 10 rows, .v (.int .i64 step), .fn (.func 147) [] []], m =>
  match aAi rows with
  | some l => if l.length ≤ 1000000 ∧ fG l = true then some (.tup [iv (loN l step : Nat), .v (.bool (aK8 l step))], m) else none
  | none => none
 | _, _ => none
theorem aUk {l : List Sg} (h : fG l = true) {j i : Nat} (hj : j ≤ i) (hi : i < l.length) : (l.getD j sg0).from_ ≤ (l.getD i sg0).from_ := by
 by_cases e : j = i
 ·rw [e]; exact Int.le_refl _
 ·have h1 := aD5 h (show j < i by omega) hi
  have h2 := sJ (nG h (i := j) (by omega)).1
  omega
def cBv : Nat → Option (List Nat) := fun
 | 0 => some [0, 1, 2]
 | 1 => some [0, 1, 2, 8]
 | 2 => some [0, 1, 2, 8, 9, 10]
 | 3 => some [0, 1, 2, 8, 9, 10, 17]
 | 4 => some [0, 1, 2, 8, 9, 10, 11]
 | 5 => some [0, 1, 2, 8, 9, 10, 11, 31]
 | 6 => some [0, 1, 2, 8, 9, 10]
 | 7 => some [0, 1, 2, 8, 9, 10]
 | 8 => some [6, 7]
 | _ => none
attribute [go_sem] cBv
def aSf : List (FuncId × (List AV → Mem → Option (AV × Mem))) := [(147, aVx)]
theorem cB9 : aO Tryz.prog 146 bsG := by
 have hC := aI (P := Tryz.prog) (l := aSf) (aA bTi aF)
 have t1 := taT aSf 147 rfl
 refine aP mixed hC Tryz.func146 rfl cBv false rfl fun args m r h => ?_
 unfold bsG at h
 split at h
 ·rename_i g rows step
  split at h
  ·rename_i l hl0
   obtain rfl := oC hl0
   split at h
   ·rename_i hyp
    obtain ⟨hlen, hok⟩ := hyp
    simp only [Option.some.injEq] at h
    subst h
    refine ⟨nbT, ?_⟩
    refine en ?_
    refine go0 ?_
    refine cE (fun k e m' => ∃ (lo hi : Nat), lo ≤ hi ∧ hi ≤ l.length ∧ (∀ j, j < lo → (l.getD j sg0).from_ < step) ∧ (∀ j, hi ≤ j → j < l.length → ¬ (l.getD j sg0).from_ < step) ∧ m = m' ∧ k = hi - lo ∧
     e = [(0, AV.lst g 10 (eO l)), (1, .v (.int .i64 step)), (2, .fn (.func 147) [] []), (8, .v (.int .i64 (l.length : Int))), (9, .v (.int .i64 (lo : Int))), (10, .v (.int .i64 (hi : Int)))]) (k := l.length)
     ⟨0, l.length, Nat.zero_le _, Nat.le_refl _, fun j hj => by omega, fun j h1 h2 => by omega, rfl, rfl, rfl⟩ ?_
    rintro k e m' ⟨lo, hi, h1, h2, h3, h4, rfl, rfl, rfl⟩
    refine go0 ?_
    refine aH rfl (fun hc => ?_) (fun hc => ?_)
    ·have hlt : lo < hi := by have := of_decide_eq_true hc; omega
     have hm : (lo + hi) / 2 < l.length := by omega
     have f1 := aVg (g := g) (kk := .i64) hm
     have w1 : IntKind.i64.wrap ((lo : Int) + (hi : Int)) = ((lo + hi : Nat) : Int) := by rw [bB (by omega) (by omega)]; omega
     have w2 : IntKind.u64.wrap ((lo + hi : Nat) : Int) = ((lo + hi : Nat) : Int) := w64 (by omega) (by omega)
     have w3 := bT6 ((lo + hi : Nat) : Int)
     have w4 : ((lo + hi : Nat) : Int) / 2 = (((lo + hi) / 2 : Nat) : Int) := by omega
     rw [w4] at w3
     have w5 : IntKind.i64.wrap (((lo + hi) / 2 : Nat) : Int) = (((lo + hi) / 2 : Nat) : Int) := bB (by omega) (by omega)
     have r6 := cP (i := (lo + hi) / 2) (by omega)
     have low : ∀ j, j ≤ (lo + hi) / 2 → (l.getD ((lo + hi) / 2) sg0).from_ < step → (l.getD j sg0).from_ < step := fun j hj hh => by
      have := aUk hok hj hm
      omega
     have high : ∀ j, (lo + hi) / 2 ≤ j → j < l.length → ¬ (l.getD ((lo + hi) / 2) sg0).from_ < step → ¬ (l.getD j sg0).from_ < step := fun j hj hj2 hh => by
      have := aUk hok hj hj2
      omega
     have hmid : lo ≤ (lo + hi) / 2 ∧ (lo + hi) / 2 < hi := by omega
     generalize (lo + hi) / 2 = q at *
     generalize l.getD q sg0 = s at f1 low high
     have c1 := bGw s step
     refine go1 (jn @w1 (jn @w2 (jn @lt1 (jn @w3 (jn @w5 (jn @f1 (jn @t1 @c1))))))) ?_
     by_cases hs : s.from_ < step
     ·have q1 : decide (aOn s.from_ step < 0) = true := by unfold aOn; rw [if_pos hs]; rfl
      refine aH rfl (fun hc => ?_) (fun hc => by rw [q1] at hc; cases hc)
      refine go1 @r6 ?_
      exact ⟨hi - (q + 1), by omega, q + 1, hi, by omega, h2, fun j hj => low j (by omega) hs, h4, rfl, rfl, rfl⟩
     ·have q1 : decide (aOn s.from_ step < 0) = false := by unfold aOn; rw [if_neg hs]; split <;> rfl
      refine aH rfl (fun hc => by rw [q1] at hc; cases hc) (fun hc => ?_)
      refine go0 ?_
      exact ⟨q - lo, by omega, lo, q, hmid.1, by omega, h3, fun j hj hj2 => high j hj hj2 hs, rfl, rfl, rfl⟩
    ·obtain rfl : lo = hi := by have := of_decide_eq_false hc; omega
     have e0 : loN l step = lo := bM8 h2 h3 fun hh => h4 lo (Nat.le_refl _) hh
     unfold aK8
     rw [e0]
     by_cases hlt : lo < l.length
     ·have q1 : decide ((lo : Int) < (l.length : Int)) = true := decide_eq_true (by omega)
      have f1 := aVg (g := g) (kk := .i64) hlt
      rw [decide_eq_true hlt, Bool.true_and]
      have hn := h4 lo (Nat.le_refl _) hlt
      generalize l.getD lo sg0 = s at f1 hn
      have c1 := bGw s step
      have q2 : (aOn s.from_ step == 0) = decide (s.from_ = step) := by
       unfold aOn
       rw [if_neg hn]
       split
       ·rw [decide_eq_false (by omega)]; rfl
       ·rw [decide_eq_true (by omega)]; rfl
      refine go1 (jn @q1 (jn @f1 (jn @t1 (jn @c1 @q2)))) ?_
      exact bT rfl (by decide) (.cons rfl rfl (.cons rfl rfl .nil)) (bU m)
     ·have q1 : decide ((lo : Int) < (l.length : Int)) = false := decide_eq_false (by omega)
      rw [decide_eq_false hlt, Bool.false_and]
      refine go1 @q1 ?_
      exact bT rfl (by decide) (.cons rfl rfl (.cons rfl rfl .nil)) (bU m)
   ·cases h
  ·cases h
 ·cases h
end
section
attribute [local irreducible] Next aW cF Ops bQ
attribute [local irreducible] bE dH
attribute [local go_sem] cO bP Option.getD_some cJ aT aV iv bEz aKs aO2 bTo aB2 aKw aB4 aBq kO
theorem wL {α : Type} {d : α} {p : α → Bool} : ∀ {l : List α} {i : Nat} (k : Nat), i < l.length → (∀ j, j < i → p (l.getD j d) = false) → p (l.getD i d) = true → aZ p l k = ((k + i : Nat) : Int)
 | [], i, k, h, _, _ => by simp at h
 | s :: l, 0, k, _, _, h => by
  rw [aZ, if_pos (by simpa using h)]
  rfl
 | s :: l, i + 1, k, hi, h1, h2 => by
  have h0 := h1 0 (by omega)
  rw [aZ, if_neg (by simpa using h0), wL (k + 1) (i := i) (by simpa using hi) (fun j hj => by simpa using h1 (j + 1) (by omega)) (by simpa using h2)]
  omega
theorem xP {α : Type} {d : α} {p : α → Bool} : ∀ {l : List α} (k : Nat), (∀ j, j < l.length → p (l.getD j d) = false) → aZ p l k = -1
 | [], k, _ => rfl
 | s :: l, k, h => by
  have h0 := h 0 (by simp)
  rw [aZ, if_neg (by simpa using h0), xP (k + 1) fun j hj => by simpa using h (j + 1) (by simpa using hj)]
theorem aOk {α : Type} {d : α} {p : α → Bool} : ∀ {l : List α} (k : Nat), aZ p l k = -1 ∨ ∃ i, i < l.length ∧ aZ p l k = ((k + i : Nat) : Int) ∧ p (l.getD i d) = true
 | [], k => .inl rfl
 | s :: l, k => by
  rw [aZ]
  by_cases h : p s = true
  ·rw [if_pos h]
   exact .inr ⟨0, by simp, rfl, by simpa using h⟩
  ·rw [if_neg h]
   rcases aOk (d := d) (l := l) (k + 1) with h1 | ⟨i, h1, h2, h3⟩
   ·exact .inl h1
   ·exact .inr ⟨i + 1, by simp; omega, by rw [h2]; omega, by simpa using h3⟩
def oX (step : Int) (s : Sg) : Bool := decide (s.from_ ≤ step) && decide (step < s.to_)
theorem zO {step : Int} {s : Sg} (h : ¬ (s.from_ ≤ step ∧ step < s.to_)) : oX step s = false := by
 unfold oX
 rw [← Bool.not_eq_true, Bool.and_eq_true, decide_eq_true_eq, decide_eq_true_eq]
 exact h
theorem aIo {step : Int} {s : Sg} (h : s.from_ ≤ step ∧ step < s.to_) : oX step s = true := by
 unfold oX
 rw [Bool.and_eq_true, decide_eq_true_eq, decide_eq_true_eq]
 exact h
def zG : List AV → Mem → Option (AV × Mem)
 | [.lst _ 10 rows, .v (.int .i64 step)], m =>
  match aAi rows with
  | some l => if l.length ≤ 1000000 ∧ fG l = true then some (iv (aZ (oX step) l 0), m) else none
  | none => none
 | _, _ => none
theorem bBu {l : List Sg} {g : Grow} (h : l.length ≤ 1000000) (h2 : fG l = true) (step : Int) (m : Mem) : zG [.lst g 10 (eO l), .v (.int .i64 step)] m = some (.v (.int .i64 (aZ (oX step) l 0)), m) := by
 simp only [zG, jT]
 exact if_pos ⟨h, h2⟩
theorem bMn (l : List Sg) (step : Int) : loN l step ≤ l.length ∧ (∀ j, j < loN l step → (l.getD j sg0).from_ < step) ∧ (loN l step < l.length → ¬ (l.getD (loN l step) sg0).from_ < step) := by
 induction l with
 | nil => exact ⟨Nat.le_refl _, fun j h => absurd h (Nat.not_lt_zero _), fun h => absurd h (Nat.lt_irrefl _)⟩
 | cons s l ih =>
  unfold loN at *
  rw [List.takeWhile_cons]
  split
  ·rename_i hs
   obtain ⟨a, b, c⟩ := ih
   refine ⟨by simp; omega, fun j hj => ?_, fun h => ?_⟩
   ·cases j with
    | zero => simpa using hs
    | succ j => simpa using b j (by simpa using hj)
   ·simpa using c (by simpa using h)
  ·rename_i hs
   exact ⟨Nat.zero_le _, fun j hj => absurd hj (Nat.not_lt_zero _), fun _ => by simpa using hs⟩
def aR1 : Nat → Option (List Nat) := fun
 | 0 => some [0, 1]
 | 1 => some [0, 1, 5, 6]
 | 2 => some [0, 1, 5, 14]
 | 3 => some [0, 1, 5]
 | 4 => some [5, 27]
 | 5 => some [4]
 | 6 => some [4]
 | _ => none
attribute [go_sem] aR1
def yR : List (FuncId × (List AV → Mem → Option (AV × Mem))) := [(146, bsG)]
theorem bCg : aO Tryz.prog 127 zG := by
 have hC := aI (P := Tryz.prog) (l := yR) (aA cB9 aF)
 have t1 := taT yR 146 rfl
 refine aP mixed hC Tryz.func127 rfl aR1 false rfl fun args m r h => ?_
 unfold zG at h
 split at h
 ·rename_i g rows step
  split at h
  ·rename_i l hl0
   obtain rfl := oC hl0
   split at h
   ·rename_i hyp
    obtain ⟨hlen, hok⟩ := hyp
    simp only [Option.some.injEq] at h
    subst h
    refine ⟨nbT, ?_⟩
    refine en ?_
    obtain ⟨n0, n1, n2⟩ := bMn l step
    have c1 : ∀ mm, bsG [.lst .no 10 (eO l), .v (.int .i64 step), .fn (.func 147) [] []] mm = some (.tup [.v (.int .i64 (loN l step : Nat)), .v (.bool (aK8 l step))], mm) := fun mm => by
     simp only [bsG, jT]
     exact if_pos ⟨hlen, hok⟩
    have hf : aK8 l step = (decide (loN l step < l.length) && decide ((l.getD (loN l step) sg0).from_ = step)) := rfl
    generalize loN l step = n at *
    have k1 : (!true) = false := rfl
    have k2 : (!false) = true := rfl
    cases hb : aK8 l step with
    | true =>
     rw [hb] at c1 hf
     have hf2 := hf.symm
     rw [Bool.and_eq_true, decide_eq_true_eq, decide_eq_true_eq] at hf2
     obtain ⟨h1, h2⟩ := hf2
     have hs := sJ (nG hok h1).1
     have f1 := aVg (g := g) (kk := .i64) h1
     have e0 : aZ (oX step) l 0 = (n : Int) := by
      have := wL (d := sg0) (p := oX step) 0 h1 (fun j hj => zO fun hh => by have := aD5 hok hj h1; omega) (aIo ⟨by omega, by omega⟩)
      rw [this, Nat.zero_add]
     rw [e0]
     generalize l.getD n sg0 = s at f1 h2 hs
     have q1 : decide ((n : Int) < 0) = false := decide_eq_false (by omega)
     have q2 : decide (step ≥ s.to_) = false := decide_eq_false (by omega)
     refine go1 (jn @t1 (jn @c1 @k1)) ?_
     refine rcF rfl ?_
     refine go1 (jn @q1 (jn @f1 @q2)) ?_
     refine rcF rfl ?_
     refine go0 ?_
     exact aY rfl rfl
    | false =>
     rw [hb] at c1 hf
     have hnf : ¬ (n < l.length ∧ (l.getD n sg0).from_ = step) := fun hh => by
      rw [decide_eq_true hh.1, decide_eq_true hh.2] at hf
      cases hf
     have hgt : ∀ j, n ≤ j → j < l.length → step < (l.getD j sg0).from_ := fun j hj hj2 => by
      have h1 := aUk hok hj hj2
      have h2 := n2 (by omega)
      have h3 : (l.getD n sg0).from_ ≠ step := fun e => hnf ⟨by omega, e⟩
      omega
     have w1 : IntKind.i64.wrap ((n : Int) - 1) = (n : Int) - 1 := bB (by omega) (by omega)
     refine go1 (jn @t1 (jn @c1 @k2)) ?_
     refine rcT rfl ?_
     by_cases hz : n = 0
     ·subst hz
      have q1 : decide (((0 : Nat) : Int) - 1 < 0) = true := rfl
      have e0 : aZ (oX step) l 0 = -1 := xP (d := sg0) 0 fun j hj => zO fun hh => by have := hgt j (Nat.zero_le _) hj; omega
      rw [e0]
      refine go1 (jn @w1 @q1) ?_
      refine rcT rfl ?_
      refine go0 ?_
      exact aY rfl rfl
     ·have e1 : (n : Int) - 1 = ((n - 1 : Nat) : Int) := by omega
      have w1 : IntKind.i64.wrap ((n : Int) - 1) = ((n - 1 : Nat) : Int) := by rw [w1, e1]
      have h1 : n - 1 < l.length := by omega
      have h2 := n1 (n - 1) (by omega)
      have f1 := aVg (g := g) (kk := .i64) h1
      have q1 : decide (((n - 1 : Nat) : Int) < 0) = false := decide_eq_false (by omega)
      by_cases ht : step < (l.getD (n - 1) sg0).to_
      ·have e0 : aZ (oX step) l 0 = ((n - 1 : Nat) : Int) := by
        have := wL (d := sg0) (p := oX step) 0 h1 (fun j hj => zO fun hh => by have := aD5 hok hj h1; omega) (aIo ⟨by omega, ht⟩)
        rw [this, Nat.zero_add]
       have q2 : decide (step ≥ (l.getD (n - 1) sg0).to_) = false := decide_eq_false (by omega)
       rw [e0]
       generalize l.getD (n - 1) sg0 = s at f1 q2
       refine go1 (jn @w1 (jn @q1 (jn @f1 @q2))) ?_
       refine rcF rfl ?_
       refine go0 ?_
       exact aY rfl rfl
      ·have e0 : aZ (oX step) l 0 = -1 := xP (d := sg0) 0 fun j hj => zO fun hh => by
        by_cases hj2 : n ≤ j
        ·have := hgt j hj2 hj; omega
        ·by_cases hj3 : j = n - 1
         ·subst hj3; exact ht hh.2
         ·have h4 := aD5 hok (show j < n - 1 by omega) h1
          omega
       have q2 : decide (step ≥ (l.getD (n - 1) sg0).to_) = true := decide_eq_true (by omega)
       rw [e0]
       generalize l.getD (n - 1) sg0 = s at f1 q2
       refine go1 (jn @w1 (jn @q1 (jn @f1 @q2))) ?_
       refine rcT rfl ?_
       refine go0 ?_
       exact aY rfl rfl
   ·cases h
  ·cases h
 ·cases h
def mP (l : List Sg) (step : Int) : Int × Int := if fG l = false then (0, 1) else if aZ (oX step) l 0 < 0 then (0, 8) else aKa (l.getD (aZ (oX step) l 0).toNat sg0) step
def wW : List AV → Mem → Option (AV × Mem)
 | [.lst _ 10 rows, .v (.int .i64 step)], m =>
  match aAi rows with
  | some l => if l.length ≤ 1000000 then some (.tup [iv (mP l step).1, iv (mP l step).2], m) else none
  | none => none
 | _, _ => none
theorem bJ5 {l : List Sg} {g : Grow} (h : l.length ≤ 1000000) (step : Int) (m : Mem) : wW [.lst g 10 (eO l), .v (.int .i64 step)] m = some (.tup [.v (.int .i64 (mP l step).1), .v (.int .i64 (mP l step).2)], m) := by
 simp only [wW, jT]
 exact if_pos h
def aZ7 : Nat → Option (List Nat) := fun
 | 0 => some [0, 1]
 | 1 => some [0, 1, 6]
 | 2 => some [0, 1, 6, 11]
 | 3 => some [4, 5]
 | 4 => some [0, 1, 7]
 | 5 => some [0, 1, 7, 17]
 | 6 => some [4, 5]
 | 7 => some [4, 5]
 | _ => none
attribute [go_sem] aZ7
def oL : List (FuncId × (List AV → Mem → Option (AV × Mem))) := [(103, kK), (127, zG), (128, aW9)]
theorem bJa : aO Tryz.prog 113 wW := by
 have hC := aI (P := Tryz.prog) (l := oL) (aA aEz (aA bCg (aA bT2 aF)))
 have t1 := taT oL 103 rfl
 have t2 := taT oL 127 rfl
 have t3 := taT oL 128 rfl
 refine aP mixed hC Tryz.func113 rfl aZ7 false rfl fun args m r h => ?_
 unfold wW at h
 split at h
 ·rename_i g rows step
  split at h
  ·rename_i l hl0
   obtain rfl := oC hl0
   split at h
   ·rename_i hlen
    simp only [Option.some.injEq] at h
    subst h
    refine ⟨nbT, ?_⟩
    refine en ?_
    have c1 := aE5 (g := .no) hlen
    unfold mP
    cases hok : fG l with
    | false =>
     rw [hok] at c1
     simp only [Bool.false_eq_true, if_false] at c1
     refine go1 (jn @t1 @c1) ?_
     refine aH rfl (fun hc => ?_) (fun hc => absurd hc (by decide))
     refine go0 ?_
     exact bT rfl (by decide) (.cons rfl rfl (.cons rfl rfl .nil)) (bU m)
    | true =>
     rw [hok] at c1
     simp only [if_true] at c1
     have c2 := bBu (g := .no) hlen hok step
     rw [if_neg (by decide)]
     refine go1 (jn @t1 @c1) ?_
     refine aH rfl (fun hc => absurd hc (by decide)) (fun hc => ?_)
     rcases aOk (d := sg0) (p := oX step) (l := l) 0 with h1 | ⟨i, h1, h2, h3⟩
     ·rw [h1] at c2 ⊢
      refine go1 (jn @t2 @c2) ?_
      refine aH rfl (fun hc => ?_) (fun hc => absurd hc (by decide))
      refine go0 ?_
      exact bT rfl (by decide) (.cons rfl rfl (.cons rfl rfl .nil)) (bU m)
     ·rw [Nat.zero_add] at h2
      rw [h2] at c2 ⊢
      have f1 := aVg (g := g) (kk := .i64) h1
      rw [Int.toNat_natCast, if_neg (by omega)]
      generalize l.getD i sg0 = s at f1
      have c3 := bV5 s step
      refine go1 (jn @t2 @c2) ?_
      refine aH rfl (fun hc => absurd (of_decide_eq_true hc) (by omega)) (fun hc => ?_)
      refine go1 (jn @f1 (jn @t3 @c3)) ?_
      exact bT rfl (by decide) (.cons rfl rfl (.cons rfl rfl .nil)) (bU m)
   ·cases h
  ·cases h
 ·cases h
end
end Go.Proofs.YtmockbddhhmmeaaGreat.Ev

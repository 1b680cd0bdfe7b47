/- Averages: sums in which all count alike, averages in which older ones fade. -/
import Derived.Test.YtmockbddhhmmeaaGreatMbgkd8
import Derived.Test.YtmockbddhhmmeaaGreatMbgkd5
import Derived.Test.YtmockbddhhmmeaaGreatMa8
namespace Go.Proofs.YtmockbddhhmmeaaGreat.Ev
open Go Go.Proofs
set_option maxRecDepth 10000
set_option maxHeartbeats 8000000
set_option linter.unusedVariables false
set_option linter.unusedSimpArgs false
section
attribute [local irreducible] Next aW cF Ops bQ
attribute [local go_sem] cO bP Option.getD_some cJ aT aV iv bQe aU4 bE2 bX3 bXn bKg aSx aQd aWy dN List.cons_append
def aJv (m0 m : Mem) (g : Grow) : Prop := g = .full ∨ ∃ id v, g = .tok id v ∧ m0.toks.length ≤ id ∧ m.toks[id]? = some v
def pC (m0 m : Mem) : Prop := ∃ L T, m = { vars := m0.vars ++ L, toks := m0.toks ++ T }
theorem aQf {m0 m : Mem} (h : Above m0 m) : pC m0 m := by
 obtain ⟨L, rfl⟩ := h
 exact ⟨L, [], by simp⟩
theorem yQ {m0 m : Mem} {cs : List AV} (h : pC m0 m) : pC m0 (m.push cs) := by
 obtain ⟨L, T, rfl⟩ := h
 exact ⟨L ++ [some cs], T, by simp [Mem.push]⟩
theorem iD {m0 m : Mem} {q : Nat} {cs : List AV} (h : pC m0 m) (hq : m0.vars.length ≤ q) : pC m0 (bO m q cs) := by
 obtain ⟨L, T, rfl⟩ := h
 refine ⟨L.set (q - m0.vars.length) (some cs), T, ?_⟩
 unfold bO Mem.putv
 simp only [List.set_append_right _ _ hq]
theorem rP {m0 m : Mem} (h : pC m0 m) : bI m0 m = m0 := by
 obtain ⟨L, T, rfl⟩ := h
 unfold bI
 rw [if_pos (by simp)]
 simp
theorem aLy {m0 m : Mem} {g : Grow} {cs : List AV} (h : aJv m0 m g) : aJv m0 (m.push cs) g := h
theorem aLd {m0 m : Mem} {g : Grow} {q : Nat} {cs : List AV} (h : aJv m0 m g) : aJv m0 (bO m q cs) g := h
theorem aSe {P : Program} {t t2 : TypeId} {k : Nat} (ha : mS P t t2 k = true) {m0 m : Mem} {g g2 : Grow} {xs ys : List (List AV)} (hg : aJv m0 m g) (hA : pC m0 m) (hl : xs.length + ys.length ≤ lim) :
  ∃ g' m2, kE P t t2 m (.lst g k xs) (.lst g2 k ys) = some (.lst g' k (xs ++ ys), m2) ∧ aJv m0 m2 g' ∧ pC m0 m2 ∧ (∀ q, m2.var q = m.var q) ∧ m2.vars.length = m.vars.length := by
 obtain ⟨L, T, rfl⟩ := hA
 rcases hg with rfl | ⟨id, v, rfl, h1, h2⟩
 ·exact ⟨_, _, yS ha dC dC hl, .inr ⟨_, 0, rfl, by simp, by simp⟩, ⟨L, T ++ [0], by simp⟩, fun q => rfl, rfl⟩
 ·have happ := yS (m := { vars := m0.vars ++ L, toks := m0.toks ++ T }) ha (dC (g := .tok id v) (k := k) (rows := xs)) (dC (g := g2) (k := k) (rows := ys)) hl
  dsimp only at happ
  rw [if_pos h2] at happ
  have hlt := (List.getElem?_eq_some_iff.1 h2).1
  exact ⟨_, _, happ, .inr ⟨id, v + 1, rfl, h1, by rw [List.getElem?_set_self hlt]⟩, ⟨L, T.set (id - m0.toks.length) (v + 1), by rw [List.set_append_right _ _ h1]⟩, fun q => rfl, rfl⟩
def iC (b : List Int) : List AV := b.map fun x => .v (.int .i64 x)
theorem bMo (b : List Int) : (iC b).length = b.length := List.length_map ..
theorem cB7 {r n i : Nat} {kk : IntKind} (hi : i < n) : cI Tryz.prog 42 (.vs r 0 1 n n) (.v (.int kk (i : Int))) = some (.ptr r i) := by
 unfold cI
 simp only [bL5, aD1, bP]
 rw [if_pos ⟨trivial, by omega, by omega⟩, Int.toNat_natCast]
 simp
def bZh (m : Mem) (r : Nat) (b : List Int) : Mem := { m with vars := m.vars.set r (some (iC b)) }
theorem aJy : ∀ (l : List Int) (i : Nat) (v : Int), i < l.length → cB (iC l) i [.v (.int .i64 v)] = iC (l.set i v)
 | [], i, v, h => by simp at h
 | a :: l, 0, v, _ => by simp [cB, iC]
 | a :: l, i + 1, v, h => by
  have := aJy l i v (by simpa using h)
  simp only [cB, iC, List.map_cons, List.length_cons, List.length_nil, List.take_succ_cons, List.set_cons_succ] at this ⊢
  rw [show i + 1 + (0 + 1) = (i + (0 + 1)) + 1 by omega, List.drop_succ_cons]
  simpa using this
theorem bX7 {m : Mem} {r i : Nat} {b : List Int} {v : Int} (hv : m.var r = some (iC b)) (hi : i < b.length) : aR Tryz.prog m 3 (.ptr r i) (.v (.int .i64 v)) = some (bZh m r (b.set i v)) := by
 unfold aR
 have h1 : cellsOf (.v (.int .i64 v)) = some [.v (.int .i64 v)] := by simp [cellsOf, aEc, okCell, one]
 simp only [h1, bP, hv]
 rw [if_pos ⟨rfl, by rw [bMo]; exact hi, rfl⟩, aJy b i v hi]
 rfl
theorem bSa {n : Nat} (h : n ≤ 4294967296) : gE Tryz.prog 42 (.v (.int .i64 (n : Int))) (.v (.int .i64 (n : Int))) = some (iC (List.replicate n (0 : Int)), 1, n) := by
 have hb : lA Tryz.prog 3 = some 8 := by kernel_rfl
 have hz : zeroCells Tryz.prog 3 = some [.v (.int .i64 0)] := by kernel_rfl
 unfold gE
 simp only [aD1, bP, hb, hz]
 rw [if_pos ⟨rfl, trivial, by omega, by omega, by omega⟩, Int.toNat_natCast]
 simp [iC]
theorem bUi {m : Mem} {l : List Int} : newVar m m.vars.length (iC l) = some (m.push (iC l)) := bF (by
 rw [List.all_eq_true]
 intro c hc
 obtain ⟨n, _, rfl⟩ := List.mem_map.1 hc
 rfl)
theorem aYq : ∀ b : List Int, (iC b).mapM gF = some (iC b)
 | [] => rfl
 | x :: b => by
  have := aYq b
  unfold iC at this ⊢
  rw [List.map_cons, List.mapM_cons]
  simp only [show gF (AV.v (Value.int .i64 x)) = some (AV.v (Value.int .i64 x)) from rfl, this, Option.pure_def, Option.bind_eq_bind, Option.bind_some]
theorem bLe {m : Mem} {b c : List Int} : bZh (m.push (iC b)) m.vars.length c = m.push (iC c) := by
 unfold bZh Mem.push
 simp
/-! ### swa.Add -/
def aCm (s w : List Int) : Nat → Option (List Int)
 | 0 => some []
 | i + 1 => (aCm s w i).bind fun L => if (aHg (s.getD i 0) (w.getD i 0)).2 = 0 then some (L ++ [(aHg (s.getD i 0) (w.getD i 0)).1]) else none
theorem aHc {s w : List Int} : ∀ {i : Nat} {L : List Int}, aCm s w i = some L → L.length = i
 | 0, L, h => by cases h; rfl
 | i + 1, L, h => by
  rw [aCm, Option.bind_eq_some_iff] at h
  obtain ⟨L0, h1, h2⟩ := h
  split at h2
  ·cases h2
   rw [List.length_append, aHc h1]
   rfl
  ·cases h2
theorem bDu {s w : List Int} {i n : Nat} (h : aCm s w i = none) (hn : i ≤ n) : aCm s w n = none := by
 induction n with
 | zero =>
  have : i = 0 := by omega
  subst this
  exact h
 | succ n ih =>
  by_cases he : i = n + 1
  ·subst he; exact h
  ·rw [aCm, ih (by omega)]
   rfl
theorem bQg (a b : Int) : (aHg a b).2 = 0 ∨ (aHg a b).2 = 4 := by unfold aHg; split <;> simp
def aUd (s : Sm) (w : List Int) : Sm × Int :=
 if zT s ≠ 0 then (sm0, zT s) else if s.count = 1048576 then (sm0, 9) else if s.count = 0 then (⟨1, w⟩, 0) else if (s.sums.length : Int) ≠ (w.length : Int) then (sm0, 1) else
 match aCm s.sums w w.length with
 | some L => (⟨IntKind.i64.wrap (s.count + 1), L⟩, 0)
 | none => (sm0, 4)
def bLo : List AV → Mem → Option (AV × Mem)
 | [.agg ss, .lst _ 1 rows], m =>
  match bKn ss, unJ rows with
  | some s, some w => if s.sums.length ≤ 1000000 ∧ w.length ≤ 1000000 then some (.tup [.agg (aUd s w).1.row, .v (.int .i64 (aUd s w).2)], m) else none
  | _, _ => none
 | _, _ => none
theorem bZp {s : Sm} {w : List Int} {g : Grow} (h : s.sums.length ≤ 1000000 ∧ w.length ≤ 1000000) (m : Mem) : bLo [.agg s.row, .lst g 1 (cG w)] m = some (.tup [.agg (aUd s w).1.row, .v (.int .i64 (aUd s w).2)], m) := by
 simp only [bLo, aWf, jC]
 exact if_pos h
def smG (c : Int) (g : Grow) (l : List Int) : List AV := [.v (.int .i64 c), .lst g 1 (cG l)]
theorem cAz {c : Int} : cN Tryz.prog 44 [(0, .v (.int .i64 c))] = some (.agg (smG c .full [])) := by kernel_rfl
theorem cCj {c : Int} {g : Grow} {l : List Int} : cN Tryz.prog 44 [(0, .v (.int .i64 c)), (1, .lst g 1 (cG l))] = some (.agg (smG c g l)) := by kernel_rfl
theorem bOp {c : Int} {g : Grow} {l : List Int} : cellsOf (.agg (smG c g l)) = some (smG c g l) := rfl
theorem zSm : cellsOf (.agg gP) = some gP := rfl
attribute [local go_sem] zSm
theorem bRw {m : Mem} {r : Nat} {c : Int} {g : Grow} {l : List Int} (hv : m.var r = some (smG c g l)) : aL Tryz.prog m 44 (.ptr r 0) = some (.agg (smG c g l)) := bY (off := 0) hv aJ8 bUt nbT rfl
theorem cBz {m : Mem} {r : Nat} {c : Int} {g : Grow} {l : List Int} (hv : m.var r = some (smG c g l)) : aL Tryz.prog m 42 (.ptr r 1) = some (.lst g 1 (cG l)) := aK (k := 1) hv (by kernel_rfl) (by kernel_rfl) rfl
theorem cA9 {n : Int} : bG Tryz.prog 42 1 [(0, .v (.int .i64 n))] = some (.lst .full 1 [[.v (.int .i64 n)]]) := by kernel_rfl
attribute [local go_sem] cA9
theorem bMc : cA Tryz.prog 42 = some 1 := by kernel_rfl
def aYa : Nat → Option (List Nat) := fun
 | 0 => some [1, 2, 4]
 | 1 => some [1, 2, 4, 6]
 | 2 => some [1, 2, 4, 6, 14]
 | 3 => some [4, 5]
 | 4 => some [1, 2, 4, 19]
 | 5 => some [4, 5]
 | 6 => some [1, 2, 4, 24]
 | 7 => some [4, 5]
 | 8 => some [1, 2, 4, 31]
 | 9 => some [4, 5]
 | 10 => some [1, 2, 4, 7]
 | 11 => some [2, 4, 7, 43, 44, 45]
 | 12 => some [2, 4, 7, 43, 44, 45, 46]
 | 13 => some [2, 4, 7, 8, 9, 43, 44, 45]
 | 14 => some [2, 4, 7, 10, 11, 43, 44, 45]
 | 15 => some [2, 4, 7, 10, 11, 43, 44, 45, 61]
 | 16 => some [4, 5]
 | 17 => some [2, 4, 7, 43, 44, 45]
 | 18 => some [2, 4, 7, 43, 44, 45]
 | 19 => some [4, 5]
 | _ => none
attribute [go_sem] aYa
def xU : List (FuncId × (List AV → Mem → Option (AV × Mem))) := [(133, aFv), (134, (sX 1)), (135, bU0)]
theorem bX5 : aO Tryz.prog 117 bLo := by
 have hC := aI (P := Tryz.prog) (l := xU) (aA bHz (aA aSr (aA bZc aF)))
 have t1 := taT xU 133 rfl
 have t2 := taT xU 134 rfl
 have t3 := taT xU 135 rfl
 refine aP mixed hC Tryz.func117 rfl aYa false rfl fun args m r h => ?_
 unfold bLo at h
 split at h
 ·rename_i ss g rows
  split at h
  ·rename_i s w hs0 hw0
   obtain rfl := aRw hs0
   obtain rfl := iT hw0
   split at h
   ·rename_i hd
    obtain ⟨hs6, hw6⟩ := hd
    simp only [Option.some.injEq] at h
    subst h
    refine ⟨nbT, ?_⟩
    refine en ?_
    have v2 : ((m.push s.row).push gP).var m.vars.length = some s.row := aQ aJ
    have v4 : ((m.push s.row).push gP).var (m.push s.row).vars.length = some gP := aJ
    have n1 := bE2 (m := m) (x := s)
    have n2 := bKg (m := m.push s.row)
    have hA := aG (cs := gP) (aG (cs := s.row) (aM m))
    have hge : m.vars.length ≤ (m.push s.row).vars.length := by rw [cH]; omega
    have hne : m.vars.length ≠ (m.push s.row).vars.length := by rw [cH]; omega
    refine go1 (jn @n1 @n2) ?_
    generalize (m.push s.row).push gP = m2 at v2 v4 hA
    generalize (m.push s.row).vars.length = r4 at v4 hge hne
    generalize hr2 : m.vars.length = r2 at v2 hne
    have l1 := cB1 v2
    have l2 := aR9 v2
    have l3 := aLs v2
    have c1 := bI2 s
    have st0 : aR Tryz.prog m2 44 (.ptr r4 0) (.agg gP) = some (bO m2 r4 gP) := aS v4 aJ8 rfl rfl (Nat.le_refl _) rfl rfl
    have fin0 : ∀ (e : Env) (b : Int), Ev.get e 4 = .ptr r4 0 → Ev.get e 5 = .v (.int .i64 b) → cZ Tryz.prog false Tryz.f117 m (.tup [.agg sm0.row, .v (.int .i64 b)], m) .ret e (bO m2 r4 gP) := fun e b h1 h2 =>
     qI rfl (by rw [h1]; exact bY (off := 0) (bA v4) aJ8 bUt (Nat.le_refl _) rfl) rfl (by rw [h2]; rfl) (aC (bD hA (by omega)))
    unfold aUd
    refine go1 (jn @l1 (jn @t1 @c1)) ?_
    refine aH rfl (fun hc => ?_) (fun hc => ?_)
    ·rw [if_pos (by simpa using hc)]
     refine go1 (jn @aSx @st0) ?_
     exact fin0 _ _ rfl rfl
    ·have h0 : zT s = 0 := by simpa using hc
     rw [if_neg (by rw [h0]; decide)]
     refine go1 @l2 ?_
     refine aH rfl (fun hc => ?_) (fun hc => ?_)
     ·rw [if_pos (by simpa using hc)]
      refine go1 (jn @aSx @st0) ?_
      exact fin0 _ _ rfl rfl
     ·have h1 : ¬ s.count = 1048576 := by simpa using hc
      rw [if_neg h1]
      refine go1 @l2 ?_
      refine aH rfl (fun hc => ?_) (fun hc => ?_)
      ·rw [if_pos (by simpa using hc)]
       have c2 := aHn (k := 1) (g := .no) (rows := cG w) (by rw [dN]; unfold lim; omega)
       have mk := cCj (c := 1) (g := .no) (l := w)
       have st1 : aR Tryz.prog m2 44 (.ptr r4 0) (.agg (smG 1 .no w)) = some (bO m2 r4 (smG 1 .no w)) := aS v4 aJ8 rfl rfl (Nat.le_refl _) rfl rfl
       refine go1 (jn @t2 (jn @c2 (jn @mk @st1))) ?_
       exact qI rfl (bRw (bA v4)) rfl rfl (aC (bD hA (by omega)))
      ·have h2 : ¬ s.count = 0 := by simpa using hc
       rw [if_neg h2]
       refine go1 @l3 ?_
       refine aH rfl (fun hc => ?_) (fun hc => ?_)
       ·rw [if_pos (by simpa using hc)]
        refine go1 (jn @aSx @st0) ?_
        exact fin0 _ _ rfl rfl
       ·have h3 : (s.sums.length : Int) = (w.length : Int) := by simpa using hc
        rw [if_neg (fun hh => hh h3)]
        have mk := cAz (c := IntKind.i64.wrap (s.count + 1))
        have st7 : aR Tryz.prog (m2.push gP) 44 (.ptr m2.vars.length 0) (.agg (smG (IntKind.i64.wrap (s.count + 1)) .full [])) = some (m2.push (smG (IntKind.i64.wrap (s.count + 1)) .full [])) := by
         rw [eW (cs := smG (IntKind.i64.wrap (s.count + 1)) .full []) rfl aJ8 (Nat.le_refl _) rfl]
         rfl
        have n7 := bKg (m := m2)
        have v7 : (m2.push (smG (IntKind.i64.wrap (s.count + 1)) .full [])).var m2.vars.length = some (smG (IntKind.i64.wrap (s.count + 1)) .full []) := aJ
        have u2 : (m2.push (smG (IntKind.i64.wrap (s.count + 1)) .full [])).var r2 = some s.row := aQ v2
        have u4 : (m2.push (smG (IntKind.i64.wrap (s.count + 1)) .full [])).var r4 = some gP := aQ v4
        have hA7 := aQf (aG (cs := smG (IntKind.i64.wrap (s.count + 1)) .full []) hA)
        have hne2 : m2.vars.length ≠ r2 := by have := (fM v2).1; omega
        have hne4 : m2.vars.length ≠ r4 := by have := (fM v4).1; omega
        have hge7 : m.vars.length ≤ m2.vars.length := by have := uL hA; omega
        refine go1 (jn @l2 (jn @mk (jn @st7 @n7))) ?_
        generalize m2.push (smG (IntKind.i64.wrap (s.count + 1)) .full []) = m3 at v7 u2 u4 hA7
        generalize m2.vars.length = r7 at v7 hne2 hne4 hge7
        refine cE (fun k e m' => ∃ (i : Nat) (L : List Int) (gg : Grow), i ≤ w.length ∧ aCm s.sums w i = some L ∧ pC m m' ∧ aJv m m' gg ∧ m'.var r2 = some s.row ∧ m'.var r4 = some gP ∧ m'.var r7 = some (smG (IntKind.i64.wrap (s.count + 1)) gg L) ∧ k = w.length - i ∧
         e = [(2, AV.ptr r2 0), (4, .ptr r4 0), (7, .ptr r7 0), (43, .lst g 1 (cG w)), (44, .v (.int .i64 w.length)), (45, .v (.int .i64 (i : Int)))]) (k := w.length) ⟨0, [], _, Nat.zero_le _, rfl, hA7, .inl rfl, u2, u4, v7, rfl, rfl⟩ ?_
        rintro k e m' ⟨i, L, gg, hi, hL, hA', hg', q2, q4, q7, rfl, rfl⟩
        have hLl := aHc hL
        refine go0 ?_
        refine aH rfl (fun hc => ?_) (fun hc => ?_)
        ·have hi1 : i < w.length := by have := of_decide_eq_true hc; omega
         have f1 := aC5 (g := g) (kk := .i64) hi1
         have f2 := aC5 (g := .no) (kk := .i64) (show i < s.sums.length by omega)
         have r6 := cP (i := i) (by omega)
         have l4 := aLs q2
         have hN : aCm s.sums w (i + 1) = if (aHg (s.sums.getD i 0) (w.getD i 0)).2 = 0 then some (L ++ [(aHg (s.sums.getD i 0) (w.getD i 0)).1]) else none := by rw [aCm, hL]; rfl
         have herr := bQg (s.sums.getD i 0) (w.getD i 0)
         have c3 := bY6 (s.sums.getD i 0) (w.getD i 0)
         generalize s.sums.getD i 0 = x at f2 hN herr c3
         generalize w.getD i 0 = y at f1 hN herr c3
         generalize aHg x y = Z at hN herr c3
         refine go1 (jn @f1 (jn @l4 (jn @f2 (jn @t3 @c3)))) ?_
         refine aH rfl (fun hc => ?_) (fun hc => ?_)
         ·have hz : ¬ Z.2 = 0 := by simpa using hc
          rw [if_neg hz] at hN
          rw [bDu hN hi1]
          have st9 : aR Tryz.prog m' 44 (.ptr r4 0) (.agg gP) = some (bO m' r4 gP) := aS q4 aJ8 rfl rfl (Nat.le_refl _) rfl rfl
          refine go1 (jn @aSx @st9) ?_
          have h4 : Z.2 = 4 := herr.resolve_left hz
          exact qI rfl (bY (off := 0) (bA q4) aJ8 bUt (Nat.le_refl _) rfl) rfl (by rw [← h4]; rfl) (rP (iD hA' (by omega)))
         ·have hz : Z.2 = 0 := by simpa using hc
          rw [if_pos hz] at hN
          have l7 := cBz q7
          obtain ⟨g2, m4, a1, hg4, hA4, hv4, hl4⟩ := aSe sI (g2 := .full) (xs := cG L) (ys := [[.v (.int .i64 Z.1)]]) hg' hA' (by rw [dN]; unfold lim; simp; omega)
          have e1 : cG L ++ [[.v (.int .i64 Z.1)]] = cG (L ++ [Z.1]) := by unfold cG; rw [List.map_append]; rfl
          rw [e1] at a1
          have q7' : m4.var r7 = some (smG (IntKind.i64.wrap (s.count + 1)) gg L) := by rw [hv4]; exact q7
          have st10 : aR Tryz.prog m4 42 (.ptr r7 1) (.lst g2 1 (cG (L ++ [Z.1]))) = some (bO m4 r7 (smG (IntKind.i64.wrap (s.count + 1)) g2 (L ++ [Z.1]))) := aS q7' bMc rfl rfl nbT rfl rfl
          refine go1 (jn @l7 (jn @a1 (jn @st10 @r6))) ?_
          exact ⟨w.length - (i + 1), by omega, i + 1, L ++ [Z.1], g2, hi1, hN, iD hA4 hge7, aLd hg4, cD (by rw [hv4]; exact q2) (fun h => hne2 h.symm), cD (by rw [hv4]; exact q4) (fun h => hne4 h.symm), bA q7', rfl, rfl⟩
        ·have hi1 : i = w.length := by have := of_decide_eq_false hc; omega
         subst hi1
         rw [hL]
         have l8 := bRw q7
         have st11 : aR Tryz.prog m' 44 (.ptr r4 0) (.agg (smG (IntKind.i64.wrap (s.count + 1)) gg L)) = some (bO m' r4 (smG (IntKind.i64.wrap (s.count + 1)) gg L)) := aS q4 aJ8 rfl rfl (Nat.le_refl _) rfl rfl
         refine go1 (jn @l8 (jn @bOp @st11)) ?_
         exact qI rfl (bRw (bA q4)) rfl rfl (rP (iD hA' (by omega)))
   ·cases h
  ·cases h
 ·cases h
end
section
attribute [local irreducible] Next aW cF Ops bQ
attribute [local go_sem] cO bP Option.getD_some cJ aT aV iv dN List.cons_append
def aY5 (avg w : List Int) (d : Int) (i : Nat) : Int := (mX (w.getD i 0) (avg.getD i 0) d).1
def aLm (avg w : List Int) (d : Int) : List Int × Int :=
 if d < 0 ∨ d > 4294967296 then ([], 1) else if (avg.length : Int) = 0 then (w, 0) else if (avg.length : Int) ≠ (w.length : Int) then ([], 1) else ((List.range w.length).map (aY5 avg w d), 0)
def aL6 (avg w : List Int) : Prop := avg.length ≤ 1000000 ∧ w.length ≤ 1000000 ∧ (∀ x ∈ avg, inI x) ∧ ∀ x ∈ w, inI x
open Classical in
noncomputable def bNr : List AV → Mem → Option (AV × Mem)
 | [.lst _ 1 ra, .lst _ 1 rw, .v (.int .i64 d)], m =>
  match unJ ra, unJ rw with
  | some a, some w => if aL6 a w then some (.tup [.lst .no 1 (cG (aLm a w d).1), .v (.int .i64 (aLm a w d).2)], m) else none
  | _, _ => none
 | _, _ => none
theorem bX8 {a w : List Int} {g g2 : Grow} {d : Int} (h : aL6 a w) (m : Mem) : bNr [.lst g 1 (cG a), .lst g2 1 (cG w), .v (.int .i64 d)] m = some (.tup [.lst .no 1 (cG (aLm a w d).1), .v (.int .i64 (aLm a w d).2)], m) := by
 simp only [bNr, jC]
 exact if_pos h
def yY (f : Nat → Int) (n i : Nat) : List Int := (List.range n).map fun j => if j < i then f j else 0
theorem bKe (f : Nat → Int) (n i : Nat) : (yY f n i).length = n := by unfold yY; simp
theorem bCq (f : Nat → Int) (n : Nat) : yY f n 0 = List.replicate n 0 := by
 unfold yY
 apply List.ext_getElem <;> simp
theorem bBb {f : Nat → Int} {n i : Nat} (hi : i < n) : (yY f n i).set i (f i) = yY f n (i + 1) := by
 unfold yY
 apply List.ext_getElem
 ·simp
 ·intro j h1 h2
  rw [List.getElem_set]
  simp only [List.getElem_map, List.getElem_range]
  by_cases h : i = j
  ·subst h
   rw [if_pos rfl, if_pos (by omega)]
  ·rw [if_neg h]
   by_cases h3 : j < i
   ·rw [if_pos h3, if_pos (by omega)]
   ·rw [if_neg h3, if_neg (by omega)]
theorem bHw (f : Nat → Int) (n : Nat) : yY f n n = (List.range n).map f := by
 unfold yY
 apply List.ext_getElem
 ·simp
 ·intro j h1 h2
  simp at h1 ⊢
  intro h
  omega
theorem bOo {m m' : Mem} {r n : Nat} {b : List Int} (hr : m.vars.length ≤ r) (hv : m'.var r = some (iC b)) (hn : n = b.length) : fP m.vars.length m' (.vs r 0 1 n n) = some (.lst .no 1 (cG b)) := by
 have hnr : ¬ r < m.vars.length := by omega
 simp only [fP, hnr, if_false, hv, hn, bMo, and_self, if_true, aYq, Option.map_some]
 simp [tV, iC, cG]
def bW9 : Nat → Option (List Nat) := fun
 | 0 => some [0, 1, 2]
 | 1 => some [0, 1, 2, 11]
 | 2 => some [6, 7]
 | 3 => some [0, 1, 2, 18]
 | 4 => some [6, 7]
 | 5 => some [0, 1, 2, 24]
 | 6 => some [6, 7]
 | 7 => some [0, 1, 2, 8]
 | 8 => some [0, 2, 8, 33, 34, 35]
 | 9 => some [0, 2, 8, 33, 34, 35, 36]
 | 10 => some [0, 2, 8, 9, 10, 33, 34, 35]
 | 11 => some [0, 2, 8, 33, 34, 35]
 | 12 => some [0, 2, 8, 33, 34, 35]
 | 13 => some [6, 7]
 | _ => none
attribute [go_sem] bW9
def aDu : List (FuncId × (List AV → Mem → Option (AV × Mem))) := [(134, (sX 1)), (136, aXs)]
theorem bYm : aO Tryz.prog 118 bNr := by
 have hC := aI (P := Tryz.prog) (l := aDu) (aA aSr (aA bFb aF))
 have t1 := taT aDu 134 rfl
 have t2 := taT aDu 136 rfl
 refine aP mixed hC Tryz.func118 rfl bW9 false rfl fun args m r h => ?_
 unfold bNr at h
 split at h
 ·rename_i g ra g2 rw' d
  split at h
  ·rename_i a w ha0 hw0
   obtain rfl := iT ha0
   obtain rfl := iT hw0
   split at h
   ·rename_i hd
    obtain ⟨ha6, hw6, hai, hwi⟩ := hd
    simp only [Option.some.injEq] at h
    subst h
    refine ⟨nbT, ?_⟩
    refine en ?_
    have fin0 : ∀ (e : Env) (b : Int), Ev.get e 6 = .lst .full 1 [] → Ev.get e 7 = .v (.int .i64 b) → cZ Tryz.prog false Tryz.f118 m (.tup [.lst .no 1 (cG []), .v (.int .i64 b)], m) .ret e m := fun e b h1 h2 =>
     aDi rfl (by rw [h1]; rfl) (by rw [h2]; rfl) (bU _)
    unfold aLm
    cases h1 : decide (d < 0) with
    | true =>
     have k1 := of_decide_eq_true h1
     rw [if_pos (.inl k1)]
     refine go1 @h1 ?_
     refine rcT rfl ?_
     refine go0 ?_
     exact fin0 _ _ rfl rfl
    | false =>
     have k1 := of_decide_eq_false h1
     refine go1 @h1 ?_
     refine aH rfl (fun hc => ?_) (fun hc => ?_)
     ·rw [if_pos (.inr (of_decide_eq_true hc))]
      refine go0 ?_
      exact fin0 _ _ rfl rfl
     ·have k2 := of_decide_eq_false hc
      rw [if_neg (by omega)]
      refine go0 ?_
      refine aH rfl (fun hc => ?_) (fun hc => ?_)
      ·rw [if_pos (by simpa using hc)]
       have c2 := aHn (k := 1) (g := .no) (rows := cG w) (by rw [dN]; unfold lim; omega)
       refine go1 (jn @t1 @c2) ?_
       exact aDi rfl rfl rfl (bU _)
      ·have k3 : ¬ (a.length : Int) = 0 := by simpa using hc
       rw [if_neg k3]
       refine go0 ?_
       refine aH rfl (fun hc => ?_) (fun hc => ?_)
       ·rw [if_pos (by simpa using hc)]
        refine go0 ?_
        exact fin0 _ _ rfl rfl
       ·have k4 : (a.length : Int) = (w.length : Int) := by simpa using hc
        rw [if_neg (fun hh => hh k4)]
        have mi := bSa (n := w.length) (by omega)
        have nv := bUi (m := m) (l := List.replicate w.length 0)
        have e0 := bCq (aY5 a w d) w.length
        refine go1 (jn @mi @nv) ?_
        refine cE (fun k e m' => ∃ (i : Nat), i ≤ w.length ∧ m' = m.push (iC (yY (aY5 a w d) w.length i)) ∧ k = w.length - i ∧
         e = [(0, AV.lst g 1 (cG a)), (2, .v (.int .i64 d)), (8, .vs m.vars.length 0 1 w.length w.length), (33, .lst g2 1 (cG w)), (34, .v (.int .i64 w.length)), (35, .v (.int .i64 (i : Int)))]) (k := w.length) ⟨0, Nat.zero_le _, by rw [e0], rfl, rfl⟩ ?_
        rintro k e m' ⟨i, hi, rfl, rfl, rfl⟩
        refine go0 ?_
        refine aH rfl (fun hc => ?_) (fun hc => ?_)
        ·have hi1 : i < w.length := by have := of_decide_eq_true hc; omega
         have f1 := aC5 (g := g2) (kk := .i64) hi1
         have f2 := aC5 (g := g) (kk := .i64) (show i < a.length by omega)
         have r6 := cP (i := i) (by omega)
         have f3 := cB7 (r := m.vars.length) (n := w.length) (kk := .i64) hi1
         have c3 := aN4 (a := w.getD i 0) (b := a.getD i 0) (t := d) (hwi _ (jI hi1)) (hai _ (jI (by omega)))
         have st := bX7 (m := m.push (iC (yY (aY5 a w d) w.length i))) (r := m.vars.length) (i := i) (v := (mX (w.getD i 0) (a.getD i 0) d).1) aJ (by rw [bKe]; exact hi1)
         rw [show (mX (w.getD i 0) (a.getD i 0) d).1 = aY5 a w d i from rfl, bBb hi1, bLe] at st
         rw [show (mX (w.getD i 0) (a.getD i 0) d).1 = aY5 a w d i from rfl] at c3
         generalize (mX (w.getD i 0) (a.getD i 0) d).2 = z2 at c3
         generalize aY5 a w d i = z1 at c3 st
         generalize a.getD i 0 = x at f2 c3
         generalize w.getD i 0 = y at f1 c3
         refine go1 (jn @f1 (jn @f2 (jn @f3 (jn @t2 (jn @c3 (jn @st @r6)))))) ?_
         exact ⟨w.length - (i + 1), by omega, i + 1, hi1, rfl, rfl, rfl⟩
        ·have hi1 : i = w.length := by have := of_decide_eq_false hc; omega
         subst hi1
         refine go0 ?_
         refine aDi rfl (bOo (b := (List.range w.length).map (aY5 a w d)) (Nat.le_refl _) (by rw [← bHw]; exact aJ) (by simp)) rfl lV
   ·cases h
  ·cases h
 ·cases h
end
noncomputable section
attribute [local irreducible] Next aW cF Ops bQ
attribute [local irreducible] bE dH eZ
attribute [local go_sem] cO bP Option.getD_some cJ aT aV iv kI fA dY pJ iK iW yO kP uC lL vI vW aKj kV gR bBa aH7
theorem aQb {P : Program} {nt : Nat} {φ₀ : Phi} {m₀ : Mem} {w₀ : World} {ops : Array Oper} {o : Oper} {e : Env} {m : Mem} {F : Objs} {K : Env → Mem → Objs → Prop} {f : FuncId} {Pre : List AV → Mem → Prop} {kB : List AV → Mem → AV → Mem → Objs → Prop}
  (hf : wO P f Pre kB) {c : Call} {x y : Operand} {av bv : AV} {d : Nat} (hg : wantedAV ops e o = some true) (hd : o.dst = some d) (hlt : d < nt) (ho : o.op = .call c) (hc : c.callee = .value (.func f)) (ha : c.args = #[x, y]) (hx : opd P e 0 x = av) (hy : opd P e 0 y = bv) (hpre : Pre [lI av, lI bv] m)
  (h : ∀ r m' F', kB [lI av, lI bv] m r m' F' → (∀ p ∈ F', ∀ q ∈ F, p.1 ≠ q.1) → K ((d, r) :: e) m' (F' ++ F)) : dF P φ₀ m₀ w₀ nt ops o e m F K :=
 aWh hf (args := [av, bv]) hg hd hlt ho hc (fun φ w a hE => by
  rw [ha]
  refine ⟨by simp, fun i b u e1 e2 => ?_⟩
  match i with
  | 0 =>
   have hb : av = b := by simpa using e1
   have hu : a.eval x = u := by simpa using e2
   subst hb
   subst hu
   have := fU (P := P) hE 0 x
   rw [hx] at this
   exact this
  | 1 =>
   have hb : bv = b := by simpa using e1
   have hu : a.eval y = u := by simpa using e2
   subst hb
   subst hu
   have := fU (P := P) hE 0 y
   rw [hy] at this
   exact this
  | i + 2 => simp at e1) hpre h
/-! ### numbers -/
theorem aXe {a b t : Int} : inI (mX a b t).1 := by
 unfold mX
 split
 ·exact (by decide : inI 0)
 ·split <;> exact tX _
theorem aJf (c : Cv) (i n : Int) : inI (eL c i n).1 := by
 unfold eL
 split
 ·exact (by decide : inI 0)
 ·rename_i h
  split
  ·have hc : jV c = true := by
    cases hx : jV c with
    | true => rfl
    | false => exact absurd (.inl hx) h
   obtain ⟨ha, hb, hk⟩ := aOz hc
   have hp := aKp ha (bEn (x := c.k) i hk)
   show inI (mx c.b (fZ c.a (yG c.k i).1).1)
   unfold mx
   split <;> assumption
  ·split <;> exact aXe
theorem bVm (s : Sg) (step : Int) : inI (aKa s step).1 := by
 unfold aKa
 split
 ·exact aJf _ _ _
 ·split
  ·exact (by decide : inI 0)
  ·exact aJf _ _ _
theorem bS3 (p : Pn) (step : Int) (j : Nat) : inI (aGs p step j) := by
 unfold aGs mP
 split
 ·exact (by decide : inI 0)
 ·split
  ·exact (by decide : inI 0)
  ·exact bVm _ _
/-! ### the list -/
def aR7 (p : Pn) (s : Ss) (ph : Nat) (j : Nat) : Int := if (p.frozen.getD ph []).getD (j / 3) false = true then 0 else if j % 3 = 0 ∧ p.cutAt ≥ 0 then aJ2 s.cut (aGs p s.step j) p.plateau.Floor else aGs p s.step j
def iJ (p : Pn) (s : Ss) (ph i : Nat) : List Int := (List.range p.tracks.length).map fun j => if j / 3 < i then aR7 p s ph j else aGs p s.step j
def aCr (p : Pn) (s : Ss) (ph : Nat) : List Int := (List.range p.tracks.length).map (aR7 p s ph)
theorem aOu {f g : Nat → Int} {n off : Nat} {new : List Int} (h : off + new.length ≤ n) (h1 : ∀ j, j < n → ¬ (off ≤ j ∧ j < off + new.length) → g j = f j) (h2 : ∀ j, j < new.length → g (off + j) = new.getD j 0) :
  cB (((List.range n).map f).map iv) off (new.map iv) = ((List.range n).map g).map iv := by
 apply List.ext_getElem?
 intro j
 unfold cB
 rw [getElem?_splice (by simp; omega)]
 simp only [List.length_map]
 by_cases hc : off ≤ j ∧ j < off + new.length
 ·have hjn : j - off < new.length := by omega
  have h5 := h2 (j - off) hjn
  rw [show off + (j - off) = j by omega, List.getD, List.getElem?_eq_getElem hjn, Option.getD_some] at h5
  have hj : j < n := by omega
  rw [if_pos hc]
  simp [List.getElem?_eq_getElem hjn, hj, h5]
 ·rw [if_neg hc]
  by_cases hj : j < n
  ·simp [hj, h1 j hj hc]
  ·simp [hj]
theorem bQn (p : Pn) (s : Ss) (ph : Nat) : iJ p s ph 0 = aPm p s.step p.tracks.length := by
 unfold iJ aPm
 apply List.map_congr_left
 intro j _
 rw [if_neg (by omega)]
theorem bAv {p : Pn} {s : Ss} {ph n : Nat} (h : p.tracks.length = 3 * n) : iJ p s ph n = aCr p s ph := by
 unfold iJ aCr
 apply List.map_congr_left
 intro j hj
 have := List.mem_range.1 hj
 rw [if_pos (by omega)]
theorem kX (p : Pn) (s : Ss) (ph i : Nat) : (iJ p s ph i).length = p.tracks.length := by unfold iJ; simp
theorem aPc {p : Pn} {s : Ss} {ph i : Nat} (hi : 3 * i + 3 ≤ p.tracks.length) (h : (p.frozen.getD ph []).getD i false = true) : cB ((iJ p s ph i).map iv) (3 * i) (List.replicate 3 (iv 0)) = (iJ p s ph (i + 1)).map iv := by
 have e : List.replicate 3 (iv 0) = [0, 0, 0].map iv := rfl
 rw [e]
 refine aOu (by simpa using hi) (fun j hj hn => ?_) fun j hj => ?_
 ·simp only [List.length_cons, List.length_nil] at hn
  by_cases h1 : j / 3 < i
  ·rw [if_pos h1, if_pos (by omega)]
  ·rw [if_neg h1, if_neg (by omega)]
 ·simp only [List.length_cons, List.length_nil] at hj
  have hd : (3 * i + j) / 3 = i := by omega
  rw [if_pos (by omega)]
  unfold aR7
  rw [hd, if_pos h]
  match j, hj with
  | 0, _ => rfl
  | 1, _ => rfl
  | 2, _ => rfl
theorem bBt {p : Pn} {s : Ss} {ph i : Nat} (hi : 3 * i + 3 ≤ p.tracks.length) (h : (p.frozen.getD ph []).getD i false = false) (hc : p.cutAt ≥ 0) : cB ((iJ p s ph i).map iv) (3 * i) [iv (aJ2 s.cut (aGs p s.step (3 * i)) p.plateau.Floor)] = (iJ p s ph (i + 1)).map iv := by
 have e : [iv (aJ2 s.cut (aGs p s.step (3 * i)) p.plateau.Floor)] = [aJ2 s.cut (aGs p s.step (3 * i)) p.plateau.Floor].map iv := rfl
 rw [e]
 refine aOu (by simp; omega) (fun j hj hn => ?_) fun j hj => ?_
 ·simp only [List.length_cons, List.length_nil] at hn
  by_cases h1 : j / 3 < i
  ·rw [if_pos h1, if_pos (by omega)]
  ·rw [if_neg h1]
   by_cases h2 : j / 3 < i + 1
   ·have h3 : j / 3 = i := by omega
    rw [if_pos h2]
    unfold aR7
    rw [h3, if_neg (by rw [h]; decide), if_neg (by omega)]
   ·rw [if_neg h2]
 ·simp only [List.length_cons, List.length_nil] at hj
  obtain rfl : j = 0 := by omega
  rw [if_pos (by omega)]
  unfold aR7
  rw [show (3 * i + 0) / 3 = i by omega, if_neg (by rw [h]; decide), if_pos ⟨by omega, hc⟩]
  rfl
theorem aYo {p : Pn} {s : Ss} {ph i : Nat} (h : (p.frozen.getD ph []).getD i false = false) (hc : ¬ p.cutAt ≥ 0) : iJ p s ph i = iJ p s ph (i + 1) := by
 unfold iJ
 apply List.map_congr_left
 intro j _
 by_cases h1 : j / 3 < i
 ·rw [if_pos h1, if_pos (by omega)]
 ·rw [if_neg h1]
  by_cases h2 : j / 3 < i + 1
  ·have h3 : j / 3 = i := by omega
   rw [if_pos h2]
   unfold aR7
   rw [h3, if_neg (by rw [h]; decide), if_neg (fun hh => hc hh.2)]
  ·rw [if_neg h2]
theorem bI7 {p : Pn} {s : Ss} {ph i : Nat} (hi : 3 * i < p.tracks.length) : (iJ p s ph i)[3 * i]? = some (aGs p s.step (3 * i)) := by
 unfold iJ
 simp [hi]
def aA5 (p : Pn) (s : Ss) (ph : Int) : Prop := p.fit ∧ cQ p = true ∧ (0 ≤ s.step ∧ s.step < p.steps) ∧ 0 ≤ ph ∧ ph < (p.frozen.length : Int)
instance (p : Pn) (s : Ss) (ph : Int) : Decidable (aA5 p s ph) := by unfold aA5; exact inferInstance
def aW2 : List AV → Mem → Option (AV × Mem)
 | [.agg ps, .agg ss, .v (.int .i64 ph)], m =>
  match iH ps, sC ss with
  | some p, some s => if aA5 p s ph then some (.lst .no 1 (cG (aCr p s ph.toNat)), m) else none
  | _, _ => none
 | _, _ => none
theorem bVj {p : Pn} {s : Ss} {ph : Int} (h : aA5 p s ph) (m : Mem) : aW2 [.agg p.row, .agg s.row, .v (.int .i64 ph)] m = some (.lst .no 1 (cG (aCr p s ph.toNat)), m) := by
 simp only [aW2, unPn_row, dZ]
 exact if_pos h
theorem bBv {p : Pn} (h : cQ p = true) {i : Nat} (hi : i < p.frozen.length) : ((p.frozen.getD i []).length : Int) = p.groups := by
 obtain ⟨_, _, _, _, _, _, hf, _⟩ := dD h
 unfold gW at hf
 rw [Bool.and_eq_true] at hf
 have := List.all_eq_true.1 hf.1 i (List.mem_range.2 hi)
 unfold bJk at this
 exact eq_of_beq this
theorem bT7 {F : Objs} {b c : Nat} {cs : List AV} {L : List Int} (hb : (b, XOb.arr cs) ∈ F) (hc : L.length ≤ c) (h : cs.take L.length = L.map iv) : Fz F (.v (bS b 0 L.length c)) (.lst .no 1 (cG L)) := by
 refine .list b 0 1 L.length c cs (cG L) (fun i _ => iv (L.getD i 0)) hb (dN L) hc (fun i row hr => ?_) (fun i row j x h1 h2 => ?_) fun i row j x h1 h2 => ?_
 ·obtain ⟨n, _, rfl⟩ := List.mem_map.1 (List.mem_of_getElem? hr)
  exact ⟨rfl, rfl⟩
 ·have hi : i < L.length := by have := (List.getElem?_eq_some_iff.1 h1).1; rwa [dN] at this
  have e := aHw (l := L) hi
  rw [e] at h1
  cases h1
  have hj : j = 0 := by have := (List.getElem?_eq_some_iff.1 h2).1; simpa using this
  subst hj
  have e2 : (cs.take L.length)[i]? = some (iv (L.getD i 0)) := by
   rw [h]
   simp [List.getD, List.getElem?_eq_getElem hi]
  rw [List.getElem?_take, if_pos hi] at e2
  simpa using e2
 ·have hi : i < L.length := by have := (List.getElem?_eq_some_iff.1 h1).1; rwa [dN] at this
  have e := aHw (l := L) hi
  rw [e] at h1
  cases h1
  have hj : j = 0 := by have := (List.getElem?_eq_some_iff.1 h2).1; simpa using this
  subst hj
  cases h2
  exact .same _
end
noncomputable section
attribute [local irreducible] Next aW cF Ops bQ
attribute [local irreducible] bE dH eZ
attribute [local go_sem] cO bP Option.getD_some cJ aT aV iv kI fA dY pJ iK iW yO kP uC lL vI vW aKj kV gR bBa aH7
theorem pT {F : Objs} {b : Nat} {o o' : XOb} (h : (b, o) ∈ F) : (b, o') ∈ eS F b o' := List.mem_map.2 ⟨_, h, by simp⟩
theorem aJo {cs new : List AV} {L : List Int} {off : Nat} {L2 : List Int} (h : cs.take L.length = L.map iv) (hl : L.length ≤ cs.length) (hn : off + new.length ≤ L.length) (h2 : cB (L.map iv) off new = L2.map iv) (h3 : L2.length = L.length) : (cB cs off new).take L2.length = L2.map iv := by
 rw [h3, ← h2, ← h]
 apply List.ext_getElem?
 intro j
 unfold cB
 rw [List.getElem?_take]
 rw [getElem?_splice (by omega), getElem?_splice (by simp; omega)]
 by_cases h1 : off ≤ j ∧ j < off + new.length
 ·rw [if_pos h1, if_pos h1, if_pos (by omega)]
 ·rw [if_neg h1, if_neg h1, List.getElem?_take]
theorem lM {n d : Nat} : fH (some (.v (.int .i64 (n : Int)))) d = some n := by
 unfold fH
 simp
theorem zrI : zeroCells Tryz.prog 3 = some [.v (.int .i64 0)] := by kernel_rfl
theorem bR3 {cs : List AV} {i : Nat} {v : AV} (h : cs[i]? = some v) : mK Tryz.prog 3 cs i = some v := by
 unfold mK
 simp only [bXf, bP, h]
def kL : Nat → Option (List Nat) := fun
 | 0 => some [2, 3, 4]
 | 1 => some [2, 3, 4, 7]
 | 2 => some [3, 4, 7, 23, 24, 25]
 | 3 => some [3, 4, 7, 23, 24, 25, 26]
 | 4 => some [3, 4, 7, 9, 10, 23, 24, 25]
 | 5 => some [3, 4, 7, 10, 11, 23, 24, 25]
 | 6 => some [3, 4, 7, 11, 23, 24, 25, 32]
 | 7 => some [3, 4, 7, 23, 24, 25]
 | 8 => some [3, 4, 7, 11, 23, 24, 25, 40]
 | 9 => some [3, 4, 7, 23, 24, 25]
 | 10 => some [3, 4, 7, 23, 24, 25]
 | 11 => some [6]
 | _ => none
attribute [go_sem] kL
theorem bVr : aO Tryz.prog 68 aW2 := by
 have hC := aI (P := Tryz.prog) (l := [(97, aP8)]) (aA bVg aF)
 have t1 := taT [(97, aP8)] 97 rfl
 refine dJ Tryz.func68 rfl false rfl fun args m r h => ?_
 unfold aW2 at h
 split at h
 ·rename_i ps ss ph
  split at h
  ·rename_i p s hp0 hs0
   obtain rfl := bZ hp0
   obtain rfl := dT hs0
   split at h
   ·rename_i hdom
    obtain ⟨hfit, hok, ⟨s0, s1⟩, p0, p1⟩ := hdom
    simp only [Option.some.injEq] at h
    subst h
    obtain ⟨q, rfl⟩ := Int.eq_ofNat_of_zero_le p0
    have hq : q < p.frozen.length := by omega
    rw [Int.toNat_natCast]
    refine ⟨nbT, fun φ wd => ?_⟩
    refine en ?_
    have v3 : ((m.push p.row).push s.row).var m.vars.length = some p.row := aQ aJ
    have v4 : ((m.push p.row).push s.row).var (m.push p.row).vars.length = some s.row := aJ
    have n1 := dY (m := m) (x := p)
    have n2 := iW (m := m.push p.row) (x := s)
    have hA := aG (cs := s.row) (aG (cs := p.row) (aM m))
    refine xq ?_
    refine aB (kp := kL) mixed hC ?_
    refine go1 (jn @n1 @n2) ?_
    refine xq ?_
    generalize (m.push p.row).push s.row = m2 at v3 v4 hA
    generalize (m.push p.row).vars.length = r4 at v4
    generalize m.vars.length = r3 at v3
    have l1 := qB v3
    have l2 := vA v4
    have l3 := wE v3
    have l4 := aIl v3
    have l5 := bGz v4
    have l6 := aHk v3
    have hfl := bBv hok hq
    have htl := aO6 hok
    have hg8 := (dD hok).2.2.2.1
    generalize hfr : p.frozen.getD q [] = fr at hfl
    have hn : p.tracks.length = 3 * fr.length := by omega
    have hfr8 : fr.length ≤ 8 := by omega
    refine iF (l2 := kL 1) ?_
    refine aFu hC (jn @l1 @l2) ?_
    refine bX (aQb (x := .tmp 13) (y := .tmp 15) (av := .agg p.row) (bv := .v (.int .i64 s.step)) bZ4 rfl rfl (by decide) rfl rfl rfl rfl rfl ⟨p, s.step, rfl, hfit, hok, s0, s1⟩ fun r m3 F3 hpost hdis => ?_)
    obtain ⟨rfl, a, rfl, hraw⟩ := hpost p s.step rfl
    obtain ⟨b, c, cs0, rfl, hm0, g1, g2, g3⟩ := hraw
    rw [← bQn p s q] at g1 g3
    rw [aVv]
    refine gL hC ?_
    refine xq ?_
    have a1 := bK4 (g := .no) (kk := .i64) hq
    rw [hfr] at a1
    refine aB (kp := kL) mixed hC ?_
    refine go1 (jn @l3 @a1) ?_
    refine xq ?_
    refine wZ (fun k e m' F => ∃ (i : Nat) (cs : List AV), i ≤ fr.length ∧ m3 = m' ∧ (b, XOb.arr cs) ∈ F ∧ c ≤ cs.length ∧ cs.take (iJ p s q i).length = (iJ p s q i).map iv ∧ k = fr.length - i ∧ e = [(3, AV.ptr r3 0), (4, .ptr r4 0), (7, .v (bS b 0 p.tracks.length c)), (23, .lst .no 1 (eA fr)), (24, .v (.int .i64 (fr.length : Int))), (25, .v (.int .i64 (i : Int)))]) (k := fr.length) ⟨0, cs0, Nat.zero_le _, rfl, List.mem_append_left _ hm0, g2, g3, rfl, rfl⟩ ?_
    rintro k e m' F ⟨i, cs, hi0, rfl, hm, g2, g3, rfl, rfl⟩
    rw [kX] at g1 
    refine xq ?_
    refine aB (kp := kL) mixed hC ?_
    refine go0 ?_
    refine xq ?_
    refine cK rfl (fun hc => ?_) (fun hc => ?_)
    ·have hi1 : i < fr.length := by have := of_decide_eq_true hc; omega
     have f1 := aF9 (g := .no) (kk := .i64) hi1
     have r6 := cP (i := i) (by omega)
     have w1 : IntKind.i64.wrap ((i : Int) * 3) = ((3 * i : Nat) : Int) := by rw [bB (by omega) (by omega)]; omega
     have w2 : IntKind.i64.wrap (((3 * i : Nat) : Int) + 3) = ((3 * i + 3 : Nat) : Int) := by rw [bB (by omega) (by omega)]; omega
     have w3 : IntKind.i64.wrap (((3 * i : Nat) : Int) + 0) = ((3 * i : Nat) : Int) := by rw [bB (by omega) (by omega)]; omega
     have hb3 : 3 * i + 3 ≤ p.tracks.length := by omega
     have hcl : (iJ p s q i).length ≤ cs.length := by rw [kX]; omega
     have hll := kX p s q i
     refine xq ?_
     refine aB (kp := kL) mixed hC ?_
     refine go1 @f1 ?_
     refine xq ?_
     refine aB (kp := kL) mixed hC ?_
     refine go1 @w1 ?_
     refine xq ?_
     refine aB (kp := kL) mixed hC ?_
     refine go0 ?_
     refine xq ?_
     cases hz : fr.getD i false with
     | true =>
      have hz2 := hz
      rw [← hfr] at hz2
      have hsp := aPc (s := s) hb3 hz2
      refine xcT rfl ?_
      refine xq ?_
      refine iF (l2 := kL 7) ?_
      refine aFu hC @w2 ?_
      refine bX (jO (t1 := 0) (t2 := 0) rfl rfl aD1 bP rfl lM lM (by omega) (by omega) (by omega) rfl ?_)
      have heq : bS b (if c = 3 * i then 0 else 0 + 3 * i * 1) (3 * i + 3 - 3 * i) (c - 3 * i) = bS b (3 * i) (2 + 1) (c - 3 * i) := by
       rw [if_neg (by omega), show 0 + 3 * i * 1 = 3 * i by omega, show 3 * i + 3 - 3 * i = 2 + 1 by omega]
      refine bX (bAl rfl rfl rfl rfl rfl rfl aD1 zrI hm (congrArg AV.v heq) rfl (by omega) ?_)
      refine gL hC ?_
      refine xq ?_
      refine aB (kp := kL) mixed hC ?_
      refine go1 @r6 ?_
      refine xq ?_
      refine ⟨fr.length - (i + 1), by omega, i + 1, _, hi1, rfl, pT hm, ?_, aJo g3 hcl (by simp; omega) hsp (by rw [kX, kX]), rfl, rfl⟩
      rw [dR (by simp; omega)]
      exact g2
     | false =>
      have hz2 := hz
      rw [← hfr] at hz2
      refine xcF rfl ?_
      refine xq ?_
      refine aB (kp := kL) mixed hC ?_
      refine go1 @l4 ?_
      refine xq ?_
      by_cases hcut : p.cutAt ≥ 0
      ·have hsp := bBt (s := s) hb3 hz2 hcut
       have hat := bI7 (s := s) (ph := q) (i := i) (p := p) (by omega)
       have hin := bS3 p s.step (3 * i)
       generalize aGs p s.step (3 * i) = v at hsp hat hin
       have c1 := bTj (c := s.cut) hin p.plateau.Floor
       generalize aJ2 s.cut v p.plateau.Floor = u at hsp c1
       have ld : mK Tryz.prog 3 cs (0 + 3 * i * 1) = some (.v (.int .i64 v)) := by
        rw [show 0 + 3 * i * 1 = 3 * i by omega]
        refine bR3 ?_
        have h1 : (cs.take (iJ p s q i).length)[3 * i]? = some (iv v) := by rw [g3]; simp [hat]
        rw [List.getElem?_take, if_pos (by rw [hll]; omega)] at h1
        exact h1
       refine cK rfl (fun hc => ?_) (fun hc => absurd hcut (of_decide_eq_false hc))
       refine xq ?_
       refine aK6 mixed (l2 := kL 9) (by kernel_rfl) (by kernel_rfl) ?_
       refine bGy hC (jn @w3 @l5) ?_
       refine pS rfl (aGb (t1 := 0) (t2 := 0) (j := 3 * i) rfl aD1 bP rfl rfl (by omega)) rfl ?_
       refine pS rfl (aZt (t1 := 0) rfl hm rfl ld) rfl ?_
       refine bGy hC (jn @l6 (jn @t1 @c1)) ?_
       refine pS rfl (aGb (t1 := 0) (t2 := 0) (j := 3 * i) rfl aD1 bP rfl rfl (by omega)) rfl ?_
       refine aS7 (m1 := m3) rfl (aU6 (t1 := 0) (t2 := 0) (row := [iv u]) rfl rfl hm rfl rfl rfl bP rfl (by omega)) rfl ?_
       intro e2 h2
       simp only [go_sem, reduceIte, Nat.reduceEqDiff] at h2
       subst h2
       rw [show 0 + 3 * i * 1 = 3 * i by omega]
       refine xq ?_
       refine aB (kp := kL) mixed hC ?_
       refine go1 @r6 ?_
       refine xq ?_
       refine ⟨fr.length - (i + 1), by omega, i + 1, _, hi1, rfl, pT hm, ?_, aJo g3 hcl (by simp; omega) hsp (by rw [kX, kX]), rfl, rfl⟩
       rw [dR (by simp; omega)]
       exact g2
      ·have hsame := aYo (s := s) hz2 hcut
       refine cK rfl (fun hc => absurd (of_decide_eq_true hc) hcut) (fun hc => ?_)
       refine xq ?_
       refine aB (kp := kL) mixed hC ?_
       refine go1 @r6 ?_
       refine xq ?_
       exact ⟨fr.length - (i + 1), by omega, i + 1, cs, hi1, rfl, hm, g2, by rw [← hsame]; exact g3, rfl, rfl⟩
    ·have hi1 : i = fr.length := by have := of_decide_eq_false hc; omega
     subst hi1
     rw [bAv hn] at g3
     have hvl : (aCr p s q).length = p.tracks.length := by unfold aCr; simp
     have hfz := bT7 hm (L := aCr p s q) (by rw [hvl]; exact g1) g3
     rw [hvl] at hfz
     refine bMu (FzEnv.cons _ (.same _) (FzEnv.cons _ (.same _) (FzEnv.cons _ hfz (FzEnv.cons _ (.same _) (FzEnv.cons _ (.same _) (FzEnv.cons _ (.same _) (FzEnv.cons _ (.same _) .nil))))))) ?_
     refine xq ?_
     refine aB (kp := kL) mixed hC ?_
     refine go0 ?_
     refine xq ?_
     exact aX (dA rfl rfl (aC hA))
   ·cases h
  ·cases h
 ·cases h
end
section
attribute [local irreducible] Next aW cF Ops bQ
attribute [local irreducible] bE dH
attribute [local go_sem] cO bP Option.getD_some cJ aT aV iv kI fA dY pJ iK iW aLo aEp aQn yO lK oQ vU vK jR lL pK pI uQ tE kH aTa aHp sE uC rZ aAh qC vW nF aBc aNy aKj aD7 yC aJr yJ aS9 aT2 aEw aAa aTh aU3 bQ1 bZg cAc dN cV
def Ss.fit (s : Ss) : Prop := 0 ≤ s.step ∧ s.step ≤ 2000000 ∧ s.kept.length ≤ 1000000 ∧ s.ema.length ≤ 1000000 ∧ s.swa.sums.length ≤ 1000000
instance (s : Ss) : Decidable s.fit := by unfold Ss.fit; exact inferInstance
def jZ (s : Ss) : Int := if s.status = 3 then IntKind.i64.wrap (s.step - 1) else s.step
def wY : List AV → Mem → Option (AV × Mem)
 | [.agg ss], m =>
  match sC ss with
  | some s => some (.v (.int .i64 (jZ s)), m)
  | _ => none
 | _, _ => none
theorem aH8 (s : Ss) (m : Mem) : wY [.agg s.row] m = some (.v (.int .i64 (jZ s)), m) := by
 simp only [wY, dZ]
def bFu : Nat → Option (List Nat) := fun
 | 0 => some [1]
 | 1 => some [1, 5]
 | 2 => some [2]
 | 3 => some [2]
 | _ => none
attribute [go_sem] bFu
theorem aH4 : aO Tryz.prog 90 wY := by
 have hC := aI (P := Tryz.prog) (l := []) aF
 refine aP mixed hC Tryz.func90 rfl bFu false rfl fun args m r h => ?_
 unfold wY at h
 split at h
 ·rename_i ss
  split at h
  ·rename_i s hs0
   obtain rfl := dT hs0
   simp only [Option.some.injEq] at h
   subst h
   refine ⟨nbT, ?_⟩
   refine en ?_
   have vs : (m.push s.row).var m.vars.length = some s.row := aJ
   have n1 := iW (m := m) (x := s)
   have hA := aG (cs := s.row) (aM m)
   refine go1 @n1 ?_
   generalize m.push s.row = m2 at vs hA
   generalize m.vars.length = rs at vs
   have k1 : (!true) = false := rfl
   have k2 : (!false) = true := rfl
   have l1 := rY vs
   have l2 := vA vs
   unfold jZ
   refine go1 @l1 ?_
   by_cases hz : s.status = 3
   ·rw [if_pos hz]
    refine aH rfl (fun hc => ?_) (fun hc => absurd hc (by rw [hz]; decide))
    refine go1 @l2 ?_
    exact aE rfl rfl (aC hA)
   ·rw [if_neg hz]
    refine aH rfl (fun hc => absurd (eq_of_beq hc) hz) (fun hc => ?_)
    refine go1 @l2 ?_
    exact aE rfl rfl (aC hA)
  ·cases h
 ·cases h
def aNx (p : Pn) (n : Int) : Int := if p.swaEvery < 1 ∨ p.swaFrom < 0 ∨ n ≤ p.swaFrom then 0 else IntKind.i64.wrap (IntKind.i64.wrap ((IntKind.i64.wrap (IntKind.i64.wrap (n - 1) - p.swaFrom)).tdiv p.swaEvery) + 1)
def aOx : List AV → Mem → Option (AV × Mem)
 | [.agg ps, .v (.int .i64 n)], m =>
  match iH ps with
  | some p => some (.v (.int .i64 (aNx p n)), m)
  | _ => none
 | _, _ => none
theorem bQ0 (p : Pn) (n : Int) (m : Mem) : aOx [.agg p.row, .v (.int .i64 n)] m = some (.v (.int .i64 (aNx p n)), m) := by
 simp only [aOx, unPn_row]
def bR1 : Nat → Option (List Nat) := fun
 | 0 => some [1, 2]
 | 1 => some [1, 2, 18]
 | 2 => some [4]
 | 3 => some [4]
 | _ => none
attribute [go_sem] bR1
theorem bO7 : aO Tryz.prog 91 aOx := by
 have hC := aI (P := Tryz.prog) (l := []) aF
 refine aP mixed hC Tryz.func91 rfl bR1 false rfl fun args m r h => ?_
 unfold aOx at h
 split at h
 ·rename_i ps n
  split at h
  ·rename_i p hp0
   obtain rfl := bZ hp0
   simp only [Option.some.injEq] at h
   subst h
   refine ⟨nbT, ?_⟩
   refine en ?_
   have vp : (m.push p.row).var m.vars.length = some p.row := aJ
   have n1 := dY (m := m) (x := p)
   have hA := aG (cs := p.row) (aM m)
   refine go1 @n1 ?_
   generalize m.push p.row = m2 at vp hA
   generalize m.vars.length = rp at vp
   have k1 : (!true) = false := rfl
   have k2 : (!false) = true := rfl
   have l1 := pQ vp
   have l2 := aAj vp
   unfold aNx
   by_cases h1 : p.swaEvery < 1
   ·have q1 : decide (p.swaEvery < 1) = true := decide_eq_true h1
    refine go1 (jn @l1 @q1) ?_
    refine rcT rfl ?_
    refine go0 ?_
    rw [if_pos (.inl h1)]
    exact aE rfl rfl (aC hA)
   ·have q1 : decide (p.swaEvery < 1) = false := decide_eq_false h1
    by_cases h2 : p.swaFrom < 0
    ·have q2 : decide (p.swaFrom < 0) = true := decide_eq_true h2
     refine go1 (jn @l1 (jn @q1 (jn @l2 @q2))) ?_
     refine rcT rfl ?_
     refine go0 ?_
     rw [if_pos (.inr (.inl h2))]
     exact aE rfl rfl (aC hA)
    ·have q2 : decide (p.swaFrom < 0) = false := decide_eq_false h2
     by_cases h3 : n ≤ p.swaFrom
     ·have q3 : decide (n ≤ p.swaFrom) = true := decide_eq_true h3
      refine go1 (jn @l1 (jn @q1 (jn @l2 (jn @q2 @q3)))) ?_
      refine rcT rfl ?_
      refine go0 ?_
      rw [if_pos (.inr (.inr h3))]
      exact aE rfl rfl (aC hA)
     ·have q3 : decide (n ≤ p.swaFrom) = false := decide_eq_false h3
      refine go1 (jn @l1 (jn @q1 (jn @l2 (jn @q2 @q3)))) ?_
      refine rcF rfl ?_
      have hz : (p.swaEvery = 0) = False := eq_false (by omega)
      refine go1 (jn @l1 (jn @l2 @hz)) ?_
      rw [if_neg (by omega)]
      exact aE rfl rfl (aC hA)
  ·cases h
 ·cases h
def aEb (p : Pn) (s : Ss) : Bool := decide (p.swaEvery > 0) && decide (IntKind.i64.wrap (s.step - 1) > p.swaFrom) && ((IntKind.i64.wrap (IntKind.i64.wrap (s.step - 1) - p.swaFrom)).tmod p.swaEvery == 0)
def zU : List AV → Mem → Option (AV × Mem)
 | [.agg ps, .agg ss], m =>
  match iH ps, sC ss with
  | some p, some s => some (.v (.bool (aEb p s)), m)
  | _, _ => none
 | _, _ => none
theorem bBn (p : Pn) (s : Ss) (m : Mem) : zU [.agg p.row, .agg s.row] m = some (.v (.bool (aEb p s)), m) := by
 simp only [zU, unPn_row, dZ]
def aYj : Nat → Option (List Nat) := fun
 | 0 => some [2, 3]
 | 1 => some [2, 5]
 | 2 => some [4]
 | _ => none
attribute [go_sem] aYj
theorem bCy : aO Tryz.prog 83 zU := by
 have hC := aI (P := Tryz.prog) (l := []) aF
 refine aP mixed hC Tryz.func83 rfl aYj false rfl fun args m r h => ?_
 unfold zU at h
 split at h
 ·rename_i ps ss
  split at h
  ·rename_i p s hp0 hs0
   obtain rfl := bZ hp0
   obtain rfl := dT hs0
   simp only [Option.some.injEq] at h
   subst h
   refine ⟨nbT, ?_⟩
   refine en ?_
   have vp : ((m.push p.row).push s.row).var m.vars.length = some p.row := aQ aJ
   have vs : ((m.push p.row).push s.row).var (m.push p.row).vars.length = some s.row := aJ
   have n1 := dY (m := m) (x := p)
   have n2 := iW (m := m.push p.row) (x := s)
   have hA := aG (cs := s.row) (aG (cs := p.row) (aM m))
   refine go1 (jn @n1 @n2) ?_
   generalize (m.push p.row).push s.row = m2 at vp vs hA
   generalize (m.push p.row).vars.length = rs at vs
   generalize m.vars.length = rp at vp
   have k1 : (!true) = false := rfl
   have k2 : (!false) = true := rfl
   have l1 := pQ vp
   have l2 := aAj vp
   have l3 := vA vs
   unfold aEb
   cases h1 : decide (p.swaEvery > 0) with
   | false =>
    refine go1 (jn @l3 (jn @l1 @h1)) ?_
    exact aE rfl rfl (aC hA)
   | true =>
    have hz : (p.swaEvery = 0) = False := eq_false (by have := of_decide_eq_true h1; omega)
    cases h2 : decide (IntKind.i64.wrap (s.step - 1) > p.swaFrom) with
    | false =>
     refine go1 (jn @l3 (jn @l1 (jn @h1 (jn @l2 @h2)))) ?_
     exact aE rfl rfl (aC hA)
    | true =>
     refine go1 (jn @l3 (jn @l1 (jn @h1 (jn @l2 (jn @h2 @hz))))) ?_
     exact aE rfl rfl (aC hA)
  ·cases h
 ·cases h
def aHr (w : Wt) (n : Int) : Bool := if w.has = true then inB w.bad 0 (mn (IntKind.i64.wrap (n - 1)) 1099511627776) else aPq w
def aBt : List AV → Mem → Option (AV × Mem)
 | [.agg ws, .v (.int .i64 n)], m =>
  match bIm ws with
  | some w => some (.v (.bool (aHr w n)), m)
  | _ => none
 | _, _ => none
theorem aPy (w : Wt) (n : Int) (m : Mem) : aBt [.agg w.row, .v (.int .i64 n)] m = some (.v (.bool (aHr w n)), m) := by
 simp only [aBt, aN8]
def bEx : Nat → Option (List Nat) := fun
 | 0 => some [1, 2]
 | 1 => some [1, 2, 7]
 | 2 => some [4]
 | 3 => some [4]
 | _ => none
attribute [go_sem] bEx
def aCo : List (FuncId × (List AV → Mem → Option (AV × Mem))) := [(82, oZ)]
theorem aR8 : aO Tryz.prog 84 aBt := by
 have hC := aI (P := Tryz.prog) (l := aCo) (aA aDk aF)
 have t1 := taT aCo 82 rfl
 refine aP mixed hC Tryz.func84 rfl bEx false rfl fun args m r h => ?_
 unfold aBt at h
 split at h
 ·rename_i ws n
  split at h
  ·rename_i w hw0
   obtain rfl := aHh hw0
   simp only [Option.some.injEq] at h
   subst h
   refine ⟨nbT, ?_⟩
   refine en ?_
   have vw : (m.push w.row).var m.vars.length = some w.row := aJ
   have n1 := aQn (m := m) (x := w)
   have hA := aG (cs := w.row) (aM m)
   refine go1 @n1 ?_
   generalize m.push w.row = m2 at vw hA
   generalize m.vars.length = rw at vw
   have k1 : (!true) = false := rfl
   have k2 : (!false) = true := rfl
   have l1 := bFm vw
   have l2 := bVw vw
   have l3 := aTx vw
   have c1 := eB w.bad 0 (mn (IntKind.i64.wrap (n - 1)) 1099511627776)
   have e1 : lS Tryz.prog 8 38 (.agg w.row) (.agg mD) = some (aPq w) := bXl (x := w) (y := wt0)
   unfold aHr
   cases hh : w.has with
   | false =>
    rw [hh] at l1
    refine go1 (jn @l1 @k2) ?_
    refine rcT rfl ?_
    refine go1 (jn @l2 @e1) ?_
    rw [if_neg (by decide)]
    exact aE rfl rfl (aC hA)
   | true =>
    rw [hh] at l1
    refine go1 (jn @l1 @k1) ?_
    refine rcF rfl ?_
    refine go1 (jn @l3 (jn @t1 @c1)) ?_
    rw [if_pos rfl]
    exact aE rfl rfl (aC hA)
  ·cases h
 ·cases h
def aN7 (p : Pn) (b : Bool) : Int := if b = true then p.weights else 0
def aLb : List AV → Mem → Option (AV × Mem)
 | [.agg ps, .v (.bool b)], m =>
  match iH ps with
  | some p => some (.v (.int .i64 (aN7 p b)), m)
  | _ => none
 | _, _ => none
theorem aGj (p : Pn) (b : Bool) (m : Mem) : aLb [.agg p.row, .v (.bool b)] m = some (.v (.int .i64 (aN7 p b)), m) := by
 simp only [aLb, unPn_row]
def bOg : Nat → Option (List Nat) := fun
 | 0 => some [1, 2]
 | 1 => some [2, 5]
 | 2 => some [4]
 | 3 => some [4]
 | _ => none
attribute [go_sem] bOg
theorem bQl : aO Tryz.prog 92 aLb := by
 have hC := aI (P := Tryz.prog) (l := []) aF
 refine aP mixed hC Tryz.func92 rfl bOg false rfl fun args m r h => ?_
 unfold aLb at h
 split at h
 ·rename_i ps b
  split at h
  ·rename_i p hp0
   obtain rfl := bZ hp0
   simp only [Option.some.injEq] at h
   subst h
   refine ⟨nbT, ?_⟩
   refine en ?_
   have vp : (m.push p.row).var m.vars.length = some p.row := aJ
   have n1 := dY (m := m) (x := p)
   have hA := aG (cs := p.row) (aM m)
   refine go1 @n1 ?_
   generalize m.push p.row = m2 at vp hA
   generalize m.vars.length = rp at vp
   have k1 : (!true) = false := rfl
   have k2 : (!false) = true := rfl
   have l1 := aAr vp
   unfold aN7
   refine go0 ?_
   cases b with
   | false =>
    refine rcF rfl ?_
    refine go0 ?_
    rw [if_neg (by decide)]
    exact aE rfl rfl (aC hA)
   | true =>
    refine rcT rfl ?_
    refine go1 @l1 ?_
    rw [if_pos rfl]
    exact aE rfl rfl (aC hA)
  ·cases h
 ·cases h
def tH (p : Pn) (s : Ss) : Int := if p.eval = 0 then 0 else IntKind.i64.wrap ((jZ s).tdiv p.eval)
def wF : List AV → Mem → Option (AV × Mem)
 | [.agg ps, .agg ss], m =>
  match iH ps, sC ss with
  | some p, some s => some (.v (.int .i64 (tH p s)), m)
  | _, _ => none
 | _, _ => none
theorem aIj (p : Pn) (s : Ss) (m : Mem) : wF [.agg p.row, .agg s.row] m = some (.v (.int .i64 (tH p s)), m) := by
 simp only [wF, unPn_row, dZ]
def aEq : Nat → Option (List Nat) := fun
 | 0 => some [2, 3]
 | 1 => some [2, 3, 7]
 | 2 => some [4]
 | 3 => some [4]
 | _ => none
attribute [go_sem] aEq
def aNn : List (FuncId × (List AV → Mem → Option (AV × Mem))) := [(90, wY)]
theorem aIe : aO Tryz.prog 85 wF := by
 have hC := aI (P := Tryz.prog) (l := aNn) (aA aH4 aF)
 have t1 := taT aNn 90 rfl
 refine dJ Tryz.func85 rfl false rfl fun args m r h => ?_
 unfold wF at h
 split at h
 ·rename_i ps ss
  split at h
  ·rename_i p s hp0 hs0
   obtain rfl := bZ hp0
   obtain rfl := dT hs0
   simp only [Option.some.injEq] at h
   subst h
   refine ⟨nbT, fun φ wd => ?_⟩
   refine en ?_
   have vp : ((m.push p.row).push s.row).var m.vars.length = some p.row := aQ aJ
   have vs : ((m.push p.row).push s.row).var (m.push p.row).vars.length = some s.row := aJ
   have n1 := dY (m := m) (x := p)
   have n2 := iW (m := m.push p.row) (x := s)
   have hA := aG (cs := s.row) (aG (cs := p.row) (aM m))
   refine xq ?_
   refine aB (kp := aEq) mixed hC ?_
   refine go1 (jn @n1 @n2) ?_
   refine xq ?_
   generalize (m.push p.row).push s.row = m2 at vp vs hA
   generalize (m.push p.row).vars.length = rs at vs
   generalize m.vars.length = rp at vp
   have k1 : (!true) = false := rfl
   have k2 : (!false) = true := rfl
   have l1 := vT vp
   have l2 := yH vs
   have c1 := aH8 s
   unfold tH
   refine aB (kp := aEq) mixed hC ?_
   refine go1 @l1 ?_
   refine xq ?_
   by_cases hz : p.eval = 0
   ·rw [if_pos hz]
    refine cK rfl (fun hc => ?_) (fun hc => absurd hc (by rw [hz]; decide))
    refine xq ?_
    refine aB (kp := aEq) mixed hC ?_
    refine go0 ?_
    refine xq ?_
    exact aX (aE rfl rfl (aC hA))
   ·rw [if_neg hz]
    refine cK rfl (fun hc => absurd (eq_of_beq hc) hz) (fun hc => ?_)
    have hz0 : (p.eval = 0) = False := eq_false hz
    refine xq ?_
    refine bN (l2 := aEq 3) mixed hC (by kernel_rfl) ?_
    refine eJ (jn @l2 (jn @t1 (jn @c1 (jn @l1 @hz0)))) ?_
    refine xq ?_
    exact aX (aE rfl rfl (aC hA))
  ·cases h
 ·cases h
end
end Go.Proofs.YtmockbddhhmmeaaGreat.Ev

/- slices.Insert at rows of two cells. -/
import Derived.Test.YtmockbddhhmmeaaGreatMbgkd10
import Derived.Test.YtmockbddhhmmeaaGreatMa8
import Derived.Test.YtmockbddhhmmeaaGreatMbgkd8
import Derived.Test.YtmockbddhhmmeaaGreatMbgkd9
namespace Go.Proofs.YtmockbddhhmmeaaGreat.Ev
open Go Go.Proofs
set_option maxRecDepth 10000
set_option maxHeartbeats 8000000
set_option linter.unusedVariables false
set_option linter.unusedSimpArgs false
noncomputable section
attribute [local irreducible] Next aW cF Ops bQ
attribute [local irreducible] bE dH eZ
attribute [local go_sem] cO bP Option.getD_some cJ aT aV iv
theorem sW {P : Program} {fn : Func} {m m1 m2 : Mem} {e : Env} {t : Tmp} {a r : AV} (h : fn.results = #[.tmp t]) (hg : Ev.get e t = a) (ha : fP m.vars.length m1 a = some r) (hm : bI m m1 = m2) : dL P false fn m e m1 = some (r, m2) := by
 unfold dL
 rw [h]
 simp [dP, hg, kJ, ha, hm]
def bLu (A : List AV) (i : Nat) (R : List AV) : List AV := A.take (i * 2) ++ R ++ A.drop (i * 2)
theorem aNf {cs R cs' : List AV} {n i : Nat} (hl : n * 2 ≤ cs.length) (hi : i ≤ n) (hR : R.length = 2) (h1 : ∀ j, j < i * 2 → cs'[j]? = cs[j]?) (h2 : ∀ j, j < 2 → cs'[i * 2 + j]? = R[j]?) (h3 : ∀ j, i * 2 ≤ j → j < n * 2 → cs'[j + 2]? = cs[j]?) :
  cs'.take ((n + 1) * 2) = bLu (cs.take (n * 2)) i R := by
 apply List.ext_getElem?
 intro j
 unfold bLu
 rw [List.getElem?_take, List.append_assoc, List.getElem?_append, List.getElem?_append]
 have e1 : ((cs.take (n * 2)).take (i * 2)).length = i * 2 := by simp; omega
 rw [e1, hR]
 by_cases c1 : j < i * 2
 ·rw [if_pos (by omega), if_pos c1, h1 j c1, List.getElem?_take, if_pos c1, List.getElem?_take, if_pos (by omega)]
 ·rw [if_neg c1]
  by_cases c2 : j - i * 2 < 2
  ·rw [if_pos (by omega), if_pos c2, ← h2 (j - i * 2) c2, show i * 2 + (j - i * 2) = j by omega]
  ·rw [if_neg c2, List.getElem?_drop, List.getElem?_take, show i * 2 + (j - i * 2 - 2) = j - 2 by omega]
   by_cases c3 : j < (n + 1) * 2
   ·rw [if_pos c3, if_pos (by omega), ← h3 (j - 2) (by omega) (by omega), show j - 2 + 2 = j by omega]
   ·rw [if_neg c3, if_neg (by omega)]
theorem jB {cs R : List AV} {off : Nat} (h : off + R.length ≤ cs.length) (j : Nat) : (cB cs off R)[j]? = if off ≤ j ∧ j < off + R.length then R[j - off]? else cs[j]? := getElem?_splice h j
def aVz (n i : Nat) (cs R : List AV) (r : AV) (F' : Objs) : Prop := ∃ b' c' cs', r = .v (bS b' 0 (n + 1) c') ∧ (b', XOb.arr cs') ∈ F' ∧ n + 1 ≤ c' ∧ c' * 2 ≤ cs'.length ∧ cs'.take ((n + 1) * 2) = bLu (cs.take (n * 2)) i R
theorem aSb {F : Objs} {b v : Nat} {o o' : XOb} (h : (v, o) ∈ F) (hne : v ≠ b) : (v, o) ∈ eS F b o' := List.mem_map.2 ⟨_, h, by simp [hne]⟩
theorem zrK : zeroCells Tryz.prog 54 = some gB := bBs
theorem cDb : lA Tryz.prog 54 = some 16 := by kernel_rfl
theorem cBp : Tryz.prog.underlying 3 = some (.int .i64) := by simp only [Tryz.underlying3]
def iY : Nat → Option (List Nat) := fun
 | 0 => some [0, 1, 2]
 | 1 => some [0, 1, 2]
 | 2 => some [0, 1, 2, 7]
 | 3 => some [0, 1, 2, 7, 16]
 | 4 => some [6]
 | 5 => some [0, 1, 2, 7, 8]
 | 6 => some [0, 1, 2, 7, 8, 22]
 | 7 => some [6]
 | 8 => some [0, 1, 2, 7, 8, 31]
 | 9 => some [0, 1, 2, 7, 9]
 | 10 => some [0, 1, 7, 9]
 | 11 => some [9]
 | 12 => some [6]
 | 13 => some [0, 1, 2, 7, 8]
 | 14 => some [0, 1, 2, 7, 8, 68]
 | 15 => some [0, 1, 2]
 | 16 => some [0]
 | 17 => some [6]
 | 18 => some [0, 1, 7]
 | 19 => some [0]
 | 20 => some [6]
 | _ => none
attribute [go_sem] iY
theorem bX6 {b c vb n i : Nat} {cs R : List AV} (hR : R.length = 2) (hi : i ≤ n) (hn : n ≤ c) (hcl : c * 2 ≤ cs.length) (hbv : b ≠ vb) (hn6 : n ≤ 1000000) :
  aNk Tryz.prog 170 (fun args _ F => args = [.v (bS b 0 n c), .v (.int .i64 (i : Int)), .v (bS vb 0 1 1)] ∧ (b, XOb.arr cs) ∈ F ∧ (vb, XOb.arr R) ∈ F) fun _ m _ r m' F' => m' = m ∧ aVz n i cs R r F' := by
 have hC := aI (P := Tryz.prog) (l := []) aF
 refine bHa Tryz.func170 rfl rfl fun args m F h => ?_
 obtain ⟨rfl, hb, hv⟩ := h
 refine ⟨nbT, fun φ wd => ?_⟩
 refine en ?_
 have hRt : (R.drop 0).take (1 * 2) = R := by rw [List.drop_zero, List.take_of_length_le (by omega)]
 refine xq ?_
 refine aB (kp := iY) mixed hC ?_
 refine go0 ?_
 refine xq ?_
 refine iF (l2 := iY 1) ?_
 refine gL hC ?_
 refine bX (jO (t1 := 0) (t2 := 0) rfl rfl pD nO rfl lM rfl hi hn hn rfl ?_)
 refine gL hC ?_
 refine xq ?_
 refine iF (l2 := iY 2) ?_
 refine gL hC ?_
 refine bX (aH2 rfl rfl rfl rfl rfl pD rfl rfl ?_)
 refine gL hC ?_
 refine xq ?_
 have z1 : (((1 : Nat) : Int) == 0) = false := rfl
 refine aB (kp := iY) mixed hC ?_
 refine go1 @z1 ?_
 refine xq ?_
 refine xcF rfl ?_
 refine xq ?_
 refine iF (l2 := iY 5) ?_
 refine gL hC ?_
 refine bX (aH2 rfl rfl rfl rfl rfl pD rfl rfl ?_)
 refine gL hC ?_
 refine xq ?_
 refine aB (kp := iY) mixed hC ?_
 refine go0 ?_
 refine xq ?_
 refine cK rfl (fun hc => ?_) (fun hc => ?_)
 ·have hin : i = n := by have := eq_of_beq hc; omega
  subst hin
  refine xq ?_
  refine iF (l2 := iY 7) ?_
  refine gL hC ?_
  refine bX (aPg rfl rfl (by decide) rfl rfl rfl rfl aYe hb rfl (by omega) hn hv rfl (by omega) (by unfold lim; omega) (fun hr => ?_) fun hr b' c' vs g1 g2 g3 => ?_)
  ·rw [hRt]
   refine gL hC ?_
   refine xq ?_
   refine ⟨_, _, sW rfl rfl rfl (bU _), rfl, b, c, _, rfl, pT hb, hr, by rw [dR (by omega)]; exact hcl, aNf (by omega) (Nat.le_refl _) hR (fun j hj => ?_) (fun j hj => ?_) fun j h1 h2 => by omega⟩
   ·rw [jB (by omega), if_neg (by omega)]
   ·rw [jB (by omega), if_pos (by omega)]
    congr 1
    omega
  ·rw [hRt]
   refine gL hC ?_
   refine xq ?_
   refine ⟨_, _, sW rfl rfl rfl (bU _), rfl, b', c', _, rfl, List.mem_cons_self, g1, by simp; omega, aNf (by omega) (Nat.le_refl _) hR (fun j hj => ?_) (fun j hj => ?_) fun j h1 h2 => by omega⟩
   ·rw [List.append_assoc, List.getElem?_append, if_pos (by simp; omega), List.drop_zero, List.getElem?_take, if_pos (by omega)]
   ·have e1 : ((cs.drop 0).take (i * 2)).length = i * 2 := by simp; omega
    rw [List.append_assoc, List.getElem?_append, e1, if_neg (by omega), List.getElem?_append, if_pos (by omega)]
    congr 1
    omega
 ·have hin : i < n := by
   have : (i : Int) ≠ (n : Int) := by simpa using hc
   omega
  have w1 : IntKind.i64.wrap ((n : Int) + ((1 : Nat) : Int)) = ((n + 1 : Nat) : Int) := by rw [bB (by omega) (by omega)]; omega
  have w2 : IntKind.i64.wrap (((n + 1 : Nat) : Int) - (i : Int)) = ((n + 1 - i : Nat) : Int) := by rw [bB (by omega) (by omega)]; omega
  have w3 : IntKind.i64.wrap ((i : Int) + ((1 : Nat) : Int)) = ((i + 1 : Nat) : Int) := by rw [bB (by omega) (by omega)]; omega
  refine xq ?_
  refine iF (l2 := iY 8) ?_
  refine aFu hC @w1 ?_
  refine bX (bI9 rfl rfl rfl rfl rfl pD rfl rfl ?_)
  refine gL hC ?_
  refine xq ?_
  refine cK rfl (fun hc => ?_) (fun hc => ?_)
  ·have hg : c < n + 1 := by have := of_decide_eq_true hc; omega
   refine xq ?_
   refine iF (l2 := iY 9) ?_
   refine gL hC ?_
   refine bX (jO (t1 := 0) (t2 := 0) (l := 0) (h := i) rfl rfl pD nO rfl rfl lM (by omega) (by omega) hn rfl ?_)
   refine aFu hC (jn @w1 @w2) ?_
   have heq : bS b (if c = 0 then 0 else 0 + 0 * 2) (i - 0) (c - 0) = bS b 0 i c := by
    rw [show (if c = 0 then 0 else 0 + 0 * 2) = 0 by split <;> rfl, Nat.sub_zero, Nat.sub_zero]
   refine bX (aPk rfl rfl (by decide) rfl rfl rfl rfl pD cBp nO cDb (by decide) bBs rfl (by decide) rfl hb (congrArg AV.v heq) (by omega) rfl (by omega) (by omega) (by unfold lim; omega) fun b' c' vs g1 g2 g3 => ?_)
   have hbb : b ≠ b' := g2 _ hb
   have hvb : vb ≠ b' := g2 _ hv
   refine gL hC ?_
   refine xq ?_
   have hni : i + (n + 1 - i) = n + 1 := by omega
   rw [hni] at g1 ⊢
   have hL0 : ((cs.drop 0).take (i * 2) ++ vs.map AV.v).length = c' * 2 := by
    rw [List.length_append, List.length_take, List.length_drop, List.length_map, g3]
    omega
   have hL0a : ∀ j, j < i * 2 → ((cs.drop 0).take (i * 2) ++ vs.map AV.v)[j]? = cs[j]? := fun j hj => by
    rw [List.getElem?_append, if_pos (by simp; omega), List.drop_zero, List.getElem?_take, if_pos hj]
   generalize (cs.drop 0).take (i * 2) ++ vs.map AV.v = L0 at hL0 hL0a ⊢
   have hm0 : (b', XOb.arr L0) ∈ (b', XOb.arr L0) :: F := List.mem_cons_self
   refine iF (l2 := iY 10) ?_
   refine gL hC ?_
   refine bX (jO (t1 := 0) (t2 := 0) (l := i) (h := n + 1) rfl rfl pD nO rfl lM rfl (by omega) g1 g1 rfl ?_)
   have heq2 : bS b' (if c' = i then 0 else 0 + i * 2) (n + 1 - i) (c' - i) = bS b' (i * 2) (n + 1 - i) (c' - i) := by
    rw [if_neg (by omega), Nat.zero_add]
   refine gL hC ?_
   refine bX (aNu (k := 2) (q := 1) rfl rfl (by decide) rfl rfl rfl rfl pD nO hm0 (List.mem_cons_of_mem _ hv) (congrArg AV.v heq2) rfl (by show min 1 (n + 1 - i) = 1; omega) (by omega) (by omega) ?_)
   rw [hRt]
   have hm1 := pT (o' := XOb.arr (cB L0 (i * 2) R)) hm0
   have hb1 := aSb (o' := XOb.arr (cB L0 (i * 2) R)) (List.mem_cons_of_mem (b', XOb.arr L0) hb) hbb
   have hL1 : (cB L0 (i * 2) R).length = c' * 2 := by rw [dR (by omega), hL0]
   have hL1a : ∀ j, (cB L0 (i * 2) R)[j]? = if i * 2 ≤ j ∧ j < i * 2 + R.length then R[j - i * 2]? else L0[j]? := jB (by omega)
   generalize cB L0 (i * 2) R = L1 at hm1 hb1 hL1 hL1a ⊢
   generalize eS ((b', XOb.arr L0) :: F) b' (XOb.arr L1) = F1 at hm1 hb1 ⊢
   refine gL hC ?_
   refine xq ?_
   refine aK6 mixed (l2 := iY 11) (by kernel_rfl) (by kernel_rfl) ?_
   refine bGy hC @w3 ?_
   refine pS rfl (oE (t1 := 0) (t2 := 0) (l := i + 1) (n := n + 1) (k := 2) rfl pD nO rfl rfl (by omega) g1) rfl ?_
   refine bXe hC ?_
   refine pS rfl (oE (t1 := 0) (t2 := 0) (l := i) (n := n) (k := 2) rfl pD nO rfl rfl (by omega) hn) rfl ?_
   have heq3 : bS b (if c = i then 0 else 0 + i * 2) (n - i) (c - i) = bS b (i * 2) (n - i) (c - i) := by
    rw [if_neg (by omega), Nat.zero_add]
   by_cases hlastc : c' = i + 1
   ·omega
   have heq4 : bS b' (if c' = i + 1 then 0 else 0 + (i + 1) * 2) (n + 1 - (i + 1)) (c' - (i + 1)) = bS b' ((i + 1) * 2) (n + 1 - (i + 1)) (c' - (i + 1)) := by
    rw [if_neg hlastc, Nat.zero_add]
   refine aS7 (m1 := m) rfl (aI5 (k := 2) (q := n - i) rfl rfl rfl rfl pD nO hm1 hb1 (congrArg AV.v heq4) (congrArg AV.v heq3) (by show min (n - i) (n + 1 - (i + 1)) = n - i; omega) (by omega) (by omega)) rfl ?_
   intro e2 h2
   simp only [go_sem, reduceIte, Nat.reduceEqDiff] at h2
   subst h2
   refine xq ?_
   refine aB (kp := iY) mixed hC ?_
   refine go0 ?_
   refine xq ?_
   have hpl : ((cs.drop (i * 2)).take ((n - i) * 2)).length = (n - i) * 2 := by simp; omega
   refine ⟨_, _, sW rfl rfl rfl (bU _), rfl, b', c', _, rfl, pT hm1, g1, by rw [dR (by omega)]; omega, aNf (by omega) hi hR (fun j hj => ?_) (fun j hj => ?_) fun j h1 h2 => ?_⟩
   ·rw [jB (by omega), if_neg (by omega), hL1a, if_neg (by omega), hL0a j hj]
   ·rw [jB (by omega), if_neg (by omega), hL1a, if_pos (by omega)]
    congr 1
    omega
   ·rw [jB (by omega), if_pos (by omega), List.getElem?_take, if_pos (by omega), List.getElem?_drop]
    congr 1
    omega
  ·have hg : n + 1 ≤ c := by have := of_decide_eq_false hc; omega
   refine xq ?_
   refine iF (l2 := iY 13) ?_
   refine aFu hC @w1 ?_
   refine bX (jO (t1 := 0) (t2 := 0) (l := 0) (h := n + 1) rfl rfl pD nO rfl rfl lM (by omega) hg hn rfl ?_)
   have heq : bS b (if c = 0 then 0 else 0 + 0 * 2) (n + 1 - 0) (c - 0) = bS b 0 (n + 1) c := by
    rw [show (if c = 0 then 0 else 0 + 0 * 2) = 0 by split <;> rfl, Nat.sub_zero, Nat.sub_zero]
   rw [heq]
   refine gL hC ?_
   refine xq ?_
   refine iF (l2 := iY 14) ?_
   refine aFu hC @w3 ?_
   refine bX (jO (t1 := 0) (t2 := 0) (l := i + 1) (h := n + 1) rfl rfl pD nO rfl lM rfl (by omega) hg hg rfl ?_)
   refine gL hC ?_
   refine bX (bO3 (k := 2) (el := 54) (tR := 4) rfl rfl (by decide) rfl rfl rfl Tryz.func177 rfl rfl (by kernel_rfl) (by kernel_rfl) pD nO hv hb (fun e => hbv e.symm) (by omega) rfl rfl ?_)
   have k2 : (!false) = true := rfl
   refine aFu hC @k2 ?_
   refine xq ?_
   refine xcT rfl ?_
   have heq3 : bS b (if c = i then 0 else 0 + i * 2) (n + 1 - i) (c - i) = bS b (i * 2) (n + 1 - i) (c - i) := by
    rw [if_neg (by omega), Nat.zero_add]
   by_cases hlastc : c = i + 1
   ·omega
   have heq4 : bS b (if c = i + 1 then 0 else 0 + (i + 1) * 2) (n + 1 - (i + 1)) (c - (i + 1)) = bS b ((i + 1) * 2) (n + 1 - (i + 1)) (c - (i + 1)) := by
    rw [if_neg hlastc, Nat.zero_add]
   refine xq ?_
   refine aK6 mixed (l2 := iY 15) (by kernel_rfl) (by kernel_rfl) ?_
   refine bGy hC @w3 ?_
   refine pS rfl (oE (t1 := 0) (t2 := 0) (l := i + 1) (n := n + 1) (k := 2) rfl pD nO rfl rfl (by omega) hg) rfl ?_
   refine bXe hC ?_
   refine pS rfl (oE (t1 := 0) (t2 := 0) (l := i) (n := n + 1) (k := 2) rfl pD nO rfl rfl (by omega) hg) rfl ?_
   refine aS7 (m1 := m) rfl (aI5 (k := 2) (q := n - i) rfl rfl rfl rfl pD nO hb hb (congrArg AV.v heq4) (congrArg AV.v heq3) (by show min (n + 1 - i) (n + 1 - (i + 1)) = n - i; omega) (by omega) (by omega)) rfl ?_
   intro e2 h2
   simp only [go_sem, reduceIte, Nat.reduceEqDiff] at h2
   subst h2
   have hpl : ((cs.drop (i * 2)).take ((n - i) * 2)).length = (n - i) * 2 := by simp; omega
   have hm1 := pT (o' := XOb.arr (cB cs ((i + 1) * 2) ((cs.drop (i * 2)).take ((n - i) * 2)))) hb
   have hv1 := aSb (o' := XOb.arr (cB cs ((i + 1) * 2) ((cs.drop (i * 2)).take ((n - i) * 2)))) hv (fun e => hbv e.symm)
   have hL1 : (cB cs ((i + 1) * 2) ((cs.drop (i * 2)).take ((n - i) * 2))).length = cs.length := dR (by omega)
   have hL1a : ∀ j, (cB cs ((i + 1) * 2) ((cs.drop (i * 2)).take ((n - i) * 2)))[j]? = if (i + 1) * 2 ≤ j ∧ j < (i + 1) * 2 + ((cs.drop (i * 2)).take ((n - i) * 2)).length then ((cs.drop (i * 2)).take ((n - i) * 2))[j - (i + 1) * 2]? else cs[j]? := jB (by omega)
   generalize cB cs ((i + 1) * 2) ((cs.drop (i * 2)).take ((n - i) * 2)) = L1 at hm1 hv1 hL1 hL1a ⊢
   generalize eS F b (XOb.arr L1) = F1 at hm1 hv1 ⊢
   refine xq ?_
   refine iF (l2 := iY 16) ?_
   refine gL hC ?_
   refine bX (jO (t1 := 0) (t2 := 0) (l := i) (h := n + 1) rfl rfl pD nO rfl lM rfl (by omega) hg hg rfl ?_)
   refine gL hC ?_
   refine bX (aNu (k := 2) (q := 1) rfl rfl (by decide) rfl rfl rfl rfl pD nO hm1 hv1 (congrArg AV.v heq3) rfl (by show min 1 (n + 1 - i) = 1; omega) (by omega) (by omega) ?_)
   rw [hRt]
   refine gL hC ?_
   refine xq ?_
   refine aB (kp := iY) mixed hC ?_
   refine go0 ?_
   refine xq ?_
   refine ⟨_, _, sW rfl rfl rfl (bU _), rfl, b, c, _, rfl, pT hm1, hg, by rw [dR (by omega)]; omega, aNf (by omega) hi hR (fun j hj => ?_) (fun j hj => ?_) fun j h1 h2 => ?_⟩
   ·rw [jB (by omega), if_neg (by omega), hL1a, if_neg (by omega)]
   ·rw [jB (by omega), if_pos (by omega)]
    congr 1
    omega
   ·rw [jB (by omega), if_neg (by omega), hL1a, if_pos (by omega), List.getElem?_take, if_pos (by omega), List.getElem?_drop]
    congr 1
    omega
end
noncomputable section
attribute [local irreducible] Next aW cF Ops bQ
attribute [local irreducible] bE dH eZ
attribute [local go_sem] cO bP Option.getD_some cJ aT aV iv
theorem bU8 {vb : Nat} {R : List AV} (hR : R.length = 2) :
  aNk Tryz.prog 170 (fun args _ F => args = [.v (.slice none 0 0), .v (.int .i64 ((0 : Nat) : Int)), .v (bS vb 0 1 1)] ∧ (vb, XOb.arr R) ∈ F) fun _ m _ r m' F' => m' = m ∧ aVz 0 0 [] R r F' := by
 have hC := aI (P := Tryz.prog) (l := []) aF
 refine bHa Tryz.func170 rfl rfl fun args m F h => ?_
 obtain ⟨rfl, hv⟩ := h
 refine ⟨nbT, fun φ wd => ?_⟩
 refine en ?_
 have hRt : (R.drop 0).take (1 * 2) = R := by rw [List.drop_zero, List.take_of_length_le (by omega)]
 refine xq ?_
 refine aB (kp := iY) mixed hC ?_
 refine go0 ?_
 refine xq ?_
 refine iF (l2 := iY 1) ?_
 refine gL hC ?_
 refine bX (aYr (t1 := 0) (t2 := 0) rfl rfl (by decide) rfl pD nO rfl rfl ?_)
 refine gL hC ?_
 refine xq ?_
 refine iF (l2 := iY 2) ?_
 refine gL hC ?_
 refine bX (aH2 rfl rfl rfl rfl rfl pD rfl rfl ?_)
 refine gL hC ?_
 refine xq ?_
 have z1 : (((1 : Nat) : Int) == 0) = false := rfl
 have z2 : (((0 : Nat) : Int) == 0) = true := rfl
 refine aB (kp := iY) mixed hC ?_
 refine go1 @z1 ?_
 refine xq ?_
 refine xcF rfl ?_
 refine xq ?_
 refine iF (l2 := iY 5) ?_
 refine gL hC ?_
 refine xq ?_
 refine aB (kp := iY) mixed hC ?_
 refine go1 @z2 ?_
 refine xq ?_
 refine xcT rfl ?_
 refine xq ?_
 refine iF (l2 := iY 7) ?_
 refine gL hC ?_
 refine bX (aPl (n2 := 1) (off2 := 0) rfl rfl (by decide) rfl rfl rfl rfl aYe rfl hv rfl (by omega) (Nat.lt_succ_self 0) (by unfold lim; omega) fun b' c' vs g1 g2 g3 => ?_)
 rw [hRt]
 refine gL hC ?_
 refine xq ?_
 refine ⟨_, _, sW rfl rfl rfl (bU _), rfl, b', c', _, rfl, List.mem_cons_self, g1, by simp; omega, aNf (by simp) (Nat.le_refl _) hR (fun j hj => by omega) (fun j hj => ?_) fun j h1 h2 => by omega⟩
 rw [List.getElem?_append, if_pos (by omega), Nat.zero_mul, Nat.zero_add]
/-! ### slices.Clone -/
def bFz (rows : List (List AV)) (m : Mem) (r : AV) (m' : Mem) (F : Objs) : Prop :=
 m' = m ∧ ((rows = [] ∧ r = .v (.slice none 0 0) ∧ F = []) ∨ ∃ (b c : Nat) (vs : List Value), rows.length ≤ c ∧ vs.length = (c - rows.length) * 2 ∧ r = .v (bS b 0 rows.length c) ∧ (b, XOb.arr (rows.flatten ++ vs.map .v)) ∈ F)
def xY : Nat → Option (List Nat) := fun
 | 0 => some [0]
 | 1 => some [0, 4]
 | _ => some [2]
attribute [go_sem] xY
theorem aLl : wO Tryz.prog 171 (fun args _ => args = [.v (.slice none 0 0)]) fun _ m r m' F => bFz [] m r m' F := by
 have hC := aI (P := Tryz.prog) (l := []) aF
 refine aKr Tryz.func171 rfl rfl fun args m h => ?_
 subst h
 refine ⟨nbT, fun φ w => ?_⟩
 refine en ?_
 refine xq ?_
 refine aB (kp := xY) mixed hC ?_
 refine go0 ?_
 refine xq ?_
 refine aB (kp := xY) mixed hC ?_
 refine go0 ?_
 refine xq ?_
 refine xcT rfl ?_
 refine xq ?_
 refine iF (l2 := xY 2) ?_
 refine bX (bWc rfl rfl (by decide) rfl ?_)
 refine gL hC ?_
 refine xq ?_
 exact ⟨_, _, sW rfl rfl rfl (bU _), rfl, .inl ⟨rfl, rfl, rfl⟩⟩
theorem aXo (rows : List (List AV)) (hl : rows.length ≤ 1000000) : wO Tryz.prog 171 (fun args _ => args = [.lst .here 2 rows]) fun _ m r m' F => bFz rows m r m' F := by
 have hC := aI (P := Tryz.prog) (l := []) aF
 refine aKr Tryz.func171 rfl rfl fun args m h => ?_
 subst h
 refine ⟨nbT, fun φ w => ?_⟩
 refine en ?_
 refine xq ?_
 refine aB (kp := xY) mixed hC ?_
 refine go0 ?_
 refine xq ?_
 refine aB (kp := xY) mixed hC ?_
 refine go0 ?_
 refine xq ?_
 refine xcF rfl ?_
 refine xq ?_
 refine iF (l2 := xY 3) ?_
 refine bX (bKi rfl rfl (by decide) rfl pD nO fun b0 hb0 => ?_)
 refine gL hC ?_
 refine bX (aFq rfl rfl (by decide) rfl rfl rfl rfl aYe List.mem_cons_self rfl (Nat.zero_le _) (Nat.le_refl _) rfl (by unfold lim; omega) (fun h1 => ?_) fun h1 b c vs h2 h3 h4 => ?_)
 ·have hr0 : rows = [] := List.eq_nil_of_length_eq_zero (by omega)
  subst hr0
  refine gL hC ?_
  refine xq ?_
  exact ⟨_, _, sW rfl rfl rfl (bU _), rfl, .inr ⟨b0, 0, [], Nat.le_refl _, rfl, rfl, pT List.mem_cons_self⟩⟩
 ·rw [Nat.zero_add] at h2 h4 ⊢
  refine gL hC ?_
  refine xq ?_
  exact ⟨_, _, sW rfl rfl rfl (bU _), rfl, .inr ⟨b, c, vs, h2, h4, rfl, List.mem_cons_self⟩⟩
def bLj (args : List AV) (_ : Mem) : Prop := ∃ g rows, args = [.lst g 2 rows] ∧ rows.length ≤ 1000000
def bF6 (args : List AV) (m : Mem) (r : AV) (m' : Mem) (F : Objs) : Prop := ∀ g rows, args = [.lst g 2 rows] → bFz rows m r m' F
theorem bH4 : wO Tryz.prog 171 bLj bF6 := by
 rintro args m ⟨g, rows, rfl, hl⟩
 refine ⟨(aLl _ m rfl).1, fun φ w vals hR hA => ?_⟩
 have hs : vals.size = 1 := hA.1
 obtain ⟨v, rfl⟩ : ∃ v, vals = #[v] := ⟨vals[0], by apply Array.ext <;> simp_all⟩
 have hv := hA.2 0 _ v rfl rfl
 have out : ∀ {r : AV} {m' : Mem} {F : Objs}, bFz rows m r m' F → bF6 [.lst g 2 rows] m r m' F := fun h g2 rows2 e => by cases e; exact h
 cases hv with
 | lst _ _ _ a c val hcc hr ha hsp hcell hrep hg =>
  cases a with
  | none =>
   have hc0 := ha rfl
   have hr0 : rows = [] := List.eq_nil_of_length_eq_zero (by omega)
   subst hr0
   subst hc0
   refine ((aLl _ m rfl).2 φ w _ hR ⟨rfl, fun i a u e1 e2 => ?_⟩).mono fun e w' ⟨x, φ', r, m', F, h1, h2, h3, h4, h5, h6⟩ => ⟨x, φ', r, m', F, h1, h2, h3, h4, h5, out h6⟩
   cases i with
   | zero => simp at e1 e2; subst e1; subst e2; exact .v _
   | succ i => simp at e1
  | some ad =>
   refine ((aXo rows hl _ m rfl).2 φ w _ hR ⟨rfl, fun i a u e1 e2 => ?_⟩).mono fun e w' ⟨x, φ', r, m', F, h1, h2, h3, h4, h5, h6⟩ => ⟨x, φ', r, m', F, h1, h2, h3, h4, h5, out h6⟩
   cases i with
   | zero =>
    simp at e1 e2; subst e1; subst e2
    exact .lst .here 2 rows (some ad) c val hcc hr ha hsp hcell hrep (by intro e; cases e)
   | succ i => simp at e1
end
noncomputable section
attribute [local irreducible] Next aW cF Ops bQ
attribute [local irreducible] bE dH eZ
attribute [local go_sem] cO bP Option.getD_some cJ aT aV iv aCc oD pF aUt cV List.cons_append
def uB (f r1 r2 : Nat) (m : Mem) (y : Kt) : Option (AV × Mem) := if f = 169 then bIx [.agg y.row, .ptr r1 0, .ptr r2 0] m else if f = 89 then uR [.agg y.row, .ptr r1 0, .ptr r2 0] m else none
open Classical in
def qA : List AV → Mem → Option (AV × Mem)
 | [.lst _ 2 rows, .fn (.func f) [] [.ptr r1 0, .ptr r2 0]], m =>
  match xZ rows with
  | some l => if h : l.length ≤ 1000000 ∧ ∃ pr : Kt → Bool, ∀ y ∈ l, uB f r1 r2 m y = some (.v (.bool (pr y)), m) then some (iv (aZ h.2.choose l 0), m) else none
  | none => none
 | _, _ => none
theorem aCj {α : Type} {p q : α → Bool} : ∀ {l : List α} (i : Nat), (∀ y ∈ l, p y = q y) → aZ p l i = aZ q l i
 | [], i, h => rfl
 | y :: l, i, h => by
  rw [aZ, aZ, h y List.mem_cons_self, aCj (i + 1) fun z hz => h z (List.mem_cons_of_mem _ hz)]
theorem bGn {l : List Kt} {g : Grow} {m : Mem} {f r1 r2 : Nat} {q : Kt → Bool} (hl : l.length ≤ 1000000) (hp : ∀ y ∈ l, uB f r1 r2 m y = some (.v (.bool (q y)), m)) :
  qA [.lst g 2 (bR l), .fn (.func f) [] [.ptr r1 0, .ptr r2 0]] m = some (.v (.int .i64 (aZ q l 0)), m) := by
 simp only [qA, iP]
 have hh : l.length ≤ 1000000 ∧ ∃ pr : Kt → Bool, ∀ y ∈ l, uB f r1 r2 m y = some (.v (.bool (pr y)), m) := ⟨hl, _, hp⟩
 rw [dif_pos hh]
 have := aCj (p := hh.2.choose) (q := q) (l := l) 0 fun y hm => by
  have e := hh.2.choose_spec y hm
  rw [hp y hm] at e
  simp only [Option.some.injEq, Prod.mk.injEq, AV.v.injEq, Value.bool.injEq, and_true] at e
  exact e.symm
 rw [this]
 rfl
theorem bA5 {l : List Kt} {g : Grow} {x : Kt} {b : Bool} {n : Int} {m : Mem} {r1 r2 : Nat} (hl : l.length ≤ 1000000) (h1 : m.var r1 = some (bM n b)) (h2 : m.var r2 = some x.row) (hx : inI x.val) (hy : ∀ y ∈ l, inI y.val) :
  qA [.lst g 2 (bR l), .fn (.func 169) [] [.ptr r1 0, .ptr r2 0]] m = some (.v (.int .i64 (aZ (nL b x) l 0)), m) :=
 bGn hl fun y hm => by
  unfold uB
  rw [if_pos rfl]
  exact bYh h1 h2 ⟨hx, hy y hm⟩
theorem bC7 {l : List Kt} {g : Grow} {p : Pn} {s : Ss} {m : Mem} {r1 r2 : Nat} (hl : l.length ≤ 1000000) (h1 : m.var r1 = some s.row) (h2 : m.var r2 = some p.row) (hz : p.eval ≠ 0) :
  qA [.lst g 2 (bR l), .fn (.func 89) [] [.ptr r1 0, .ptr r2 0]] m = some (.v (.int .i64 (aZ (mN p s) l 0)), m) :=
 bGn hl fun y hm => by
  unfold uB
  rw [if_neg (by decide), if_pos rfl]
  exact bD8 h1 h2 hz
def aWu : Nat → Option (List Nat) := fun
 | 0 => some [0, 1]
 | 1 => some [0, 1, 7, 8]
 | 2 => some [0, 1, 7, 8, 9]
 | 3 => some [0, 1, 5, 7, 8]
 | 4 => some [0, 1, 5, 7, 8, 16]
 | 5 => some [4]
 | 6 => some [0, 1, 7, 8]
 | 7 => some [4]
 | _ => none
attribute [go_sem] aWu
def oK : List (FuncId × (List AV → Mem → Option (AV × Mem))) := [(169, bIx), (89, uR)]
theorem aSy : aO Tryz.prog 109 qA := by
 have hC := aI (P := Tryz.prog) (l := oK) (aA bUh (aA bA9 aF))
 have t1 := taT oK 169 rfl
 have t2 := taT oK 89 rfl
 refine aP mixed hC Tryz.func109 rfl aWu false rfl fun args m r h => ?_
 unfold qA at h
 split at h
 ·rename_i g rows f r1 r2
  split at h
  ·rename_i l hl0
   obtain rfl := kY hl0
   split at h
   ·rename_i hyp
    have hsp := hyp.2.choose_spec
    have hlen := hyp.1
    generalize hyp.2.choose = pr at h hsp
    simp only [Option.some.injEq] at h
    subst h
    have hcall : ∀ y ∈ l, bQ oK f [.agg y.row, .ptr r1 0, .ptr r2 0] m = some (.v (.bool (pr y)), m) := fun y hm => by
     have := hsp y hm
     unfold uB at this
     split at this
     ·rename_i e
      subst e
      rw [t1]
      exact this
     ·split at this
      ·rename_i e
       subst e
       rw [t2]
       exact this
      ·cases this
    refine ⟨nbT, ?_⟩
    refine en ?_
    refine go0 ?_
    refine cE (fun k e m' => ∃ (i : Nat), i ≤ l.length ∧ aZ pr (l.drop i) i = aZ pr l 0 ∧ m = m' ∧ k = l.length - i ∧
     e = [(0, AV.lst g 2 (bR l)), (1, .fn (.func f) [] [.ptr r1 0, .ptr r2 0]), (7, .v (.int .i64 l.length)), (8, .v (.int .i64 (i : Int)))]) (k := l.length) ⟨0, Nat.zero_le _, rfl, rfl, rfl, rfl⟩ ?_
    rintro k e m' ⟨i, hi, hf, rfl, rfl, rfl⟩
    refine go0 ?_
    refine aH rfl (fun hc => ?_) (fun hc => ?_)
    ·have hi1 : i < l.length := by have := of_decide_eq_true hc; omega
     have f1 := bK6 (g := g) (kk := .i64) hi1
     have f2 := hcall (l.getD i kt0) (jI hi1)
     refine go1 (jn @f1 @f2) ?_
     refine aH rfl (fun hc => ?_) (fun hc => ?_)
     ·rw [aT1 hi1 hc hf]
      refine go0 ?_
      exact aY rfl rfl
     ·have r6 := cP (i := i) (by omega)
      refine go1 @r6 ?_
      exact ⟨l.length - (i + 1), by omega, i + 1, hi1, bFi hi1 hc hf, rfl, rfl, rfl⟩
    ·have hi1 : i = l.length := by have := of_decide_eq_false hc; omega
     subst hi1
     rw [aTq hf]
     refine go0 ?_
     exact aY rfl rfl
   ·cases h
  ·cases h
 ·cases h
end
noncomputable section
attribute [local irreducible] Next aW cF Ops bQ
attribute [local irreducible] bE dH eZ
attribute [local go_sem] cO bP Option.getD_some cJ aT aV iv aCc oD pF aUt cV List.cons_append
def aLc : List AV → Mem → Option (AV × Mem)
 | [.lst _ 2 rows, .fn (.func 89) [] [.ptr r1 0, .ptr r2 0]], m =>
  match xZ rows, (m.var r1).bind sC, (m.var r2).bind iH with
  | some l, some s, some p => if l.length ≤ 1000000 ∧ p.eval ≠ 0 then some (.v (.bool (l.any (mN p s))), m) else none
  | _, _, _ => none
 | _, _ => none
theorem bN6 {l : List Kt} {g : Grow} {p : Pn} {s : Ss} {m : Mem} {r1 r2 : Nat} (hl : l.length ≤ 1000000) (h1 : m.var r1 = some s.row) (h2 : m.var r2 = some p.row) (hz : p.eval ≠ 0) :
  aLc [.lst g 2 (bR l), .fn (.func 89) [] [.ptr r1 0, .ptr r2 0]] m = some (.v (.bool (l.any (mN p s))), m) := by
 simp only [aLc, iP, h1, h2, Option.bind_some, dZ, unPn_row]
 exact if_pos ⟨hl, hz⟩
def bFc : Nat → Option (List Nat) := fun
 | 0 => some [0, 1]
 | 1 => some [4]
 | _ => none
attribute [go_sem] bFc
def aFe : List (FuncId × (List AV → Mem → Option (AV × Mem))) := [(109, qA)]
theorem bPp : aO Tryz.prog 88 aLc := by
 have hC := aI (P := Tryz.prog) (l := aFe) (aA aSy aF)
 have t1 := taT aFe 109 rfl
 refine aP mixed hC Tryz.func88 rfl bFc false rfl fun args m r h => ?_
 unfold aLc at h
 split at h
 ·rename_i g rows r1 r2
  split at h
  ·rename_i l s p hl0 hs0 hp0
   obtain rfl := kY hl0
   obtain ⟨ss, vs0, hs1⟩ := aGe hs0
   obtain ⟨ps, vp0, hp1⟩ := aGe hp0
   obtain rfl := dT hs1
   obtain rfl := bZ hp1
   split at h
   ·rename_i hyp
    simp only [Option.some.injEq] at h
    subst h
    refine ⟨nbT, ?_⟩
    refine en ?_
    have f1 := bC7 (g := .no) hyp.1 vs0 vp0 hyp.2
    have e : decide (aZ (mN p s) l 0 ≥ 0) = l.any (mN p s) := oY (mN p s) l 0
    refine go1 (jn @t1 (jn @f1 @e)) ?_
    exact aY rfl rfl
   ·cases h
  ·cases h
 ·cases h
end
noncomputable section
attribute [local irreducible] Next aW cF Ops bQ
attribute [local irreducible] bE dH eZ eC
attribute [local go_sem] cO bP Option.getD_some cJ aT aV iv aCc oD pF aUt cV bGh aKg aWe aH9 bBs bPx aY3 List.cons_append
theorem bH3 {P : Program} {nt : Nat} {φ₀ : Phi} {m₀ : Mem} {w₀ : World} {ops : Array Oper} {o : Oper} {e : Env} {m : Mem} {F : Objs} {K : Env → Mem → Objs → Prop} {f : FuncId} {Pre : List AV → Mem → Prop} {kB : List AV → Mem → AV → Mem → Objs → Prop}
  (hf : wO P f Pre kB) {c : Call} {x : Operand} {av : AV} {d : Nat} (hg : wantedAV ops e o = some true) (hd : o.dst = some d) (hlt : d < nt) (ho : o.op = .call c) (hc : c.callee = .value (.func f)) (ha : c.args = #[x]) (hx : opd P e 0 x = av) (hpre : Pre [lI av] m)
  (h : ∀ r m' F', kB [lI av] m r m' F' → (∀ p ∈ F', ∀ q ∈ F, p.1 ≠ q.1) → K ((d, r) :: e) m' (F' ++ F)) : dF P φ₀ m₀ w₀ nt ops o e m F K :=
 aWh hf (args := [av]) hg hd hlt ho hc (fun φ w a hE => by
  rw [ha]
  refine ⟨by simp, fun i b u e1 e2 => ?_⟩
  cases i with
  | zero =>
   have hb : av = b := by simpa using e1
   have hu : a.eval x = u := by simpa using e2
   subst hb
   subst hu
   have := fU (P := P) hE 0 x
   rw [hx] at this
   exact this
  | succ i => simp at e1) hpre h
theorem aQu {P : Program} {nt : Nat} {φ₀ : Phi} {w₀ : World} {ops : Array Oper} {o : Oper} {e : Env} {m : Mem} {F : Objs} {K : Env → Mem → Objs → Prop} {f : FuncId} {Pre : List AV → Mem → Objs → Prop} {kB : List AV → Mem → Objs → AV → Mem → Objs → Prop}
  (hf : aNk P f Pre kB) (hR₀ : RM φ₀ m w₀) {c : Call} {x y z : Operand} {av bv cv : AV} {d : Nat} (hg : wantedAV ops e o = some true) (hd : o.dst = some d) (hlt : d < nt) (ho : o.op = .call c) (hc : c.callee = .value (.func f)) (ha : c.args = #[x, y, z]) (hx : opd P e 0 x = av) (hy : opd P e 0 y = bv) (hz : opd P e 0 z = cv) (hpre : Pre [lI av, lI bv, lI cv] m F)
  (h : ∀ r m' F', kB [lI av, lI bv, lI cv] m F r m' F' → K ((d, r) :: sK e) m' F') : dF P φ₀ m w₀ nt ops o e m F K :=
 bL0 hf hR₀ (args := [av, bv, cv]) hg hd hlt ho hc (fun φ w a hE => by
  rw [ha]
  refine ⟨by simp, fun i b u e1 e2 => ?_⟩
  have key : ∀ {q : Operand} {qv : AV}, opd P e 0 q = qv → Rep φ m w qv (a.eval q) := fun {q qv} hq => by
   have := fU (P := P) hE 0 q
   rw [hq] at this
   exact this
  match i with
  | 0 =>
   have hb : av = b := by simpa using e1
   have hu : a.eval x = u := by simpa using e2
   subst hb
   subst hu
   exact key hx
  | 1 =>
   have hb : bv = b := by simpa using e1
   have hu : a.eval y = u := by simpa using e2
   subst hb
   subst hu
   exact key hy
  | 2 =>
   have hb : cv = b := by simpa using e1
   have hu : a.eval z = u := by simpa using e2
   subst hb
   subst hu
   exact key hz
  | i + 3 => simp at e1) hpre h
end
noncomputable section
attribute [local irreducible] Next aW cF Ops bQ
attribute [local irreducible] bE dH eZ eC
attribute [local go_sem] cO bP Option.getD_some cJ aT aV iv aCc oD pF aUt cV bGh aKg aWe aH9 bBs bPx aY3 List.cons_append
theorem aRl : ∀ {rows : List (List AV)}, (∀ r ∈ rows, r.length = 2) → ∀ i j, j < 2 → rows.flatten[i * 2 + j]? = (rows[i]?).bind (·[j]?)
 | [], _, i, j, _ => by simp
 | r :: rs, h, 0, j, hj => by
  have := h r (List.mem_cons_self ..)
  rw [List.flatten_cons, List.getElem?_append_left (by omega)]
  simp
 | r :: rs, h, i + 1, j, hj => by
  have := h r (List.mem_cons_self ..)
  rw [List.flatten_cons, List.getElem?_append_right (by omega), show (i + 1) * 2 + j - r.length = i * 2 + j by omega, aRl (fun q hq => h q (List.mem_cons_of_mem _ hq)) i j hj]
  simp
theorem aNg : ∀ {rows : List (List AV)}, (∀ r ∈ rows, r.length = 2) → ∀ i, rows.flatten.take (i * 2) = (rows.take i).flatten
 | [], _, i => by simp
 | r :: rs, h, 0 => by simp
 | r :: rs, h, i + 1 => by
  have := h r (List.mem_cons_self ..)
  rw [List.flatten_cons, List.take_append, show (i + 1) * 2 - r.length = i * 2 by omega, List.take_of_length_le (by omega), aNg (fun q hq => h q (List.mem_cons_of_mem _ hq)) i]
  simp
theorem aOa : ∀ {rows : List (List AV)}, (∀ r ∈ rows, r.length = 2) → ∀ i, rows.flatten.drop (i * 2) = (rows.drop i).flatten
 | [], _, i => by simp
 | r :: rs, h, 0 => by simp
 | r :: rs, h, i + 1 => by
  have := h r (List.mem_cons_self ..)
  rw [List.flatten_cons, List.drop_append, show (i + 1) * 2 - r.length = i * 2 by omega, List.drop_of_length_le (by omega), aOa (fun q hq => h q (List.mem_cons_of_mem _ hq)) i]
  simp
theorem wN (l : List Kt) : ∀ r ∈ bR l, r.length = 2 := fun r hr => by
 obtain ⟨x, _, rfl⟩ := List.mem_map.1 hr
 rfl
theorem aC9 (l : List Kt) : (bR l).flatten.length = l.length * 2 := by
 induction l with
 | nil => rfl
 | cons x l ih =>
  show (x.row ++ (bR l).flatten).length = _
  rw [List.length_append, ih, List.length_cons]
  show 2 + _ = _
  omega
theorem bMe (l : List Kt) (i : Nat) (x : Kt) : bLu (bR l).flatten i x.row = (bR (l.take i ++ x :: l.drop i)).flatten := by
 unfold bLu
 rw [aNg (wN l), aOa (wN l)]
 simp [bR, List.map_take, List.map_drop]
theorem cBk {F : Objs} {b c : Nat} {cs : List AV} {L : List Kt} (hb : (b, XOb.arr cs) ∈ F) (hc : L.length ≤ c) (h : cs.take (L.length * 2) = (bR L).flatten) : Fz F (.v (bS b 0 L.length c)) (.lst .no 2 (bR L)) := by
 refine .list b 0 2 L.length c cs (bR L) (fun i j => ((bR L).getD i []).getD j .junk) hb (cV L) hc (fun i row hr => ?_) (fun i row j x h1 h2 => ?_) fun i row j x h1 h2 => ?_
 ·obtain ⟨n, _, rfl⟩ := List.mem_map.1 (List.mem_of_getElem? hr)
  exact ⟨rfl, rfl⟩
 ·have hi : i < L.length := by have := (List.getElem?_eq_some_iff.1 h1).1; rwa [cV] at this
  have hj : j < 2 := by have := (List.getElem?_eq_some_iff.1 h2).1; rwa [wN L row (List.mem_of_getElem? h1)] at this
  have e2 := aRl (wN L) i j hj
  rw [← h, List.getElem?_take, if_pos (by omega), h1] at e2
  rw [Nat.zero_add, e2]
  simp [List.getD, h1, h2]
 ·simp only [List.getD, h1, h2, Option.getD_some]
  exact .same _
def oT (b : Bool) (l : List Kt) (x : Kt) : Nat := if aZ (nL b x) l 0 < 0 then l.length else (aZ (nL b x) l 0).toNat
def jE (b : Bool) (l : List Kt) (x : Kt) : List Kt := l.take (oT b l x) ++ x :: l.drop (oT b l x)
def xD (cnt : Int) (b : Bool) (l : List Kt) (x : Kt) : List Kt × Kt × Bool := if ((jE b l x).length : Int) ≤ cnt then (jE b l x, kt0, false) else ((jE b l x).take ((jE b l x).length - 1), (jE b l x).getD ((jE b l x).length - 1) kt0, true)
def aNr (l : List Kt) (x : Kt) : Prop := l.length ≤ 1000000 ∧ inI x.val ∧ ∀ y ∈ l, inI y.val
open Classical in
def aV8 : List AV → Mem → Option (AV × Mem)
 | [.agg [.v (.int .i64 cnt), .fn (.func 125) [] [.eptr [.v (.bool b)]]], .lst _ 2 rows, .agg xs], m =>
  match xZ rows, aNa xs with
  | some l, some x => if aNr l x then some (.tup [.lst .no 2 (bR (xD cnt b l x).1), .agg (xD cnt b l x).2.1.row, .v (.bool (xD cnt b l x).2.2)], m) else none
  | _, _ => none
 | _, _ => none
theorem aD3 {P : Program} {φ₀ : Phi} {m₀ : Mem} {w₀ : World} {nt : Nat} {c : Code} {e : Env} {m : Mem} {F : Objs} {Q : iS} (l2 : Option (List Nat)) (h : bE P φ₀ m₀ w₀ nt c (Ev.restr l2 e) m F Q) : bE P φ₀ m₀ w₀ nt c e m F Q := by
 unfold bE at *
 exact fun a w hs => h a w (hs.restr l2)
theorem bLn {P : Program} {φ₀ : Phi} {m₀ : Mem} {w₀ : World} {nt : Nat} {x : Code} {e : Env} {m : Mem} {F : Objs} {Q : iS} (I : Env → Mem → Objs → Prop) (h : bE P φ₀ m₀ w₀ nt x e m F fun z e m F => match z with | .normal => I e m F | _ => False) (hk : ∀ e m F, I e m F → Q .normal e m F) :
  bE P φ₀ m₀ w₀ nt x e m F Q :=
 bNb h fun z e m F hz => by
  cases z with
  | normal => exact hk e m F hz
  | exit id => exact hz.elim
  | ret => exact hz.elim
theorem aDd {α : Type} {p : α → Bool} : ∀ (l : List α) (i : Nat), aZ p l i < (l.length : Int) + i
 | [], i => by simp [aZ]; omega
 | s :: l, i => by
  rw [aZ]
  have := aDd (p := p) l (i + 1)
  split
  ·simp; omega
  ·simp at this ⊢; omega
theorem aXi (b : Bool) (l : List Kt) (x : Kt) : oT b l x ≤ l.length := by
 unfold oT
 have := aDd (p := nL b x) l 0
 split <;> omega
def PIK (m2 : Mem) (g : Grow) (l : List Kt) (x : Kt) (at_ : Nat) (r3 r5 r7 : Nat) (a b c : Nat) (e : Env) (m' : Mem) (F : Objs) : Prop :=
 m' = m2 ∧ Ev.get e 1 = .lst g 2 (bR l) ∧ Ev.get e 3 = .ptr r3 0 ∧ Ev.get e 5 = .ptr r5 0 ∧ Ev.get e 7 = .ptr r7 0 ∧ Ev.get e 9 = .v (.int .i64 ((at_ : Nat) : Int)) ∧
 (1 ≤ a → Ev.get e 19 = .lst g 2 (bR l)) ∧
 (2 ≤ a → (l = [] ∧ Ev.get e 20 = .v (.slice none 0 0)) ∨ ∃ (bb cc : Nat) (vs : List Value), l.length ≤ cc ∧ vs.length = (cc - l.length) * 2 ∧ Ev.get e 20 = .v (bS bb 0 l.length cc) ∧ (bb, XOb.arr ((bR l).flatten ++ vs.map .v)) ∈ F) ∧
 (1 ≤ b → Ev.get e 21 = .v (.int .i64 ((at_ : Nat) : Int))) ∧ (1 ≤ c → Ev.get e 22 = .agg x.row) ∧ (2 ≤ c → ∃ vb, Ev.get e 23 = .v (bS vb 0 1 1) ∧ (vb, XOb.arr x.row) ∈ F) ∧
 (2 ≤ a → 2 ≤ c → ∀ bb n cc vb, Ev.get e 20 = .v (bS bb 0 n cc) → Ev.get e 23 = .v (bS vb 0 1 1) → bb ≠ vb)
def PJK (m2 : Mem) (l : List Kt) (x : Kt) (at_ : Nat) (r3 r7 : Nat) (e : Env) (m' : Mem) (F : Objs) : Prop :=
 m' = m2 ∧ Ev.get e 3 = .ptr r3 0 ∧ Ev.get e 7 = .ptr r7 0 ∧ ∃ r, Ev.get e 24 = r ∧ aVz l.length at_ (bR l).flatten x.row r F
theorem cDs {m : Mem} {g : Grow} {l : List Kt} {k : Nat} (hk : k ≤ l.length) : sT Tryz.prog m 41 (.lst g 2 (bR l)) none (some (.v (.int .i64 (k : Int)))) none = some (.lst .no 2 (bR (l.take k))) := by
 unfold sT
 simp only [pD, nO, fH, cV]
 show (if 2 = 2 ∧ 0 ≤ k ∧ k ≤ l.length then _ else _) = _
 rw [if_pos ⟨rfl, Nat.zero_le _, hk⟩, List.drop_zero, aWb]
 rfl
theorem cCi {m : Mem} {x : Kt} : aR Tryz.prog (m.push gB) 54 (.ptr m.vars.length 0) (.agg x.row) = some (m.push x.row) := by
 rw [eW (cs := x.row) rfl nO (Nat.le_refl _) rfl]
 rfl
theorem zKt : cellsOf (.agg gB) = some gB := rfl
def tI : Nat → Option (List Nat) := fun
 | 0 => some [1, 3, 5, 7]
 | 1 => some [1, 3, 5, 7, 9]
 | 2 => some [1, 3, 5, 7, 9, 16]
 | 3 => some [1, 3, 5, 7, 9]
 | 4 => some [3, 7, 10]
 | 5 => some [7, 10, 29]
 | 6 => some [6, 7, 8]
 | 7 => some [7, 10, 11]
 | 8 => some [6, 7, 8]
 | _ => none
attribute [go_sem] tI
theorem bUw : aO Tryz.prog 156 aV8 := by
 have hC := aI (P := Tryz.prog) (l := [(109, qA)]) (aA aSy aF)
 have t1 := taT [(109, qA)] 109 rfl
 refine dJ Tryz.func156 rfl false rfl fun args m r h => ?_
 unfold aV8 at h
 split at h
 ·rename_i cnt b g rows xs
  split at h
  ·rename_i l x hl0 hx0
   obtain rfl := kY hl0
   obtain rfl := lO hx0
   split at h
   ·rename_i hd
    obtain ⟨hlen, hxi, hli⟩ := hd
    simp only [Option.some.injEq] at h
    subst h
    refine ⟨nbT, fun φ wd => ?_⟩
    refine en ?_
    have v3 : (((m.push (bM cnt b)).push x.row).push gB).var m.vars.length = some (bM cnt b) := aQ (aQ aJ)
    have v5 : (((m.push (bM cnt b)).push x.row).push gB).var (m.push (bM cnt b)).vars.length = some x.row := aQ aJ
    have v7 : (((m.push (bM cnt b)).push x.row).push gB).var ((m.push (bM cnt b)).push x.row).vars.length = some gB := aJ
    have n1 : newVar m m.vars.length [.v (.int .i64 cnt), .fn (.func 125) [] [.eptr [.v (.bool b)]]] = some (m.push (bM cnt b)) := aWe (m := m) (n := cnt) (b := b)
    have cc : cellsOf (.agg [.v (.int .i64 cnt), .fn (.func 125) [] [.eptr [.v (.bool b)]]]) = some [.v (.int .i64 cnt), .fn (.func 125) [] [.eptr [.v (.bool b)]]] := rfl
    have n2 := pF (m := m.push (bM cnt b)) (x := x)
    have n3 := aY3 (m := (m.push (bM cnt b)).push x.row)
    have hA := aG (cs := gB) (aG (cs := x.row) (aG (cs := bM cnt b) (aM m)))
    refine xq ?_
    refine aB (kp := tI) mixed hC ?_
    refine go1 (jn @n1 (jn @cc (jn @n2 @n3))) ?_
    refine xq ?_
    have hge : m.vars.length ≤ ((m.push (bM cnt b)).push x.row).vars.length := by rw [cH, cH]; omega
    generalize ((m.push (bM cnt b)).push x.row).push gB = m2 at v3 v5 v7 hA
    generalize ((m.push (bM cnt b)).push x.row).vars.length = r7 at v7 hge
    generalize (m.push (bM cnt b)).vars.length = r5 at v5
    generalize m.vars.length = r3 at v3
    have f1 := bA5 (g := .no) hlen v3 v5 hxi hli
    have l5 := aUe v5
    refine aB (kp := tI) mixed hC ?_
    refine go1 (jn @t1 @f1) ?_
    refine xq ?_
    refine aB (kp := tI) mixed hC ?_
    refine go0 ?_
    refine xq ?_
    refine bLn (fun e m' F => m' = m2 ∧ F = [] ∧ Ev.restr (some [1, 3, 5, 7, 9]) e = [(1, AV.lst g 2 (bR l)), (3, .ptr r3 0), (5, .ptr r5 0), (7, .ptr r7 0), (9, .v (.int .i64 ((oT b l x : Nat) : Int)))]) ?_ ?_
    ·by_cases hneg : aZ (nL b x) l 0 < 0
     ·refine cK rfl (fun hc => ?_) (fun hc => absurd hneg (of_decide_eq_false hc))
      refine xq ?_
      refine aB (kp := tI) mixed hC ?_
      refine go0 ?_
      refine xq ?_
      refine ⟨rfl, rfl, ?_⟩
      unfold oT
      rw [if_pos hneg]
      rfl
     ·refine cK rfl (fun hc => absurd (of_decide_eq_true hc) hneg) (fun hc => ?_)
      refine xq ?_
      refine ⟨rfl, rfl, ?_⟩
      have e1 : ((oT b l x : Nat) : Int) = aZ (nL b x) l 0 := by
       unfold oT
       rw [if_neg hneg]
       omega
      rw [e1]
      rfl
    ·rintro e m' F ⟨rfl, rfl, hE⟩
     refine xq ?_
     refine aD3 (some [1, 3, 5, 7, 9]) ?_
     rw [hE]
     refine bN0 fun φ1 w1 hR1 => ?_
     have hnn : (bR l).length = l.length := cV l
     have hat : oT b l x ≤ l.length := aXi b l x
     refine bLn (fun e m'' F => m'' = m' ∧ ∃ r, e = [(3, AV.ptr r3 0), (7, .ptr r7 0), (10, r)] ∧ aVz l.length (oT b l x) (bR l).flatten x.row r F) ?_ ?_
     ·refine bXv (l2 := tI 4) mixed (by decide +kernel) (PIK m' g l x (oT b l x) r3 r5 r7) (PJK m' l x (oT b l x) r3 r7) (fun b' c' e1 m1 F1 h => ?_) (fun b' c' e1 m1 F1 h => ?_) (fun a' c' e1 m1 F1 h => ?_) (fun a' b' e1 m1 F1 h => ?_) (fun a' b' e1 m1 F1 h => ?_) (fun e1 m1 F1 h => ?_) (fun e1 m1 F1 h => ?_) ?_
      ·obtain ⟨rfl, h1, h3, h5, h7, h9, ha1, ha2, hb1, hc1, hc2, hap⟩ := h
       refine aQm hC (m1 := m1) rfl (by simp only [go_sem, reduceIte, Nat.reduceEqDiff, reduceCtorEq, Int.reduceEq, h1]; rfl) rfl ⟨rfl, ?_⟩
       exact ⟨h1, h3, h5, h7, h9, fun _ => rfl, fun q => absurd q (by decide), hb1, hc1, hc2, fun q => absurd q (by decide)⟩
      ·obtain ⟨rfl, h1, h3, h5, h7, h9, ha1, ha2, hb1, hc1, hc2, hap⟩ := h
       refine bH3 (x := .tmp 19) (av := .lst g 2 (bR l)) bH4 rfl rfl (by decide) rfl rfl rfl (ha1 (Nat.le_refl 1)) ⟨_, _, rfl, by rw [hnn]; exact hlen⟩ fun r m2' F' hp hF' => ?_
       obtain ⟨hm2, hq⟩ := hp _ _ rfl
       clear hp
       subst hm2
       refine ⟨rfl, h1, h3, h5, h7, h9, fun _ => ha1 (Nat.le_refl 1), fun _ => ?_, hb1, hc1, fun q => ?_, fun _ q => ?_⟩
       ·rcases hq with ⟨hn, rfl, rfl⟩ | ⟨bb, cc, vs, g1, g2, rfl, g4⟩
        ·exact .inl ⟨List.map_eq_nil_iff.1 hn, rfl⟩
        ·exact .inr ⟨bb, cc, vs, by rw [← hnn]; exact g1, by rw [← hnn]; exact g2, by rw [← hnn]; rfl, List.mem_append_left _ g4⟩
       ·obtain ⟨vb, k1, k2⟩ := hc2 q
        exact ⟨vb, k1, List.mem_append_right _ k2⟩
       ·intro bb n cc vb k1 k2
        obtain ⟨vb', k3, k4⟩ := hc2 q
        rcases hq with ⟨hn, rfl, rfl⟩ | ⟨bb', cc', vs, g1, g2, rfl, g4⟩
        ·cases k1
        ·cases k1
         have e2 : AV.v (bS vb 0 1 1) = AV.v (bS vb' 0 1 1) := k2.symm.trans k3
         cases e2
         exact hF' _ g4 _ k4
      ·obtain ⟨rfl, h1, h3, h5, h7, h9, ha1, ha2, hb1, hc1, hc2, hap⟩ := h
       refine aQm hC (m1 := m1) rfl (by simp only [go_sem, reduceIte, Nat.reduceEqDiff, reduceCtorEq, Int.reduceEq, h9]; rfl) rfl ⟨rfl, ?_⟩
       exact ⟨h1, h3, h5, h7, h9, ha1, ha2, fun _ => rfl, hc1, hc2, hap⟩
      ·obtain ⟨rfl, h1, h3, h5, h7, h9, ha1, ha2, hb1, hc1, hc2, hap⟩ := h
       refine aQm hC (m1 := m1) rfl (by simp only [go_sem, reduceIte, Nat.reduceEqDiff, reduceCtorEq, Int.reduceEq, h5, l5]; rfl) rfl ⟨rfl, ?_⟩
       exact ⟨h1, h3, h5, h7, h9, ha1, ha2, hb1, fun _ => rfl, fun q => absurd q (by decide), fun _ q => absurd q (by decide)⟩
      ·obtain ⟨rfl, h1, h3, h5, h7, h9, ha1, ha2, hb1, hc1, hc2, hap⟩ := h
       refine bIf (av := .agg x.row) (row := x.row) rfl rfl (by decide) rfl pD nO zrK (by decide) (by decide) (hc1 (Nat.le_refl 1)) rfl rfl fun vb hvb => ?_
       refine ⟨rfl, h1, h3, h5, h7, h9, ha1, fun q => ?_, hb1, fun _ => hc1 (Nat.le_refl 1), fun _ => ⟨vb, rfl, List.mem_cons_self⟩, fun q _ => ?_⟩
       ·rcases ha2 q with ⟨k1, k2⟩ | ⟨bb, cc, vs, k1, k2, k3, k4⟩
        ·exact .inl ⟨k1, k2⟩
        ·exact .inr ⟨bb, cc, vs, k1, k2, k3, List.mem_cons_of_mem _ k4⟩
       ·intro bb n cc vb' k1 k2
        cases k2
        rcases ha2 q with ⟨_, k3⟩ | ⟨bb', cc', vs, _, _, k3, k4⟩
        ·have e2 := k1.symm.trans k3
         cases e2
        ·have e2 := k1.symm.trans k3
         cases e2
         exact hvb _ k4
      ·obtain ⟨rfl, h1, h3, h5, h7, h9, ha1, ha2, hb1, hc1, hc2, hap⟩ := h
       obtain ⟨vb, k1, k2⟩ := hc2 (Nat.le_refl 2)
       have fin : ∀ {r : AV} {F' : Objs}, aVz l.length (oT b l x) (bR l).flatten x.row r F' → PJK m1 l x (oT b l x) r3 r7 ((24, r) :: sK e1) m1 F' := fun {r F'} hp => by
        refine ⟨rfl, ?_, ?_, r, rfl, hp⟩
        ·show Ev.get (sK e1) 3 = _
         rw [aNs, h3]
         rfl
        ·show Ev.get (sK e1) 7 = _
         rw [aNs, h7]
         rfl
       rcases ha2 (Nat.le_refl 2) with ⟨q1, q2⟩ | ⟨bb, cc, vs, q1, q2, q3, q4⟩
       ·subst q1
        refine aQu (x := .tmp 20) (y := .tmp 21) (z := .tmp 23) (bU8 (vb := vb) (R := x.row) rfl) hR1 rfl rfl (by decide) rfl rfl rfl q2 (hb1 (Nat.le_refl 1)) k1 ⟨?_, k2⟩ fun r m2' F' hp => ?_
        ·have : oT b [] x = 0 := Nat.le_zero.1 hat
         rw [this]
         rfl
        ·obtain ⟨rfl, hp⟩ := hp
         have : oT b [] x = 0 := Nat.le_zero.1 hat
         refine fin ?_
         rw [this]
         exact hp
       ·refine aQu (x := .tmp 20) (y := .tmp 21) (z := .tmp 23) (bX6 (b := bb) (c := cc) (vb := vb) (n := l.length) (i := oT b l x) (cs := (bR l).flatten ++ vs.map .v) (R := x.row) rfl hat q1 (by rw [List.length_append, aC9, List.length_map, q2]; omega) (hap (Nat.le_refl 2) (Nat.le_refl 2) _ _ _ _ q3 k1) hlen) hR1 rfl rfl (by decide) rfl rfl rfl q3 (hb1 (Nat.le_refl 1)) k1 ⟨rfl, q4, k2⟩ fun r m2' F' hp => ?_
        obtain ⟨rfl, b', c', cs', w1, w2, w3, w4, w5⟩ := hp
        refine fin ⟨b', c', cs', w1, w2, w3, w4, ?_⟩
        rw [w5]
        congr 1
        rw [List.take_append_of_le_length (by rw [aC9]; exact Nat.le_refl _)]
      ·obtain ⟨rfl, h3, h7, r, hr, hp⟩ := h
       refine aQm hC (m1 := m1) rfl (by simp only [go_sem, reduceIte, Nat.reduceEqDiff, reduceCtorEq, Int.reduceEq, hr]; rfl) rfl ?_
       intro e2 he2
       refine ⟨rfl, r, ?_, hp⟩
       rw [← he2]
       show [(3, Ev.get e1 3), (7, Ev.get e1 7), (10, r)] = _
       rw [h3, h7]
      ·exact ⟨rfl, rfl, rfl, rfl, rfl, rfl, fun q => absurd q (by decide), fun q => absurd q (by decide), fun q => absurd q (by decide), fun q => absurd q (by decide), fun q => absurd q (by decide), fun q => absurd q (by decide)⟩
     ·rintro e m'' F ⟨rfl, r, rfl, b', c', cs', rfl, w2, w3, w4, w5⟩
      have hol : (jE b l x).length = l.length + 1 := by unfold jE; simp; omega
      have hfz := cBk (L := jE b l x) (c := c') w2 (by omega) (by
       rw [hol, w5, List.take_of_length_le (by rw [aC9]; exact Nat.le_refl _), bMe]
       rfl)
      rw [hol] at hfz
      refine xq ?_
      refine bMu (FzEnv.cons _ (.same _) (FzEnv.cons _ (.same _) (FzEnv.cons _ hfz .nil))) ?_
      have l3 := bHv v3
      have hln : (((bR (jE b l x)).length : Nat) : Int) = ((jE b l x).length : Int) := by rw [cV]
      unfold xD
      generalize jE b l x = L at hol
      refine aB (kp := tI) mixed hC ?_
      refine go1 @l3 ?_
      refine xq ?_
      refine cK rfl (fun hc => ?_) (fun hc => ?_)
      ·have hle := of_decide_eq_true hc
       rw [if_pos hle]
       have st : aR Tryz.prog m'' 54 (.ptr r7 0) (.agg gB) = some (bO m'' r7 kt0.row) := aS v7 nO rfl rfl (Nat.le_refl _) rfl rfl
       refine xq ?_
       refine aB (kp := tI) mixed hC ?_
       refine go1 (jn @cBj (jn @zKt @st)) ?_
       refine xq ?_
       exact aX (lB rfl rfl (aUe (bA v7)) rfl rfl (aC (bD hA hge)))
      ·have hle := of_decide_eq_false hc
       rw [if_neg hle]
       have w1 : IntKind.i64.wrap ((L.length : Int) - 1) = ((L.length - 1 : Nat) : Int) := by rw [bB (by omega) (by omega)]; omega
       have hi1 : L.length - 1 < L.length := by omega
       have f1 := bK6 (g := .no) (kk := .i64) hi1
       have sl := fun mm => cDs (m := mm) (g := .no) (l := L) (k := L.length - 1) (by omega)
       generalize L.getD (L.length - 1) kt0 = y at f1
       have n11 := pF (m := m'') (x := y)
       have st := cCi (m := m'') (x := y)
       have v11 : (m''.push y.row).var m''.vars.length = some y.row := aJ
       have l11 := aUe v11
       have v7b : (m''.push y.row).var r7 = some gB := aQ v7
       have st7 : aR Tryz.prog (m''.push y.row) 54 (.ptr r7 0) (.agg y.row) = some (bO (m''.push y.row) r7 y.row) := aS v7b nO rfl rfl (Nat.le_refl _) rfl rfl
       refine xq ?_
       refine aB (kp := tI) mixed hC ?_
       refine go1 (jn @w1 (jn @f1 @st)) ?_
       refine xq ?_
       refine bN (l2 := tI 8) mixed hC (by kernel_rfl) ?_
       refine eJ (jn @w1 (jn @sl (jn @l11 @st7))) ?_
       refine xq ?_
       exact aX (lB rfl rfl (aUe (bA v7b)) rfl rfl (aC (bD (aG hA) hge)))
   ·cases h
  ·cases h
 ·cases h
end
noncomputable section
attribute [local irreducible] Next aW cF Ops bQ
attribute [local irreducible] bE dH eZ eC
attribute [local go_sem] cO bP Option.getD_some cJ aT aV iv aN2 aNd aLf rG nU kN bMf aPj bPm aTu bP6 bBk aPt List.cons_append bQe aU4 bX3 bXn bKg aJ8
def Tn.setSwa (T : Tn) (x : Sm) : Tn := { T with s := { T.s with swa := x } }
def Tn.setEma (T : Tn) (l : List Int) : Tn := { T with s := { T.s with ema := l } }
def bBj (T : Tn) : Sm × Int := aUd T.s.swa T.x.weights
def Tn.emaT (T : Tn) : Tn := if T.p.ema.On = true then T.setEma (aLm T.s.ema T.x.weights T.p.ema.Decay).1 else T
def Tn.wts (T : Tn) : Tn × Bool :=
 if wV T = true then (if (bBj T).2 ≠ 0 then (T.tell 5 0, false) else ((((T.tell 4 T.s.swa.count).setSwa (bBj T).1).emaT), true)) else (T.emaT, true)
def bCo (T : Tn) : Prop := (T.s.swa.sums.length ≤ 1000000 ∧ T.x.weights.length ≤ 1000000) ∧ aL6 T.s.ema T.x.weights ∧ T.events.length < mY
def bUb : List AV → Mem → Option (AV × Mem)
 | [.ptr r 0], m => tA r m bCo (fun T => T.wts.1) fun T => .v (.bool T.wts.2)
 | _, _ => none
theorem aJ1 (T : Tn) : T.emaT.events = T.events := by unfold Tn.emaT; split <;> rfl
theorem aC3 (T : Tn) : ∃ l, T.wts.1.events = T.events ++ l ∧ l.length ≤ 1 := by
 unfold Tn.wts
 split
 ·split
  ·exact ⟨[⟨T.step, 5, 0⟩], rfl, Nat.le_refl _⟩
  ·exact ⟨[⟨T.step, 4, T.s.swa.count⟩], aJ1 _, Nat.le_refl _⟩
 ·exact ⟨[], by rw [List.append_nil]; exact aJ1 _, Nat.zero_le _⟩
theorem bZe {m0 m : Mem} {r : Nat} {T0 T : Tn} {g0 g : Grow} (h : TAt m0 r T0 g0 T g m) (hd : bCo T) : bUb [.ptr r 0] m = some (.v (.bool T.wts.2), putT m r T.wts.1 (T.wts.1.events.length - T.events.length) g) :=
 kF (dom := bCo) (f := fun T => T.wts.1) (res := fun T => .v (.bool T.wts.2)) h hd
theorem TAt.wts {m0 m : Mem} {r : Nat} {T0 T : Tn} {g0 g : Grow} (h : TAt m0 r T0 g0 T g m) : TAt m0 r T0 g0 T.wts.1 (fI (T.wts.1.events.length - T.events.length) g m.toks).1 (putT m r T.wts.1 (T.wts.1.events.length - T.events.length) g) := by
 obtain ⟨l, hl, _⟩ := aC3 T
 exact h.put (l := l) hl (by rw [hl, List.length_append]; omega)
theorem cEu {m : Mem} {x : Sm} : aR Tryz.prog (m.push gP) 44 (.ptr m.vars.length 0) (.agg x.row) = some (m.push x.row) := by
 rw [eW (cs := x.row) rfl aJ8 (Nat.le_refl _) rfl]
 rfl
theorem aH6 {P : Program} {φ₀ : Phi} {m₀ : Mem} {w₀ : World} {nt : Nat} {c : Code} {e : Env} {m : Mem} {F : Objs} {Q : iS} {K : Env → Mem → Objs → Prop} (J : Env → Mem → Objs → Prop) (h : bE P φ₀ m₀ w₀ nt c e m F (aNp J Q)) (hk : ∀ e m F, J e m F → K e m F) :
  bE P φ₀ m₀ w₀ nt c e m F (aNp K Q) :=
 bNb h fun z e m F hz => by
  cases z with
  | normal => exact hk e m F hz
  | exit id => exact hz
  | ret => exact hz
def uP : Nat → Option (List Nat) := fun
 | 0 => some [0]
 | 1 => some [0, 6]
 | 2 => some [0, 3, 4]
 | 3 => some [0, 3, 22]
 | 4 => some []
 | 5 => some [2]
 | 6 => some [0, 3]
 | 7 => some [0]
 | 8 => some [0, 43]
 | 9 => some []
 | 10 => some [2]
 | _ => none
attribute [go_sem] uP
def aNi : List (FuncId × (List AV → Mem → Option (AV × Mem))) := [(102, yL), (116, aKk), (117, bLo), (118, bNr)]
theorem bZ3 : aO Tryz.prog 99 bUb := by
 have hC := aI (P := Tryz.prog) (l := aNi) (aA xO (aA bKr (aA bX5 (aA bYm aF))))
 have t1 := taT aNi 102 rfl
 have t2 := taT aNi 116 rfl
 have t3 := taT aNi 117 rfl
 have t4 := taT aNi 118 rfl
 refine dJ Tryz.func99 rfl false rfl fun args m r h => ?_
 unfold bUb at h
 split at h
 ·rename_i r0
  obtain ⟨T, g, hT, ⟨hd1, hd2, hd3⟩, rfl⟩ := gM h
  refine ⟨nbT, fun φ wd => ?_⟩
  refine en ?_
  have c1 := bLm hT.hv
  refine xq ?_
  refine aB (kp := uP) mixed hC ?_
  refine go0 ?_
  refine xq ?_
  refine aB (kp := uP) mixed hC ?_
  refine go1 (jn @t2 @c1) ?_
  refine xq ?_
  refine aH6 (fun e m' F => ∃ (U : Tn) (gu : Grow), TAt m r0 T g U gu m' ∧ aL6 U.s.ema U.x.weights ∧ T.wts = (U.emaT, true) ∧ Ev.get e 0 = AV.ptr r0 0 ∧ F = []) ?_ ?_
  ·cases hs : wV T with
   | false =>
    refine cK rfl (fun hc => by first | (cases hc; done) | (rw [hs] at hc; cases hc)) (fun hc => ?_)
    refine xq ?_
    exact ⟨T, g, hT, hd2, by unfold Tn.wts; rw [if_neg (by rw [hs]; decide)], rfl, rfl⟩
   | true =>
    have hw : T.wts = if (bBj T).2 ≠ 0 then (T.tell 5 0, false) else ((((T.tell 4 T.s.swa.count).setSwa (bBj T).1).emaT), true) := by unfold Tn.wts; rw [if_pos hs]
    have l1 := bQz hT.hv
    have l2 := aFa hT.hv
    have c3 := bZp (s := T.s.swa) (w := T.x.weights) (g := .no) hd1
    rw [show aUd T.s.swa T.x.weights = bBj T from rfl] at c3
    generalize bBj T = S at c3 hw
    have n3 := bKg (m := m)
    have st := cEu (m := m) (x := S.1)
    have v3 : (m.push S.1.row).var m.vars.length = some S.1.row := aJ
    have hT3 := hT.push (cs := S.1.row)
    refine cK rfl (fun hc => ?_) (fun hc => by first | (cases hc; done) | (rw [hs] at hc; cases hc))
    refine xq ?_
    refine bN (l2 := uP 2) mixed hC (by kernel_rfl) ?_
    refine eJ (jn @l1 (jn @l2 (jn @t3 @c3))) ?_
    refine xq ?_
    have hr3 : r0 ≠ m.vars.length := by have := hT.lt; omega
    generalize m.push S.1.row = m3 at v3 hT3
    generalize hr : m.vars.length = r3 at v3 hr3
    refine aB (kp := uP) mixed hC ?_
    refine go0 ?_
    refine xq ?_
    refine cK rfl (fun hc => ?_) (fun hc => ?_)
    ·have hz : S.2 ≠ 0 := by simpa using hc
     rw [if_pos hz] at hw
     have c5 := oJ hT3 hd3 5 0
     have hT5 := hT3.tell 5 0
     refine xq ?_
     refine aB (kp := uP) mixed hC ?_
     refine go1 (jn @t1 @c5) ?_
     refine xq ?_
     refine aB (kp := uP) mixed hC ?_
     refine go0 ?_
     refine xq ?_
     rw [show T.wts.2 = false by rw [hw]]
     exact aX (wH (f := fun T => T.wts.1) rfl rfl (by rw [show T.wts.1 = T.tell 5 0 by rw [hw]]; exact hT5))
    ·have hz : S.2 = 0 := by simpa using hc
     rw [if_neg (by omega)] at hw
     have c5 := oJ hT3 hd3 4 T.s.swa.count
     have hT5 := hT3.tell 4 T.s.swa.count
     have l3 := aPb hT3.hv
     refine xq ?_
     refine aB (kp := uP) mixed hC ?_
     refine go1 (jn @l3 (jn @t1 @c5)) ?_
     refine xq ?_
     have v3' : (putT m3 r0 (T.tell 4 T.s.swa.count) 1 g).var r3 = some S.1.row := by rw [qR (fun h => hr3 h.symm)]; exact v3
     generalize putT m3 r0 (T.tell 4 T.s.swa.count) 1 g = m5 at hT5 v3'
     generalize (fI 1 g m3.toks).1 = g5 at hT5
     have l4 := cB1 v3'
     have st5 : aR Tryz.prog m5 44 (.ptr r0 46) (.agg S.1.row) = some (bO m5 r0 (((T.tell 4 T.s.swa.count).setSwa S.1).rowG g5)) := aS hT5.hv aJ8 rfl rfl nbT rfl rfl
     have hT6 := hT5.set (T2 := (T.tell 4 T.s.swa.count).setSwa S.1) rfl
     refine aB (kp := uP) mixed hC ?_
     refine go1 (jn @l4 @st5) ?_
     refine xq ?_
     exact ⟨_, _, hT6, hd2, hw, rfl, rfl⟩
  ·rintro e m' F ⟨U, gu, hU, hdom, hw, he, rfl⟩
   refine aD3 (some [0]) ?_
   rw [show Ev.restr (some [0]) e = [(0, AV.ptr r0 0)] by simp only [Ev.restr, List.map_cons, List.map_nil, he]]
   have l1 := bB0 hU.hv
   have hw1 : T.wts.1 = U.emaT := by rw [hw]
   rw [show T.wts.2 = true by rw [hw]]
   refine xq ?_
   refine aB (kp := uP) mixed hC ?_
   refine go1 @l1 ?_
   refine xq ?_
   cases ho : U.p.ema.On with
   | false =>
    rw [show U.emaT = U by unfold Tn.emaT; rw [if_neg (by rw [ho]; decide)]] at hw1
    refine cK rfl (fun hc => by first | (cases hc; done) | (rw [ho] at hc; cases hc)) (fun hc => ?_)
    refine xq ?_
    refine aB (kp := uP) mixed hC ?_
    refine go0 ?_
    refine xq ?_
    exact aX (wH (f := fun T => T.wts.1) rfl rfl (by rw [hw1]; exact hU))
   | true =>
    rw [show U.emaT = U.setEma (aLm U.s.ema U.x.weights U.p.ema.Decay).1 by unfold Tn.emaT; rw [if_pos ho]] at hw1
    have l2 := bLz hU.hv
    have l3 := aFa hU.hv
    have l4 := aPe hU.hv
    have c4 := bX8 (g := .no) (g2 := .no) (d := U.p.ema.Decay) hdom
    generalize aLm U.s.ema U.x.weights U.p.ema.Decay = E at c4 hw1
    have st : aR Tryz.prog m' 42 (.ptr r0 45) (.lst .no 1 (cG E.1)) = some (bO m' r0 ((U.setEma E.1).rowG gu)) := aS hU.hv bMc rfl rfl nbT rfl rfl
    have hU2 := hU.set (T2 := U.setEma E.1) rfl
    refine cK rfl (fun hc => ?_) (fun hc => by first | (cases hc; done) | (rw [ho] at hc; cases hc))
    refine xq ?_
    refine bN (l2 := uP 9) mixed hC (by kernel_rfl) ?_
    refine eJ (jn @l2 (jn @l3 (jn @l4 (jn @t4 (jn @c4 @st))))) ?_
    refine xq ?_
    refine aB (kp := uP) mixed hC ?_
    refine go0 ?_
    refine xq ?_
    exact aX (wH (f := fun T => T.wts.1) rfl rfl (by rw [hw1]; exact hU2))
 ·cases h
end
end Go.Proofs.YtmockbddhhmmeaaGreat.Ev

/- Digits to the base 2^16 (no program here). -/
import Derived.Test.YtmockbddhhmmeaaGreatMbgkd15
namespace Go.Proofs.YtmockbddhhmmeaaGreat.Ev
open Go Go.Proofs
set_option maxRecDepth 10000
set_option maxHeartbeats 8000000
set_option linter.unusedVariables false
set_option linter.unusedSimpArgs false
section
attribute [local irreducible] Next aW cF Ops bQ
def eV (k n : Nat) : List Nat := (List.range k).map fun i => n / 65536 ^ i % 65536
def aU : List Nat → Nat
 | [] => 0
 | d :: l => d + 65536 * aU l
def okD (l : List Nat) : Prop := ∀ d ∈ l, d < 65536
theorem gK (k n : Nat) : (eV k n).length = k := by unfold eV; simp
theorem mJ (k n : Nat) : okD (eV k n) := by
 intro d hd
 unfold eV at hd
 obtain ⟨i, _, rfl⟩ := List.mem_map.1 hd
 exact Nat.mod_lt _ (by decide)
theorem aRa (k n : Nat) : eV (k + 1) n = eV k n ++ [n / 65536 ^ k % 65536] := by
 unfold eV; rw [List.range_succ, List.map_append]; rfl
theorem aRx (k n : Nat) : eV (k + 1) n = n % 65536 :: eV k (n / 65536) := by
 unfold eV
 rw [List.range_succ_eq_map, List.map_cons, List.map_map]
 congr 1
 ·simp
 ·apply List.map_congr_left
  intro i _
  simp only [Function.comp]
  rw [Nat.div_div_eq_div_mul, Nat.pow_succ, Nat.mul_comm]
theorem nH : ∀ k n : Nat, aU (eV k n) = n % 65536 ^ k
 | 0, n => by simp [eV, aU, Nat.mod_one]
 | k + 1, n => by
  rw [aRx, aU, nH k, Nat.pow_succ, Nat.mul_comm (65536 ^ k), Nat.mod_mul]
theorem jJ : ∀ {l : List Nat}, okD l → aU l < 65536 ^ l.length
 | [], _ => by simp [aU]
 | d :: l, h => by
  have h1 := jJ (l := l) fun c hc => h c (List.mem_cons_of_mem _ hc)
  have h2 := h d List.mem_cons_self
  rw [aU, List.length_cons, Nat.pow_succ]
  omega
theorem aQ3 : ∀ {l : List Nat}, okD l → eV l.length (aU l) = l
 | [], _ => rfl
 | d :: l, h => by
  have h1 := aQ3 (l := l) fun c hc => h c (List.mem_cons_of_mem _ hc)
  have h2 := h d List.mem_cons_self
  rw [List.length_cons, aRx, aU, show (d + 65536 * aU l) / 65536 = aU l by omega, show (d + 65536 * aU l) % 65536 = d by omega, h1]
theorem bH8 {k n i : Nat} (h : n < 65536 ^ k) : (eV k n).getD i 0 = n / 65536 ^ i % 65536 := by
 unfold eV
 by_cases hi : i < k
 ·simp [List.getD, hi]
 ·have : n / 65536 ^ i = 0 := Nat.div_eq_of_lt (Nat.lt_of_lt_of_le h (Nat.pow_le_pow_right (by decide) (by omega)))
  simp [List.getD, hi, this]
theorem nC {l : List Nat} (h : okD l) (i : Nat) : l.getD i 0 = aU l / 65536 ^ i % 65536 := by
 have := bH8 (k := l.length) (n := aU l) (i := i) (jJ h)
 rwa [aQ3 h] at this
theorem dV (n i : Nat) : n / 65536 ^ (i + 1) = n / 65536 ^ i / 65536 := by rw [Nat.pow_succ, Nat.div_div_eq_div_mul]
theorem bTg {l : List Nat} (h : okD l) (i : Nat) : l.getD i 0 < 65536 := by rw [nC h]; exact Nat.mod_lt _ (by decide)
/-! ### sums -/
def tB (la lb va vb : Nat) : Nat := if va + vb < 65536 ^ max la lb then max la lb else max la lb + 1
def dG (a b : List Nat) : List Nat := eV (tB a.length b.length (aU a) (aU b)) (aU a + aU b)
theorem aS5 {la lb va vb : Nat} (ha : va < 65536 ^ la) (hb : vb < 65536 ^ lb) : va + vb < 65536 ^ tB la lb va vb := by
 unfold tB
 split
 ·assumption
 ·have h1 : 65536 ^ la ≤ 65536 ^ max la lb := Nat.pow_le_pow_right (by decide) (by omega)
  have h2 : 65536 ^ lb ≤ 65536 ^ max la lb := Nat.pow_le_pow_right (by decide) (by omega)
  rw [Nat.pow_succ]
  omega
theorem lC {a b : List Nat} (ha : okD a) (hb : okD b) : aU (dG a b) = aU a + aU b := by
 unfold dG
 rw [nH, Nat.mod_eq_of_lt (aS5 (jJ ha) (jJ hb))]
theorem gX (a b : List Nat) : okD (dG a b) := mJ _ _
theorem gY (a b : List Nat) : (dG a b).length ≤ max a.length b.length + 1 := by
 unfold dG
 rw [gK]
 unfold tB
 split <;> omega
/-- What is carried at a place. -/
def carry (va vb i : Nat) : Nat := (va + vb) / 65536 ^ i - va / 65536 ^ i - vb / 65536 ^ i
theorem bB2 {va vb i c : Nat} (h : (va + vb) / 65536 ^ i = va / 65536 ^ i + vb / 65536 ^ i + c) (hc : c ≤ 1) (n : Nat) (hn : n = va / 65536 ^ i % 65536 + vb / 65536 ^ i % 65536 + c) :
  (va + vb) / 65536 ^ i % 65536 = n % 65536 ∧ (va + vb) / 65536 ^ (i + 1) = va / 65536 ^ (i + 1) + vb / 65536 ^ (i + 1) + n / 65536 ∧ n / 65536 ≤ 1 ∧ n ≤ 131071 := by
 rw [dV, dV, dV]
 generalize (va + vb) / 65536 ^ i = S at *
 generalize va / 65536 ^ i = A at *
 generalize vb / 65536 ^ i = B at *
 subst hn
 omega
theorem bHt {la lb va vb i c : Nat} (ha : va < 65536 ^ la) (hb : vb < 65536 ^ lb) (hi : i ≤ tB la lb va vb) (h : (va + vb) / 65536 ^ i = va / 65536 ^ i + vb / 65536 ^ i + c) : (i < la ∨ i < lb ∨ 0 < c) ↔ i < tB la lb va vb := by
 by_cases h1 : i < max la lb
 ·have h2 : max la lb ≤ tB la lb va vb := by unfold tB; split <;> omega
  constructor
  ·intro _; omega
  ·intro _; omega
 ·have ha0 : va / 65536 ^ i = 0 := Nat.div_eq_of_lt (Nat.lt_of_lt_of_le ha (Nat.pow_le_pow_right (by decide) (by omega)))
  have hb0 : vb / 65536 ^ i = 0 := Nat.div_eq_of_lt (Nat.lt_of_lt_of_le hb (Nat.pow_le_pow_right (by decide) (by omega)))
  rw [ha0, hb0] at h
  have hp : 0 < 65536 ^ i := Nat.pow_pos (by decide)
  unfold tB at hi ⊢
  by_cases h3 : va + vb < 65536 ^ max la lb
  ·rw [if_pos h3] at hi ⊢
   have he : i = max la lb := by omega
   rw [he] at h
   rw [Nat.div_eq_of_lt h3] at h
   omega
  ·rw [if_neg h3] at hi ⊢
   by_cases he : i = max la lb
   ·have : 1 ≤ (va + vb) / 65536 ^ i := (Nat.one_le_div_iff hp).2 (by rw [he]; omega)
    omega
   ·have he2 : i = max la lb + 1 := by omega
    have hf := aS5 ha hb
    unfold tB at hf
    rw [if_neg h3, ← he2] at hf
    rw [Nat.div_eq_of_lt hf] at h
    omega
/-! ### differences -/
def vF (a b : List Nat) : List Nat := eV a.length (aU a - aU b)
theorem aRn (a b : List Nat) : (vF a b).length = a.length := gK _ _
theorem aW3 (a b : List Nat) : okD (vF a b) := mJ _ _
theorem aP9 {a b : List Nat} (ha : okD a) : aU (vF a b) = aU a - aU b := by
 unfold vF
 rw [nH, Nat.mod_eq_of_lt (Nat.lt_of_le_of_lt (Nat.sub_le _ _) (jJ ha))]
theorem aZu {va vb i c : Nat} (h : va / 65536 ^ i = (va - vb) / 65536 ^ i + vb / 65536 ^ i + c) (hc : c ≤ 1) :
  vb / 65536 ^ i % 65536 + c ≤ 65536 + va / 65536 ^ i % 65536 ∧
  (va - vb) / 65536 ^ i % 65536 = (65536 + va / 65536 ^ i % 65536 - vb / 65536 ^ i % 65536 - c) % 65536 ∧
  (65536 + va / 65536 ^ i % 65536 - vb / 65536 ^ i % 65536 - c) / 65536 ≤ 1 ∧
  va / 65536 ^ (i + 1) = (va - vb) / 65536 ^ (i + 1) + vb / 65536 ^ (i + 1) + (1 - (65536 + va / 65536 ^ i % 65536 - vb / 65536 ^ i % 65536 - c) / 65536) := by
 rw [dV, dV, dV]
 generalize (va - vb) / 65536 ^ i = S at *
 generalize va / 65536 ^ i = A at *
 generalize vb / 65536 ^ i = B at *
 omega
/-! ### comparing -/
def rW (a b : Nat) : Int := if a < b then -1 else if b < a then 1 else 0
theorem bMg {va vb i : Nat} (h : va / 65536 ^ (i + 1) = vb / 65536 ^ (i + 1)) (h2 : va / 65536 ^ i % 65536 < vb / 65536 ^ i % 65536) : va < vb := by
 rw [dV, dV] at h
 have : va / 65536 ^ i < vb / 65536 ^ i := by omega
 exact Nat.lt_of_not_le fun hh => absurd (Nat.div_le_div_right (c := 65536 ^ i) hh) (by omega)
theorem bZd {va vb i : Nat} (h : va / 65536 ^ (i + 1) = vb / 65536 ^ (i + 1)) (h2 : va / 65536 ^ i % 65536 = vb / 65536 ^ i % 65536) : va / 65536 ^ i = vb / 65536 ^ i := by
 rw [dV, dV] at h
 omega
/-! ### products -/
def oB (a b : List Nat) : List Nat := eV (a.length + b.length) (aU a * aU b)
theorem aS4 (a b : List Nat) : okD (oB a b) := mJ _ _
theorem aN3 (a b : List Nat) : (oB a b).length = a.length + b.length := gK _ _
theorem aC8 {a b : List Nat} (ha : okD a) (hb : okD b) : aU (oB a b) = aU a * aU b := by
 unfold oB
 rw [nH, Nat.mod_eq_of_lt]
 rw [Nat.pow_add]
 exact Nat.mul_lt_mul'' (jJ ha) (jJ hb)
/-- Row i of the product: so much is there before it. -/
def uZ (va vb i : Nat) : Nat := va % 65536 ^ i * vb
/-- In row i, behind k places of b. -/
def aDz (va vb i k : Nat) : Nat := uZ va vb i + va / 65536 ^ i % 65536 * 65536 ^ i * (vb % 65536 ^ k)
/-- The digits of a product that is under way. -/
def zP (n va vb i k : Nat) : List Nat := (List.range n).map fun j => if j < i + k then aDz va vb i k / 65536 ^ j % 65536 else uZ va vb i / 65536 ^ j % 65536
theorem bJc (va vb i : Nat) : uZ va vb (i + 1) = uZ va vb i + va / 65536 ^ i % 65536 * 65536 ^ i * vb := by
 unfold uZ
 rw [Nat.pow_succ, Nat.mod_mul, Nat.add_mul, Nat.mul_comm (65536 ^ i)]
theorem aTs (n k : Nat) : n % 65536 ^ (k + 1) = n % 65536 ^ k + n / 65536 ^ k % 65536 * 65536 ^ k := by
 rw [Nat.pow_succ, Nat.mod_mul, Nat.mul_comm (65536 ^ k)]
theorem aT4 (va vb i : Nat) : aDz va vb i 0 = uZ va vb i := by unfold aDz; simp [Nat.mod_one]
theorem aQq (va vb i k : Nat) : aDz va vb i (k + 1) = aDz va vb i k + va / 65536 ^ i % 65536 * (vb / 65536 ^ k % 65536) * 65536 ^ (i + k) := by
 unfold aDz
 rw [aTs, Nat.mul_add, Nat.add_assoc, Nat.pow_add]
 congr 2
 generalize va / 65536 ^ i % 65536 = x
 generalize vb / 65536 ^ k % 65536 = y
 ac_rfl
theorem aYf {va vb i k : Nat} (h : vb < 65536 ^ k) : aDz va vb i k = uZ va vb (i + 1) := by
 unfold aDz
 rw [Nat.mod_eq_of_lt h, bJc]
theorem aT8 {va vb i k : Nat} (h : vb < 65536 ^ k) : uZ va vb i < 65536 ^ (i + k) := by
 unfold uZ
 rw [Nat.pow_add]
 exact Nat.mul_lt_mul'' (Nat.mod_lt _ (Nat.pow_pos (by decide))) h
/-- What is carried behind k places: so that the product goes on. -/
def aV3 (va vb i k c : Nat) : Prop := aDz va vb i k / 65536 ^ (i + k) = uZ va vb i / 65536 ^ (i + k) + c
theorem bXu (va vb i : Nat) : aV3 va vb i 0 0 := by unfold aV3; rw [aT4]; rfl
theorem bLl {va vb i k c n : Nat} (h : aV3 va vb i k c) (hc : c ≤ 65535) (hn : n = uZ va vb i / 65536 ^ (i + k) % 65536 + va / 65536 ^ i % 65536 * (vb / 65536 ^ k % 65536) + c) :
  aDz va vb i (k + 1) / 65536 ^ (i + k) % 65536 = n % 65536 ∧ aV3 va vb i (k + 1) (n / 65536) ∧ n / 65536 ≤ 65535 ∧ n ≤ 4294967295 := by
 unfold aV3 at *
 have hp : 0 < 65536 ^ (i + k) := Nat.pow_pos (by decide)
 have h1 : aDz va vb i (k + 1) / 65536 ^ (i + k) = aDz va vb i k / 65536 ^ (i + k) + va / 65536 ^ i % 65536 * (vb / 65536 ^ k % 65536) := by
  rw [aQq, Nat.add_mul_div_right _ _ hp]
 have hx : va / 65536 ^ i % 65536 ≤ 65535 := by omega
 have hy : vb / 65536 ^ k % 65536 ≤ 65535 := by omega
 have hm : va / 65536 ^ i % 65536 * (vb / 65536 ^ k % 65536) ≤ 65535 * 65535 := Nat.mul_le_mul hx hy
 rw [show i + (k + 1) = i + k + 1 by omega, dV, dV, h1, h]
 generalize va / 65536 ^ i % 65536 * (vb / 65536 ^ k % 65536) = M at *
 generalize uZ va vb i / 65536 ^ (i + k) = H at *
 subst hn
 omega
theorem bR7 {va vb i k j : Nat} (hj : j < i + k) : aDz va vb i (k + 1) / 65536 ^ j % 65536 = aDz va vb i k / 65536 ^ j % 65536 := by
 rw [aQq]
 obtain ⟨d, hd⟩ : ∃ d, i + k = j + 1 + d := ⟨i + k - j - 1, by omega⟩
 rw [hd, Nat.pow_add, Nat.pow_succ]
 rw [show va / 65536 ^ i % 65536 * (vb / 65536 ^ k % 65536) * (65536 ^ j * 65536 * 65536 ^ d) = va / 65536 ^ i % 65536 * (vb / 65536 ^ k % 65536) * 65536 ^ d * 65536 * 65536 ^ j by ac_rfl]
 rw [Nat.add_mul_div_right _ _ (Nat.pow_pos (by decide)), Nat.add_mul_mod_self_right]
theorem bPl (n va vb i k : Nat) : (zP n va vb i k).length = n := by unfold zP; simp
theorem bLt {n va vb i k m : Nat} (hk : i + k < n) (hm : aDz va vb i (k + 1) / 65536 ^ (i + k) % 65536 = m) : (zP n va vb i k).set (i + k) m = zP n va vb i (k + 1) := by
 unfold zP
 apply List.ext_getElem?
 intro j
 rw [List.getElem?_set]
 simp only [List.length_map, List.length_range]
 by_cases h1 : i + k = j
 ·subst h1
  rw [if_pos rfl, if_pos hk]
  simp [hk, hm]
 ·rw [if_neg h1]
  by_cases hj : j < n
  ·simp only [List.getElem?_map, List.getElem?_range hj, Option.map_some, Option.some.injEq]
   by_cases h2 : j < i + k
   ·rw [if_pos h2, if_pos (by omega), bR7 h2]
   ·rw [if_neg h2, if_neg (by omega)]
  ·simp [hj]
theorem bJ8 {n va vb i k c : Nat} (hvb : vb < 65536 ^ k) (h : aV3 va vb i k c) (hn : i + k < n) : (zP n va vb i k).set (i + k) (c % 65536) = zP n va vb (i + 1) 0 := by
 unfold zP
 have hb := aT8 (va := va) (i := i) hvb
 have hb2 := aT8 (va := va) (i := i + 1) hvb
 unfold aV3 at h
 rw [Nat.div_eq_of_lt hb, aYf hvb, Nat.zero_add] at h
 apply List.ext_getElem?
 intro j
 rw [List.getElem?_set]
 simp only [List.length_map, List.length_range]
 by_cases h1 : i + k = j
 ·subst h1
  rw [if_pos rfl, if_pos hn]
  simp only [List.getElem?_map, List.getElem?_range hn, Option.map_some, Option.some.injEq]
  rw [aT4, ite_self, h]
 ·rw [if_neg h1]
  by_cases hj : j < n
  ·simp only [List.getElem?_map, List.getElem?_range hj, Option.map_some, Option.some.injEq]
   rw [aT4, ite_self, aYf hvb]
   by_cases h2 : j < i + k
   ·rw [if_pos h2]
   ·rw [if_neg h2]
    have e1 : uZ va vb i / 65536 ^ j = 0 := Nat.div_eq_of_lt (Nat.lt_of_lt_of_le hb (Nat.pow_le_pow_right (by decide) (by omega)))
    have e2 : uZ va vb (i + 1) / 65536 ^ j = 0 := Nat.div_eq_of_lt (Nat.lt_of_lt_of_le hb2 (Nat.pow_le_pow_right (by decide) (by omega)))
    rw [e1, e2]
  ·simp [hj]
theorem bZm (n va vb : Nat) : zP n va vb 0 0 = List.replicate n 0 := by
 unfold zP uZ
 apply List.ext_getElem?
 intro j
 by_cases hj : j < n <;> simp [hj, Nat.mod_one]
theorem bOa {va vb la lb : Nat} (h : va < 65536 ^ la) : zP (la + lb) va vb la 0 = eV (la + lb) (va * vb) := by
 unfold zP eV
 apply List.map_congr_left
 intro j _
 rw [aT4, ite_self]
 unfold uZ
 rw [Nat.mod_eq_of_lt h]
theorem aXc {n va vb i k j : Nat} (hj : j < n) (hk : i + k ≤ j) : (zP n va vb i k).getD j 0 = uZ va vb i / 65536 ^ j % 65536 := by
 unfold zP
 simp [List.getD, hj, show ¬ j < i + k by omega]
/-! ### quotients -/
def bGc (d : List Nat) (s : List Nat × List Nat) (bit : Nat) : List Nat × List Nat :=
 if aU d ≤ aU (dG (dG s.1 s.1) [bit]) then (vF (dG (dG s.1 s.1) [bit]) d, dG (dG s.2 s.2) [1]) else (dG (dG s.1 s.1) [bit], dG s.2 s.2)
def aPo (a : List Nat) (t : Nat) : Nat := a.getD (a.length - 1 - t / 16) 0 / 2 ^ (15 - t % 16) % 2
def fJ (a d : List Nat) : Nat → List Nat × List Nat
 | 0 => ([], [])
 | t + 1 => bGc d (fJ a d t) (aPo a t)
def jK (a d : List Nat) : List Nat := (fJ a d (16 * a.length)).2
theorem aEs {b : Nat} (h : b < 65536) : okD [b] := by
 intro c hc
 have : c = b := by simpa using hc
 omega
theorem aAy (a d : List Nat) : ∀ t, okD (fJ a d t).1 ∧ okD (fJ a d t).2 ∧ (fJ a d t).1.length ≤ 2 * t ∧ (fJ a d t).2.length ≤ 2 * t
 | 0 => ⟨fun c hc => (nomatch hc), fun c hc => (nomatch hc), Nat.le_refl _, Nat.le_refl _⟩
 | t + 1 => by
  obtain ⟨_, _, h3, h4⟩ := aAy a d t
  have h5 := gY (fJ a d t).1 (fJ a d t).1
  have h6 := gY (fJ a d t).2 (fJ a d t).2
  have h7 := gY (dG (fJ a d t).1 (fJ a d t).1) [aPo a t]
  have h8 := gY (dG (fJ a d t).2 (fJ a d t).2) [1]
  simp only [List.length_cons, List.length_nil] at h7 h8
  rw [fJ]
  unfold bGc
  split
  ·refine ⟨aW3 _ _, gX _ _, ?_, ?_⟩
   ·show (vF _ _).length ≤ _
    rw [aRn]
    omega
   ·show (dG _ _).length ≤ _
    omega
  ·refine ⟨gX _ _, gX _ _, ?_, ?_⟩
   ·show (dG _ _).length ≤ _
    omega
   ·show (dG _ _).length ≤ _
    omega
theorem bVh {x e : Nat} (he : e ≤ 15) : x % 65536 / 2 ^ e % 2 = x / 2 ^ e % 2 := by
 have h : 65536 = 2 ^ e * 2 ^ (16 - e) := by rw [← Nat.pow_add, show e + (16 - e) = 16 by omega]
 rw [h, Nat.mod_mul_right_div_self, Nat.mod_mod_of_dvd]
 exact ⟨2 ^ (15 - e), by rw [← Nat.pow_succ', show (15 - e).succ = 16 - e by omega]⟩
theorem bWm (j : Nat) : 65536 ^ j = 2 ^ (16 * j) := by rw [Nat.pow_mul]
theorem bPf {a : List Nat} (ha : okD a) {t : Nat} (h : t < 16 * a.length) : aPo a t = aU a / 2 ^ (16 * a.length - (t + 1)) % 2 := by
 unfold aPo
 rw [nC ha, bVh (by omega), bWm, Nat.div_div_eq_div_mul, ← Nat.pow_add]
 congr 3
 omega
theorem bTn (a : List Nat) (t : Nat) : aPo a t < 65536 := by unfold aPo; omega
theorem bJ1 {X v : Nat} (hv : 0 < v) : (v ≤ 2 * (X / 2 % v) + X % 2 → X % v = 2 * (X / 2 % v) + X % 2 - v ∧ X / v = 2 * (X / 2 / v) + 1) ∧ (¬ v ≤ 2 * (X / 2 % v) + X % 2 → X % v = 2 * (X / 2 % v) + X % 2 ∧ X / v = 2 * (X / 2 / v)) := by
 have h1 := Nat.div_add_mod (X / 2) v
 have h2 := Nat.mod_lt (X / 2) hv
 generalize X / 2 % v = r at *
 generalize X / 2 / v = q at *
 have h3 : X = v * (2 * q) + (2 * r + X % 2) := by
  have : v * (2 * q) = 2 * (v * q) := by ac_rfl
  omega
 have h4 : X = v * (2 * q + 1) + (2 * r + X % 2) - v := by rw [Nat.mul_add, Nat.mul_one]; omega
 constructor
 ·intro h
  have h5 : X = v * (2 * q + 1) + (2 * r + X % 2 - v) := by omega
  have h6 : 2 * r + X % 2 - v < v := by omega
  generalize 2 * r + X % 2 - v = s at h5 h6 ⊢
  constructor
  ·rw [h5, Nat.mul_add_mod, Nat.mod_eq_of_lt h6]
  ·rw [h5, Nat.mul_add_div hv, Nat.div_eq_of_lt h6, Nat.add_zero]
 ·intro h
  have h6 : 2 * r + X % 2 < v := by omega
  generalize 2 * r + X % 2 = s at h3 h6 ⊢
  constructor
  ·rw [h3, Nat.mul_add_mod, Nat.mod_eq_of_lt h6]
  ·rw [h3, Nat.mul_add_div hv, Nat.div_eq_of_lt h6, Nat.add_zero]
theorem aQk {a d : List Nat} (ha : okD a) (hd : okD d) (hv : 0 < aU d) : ∀ t, t ≤ 16 * a.length → aU (fJ a d t).1 = aU a / 2 ^ (16 * a.length - t) % aU d ∧ aU (fJ a d t).2 = aU a / 2 ^ (16 * a.length - t) / aU d
 | 0, _ => by
  have h := jJ ha
  rw [bWm] at h
  rw [Nat.sub_zero, Nat.div_eq_of_lt h]
  simp [fJ, aU]
 | t + 1, h => by
  obtain ⟨h1, h2⟩ := aQk ha hd hv t (by omega)
  obtain ⟨o1, o2, _, _⟩ := aAy a d t
  have hb := bPf ha (t := t) (by omega)
  have e : aU a / 2 ^ (16 * a.length - t) = aU a / 2 ^ (16 * a.length - (t + 1)) / 2 := by
   rw [Nat.div_div_eq_div_mul, ← Nat.pow_succ, show (16 * a.length - (t + 1)).succ = 16 * a.length - t by omega]
  rw [e] at h1 h2
  generalize aU a / 2 ^ (16 * a.length - (t + 1)) = X at *
  obtain ⟨q1, q2⟩ := bJ1 (X := X) hv
  have v1 : aU (dG (dG (fJ a d t).1 (fJ a d t).1) [aPo a t]) = 2 * (X / 2 % aU d) + X % 2 := by
   rw [lC (gX _ _) (aEs (bTn a t)), lC o1 o1, h1, hb]
   simp only [aU]
   omega
  have v2 : aU (dG (fJ a d t).2 (fJ a d t).2) = 2 * (X / 2 / aU d) := by
   rw [lC o2 o2, h2]
   omega
  rw [fJ]
  unfold bGc
  rw [v1]
  split
  ·rename_i hc
   obtain ⟨a1, a2⟩ := q1 hc
   constructor
   ·show aU (vF _ _) = _
    rw [aP9 (gX _ _), v1, a1]
   ·show aU (dG _ _) = _
    rw [lC (gX _ _) (aEs (by decide)), v2, a2]
    rfl
  ·rename_i hc
   obtain ⟨a1, a2⟩ := q2 hc
   exact ⟨by rw [a1]; exact v1, by rw [a2]; exact v2⟩
theorem aAb (a d : List Nat) : okD (jK a d) := (aAy a d _).2.1
theorem aRe (a d : List Nat) : (jK a d).length ≤ 32 * a.length := by have := (aAy a d (16 * a.length)).2.2.2; unfold jK; omega
theorem aHo {a d : List Nat} (ha : okD a) (hd : okD d) (hv : 0 < aU d) : aU (jK a d) = aU a / aU d := by
 have := (aQk ha hd hv _ (Nat.le_refl _)).2
 unfold jK
 rw [this, Nat.sub_self, Nat.pow_zero, Nat.div_one]
theorem aIg : ∀ a : List Nat, aU (a ++ [0]) = aU a
 | [] => rfl
 | d :: l => by rw [List.cons_append, aU, aU, aIg l]
theorem aYv {a : List Nat} (h : okD a) : okD (a ++ [0]) := by
 intro c hc
 rcases List.mem_append.1 hc with h1 | h1
 ·exact h c h1
 ·have : c = 0 := by simpa using h1
  omega
def jX (a d : List Nat) : List Nat := vF (a ++ [0]) (oB (jK a d) d)
def upL (a d : List Nat) : Bool := decide (aU d < aU (jX a d) + aU (jX a d)) || (decide (aU (jX a d) + aU (jX a d) = aU d) && decide (aU (jK a d) % 2 = 1))
def pB (a d : List Nat) : List Nat := if upL a d = true then dG (jK a d) [1] else jK a d
theorem bHo (a d : List Nat) : okD (pB a d) := by
 unfold pB
 split
 ·exact gX _ _
 ·exact aAb _ _
theorem bCv (a d : List Nat) : (pB a d).length ≤ 32 * a.length + 2 := by
 have h1 := aRe a d
 have h2 := gY (jK a d) [1]
 simp only [List.length_cons, List.length_nil] at h2
 unfold pB
 split <;> omega
theorem bPa {a d : List Nat} (ha : okD a) (hd : okD d) (hv : 0 < aU d) : aU (oB (jK a d) d) ≤ aU (a ++ [0]) := by
 rw [aC8 (aAb _ _) hd, aHo ha hd hv, aIg]
 exact Nat.div_mul_le_self _ _
theorem bB8 {a d : List Nat} (ha : okD a) (hd : okD d) (hv : 0 < aU d) : (aU (pB a d) : Int) = rhe (aU a : Int) (aU d : Int) := by
 have h1 : aU (jX a d) = aU a % aU d := by
  unfold jX
  rw [aP9 (aYv ha), aC8 (aAb _ _) hd, aHo ha hd hv, aIg]
  have := Nat.div_add_mod (aU a) (aU d)
  rw [Nat.mul_comm] at this
  omega
 have h2 := aHo ha hd hv
 unfold pB upL rhe
 rw [h1]
 have e1 : ((aU a : Int) / (aU d : Int)) = ((aU a / aU d : Nat) : Int) := rfl
 have e2 : ((aU a : Int) % (aU d : Int)) = ((aU a % aU d : Nat) : Int) := rfl
 rw [e1, e2, ← h2]
 split
 ·rename_i h
  rw [lC (aAb _ _) (aEs (by decide))]
  have hc : (aU d : Int) - ((aU a % aU d : Nat) : Int) < ((aU a % aU d : Nat) : Int) ∨ (((aU a % aU d : Nat) : Int) = (aU d : Int) - ((aU a % aU d : Nat) : Int) ∧ (aU (jK a d) : Int) % 2 = 1) := by
   simp only [Bool.or_eq_true, Bool.and_eq_true, decide_eq_true_eq] at h
   omega
  rw [if_pos hc]
  simp [aU]
 ·rename_i h
  have hc : ¬ ((aU d : Int) - ((aU a % aU d : Nat) : Int) < ((aU a % aU d : Nat) : Int) ∨ (((aU a % aU d : Nat) : Int) = (aU d : Int) - ((aU a % aU d : Nat) : Int) ∧ (aU (jK a d) : Int) % 2 = 1)) := by
   simp only [Bool.or_eq_true, Bool.and_eq_true, decide_eq_true_eq] at h
   omega
  rw [if_neg hc]
  omega
/-! ### powers of two -/
def fW : Nat → List Nat
 | 0 => [1]
 | n + 1 => dG (fW n) (fW n)
theorem rX : ∀ n, okD (fW n)
 | 0 => aEs (by decide)
 | n + 1 => gX _ _
theorem aHj : ∀ n, aU (fW n) = 2 ^ n
 | 0 => rfl
 | n + 1 => by rw [fW, lC (rX n) (rX n), aHj n, Nat.pow_succ]; omega
theorem aBh : ∀ n, (fW n).length ≤ n + 1
 | 0 => Nat.le_refl _
 | n + 1 => by
  have h1 := aBh n
  have h2 := gY (fW n) (fW n)
  rw [fW]
  omega
end
noncomputable section
attribute [local irreducible] Next aW cF Ops bQ
attribute [local irreducible] bE dH eZ eC
attribute [local go_sem] cO bP Option.getD_some cJ aT aV List.cons_append
theorem szW : cA Tryz.prog 124 = some 1 := by kernel_rfl
theorem bYu : dB Tryz.prog 113 = some 124 := by kernel_rfl
theorem cBh : mM Tryz.prog 113 = none := by kernel_rfl
theorem aI3 : mS Tryz.prog 113 113 1 = true := by kernel_rfl
def bV (l : List Nat) : List (List AV) := l.map fun x => [.v (.int .u64 ((x : Nat) : Int))]
theorem gD (b : List Nat) : (bV b).length = b.length := List.length_map ..
attribute [local go_sem] gD
theorem aIc (l l2 : List Nat) : bV l ++ bV l2 = bV (l ++ l2) := List.map_append.symm
theorem bLd {l : List Nat} {i : Nat} (hi : i < l.length) : (bV l)[i]? = some [.v (.int .u64 ((l.getD i 0 : Nat) : Int))] := by
 simp [bV, List.getD, List.getElem?_eq_getElem hi]
theorem bLa {g : Grow} {kk : IntKind} {l : List Nat} {i : Nat} (hi : i < l.length) : cI Tryz.prog 113 (.lst g 1 (bV l)) (.v (.int kk (i : Int))) = some (.eptr [.v (.int .u64 ((l.getD i 0 : Nat) : Int))]) := oF bYu cBh szW (bLd hi)
theorem ldW {m : Mem} {x : Int} : aL Tryz.prog m 124 (.eptr [.v (.int .u64 x)]) = some (.v (.int .u64 x)) := by kernel_rfl
attribute [local go_sem] ldW
theorem bH5 : bG Tryz.prog 113 0 [] = some (.lst .full 1 []) := aP0 aI3
attribute [local go_sem] bH5
theorem bIc {b : Nat} : bG Tryz.prog 113 1 [(0, .v (.int .u64 (b : Int)))] = some (.lst .full 1 (bV [b])) := iZ aI3 (by decide) rfl rfl
attribute [local go_sem] bIc
theorem aQg : bG Tryz.prog 113 1 [(0, .v (.int .u64 1))] = some (.lst .full 1 (bV [1])) := iZ aI3 (by decide) rfl rfl
attribute [local go_sem] aQg
theorem aSv : bG Tryz.prog 113 1 [(0, .v (.int .u64 0))] = some (.lst .full 1 (bV [0])) := iZ aI3 (by decide) rfl rfl
attribute [local go_sem] aSv
theorem bK1 {a b c d : Int} : bG Tryz.prog 113 4 [(0, .v (.int .u64 a)), (1, .v (.int .u64 b)), (2, .v (.int .u64 c)), (3, .v (.int .u64 d))] = some (.lst .full 1 [[.v (.int .u64 a)], [.v (.int .u64 b)], [.v (.int .u64 c)], [.v (.int .u64 d)]]) := by kernel_rfl
attribute [local go_sem] bK1
def unW : List (List AV) → Option (List Nat)
 | [] => some []
 | [.v (.int .u64 (.ofNat n))] :: r => (unW r).map (n :: ·)
 | _ => none
theorem fB : ∀ {rows : List (List AV)} {l : List Nat}, unW rows = some l → rows = bV l
 | [], l, h => by cases h; rfl
 | [.v (.int .u64 (.ofNat n))] :: r, l, h => by
  simp only [unW, Option.map_eq_some_iff] at h
  obtain ⟨l', h1, rfl⟩ := h
  rw [fB h1]
  rfl
theorem hH : ∀ l : List Nat, unW (bV l) = some l
 | [] => rfl
 | n :: l => by
  have e : bV (n :: l) = [.v (.int .u64 (.ofNat n))] :: bV l := rfl
  rw [e, unW, hH l]
  rfl
theorem uw {n : Nat} (h : n < 18446744073709551616) : IntKind.u64.wrap ((n : Nat) : Int) = ((n : Nat) : Int) := bRo h
theorem bJq (n : Nat) : ((n : Nat) : Int).tmod 65536 = ((n % 65536 : Nat) : Int) := rfl
theorem bUn (n : Nat) : ((n : Nat) : Int).tdiv 65536 = ((n / 65536 : Nat) : Int) := rfl
theorem bAy {a b : Nat} (h : a + b < 18446744073709551616) : IntKind.u64.wrap ((a : Int) + (b : Int)) = ((a + b : Nat) : Int) := by
 have := uw h
 rwa [Int.natCast_add] at this ⊢
def okW (l : List Nat) : Bool := l.all (· < 65536) && decide (l.length ≤ 2000)
theorem eN {l : List Nat} : okW l = true ↔ okD l ∧ l.length ≤ 2000 := by
 unfold okW okD
 simp
/-! ### digit -/
def zD : List AV → Mem → Option (AV × Mem)
 | [.lst _ 1 rows, .v (.int .i64 (.ofNat i))], m =>
  match unW rows with
  | some l => if l.length ≤ 2000 ∧ i ≤ 1000000 then some (.v (.int .u64 ((l.getD i 0 : Nat) : Int)), m) else none
  | none => none
 | _, _ => none
theorem uH {g : Grow} {l : List Nat} {i : Nat} (h : l.length ≤ 2000) (hi : i ≤ 1000000) (m : Mem) : zD [.lst g 1 (bV l), .v (.int .i64 (i : Int))] m = some (.v (.int .u64 ((l.getD i 0 : Nat) : Int)), m) := by
 show (match unW (bV l) with
  | some l => if l.length ≤ 2000 ∧ i ≤ 1000000 then some (AV.v (.int .u64 ((l.getD i 0 : Nat) : Int)), m) else none
  | none => none) = _
 simp only [hH]
 exact if_pos ⟨h, hi⟩
def bFp : Nat → Option (List Nat) := fun
 | 0 => some [0, 1]
 | 1 => some [0, 1, 8]
 | 2 => some [4]
 | 3 => some [4]
 | _ => none
attribute [go_sem] bFp
theorem aEh : aO Tryz.prog 71 zD := by
 have hC := aI (P := Tryz.prog) (l := []) aF
 refine aP mixed hC Tryz.func71 rfl bFp false rfl fun args m r h => ?_
 unfold zD at h
 split at h
 ·rename_i g rows i
  split at h
  ·rename_i l hl0
   obtain rfl := fB hl0
   split at h
   ·rename_i hd
    simp only [Option.some.injEq] at h
    subst h
    have hof : ∀ n : Nat, Int.ofNat n = (n : Int) := fun _ => rfl
    rw [hof]
    refine ⟨nbT, ?_⟩
    refine en ?_
    refine go0 ?_
    refine aH rfl (fun hc => ?_) (fun hc => ?_)
    ·have hi : i < l.length := by have := of_decide_eq_true hc; omega
     have f1 := bLa (g := g) (kk := .i64) hi
     refine go1 @f1 ?_
     exact aY rfl rfl
    ·have hi : ¬ i < l.length := by have := of_decide_eq_false hc; omega
     refine go0 ?_
     refine aY rfl ?_
     have e : l.getD i 0 = 0 := by simp [List.getD, List.getElem?_eq_none (Nat.le_of_not_lt hi)]
     rw [e]
     rfl
   ·cases h
  ·cases h
 ·cases h
/-! ### Word, Size -/
theorem cA0 (n : Nat) (h : n < 18446744073709551616) : eV 4 n = [n % 65536, n / 65536 % 65536, n / 4294967296 % 65536, n / 281474976710656] := by
 have e : eV 4 n = [n / 65536 ^ 0 % 65536, n / 65536 ^ 1 % 65536, n / 65536 ^ 2 % 65536, n / 65536 ^ 3 % 65536] := rfl
 rw [e]
 simp only [Nat.pow_zero, Nat.div_one, Nat.pow_one, show 65536 ^ 2 = 4294967296 from rfl, show 65536 ^ 3 = 281474976710656 from rfl, List.cons.injEq, and_true, true_and]
 omega
def bEr : List AV → Mem → Option (AV × Mem)
 | [.v (.int .u64 (.ofNat n))], m => if n < 18446744073709551616 then some (.lst .no 1 (bV (eV 4 n)), m) else none
 | _, _ => none
theorem bV4 {n : Nat} (h : n < 18446744073709551616) (m : Mem) : bEr [.v (.int .u64 (n : Int))] m = some (.lst .no 1 (bV (eV 4 n)), m) := if_pos h
def bO1 : Nat → Option (List Nat) := fun
 | 0 => some [0]
 | 1 => some [2]
 | _ => none
attribute [go_sem] bO1
theorem bT0 : aO Tryz.prog 54 bEr := by
 have hC := aI (P := Tryz.prog) (l := []) aF
 refine aP mixed hC Tryz.func54 rfl bO1 false rfl fun args m r h => ?_
 unfold bEr at h
 split at h
 ·rename_i n
  split at h
  ·rename_i hn
   simp only [Option.some.injEq] at h
   subst h
   have hof : ∀ n : Nat, Int.ofNat n = (n : Int) := fun _ => rfl
   rw [hof]
   refine ⟨nbT, ?_⟩
   refine en ?_
   have d1 : IntKind.u64.wrap ((n : Int).tdiv 65536) = ((n / 65536 : Nat) : Int) := by rw [bUn, uw (by omega)]
   have d2 : IntKind.u64.wrap ((n : Int).tdiv 4294967296) = ((n / 4294967296 : Nat) : Int) := by rw [show (n : Int).tdiv 4294967296 = ((n / 4294967296 : Nat) : Int) from rfl, uw (by omega)]
   have d3 : IntKind.u64.wrap ((n : Int).tdiv 281474976710656) = ((n / 281474976710656 : Nat) : Int) := by rw [show (n : Int).tdiv 281474976710656 = ((n / 281474976710656 : Nat) : Int) from rfl, uw (by omega)]
   have m1 := bJq n
   have m2 := bJq (n / 65536)
   have m3 := bJq (n / 4294967296)
   refine go1 (jn @d1 (jn @d2 (jn @d3 (jn @m1 (jn @m2 @m3))))) ?_
   exact dA rfl (by rw [cA0 n hn]; rfl) (bU _)
  ·cases h
 ·cases h
def uK : List AV → Mem → Option (AV × Mem)
 | [.v (.int .i64 x)], m => if inI x then some (.lst .no 1 (bV (eV 4 (bJ x).toNat)), m) else none
 | _, _ => none
theorem nB {x : Int} (h : inI x) (m : Mem) : uK [.v (.int .i64 x)] m = some (.lst .no 1 (bV (eV 4 (bJ x).toNat)), m) := if_pos h
def bG8 : Nat → Option (List Nat) := fun
 | 0 => some [0]
 | 1 => some [0, 4]
 | 2 => some [2]
 | 3 => some [2]
 | _ => none
attribute [go_sem] bG8
def zL : List (FuncId × (List AV → Mem → Option (AV × Mem))) := [(54, bEr)]
theorem aCz : aO Tryz.prog 41 uK := by
 have hC := aI (P := Tryz.prog) (l := zL) (aA bT0 aF)
 have t1 := taT zL 54 rfl
 refine aP mixed hC Tryz.func41 rfl bG8 false rfl fun args m r h => ?_
 unfold uK at h
 split at h
 ·rename_i x
  split at h
  ·rename_i hyp
   obtain ⟨s0, s1⟩ := kG hyp
   obtain ⟨x0, x1⟩ := hyp
   simp only [Option.some.injEq] at h
   subst h
   refine ⟨nbT, ?_⟩
   refine en ?_
   obtain ⟨q, hq⟩ := Int.eq_ofNat_of_zero_le s0
   rw [hq] at s1 ⊢
   rw [Int.toNat_natCast]
   have c1 := fun mm => bV4 (n := q) (by omega) mm
   refine go0 ?_
   refine aH rfl (fun hc => ?_) (fun hc => ?_)
   ·have hx := of_decide_eq_true hc
    unfold bJ at hq
    rw [if_pos hx] at hq
    have w1 : IntKind.u64.wrap x = x + 18446744073709551616 := by rw [hZ]; omega
    have w2 : IntKind.u64.wrap (0 - (x + 18446744073709551616)) = (q : Int) := by rw [hZ]; omega
    refine go1 (jn @w1 (jn @w2 (jn @t1 @c1))) ?_
    exact dA rfl rfl (bU _)
   ·have hx := of_decide_eq_false hc
    unfold bJ at hq
    rw [if_neg hx] at hq
    subst hq
    have w1 : IntKind.u64.wrap (q : Int) = (q : Int) := w64 (by omega) (by omega)
    refine go1 (jn @w1 (jn @t1 @c1)) ?_
    exact dA rfl rfl (bU _)
  ·cases h
 ·cases h
end
noncomputable section
attribute [local irreducible] Next aW cF Ops bQ
attribute [local irreducible] bE dH eZ eC
attribute [local go_sem] cO bP Option.getD_some cJ aT aV List.cons_append gD bH5 bIc aQg aSv bK1 ldW
def aEv (a b : List Nat) : Prop := okW a = true ∧ okW b = true
instance (a b : List Nat) : Decidable (aEv a b) := by unfold aEv; exact inferInstance
/-! ### Plus -/
def aJs : List AV → Mem → Option (AV × Mem)
 | [.lst _ 1 r1, .lst _ 1 r2], m =>
  match unW r1, unW r2 with
  | some a, some b => if aEv a b then some (.lst .no 1 (bV (dG a b)), m) else none
  | _, _ => none
 | _, _ => none
theorem sN {g1 g2 : Grow} {a b : List Nat} (h : aEv a b) (m : Mem) : aJs [.lst g1 1 (bV a), .lst g2 1 (bV b)] m = some (.lst .no 1 (bV (dG a b)), m) := by
 simp only [aJs, hH]
 exact if_pos h
def bRc : Nat → Option (List Nat) := fun
 | 0 => some [0, 1]
 | 1 => some [0, 1, 5]
 | 2 => some [0, 1, 5, 6]
 | 3 => some [0, 1, 5, 6, 7]
 | 4 => some [0, 1, 5, 6, 7, 23]
 | 5 => some [0, 1, 5, 6, 7]
 | 6 => some [0, 1, 5, 7, 8]
 | 7 => some [0, 1, 5, 7, 8]
 | 8 => some [0, 1, 5, 6, 7]
 | 9 => some [4]
 | _ => none
attribute [go_sem] bRc
def aG4 : List (FuncId × (List AV → Mem → Option (AV × Mem))) := [(71, zD)]
theorem aF3 : aO Tryz.prog 57 aJs := by
 have hC := aI (P := Tryz.prog) (l := aG4) (aA aEh aF)
 have t1 := taT aG4 71 rfl
 refine aP mixed hC Tryz.func57 rfl bRc false rfl fun args m r h => ?_
 unfold aJs at h
 split at h
 ·rename_i g1 r1 g2 r2
  split at h
  ·rename_i a b ha0 hb0
   obtain rfl := fB ha0
   obtain rfl := fB hb0
   split at h
   ·rename_i hd
    obtain ⟨ha, hb⟩ := hd
    obtain ⟨oa, la⟩ := eN.1 ha
    obtain ⟨ob, lb⟩ := eN.1 hb
    simp only [Option.some.injEq] at h
    subst h
    refine ⟨nbT, ?_⟩
    refine en ?_
    have hG := oV (m := m)
    refine go0 ?_
    have va := jJ oa
    have vb := jJ ob
    have pl : tB a.length b.length (aU a) (aU b) ≤ max a.length b.length + 1 := by unfold tB; split <;> omega
    have hend : dG a b = eV (tB a.length b.length (aU a) (aU b)) (aU a + aU b) := rfl
    have hgoes := fun i c h1 h2 => bHt (i := i) (c := c) va vb h1 h2
    have hda := nC oa
    have hdb := nC ob
    generalize hN : tB a.length b.length (aU a) (aU b) = N at hend pl hgoes
    generalize hva : aU a = x at *
    generalize hvb : aU b = y at *
    refine cE (fun k e m' => ∃ (i c : Nat) (g : Grow), i ≤ N ∧ c ≤ 1 ∧ (x + y) / 65536 ^ i = x / 65536 ^ i + y / 65536 ^ i + c ∧ mL m g m' ∧ k = N - i ∧
     e = [(0, AV.lst g1 1 (bV a)), (1, .lst g2 1 (bV b)), (5, .lst g 1 (bV (eV i (x + y)))), (6, .v (.int .u64 (c : Int))), (7, .v (.int .i64 (i : Int)))]) (k := N) ⟨0, 0, _, Nat.zero_le _, by decide, by simp, hG, rfl, rfl⟩ ?_
    rintro k e m' ⟨i, c, g, hi, hc1, hcar, hG1, rfl, rfl⟩
    have hgo := hgoes i c hi hcar
    by_cases hi1 : i < N
    ·repeat refine dI ?_
     refine uM [(0, AV.lst g1 1 (bV a)), (1, .lst g2 1 (bV b)), (5, .lst g 1 (bV (eV i (x + y)))), (6, .v (.int .u64 (c : Int))), (7, .v (.int .i64 (i : Int))), (23, .v (.bool true))] m' ?_ ?_
     ·by_cases h1 : i < a.length
      ·have k1 : decide ((i : Int) < (a.length : Int)) = true := decide_eq_true (by omega)
       refine go1 @k1 ?_
       exact ⟨rfl, rfl, rfl⟩
      ·have k1 : decide ((i : Int) < (a.length : Int)) = false := decide_eq_false (by omega)
       by_cases h2 : i < b.length
       ·have k2 : decide ((i : Int) < (b.length : Int)) = true := decide_eq_true (by omega)
        refine go1 (jn @k1 @k2) ?_
        exact ⟨rfl, rfl, rfl⟩
       ·have k2 : decide ((i : Int) < (b.length : Int)) = false := decide_eq_false (by omega)
        have k3 : decide ((c : Int) > 0) = true := decide_eq_true (by omega)
        refine go1 (jn @k1 (jn @k2 @k3)) ?_
        exact ⟨rfl, rfl, rfl⟩
     have r6 := cP (i := i) (by omega)
     obtain ⟨n1, n2, n3, n4⟩ := bB2 hcar hc1 _ rfl
     have c1 := uH (g := .no) (l := a) (i := i) la (by omega)
     have c2 := uH (g := .no) (l := b) (i := i) lb (by omega)
     rw [hda i] at c1
     rw [hdb i] at c2
     have hlen := gK i (x + y)
     have hsucc := aRa i (x + y)
     rw [n1] at hsucc
     have b1 : x / 65536 ^ i % 65536 < 65536 := Nat.mod_lt _ (by decide)
     have b2 : y / 65536 ^ i % 65536 < 65536 := Nat.mod_lt _ (by decide)
     generalize x / 65536 ^ i % 65536 = p at *
     generalize y / 65536 ^ i % 65536 = q at *
     have u1 := bAy (a := p) (b := q) (by omega)
     have u2 := bAy (a := p + q) (b := c) (by omega)
     have m1 := bJq (p + q + c)
     have m2 : IntKind.u64.wrap (((p + q + c : Nat) : Int).tdiv 65536) = (((p + q + c) / 65536 : Nat) : Int) := by rw [bUn, uw (by omega)]
     generalize p + q + c = n at *
     obtain ⟨g5, m6, a1, hG6, hv6⟩ := nQ (t := 113) (t2 := 113) aI3 hG1 (xs := bV (eV i (x + y))) (y := .lst .full 1 (bV [n % 65536])) dC (by have h1 := gD (eV i (x + y)); unfold lim; simp only [gD, List.length_cons, List.length_nil] at h1 ⊢; omega)
     rw [aIc] at a1
     refine go0 ?_
     refine rcT rfl ?_
     refine go1 (jn @t1 (jn @c1 (jn @c2 (jn @u1 (jn @u2 (jn @m1 (jn @m2 (jn @a1 @r6)))))))) ?_
     exact ⟨N - (i + 1), by omega, i + 1, n / 65536, g5, hi1, n3, n2, hG6, rfl, by rw [hsucc]⟩
    ·have he : i = N := by omega
     have h1 : ¬ i < a.length := by omega
     have h2 : ¬ i < b.length := by omega
     have k1 : decide ((i : Int) < (a.length : Int)) = false := decide_eq_false (by omega)
     have k2 : decide ((i : Int) < (b.length : Int)) = false := decide_eq_false (by omega)
     have k3 : decide ((c : Int) > 0) = false := decide_eq_false (by omega)
     refine go1 (jn @k1 (jn @k2 @k3)) ?_
     refine rcF rfl ?_
     refine go0 ?_
     exact dA rfl (by rw [hend, ← he]; rfl) (eP hG1)
   ·cases h
  ·cases h
 ·cases h
/-! ### Less -/
def aQj : List AV → Mem → Option (AV × Mem)
 | [.lst _ 1 r1, .lst _ 1 r2], m =>
  match unW r1, unW r2 with
  | some a, some b => if aEv a b ∧ aU b ≤ aU a then some (.lst .no 1 (bV (vF a b)), m) else none
  | _, _ => none
 | _, _ => none
theorem bFs {g1 g2 : Grow} {a b : List Nat} (h : aEv a b) (h2 : aU b ≤ aU a) (m : Mem) : aQj [.lst g1 1 (bV a), .lst g2 1 (bV b)] m = some (.lst .no 1 (bV (vF a b)), m) := by
 simp only [aQj, hH]
 exact if_pos ⟨h, h2⟩
def bP5 : Nat → Option (List Nat) := fun
 | 0 => some [0, 1]
 | 1 => some [0, 1, 5]
 | 2 => some [0, 1, 5, 6]
 | 3 => some [0, 1, 5, 6, 7]
 | 4 => some [0, 1, 5, 6, 7, 13]
 | 5 => some [0, 1, 5, 6, 7]
 | 6 => some [0, 1, 5, 7, 8]
 | 7 => some [0, 1, 5, 7, 8]
 | 8 => some [0, 1, 5, 6, 7]
 | 9 => some [4]
 | _ => none
attribute [go_sem] bP5
def aFb : List (FuncId × (List AV → Mem → Option (AV × Mem))) := [(71, zD)]
theorem aXb : aO Tryz.prog 56 aQj := by
 have hC := aI (P := Tryz.prog) (l := aFb) (aA aEh aF)
 have t1 := taT aFb 71 rfl
 refine aP mixed hC Tryz.func56 rfl bP5 false rfl fun args m r h => ?_
 unfold aQj at h
 split at h
 ·rename_i g1 r1 g2 r2
  split at h
  ·rename_i a b ha0 hb0
   obtain rfl := fB ha0
   obtain rfl := fB hb0
   split at h
   ·rename_i hd
    obtain ⟨⟨ha, hb⟩, hle⟩ := hd
    obtain ⟨oa, la⟩ := eN.1 ha
    obtain ⟨ob, lb⟩ := eN.1 hb
    simp only [Option.some.injEq] at h
    subst h
    refine ⟨nbT, ?_⟩
    refine en ?_
    have hG := oV (m := m)
    refine go0 ?_
    have hend : vF a b = eV a.length (aU a - aU b) := rfl
    have hda := nC oa
    have hdb := nC ob
    generalize hva : aU a = x at *
    generalize hvb : aU b = y at *
    refine cE (fun k e m' => ∃ (i c : Nat) (g : Grow), i ≤ a.length ∧ c ≤ 1 ∧ x / 65536 ^ i = (x - y) / 65536 ^ i + y / 65536 ^ i + c ∧ mL m g m' ∧ k = a.length - i ∧
     e = [(0, AV.lst g1 1 (bV a)), (1, .lst g2 1 (bV b)), (5, .lst g 1 (bV (eV i (x - y)))), (6, .v (.int .u64 (c : Int))), (7, .v (.int .i64 (i : Int)))]) (k := a.length) ⟨0, 0, _, Nat.zero_le _, by decide, by simp; omega, hG, rfl, rfl⟩ ?_
    rintro k e m' ⟨i, c, g, hi, hc1, hcar, hG1, rfl, rfl⟩
    refine go0 ?_
    refine aH rfl (fun hc => ?_) (fun hc => ?_)
    ·have hi1 : i < a.length := by have := of_decide_eq_true hc; omega
     have r6 := cP (i := i) (by omega)
     obtain ⟨n0, n1, n2, n3⟩ := aZu hcar hc1
     have f1 := bLa (g := g1) (kk := .i64) hi1
     have c2 := uH (g := .no) (l := b) (i := i) lb (by omega)
     rw [hda i] at f1
     rw [hdb i] at c2
     have hlen := gK i (x - y)
     have hsucc := aRa i (x - y)
     rw [n1] at hsucc
     have b1 : x / 65536 ^ i % 65536 < 65536 := Nat.mod_lt _ (by decide)
     have b2 : y / 65536 ^ i % 65536 < 65536 := Nat.mod_lt _ (by decide)
     generalize x / 65536 ^ i % 65536 = p at *
     generalize y / 65536 ^ i % 65536 = q at *
     have u1 : IntKind.u64.wrap (65536 + (p : Int)) = ((65536 + p : Nat) : Int) := bAy (a := 65536) (b := p) (by omega)
     have u2 : IntKind.u64.wrap (((65536 + p : Nat) : Int) - (q : Int)) = ((65536 + p - q : Nat) : Int) := by rw [w64 (by omega) (by omega)]; omega
     have u3 : IntKind.u64.wrap (((65536 + p - q : Nat) : Int) - (c : Int)) = ((65536 + p - q - c : Nat) : Int) := by rw [w64 (by omega) (by omega)]; omega
     have m1 := bJq (65536 + p - q - c)
     have m2 : IntKind.u64.wrap (((65536 + p - q - c : Nat) : Int).tdiv 65536) = (((65536 + p - q - c) / 65536 : Nat) : Int) := by rw [bUn, uw (by omega)]
     generalize 65536 + p - q - c = n at *
     have m3 : IntKind.u64.wrap (1 - ((n / 65536 : Nat) : Int)) = ((1 - n / 65536 : Nat) : Int) := by rw [w64 (by omega) (by omega)]; omega
     obtain ⟨g5, m6, a1, hG6, hv6⟩ := nQ (t := 113) (t2 := 113) aI3 hG1 (xs := bV (eV i (x - y))) (y := .lst .full 1 (bV [n % 65536])) dC (by have h1 := gD (eV i (x - y)); unfold lim; simp only [gD, List.length_cons, List.length_nil] at h1 ⊢; omega)
     rw [aIc] at a1
     refine go0 ?_
     repeat refine dI ?_
     refine gT (by kernel_rfl) ?_
     refine go1 (jn @f1 (jn @t1 (jn @c2 (jn @u1 (jn @u2 (jn @u3 (jn @m1 (jn @m2 (jn @m3 (jn @a1 @r6)))))))))) ?_
     exact ⟨a.length - (i + 1), by omega, i + 1, 1 - n / 65536, g5, hi1, by omega, n3, hG6, rfl, by rw [hsucc]⟩
    ·have he : i = a.length := by have := of_decide_eq_false hc; omega
     refine go0 ?_
     exact dA rfl (by rw [hend, ← he]; rfl) (eP hG1)
   ·cases h
  ·cases h
 ·cases h
/-! ### Cmp -/
def aJb : List AV → Mem → Option (AV × Mem)
 | [.lst _ 1 r1, .lst _ 1 r2], m =>
  match unW r1, unW r2 with
  | some a, some b => if aEv a b then some (.v (.int .i64 (rW (aU a) (aU b))), m) else none
  | _, _ => none
 | _, _ => none
theorem aKh {g1 g2 : Grow} {a b : List Nat} (h : aEv a b) (m : Mem) : aJb [.lst g1 1 (bV a), .lst g2 1 (bV b)] m = some (.v (.int .i64 (rW (aU a) (aU b))), m) := by
 simp only [aJb, hH]
 exact if_pos h
def bL7 : Nat → Option (List Nat) := fun
 | 0 => some [0, 1]
 | 1 => some [0, 1, 5]
 | 2 => some [0, 1, 5, 12]
 | 3 => some [0, 1, 5]
 | 4 => some [0, 1, 6]
 | 5 => some [0, 1, 6, 18]
 | 6 => some [0, 1, 6]
 | 7 => some [0, 1, 6, 27]
 | 8 => some [4]
 | 9 => some [0, 1, 6, 34]
 | 10 => some [4]
 | 11 => some [4]
 | _ => none
attribute [go_sem] bL7
def aJp : List (FuncId × (List AV → Mem → Option (AV × Mem))) := [(71, zD)]
theorem aK0 : aO Tryz.prog 49 aJb := by
 have hC := aI (P := Tryz.prog) (l := aJp) (aA aEh aF)
 have t1 := taT aJp 71 rfl
 refine aP mixed hC Tryz.func49 rfl bL7 false rfl fun args m r h => ?_
 unfold aJb at h
 split at h
 ·rename_i g1 r1 g2 r2
  split at h
  ·rename_i a b ha0 hb0
   obtain rfl := fB ha0
   obtain rfl := fB hb0
   split at h
   ·rename_i hd
    obtain ⟨ha, hb⟩ := hd
    obtain ⟨oa, la⟩ := eN.1 ha
    obtain ⟨ob, lb⟩ := eN.1 hb
    simp only [Option.some.injEq] at h
    subst h
    refine ⟨nbT, ?_⟩
    refine en ?_
    have hda := nC oa
    have hdb := nC ob
    have va := jJ oa
    have vb := jJ ob
    have cd1 := fun i hi => uH (g := .no) (l := a) (i := i) la hi
    have cd2 := fun i hi => uH (g := .no) (l := b) (i := i) lb hi
    generalize hva : aU a = x at *
    generalize hvb : aU b = y at *
    refine dI ?_
    refine go0 ?_
    have hj : x / 65536 ^ max a.length b.length = y / 65536 ^ max a.length b.length := by
     rw [Nat.div_eq_of_lt (Nat.lt_of_lt_of_le va (Nat.pow_le_pow_right (by decide) (by omega))), Nat.div_eq_of_lt (Nat.lt_of_lt_of_le vb (Nat.pow_le_pow_right (by decide) (by omega)))]
    have hM2 : max a.length b.length ≤ 2000 := by omega
    have wl : a.length < b.length → IntKind.i64.wrap ((b.length : Int) - 1) = ((max a.length b.length : Nat) : Int) - 1 := fun hl => by rw [Nat.max_eq_right (by omega), fC (by omega) (by omega)]
    have wr : ¬ a.length < b.length → IntKind.i64.wrap ((a.length : Int) - 1) = ((max a.length b.length : Nat) : Int) - 1 := fun hl => by rw [Nat.max_eq_left (by omega), fC (by omega) (by omega)]
    generalize max a.length b.length = M at *
    refine aH rfl (fun hc => ?_) (fun hc => ?_)
    have w1 := wl (by have := of_decide_eq_true hc; omega)
    refine go1 @w1 ?_
    rotate_left 1
    have w1 := wr (by have := of_decide_eq_false hc; omega)
    refine go1 @w1 ?_
    all_goals
     refine cE (fun k e m' => ∃ (j : Nat), j ≤ M ∧ m' = m ∧ x / 65536 ^ j = y / 65536 ^ j ∧ k = j ∧
      e = [(0, AV.lst g1 1 (bV a)), (1, .lst g2 1 (bV b)), (6, .v (.int .i64 ((j : Int) - 1)))]) (k := M) ⟨M, Nat.le_refl _, rfl, hj, rfl, rfl⟩ ?_
     rintro j e m' ⟨_, hjM, rfl, hj, rfl, rfl⟩
     refine go0 ?_
     refine aH rfl (fun hc => ?_) (fun hc => ?_)
     ·have hj1 : 1 ≤ j := by have := of_decide_eq_true hc; omega
      obtain ⟨i, rfl⟩ : ∃ i, j = i + 1 := ⟨j - 1, by omega⟩
      have e1 : ((i + 1 : Nat) : Int) - 1 = (i : Int) := by omega
      rw [e1]
      have c1 := cd1 i (by omega)
      have c2 := cd2 i (by omega)
      rw [hda i] at c1
      rw [hdb i] at c2
      refine go1 (jn @t1 (jn @c1 @c2)) ?_
      refine aH rfl (fun hc => ?_) (fun hc => ?_)
      ·have hlt : x < y := bMg hj (by have := of_decide_eq_true hc; omega)
       refine go0 ?_
       exact aY rfl (by unfold rW; rw [if_pos hlt]; rfl)
      ·have h1 := of_decide_eq_false hc
       refine go1 (jn @t1 (jn @c1 @c2)) ?_
       refine aH rfl (fun hc => ?_) (fun hc => ?_)
       ·have hlt : y < x := bMg hj.symm (by have := of_decide_eq_true hc; omega)
        refine go0 ?_
        exact aY rfl (by unfold rW; rw [if_neg (by omega), if_pos hlt]; rfl)
       ·have h2 := of_decide_eq_false hc
        have w2 : IntKind.i64.wrap ((i : Int) - 1) = (i : Int) - 1 := fC (by omega) (by omega)
        refine go1 @w2 ?_
        exact ⟨i, by omega, i, by omega, rfl, bZd hj (by omega), rfl, rfl⟩
     ·have hj0 : j = 0 := by have := of_decide_eq_false hc; omega
      subst hj0
      have he : x = y := by simpa using hj
      refine go0 ?_
      exact aY rfl (by unfold rW; rw [if_neg (by omega), if_neg (by omega)]; rfl)
   ·cases h
  ·cases h
 ·cases h
/-! ### Twos -/
def aL4 : List AV → Mem → Option (AV × Mem)
 | [.v (.int .i64 (.ofNat n))], m => if n ≤ 1000 then some (.lst .no 1 (bV (fW n)), m) else none
 | _, _ => none
theorem bFx {n : Nat} (h : n ≤ 1000) (m : Mem) : aL4 [.v (.int .i64 (n : Int))] m = some (.lst .no 1 (bV (fW n)), m) := if_pos h
def bR2 : Nat → Option (List Nat) := fun
 | 0 => some [0]
 | 1 => some [0, 3]
 | 2 => some [0, 3, 4]
 | 3 => some [0, 3, 4, 8]
 | 4 => some [0, 3, 4]
 | 5 => some [0, 3, 4]
 | 6 => some [2]
 | _ => none
attribute [go_sem] bR2
def aJn : List (FuncId × (List AV → Mem → Option (AV × Mem))) := [(57, aJs)]
theorem bGv : aO Tryz.prog 44 aL4 := by
 have hC := aI (P := Tryz.prog) (l := aJn) (aA aF3 aF)
 have t1 := taT aJn 57 rfl
 refine aP mixed hC Tryz.func44 rfl bR2 false rfl fun args m r h => ?_
 unfold aL4 at h
 split at h
 ·rename_i n
  split at h
  ·rename_i hn
   simp only [Option.some.injEq] at h
   subst h
   have hof : ∀ n : Nat, Int.ofNat n = (n : Int) := fun _ => rfl
   rw [hof]
   refine ⟨nbT, ?_⟩
   refine en ?_
   refine go0 ?_
   refine cE (fun k e m' => ∃ (i : Nat) (g : Grow), i ≤ n ∧ m' = m ∧ k = n - i ∧
    e = [(0, AV.v (.int .i64 (n : Int))), (3, .lst g 1 (bV (fW i))), (4, .v (.int .i64 (i : Int)))]) (k := n) ⟨0, _, Nat.zero_le _, rfl, rfl, rfl⟩ ?_
   rintro k e m' ⟨i, g, hi, rfl, rfl, rfl⟩
   refine go0 ?_
   refine aH rfl (fun hc => ?_) (fun hc => ?_)
   ·have hi1 : i < n := by have := of_decide_eq_true hc; omega
    have r6 := cP (i := i) (by omega)
    have hl := aBh i
    have c1 := sN (g1 := .no) (g2 := .no) (a := fW i) (b := fW i) ⟨eN.2 ⟨rX i, by omega⟩, eN.2 ⟨rX i, by omega⟩⟩
    have hs : dG (fW i) (fW i) = fW (i + 1) := rfl
    rw [hs] at c1
    refine go1 (jn @t1 (jn @c1 @r6)) ?_
    exact ⟨n - (i + 1), by omega, i + 1, .no, hi1, rfl, rfl, rfl⟩
   ·have he : i = n := by have := of_decide_eq_false hc; omega
    subst he
    refine go0 ?_
    exact dA rfl rfl (bU _)
  ·cases h
 ·cases h
end
noncomputable section
attribute [local irreducible] Next aW cF Ops bQ
attribute [local irreducible] bE dH eZ eC
attribute [local go_sem] cO bP szW Option.getD_some cJ aT aV List.cons_append gD bH5 bIc aQg aSv bK1 ldW aPf aPh aO9 zrP zoP znP aD2 qS
/-! ### a list of words in a variable -/
def wC (b : List Nat) : List AV := b.map fun x => .v (.int .u64 ((x : Nat) : Int))
theorem bNl (b : List Nat) : (wC b).length = b.length := List.length_map ..
theorem bWq {r n i : Nat} {kk : IntKind} (hi : i < n) : cI Tryz.prog 113 (.vs r 0 1 n n) (.v (.int kk (i : Int))) = some (.ptr r i) := by
 unfold cI
 simp only [cBh, bYu, szW]
 rw [if_pos ⟨trivial, by omega, by omega⟩, Int.toNat_natCast]
 simp
theorem aSj : ∀ (l : List Nat) (i : Nat) (v : Nat), i < l.length → cB (wC l) i [.v (.int .u64 (v : Int))] = wC (l.set i v)
 | [], i, v, h => by simp at h
 | a :: l, 0, v, _ => by simp [cB, wC]
 | a :: l, i + 1, v, h => by
  have := aSj l i v (by simpa using h)
  simp only [cB, wC, List.map_cons, List.length_cons, List.length_nil, List.take_succ_cons, List.set_cons_succ] at this ⊢
  rw [show i + 1 + (0 + 1) = (i + (0 + 1)) + 1 by omega, List.drop_succ_cons]
  simpa using this
theorem bQt {m : Mem} {r i : Nat} {b : List Nat} {v : Nat} (hv : m.var r = some (wC b)) (hi : i < b.length) : aR Tryz.prog m 124 (.ptr r i) (.v (.int .u64 (v : Int))) = some (bO m r (wC (b.set i v))) :=
 aS (cs := [.v (.int .u64 (v : Int))]) hv szW rfl rfl (by rw [bNl]; omega) rfl (aSj b i v hi)
theorem bWt {m : Mem} {r i : Nat} {b : List Nat} (hv : m.var r = some (wC b)) (hi : i < b.length) : aL Tryz.prog m 124 (.ptr r i) = some (.v (.int .u64 ((b.getD i 0 : Nat) : Int))) :=
 aK (k := 1) hv (by kernel_rfl) (by kernel_rfl) (by
  rw [List.head?_drop]
  simp [wC, List.getD, List.getElem?_eq_getElem hi])
theorem bYd {n : Nat} (h : n ≤ 4294967296) : gE Tryz.prog 113 (.v (.int .i64 (n : Int))) (.v (.int .i64 (n : Int))) = some (wC (List.replicate n 0), 1, n) := by
 have hb : lA Tryz.prog 124 = some 8 := by kernel_rfl
 have hz : zeroCells Tryz.prog 124 = some [.v (.int .u64 0)] := by kernel_rfl
 unfold gE
 simp only [bYu, szW, hb, hz]
 rw [if_pos ⟨rfl, trivial, by omega, by omega, by omega⟩, Int.toNat_natCast]
 simp [wC]
theorem cCx {m : Mem} {l : List Nat} : newVar m m.vars.length (wC l) = some (m.push (wC l)) := bF (by
 rw [List.all_eq_true]
 intro c hc
 obtain ⟨n, _, rfl⟩ := List.mem_map.1 hc
 rfl)
theorem aXf : ∀ b : List Nat, (wC b).mapM gF = some (wC b)
 | [] => rfl
 | x :: b => by
  have := aXf b
  unfold wC at this ⊢
  rw [List.map_cons, List.mapM_cons]
  simp only [show gF (AV.v (Value.int .u64 (x : Int))) = some (AV.v (Value.int .u64 (x : Int))) from rfl, this, Option.pure_def, Option.bind_eq_bind, Option.bind_some]
theorem bCn {P : Program} {fn : Func} {m m' : Mem} {e : Env} {t : Tmp} {b : List Nat} {r n : Nat} (h : fn.results = #[.tmp t]) (hg : Ev.get e t = .vs r 0 1 n n) (hr : m.vars.length ≤ r) (hv : m'.var r = some (wC b)) (hn : n = b.length) (hm : bI m m' = m) :
  cZ P false fn m (.lst .no 1 (bV b), m) .ret e m' := by
 show dL P false fn m e m' = _
 unfold dL
 rw [h]
 have hnr : ¬ r < m.vars.length := by omega
 simp only [dP, hg, Option.bind_some, kJ, fP, hnr, if_false, hv, hn, bNl, and_self, if_true, aXf, Option.map_some, hm]
 simp [tV, wC, bV]
/-! ### Times -/
def aG7 : List AV → Mem → Option (AV × Mem)
 | [.lst _ 1 r1, .lst _ 1 r2], m =>
  match unW r1, unW r2 with
  | some a, some b => if aEv a b then some (.lst .no 1 (bV (oB a b)), m) else none
  | _, _ => none
 | _, _ => none
theorem aY7 {g1 g2 : Grow} {a b : List Nat} (h : aEv a b) (m : Mem) : aG7 [.lst g1 1 (bV a), .lst g2 1 (bV b)] m = some (.lst .no 1 (bV (oB a b)), m) := by
 simp only [aG7, hH]
 exact if_pos h
def bGo : Nat → Option (List Nat) := fun
 | 0 => some [0, 1]
 | 1 => some [0, 1, 5]
 | 2 => some [0, 1, 5, 6]
 | 3 => some [0, 1, 5, 6, 19]
 | 4 => some [0, 1, 5, 6]
 | 5 => some [0, 1, 5, 6, 7]
 | 6 => some [0, 1, 5, 6, 7, 8]
 | 7 => some [0, 1, 5, 6, 7, 8, 25]
 | 8 => some [0, 1, 5, 6, 7, 8]
 | 9 => some [0, 1, 5, 6, 8, 9]
 | 10 => some [0, 1, 5, 6, 8, 9]
 | 11 => some [0, 1, 5, 6, 7, 8]
 | 12 => some [0, 1, 5, 6]
 | 13 => some [4]
 | _ => none
attribute [go_sem] bGo
theorem aP6 : aO Tryz.prog 40 aG7 := by
 have hC := aI (P := Tryz.prog) (l := []) aF
 refine aP mixed hC Tryz.func40 rfl bGo false rfl fun args m r h => ?_
 unfold aG7 at h
 split at h
 ·rename_i g1 r1 g2 r2
  split at h
  ·rename_i a b ha0 hb0
   obtain rfl := fB ha0
   obtain rfl := fB hb0
   split at h
   ·rename_i hd
    obtain ⟨ha, hb⟩ := hd
    obtain ⟨oa, la⟩ := eN.1 ha
    obtain ⟨ob, lb⟩ := eN.1 hb
    simp only [Option.some.injEq] at h
    subst h
    refine ⟨nbT, ?_⟩
    refine en ?_
    have va := jJ oa
    have vb := jJ ob
    have hend := bOa (lb := b.length) va (vb := aU b)
    have hml := bPl (a.length + b.length) (aU a) (aU b)
    have hfin : oB a b = eV (a.length + b.length) (aU a * aU b) := rfl
    have w0 : IntKind.i64.wrap ((a.length : Int) + (b.length : Int)) = ((a.length + b.length : Nat) : Int) := by rw [fC (by omega) (by omega)]; omega
    have mk := bYd (n := a.length + b.length) (by omega)
    have nw := cCx (m := m) (l := List.replicate (a.length + b.length) 0)
    have v1 : (m.push (wC (List.replicate (a.length + b.length) 0))).var m.vars.length = some (wC (List.replicate (a.length + b.length) 0)) := aJ
    have hA := aG (cs := wC (List.replicate (a.length + b.length) 0)) (aM m)
    rw [← bZm (a.length + b.length) (aU a) (aU b)] at v1 mk hA nw
    refine go1 (jn @w0 (jn @mk @nw)) ?_
    generalize m.push (wC (zP (a.length + b.length) (aU a) (aU b) 0 0)) = m1 at v1 hA
    generalize hr5 : m.vars.length = r5 at v1
    have hr : m.vars.length ≤ r5 := Nat.le_of_eq hr5
    have hda := nC oa
    have hdb := nC ob
    generalize hN : a.length + b.length = N at *
    generalize hva : aU a = x at *
    generalize hvb : aU b = y at *
    refine cE (fun k e m' => ∃ (i : Nat), i ≤ a.length ∧ Above m m' ∧ m'.var r5 = some (wC (zP N x y i 0)) ∧ k = a.length - i ∧
     e = [(0, AV.lst g1 1 (bV a)), (1, .lst g2 1 (bV b)), (5, .vs r5 0 1 N N), (6, .v (.int .i64 (i : Int)))]) (k := a.length) ⟨0, Nat.zero_le _, hA, v1, rfl, rfl⟩ ?_
    rintro _ e m1 ⟨i, hi, hA1, v1, rfl, rfl⟩
    refine go0 ?_
    refine aH rfl (fun hc => ?_) (fun hc => ?_)
    ·have hi1 : i < a.length := by have := of_decide_eq_true hc; omega
     have r6 := cP (i := i) (by omega)
     refine go0 ?_
     refine cE (fun k e m' => ∃ (j c : Nat), j ≤ b.length ∧ c ≤ 65535 ∧ aV3 x y i j c ∧ Above m m' ∧ m'.var r5 = some (wC (zP N x y i j)) ∧ k = b.length - j ∧
      e = [(0, AV.lst g1 1 (bV a)), (1, .lst g2 1 (bV b)), (5, .vs r5 0 1 N N), (6, .v (.int .i64 (i : Int))), (7, .v (.int .u64 (c : Int))), (8, .v (.int .i64 (j : Int)))]) (k := b.length) ⟨0, 0, Nat.zero_le _, Nat.zero_le _, bXu x y i, hA1, v1, rfl, rfl⟩ ?_
     rintro _ e m2 ⟨j, c, hj, hc1, hcar, hA2, v2, rfl, rfl⟩
     refine go0 ?_
     refine aH rfl (fun hc => ?_) (fun hc => ?_)
     ·have hj1 : j < b.length := by have := of_decide_eq_true hc; omega
      have r8 := cP (i := j) (by omega)
      have wi : IntKind.i64.wrap ((i : Int) + (j : Int)) = ((i + j : Nat) : Int) := by rw [fC (by omega) (by omega)]; omega
      have q1 := bWq (r := r5) (n := N) (i := i + j) (kk := .i64) (by omega)
      have q2 := bWt v2 (i := i + j) (by rw [hml]; omega)
      rw [aXc (by omega) (by omega)] at q2
      have q3 := bLa (g := g1) (kk := .i64) hi1
      have q4 := bLa (g := g2) (kk := .i64) hj1
      rw [hda i] at q3
      rw [hdb j] at q4
      obtain ⟨n1, n2, n3, n4⟩ := bLl hcar hc1 rfl
      have hset := bLt (n := N) (i := i) (k := j) (by omega) n1
      have b1 : x / 65536 ^ i % 65536 ≤ 65535 := Nat.le_of_lt_succ (Nat.mod_lt _ (by decide))
      have b2 : y / 65536 ^ j % 65536 ≤ 65535 := Nat.le_of_lt_succ (Nat.mod_lt _ (by decide))
      have b3 : uZ x y i / 65536 ^ (i + j) % 65536 ≤ 65535 := Nat.le_of_lt_succ (Nat.mod_lt _ (by decide))
      generalize x / 65536 ^ i % 65536 = p at *
      generalize y / 65536 ^ j % 65536 = q at *
      generalize uZ x y i / 65536 ^ (i + j) % 65536 = s at *
      have hpq : p * q ≤ 65535 * 65535 := Nat.mul_le_mul b1 b2
      have u1 : IntKind.u64.wrap ((p : Int) * (q : Int)) = ((p * q : Nat) : Int) := uw (n := p * q) (by omega)
      generalize p * q = pq at *
      have u2 := bAy (a := s) (b := pq) (by omega)
      have u3 := bAy (a := s + pq) (b := c) (by omega)
      have m3 := bJq (s + pq + c)
      have m4 : IntKind.u64.wrap (((s + pq + c : Nat) : Int).tdiv 65536) = (((s + pq + c) / 65536 : Nat) : Int) := by rw [bUn, uw (by omega)]
      have st := bQt v2 (i := i + j) (v := (s + pq + c) % 65536) (by rw [hml]; omega)
      rw [hset] at st
      generalize s + pq + c = n at *
      refine go0 ?_
      repeat refine dI ?_
      refine gT (by kernel_rfl) ?_
      refine go1 (jn @wi (jn @q1 (jn @q2 (jn @q3 (jn @q4 (jn @u1 (jn @u2 (jn @u3 (jn @m3 (jn @m4 (jn @st @r8))))))))))) ?_
      exact ⟨b.length - (j + 1), by omega, j + 1, n / 65536, hj1, n3, n2, bD hA2 hr, bA v2, rfl, rfl⟩
     ·have he : j = b.length := by have := of_decide_eq_false hc; omega
      subst he
      have wi : IntKind.i64.wrap ((i : Int) + (b.length : Int)) = ((i + b.length : Nat) : Int) := by rw [fC (by omega) (by omega)]; omega
      have q1 := bWq (r := r5) (n := N) (i := i + b.length) (kk := .i64) (by omega)
      have q2 := bWt v2 (i := i + b.length) (by rw [hml]; omega)
      have hz : uZ x y i / 65536 ^ (i + b.length) % 65536 = 0 := by rw [Nat.div_eq_of_lt (aT8 vb)]
      rw [aXc (by omega) (by omega), hz] at q2
      have hset := bJ8 (n := N) vb hcar (by omega)
      rw [Nat.mod_eq_of_lt (by omega)] at hset
      have u1 : IntKind.u64.wrap (((0 : Nat) : Int) + (c : Int)) = (c : Int) := by rw [w64 (by omega) (by omega)]; omega
      have st := bQt v2 (i := i + b.length) (v := c) (by rw [hml]; omega)
      rw [hset] at st
      refine go1 (jn @wi (jn @q1 (jn @q2 (jn @u1 (jn @st @r6))))) ?_
      exact ⟨a.length - (i + 1), by omega, i + 1, hi1, bD hA2 hr, bA v2, rfl, rfl⟩
    ·have he : i = a.length := by have := of_decide_eq_false hc; omega
     subst he
     refine go0 ?_
     rw [hend] at v1
     exact bCn rfl rfl (by omega) (by rw [hfin]; exact v1) (by rw [hfin, gK]) (aC hA1)
   ·cases h
  ·cases h
 ·cases h
/-! ### Odd -/
def bNv : List AV → Mem → Option (AV × Mem)
 | [.lst _ 1 r1], m =>
  match unW r1 with
  | some a => if okW a = true then some (.v (.bool (decide (aU a % 2 = 1))), m) else none
  | _ => none
 | _, _ => none
theorem bZw {g1 : Grow} {a : List Nat} (h : okW a = true) (m : Mem) : bNv [.lst g1 1 (bV a)] m = some (.v (.bool (decide (aU a % 2 = 1))), m) := by
 simp only [bNv, hH]
 exact if_pos h
def bW0 : Nat → Option (List Nat) := fun
 | 0 => some [0]
 | 1 => some [2]
 | _ => none
attribute [go_sem] bW0
theorem bY8 : aO Tryz.prog 58 bNv := by
 have hC := aI (P := Tryz.prog) (l := []) aF
 refine aP mixed hC Tryz.func58 rfl bW0 false rfl fun args m r h => ?_
 unfold bNv at h
 split at h
 ·rename_i g1 r1
  split at h
  ·rename_i a ha0
   obtain rfl := fB ha0
   split at h
   ·rename_i ha
    obtain ⟨oa, la⟩ := eN.1 ha
    simp only [Option.some.injEq] at h
    subst h
    refine ⟨nbT, ?_⟩
    refine en ?_
    have hda := nC oa 0
    rw [Nat.pow_zero, Nat.div_one] at hda
    cases h1 : decide ((a.length : Int) > 0) with
    | false =>
     have hl : a = [] := List.eq_nil_of_length_eq_zero (by have := of_decide_eq_false h1; omega)
     refine go1 @h1 ?_
     subst hl
     exact aY rfl rfl
    | true =>
     have q1 := bLa (g := g1) (kk := .i64) (l := a) (i := 0) (by have := of_decide_eq_true h1; omega)
     rw [hda] at q1
     have e : aU a % 65536 % 2 = aU a % 2 := by omega
     have m1 : ((aU a % 65536 : Nat) : Int).tmod 2 = ((aU a % 2 : Nat) : Int) := by rw [show ((aU a % 65536 : Nat) : Int).tmod 2 = ((aU a % 65536 % 2 : Nat) : Int) from rfl, e]
     rw [show ((0 : Nat) : Int) = 0 from rfl] at q1
     refine go1 (jn @h1 (jn @q1 @m1)) ?_
     refine aY rfl ?_
     show AV.v (.bool _) = _
     congr 2
     rw [Bool.eq_iff_iff]
     simp only [decide_eq_true_eq, beq_iff_eq]
     omega
   ·cases h
  ·cases h
 ·cases h
end
noncomputable section
attribute [local irreducible] Next aW cF Ops bQ
attribute [local irreducible] bE dH eZ eC
attribute [local go_sem] cO bP szW Option.getD_some cJ aT aV List.cons_append gD bH5 bIc aQg aSv bK1 ldW aPf aPh aO9 zrP zoP znP aD2 qS
/-! ### Mod -/
def pR (V j : Nat) : Nat := if 4 ≤ j then V / 65536 ^ j % 65536 ^ (8 - j) else V / 65536 ^ 4 % 65536 ^ 4
def pO (V j : Nat) : Nat := if 4 ≤ j then 0 else V / 65536 ^ j % 65536 ^ (4 - j)
theorem aWo (V j k : Nat) : V / 65536 ^ (j + 1) % 65536 ^ k * 65536 + V / 65536 ^ j % 65536 = V / 65536 ^ j % 65536 ^ (k + 1) := by
 rw [dV, Nat.pow_succ', Nat.mod_mul]
 omega
theorem bJv {V j : Nat} (h : 4 ≤ j) (h2 : j < 8) : pR V (j + 1) * 65536 + V / 65536 ^ j % 65536 = pR V j := by
 unfold pR
 rw [if_pos (by omega), if_pos h, show 8 - j = (8 - (j + 1)) + 1 by omega, aWo]
theorem bKs {V j : Nat} (h : j < 4) : pO V (j + 1) * 65536 + V / 65536 ^ j % 65536 = pO V j := by
 unfold pO
 rw [if_neg (by omega : ¬ 4 ≤ j)]
 by_cases h3 : j = 3
 ·subst h3
  rw [if_pos (by omega)]
  simp
 ·rw [if_neg (by omega), show 4 - j = (4 - (j + 1)) + 1 by omega, aWo]
theorem bIi {V j : Nat} (h : j < 4) : pR V (j + 1) = pR V j := by
 unfold pR
 rw [if_neg (by omega : ¬ 4 ≤ j)]
 by_cases h3 : j = 3
 ·subst h3
  rw [if_pos (by omega)]
 ·rw [if_neg (by omega)]
theorem bKv {V j : Nat} (h : 4 ≤ j) : pO V (j + 1) = pO V j := by
 unfold pO
 rw [if_pos h, if_pos (by omega)]
theorem aRz {k : Nat} (h : k ≤ 4) : 65536 ^ k ≤ 18446744073709551616 := by
 have : 65536 ^ k ≤ 65536 ^ 4 := Nat.pow_le_pow_right (by decide) h
 exact this
theorem bGm (V j : Nat) : pR V j < 18446744073709551616 := by
 unfold pR
 split
 ·exact Nat.lt_of_lt_of_le (Nat.mod_lt _ (Nat.pow_pos (by decide))) (aRz (by omega))
 ·exact Nat.mod_lt _ (by decide)
theorem bEj (V j : Nat) : pO V j < 18446744073709551616 := by
 unfold pO
 split
 ·decide
 ·exact Nat.lt_of_lt_of_le (Nat.mod_lt _ (Nat.pow_pos (by decide))) (aRz (by omega))
theorem bYl (V : Nat) : pO V 0 = V % 18446744073709551616 := by
 unfold pO
 rw [if_neg (by decide), Nat.pow_zero, Nat.div_one]
def aV6 : List AV → Mem → Option (AV × Mem)
 | [.lst _ 1 r1], m =>
  match unW r1 with
  | some a => if okW a = true then some (.agg [uv ((pR (aU a) 0 : Nat) : Int), uv ((pO (aU a) 0 : Nat) : Int)], m) else none
  | _ => none
 | _, _ => none
theorem bTd {g1 : Grow} {a : List Nat} (h : okW a = true) (m : Mem) : aV6 [.lst g1 1 (bV a)] m = some (.agg [.v (.int .u64 ((pR (aU a) 0 : Nat) : Int)), .v (.int .u64 ((pO (aU a) 0 : Nat) : Int))], m) := by
 simp only [aV6, hH]
 exact if_pos h
theorem cC1 {m : Mem} {r : Nat} {x y z : Int} (hv : m.var r = some [.v (.int .u64 x), .v (.int .u64 y)]) : aR Tryz.prog m 124 (.ptr r 0) (.v (.int .u64 z)) = some (m.putv r [.v (.int .u64 z), .v (.int .u64 y)]) :=
 aS (off := 0) (cs := [.v (.int .u64 z)]) hv szW rfl rfl nbT rfl rfl
theorem cEz {m : Mem} {r : Nat} {x y z : Int} (hv : m.var r = some [.v (.int .u64 x), .v (.int .u64 y)]) : aR Tryz.prog m 124 (.ptr r 1) (.v (.int .u64 z)) = some (m.putv r [.v (.int .u64 x), .v (.int .u64 z)]) :=
 aS (off := 1) (cs := [.v (.int .u64 z)]) hv szW rfl rfl nbT rfl rfl
def aAu : Nat → Option (List Nat) := fun
 | 0 => some [0, 2]
 | 1 => some [0, 2, 3]
 | 2 => some [0, 2, 3, 4]
 | 3 => some [0, 2, 3, 4, 7]
 | 4 => some [0, 2, 3, 4]
 | 5 => some [0, 2, 3, 4, 11]
 | 6 => some [0, 2, 3, 4]
 | 7 => some [0, 2, 3, 4]
 | 8 => some [2]
 | _ => none
attribute [go_sem] aAu
theorem bTe : aO Tryz.prog 51 aV6 := by
 have hC := aI (P := Tryz.prog) (l := [(71, zD)]) (aA aEh aF)
 have t1 := taT [(71, zD)] 71 rfl
 refine dJ Tryz.func51 rfl false rfl fun args m r h => ?_
 unfold aV6 at h
 split at h
 ·rename_i g1 r1
  split at h
  ·rename_i a ha0
   obtain rfl := fB ha0
   split at h
   ·rename_i ha
    obtain ⟨oa, la⟩ := eN.1 ha
    simp only [Option.some.injEq] at h
    subst h
    refine ⟨nbT, fun φ wd => ?_⟩
    refine en ?_
    have hda := nC oa
    generalize hV : aU a = V at *
    have n0 : newVar m m.vars.length dE = some (m.push dE) := znP
    have n1 : newVar (m.push dE) (m.push dE).vars.length dE = some ((m.push dE).push dE) := znP
    have hA := aG (cs := dE) (aG (cs := dE) (aM m))
    have v2 : ((m.push dE).push dE).var m.vars.length = some [.v (.int .u64 0), .v (.int .u64 0)] := aQ aJ
    have v3 : ((m.push dE).push dE).var (m.push dE).vars.length = some [.v (.int .u64 0), .v (.int .u64 0)] := aJ
    have hne : m.vars.length ≠ (m.push dE).vars.length := by rw [cH]; omega
    have hge : m.vars.length ≤ (m.push dE).vars.length := by rw [cH]; omega
    have hr2 := Nat.le_refl m.vars.length
    have s0 := stP (x := 0) (y := 0) v3
    have e0 : bO ((m.push dE).push dE) (m.push dE).vars.length [.v (.int .u64 0), .v (.int .u64 0)] = (m.push dE).push dE := lH
    rw [e0] at s0
    have bz : cN Tryz.prog 126 [] = some (.agg [.v (.int .u64 0), .v (.int .u64 0)]) := by kernel_rfl
    refine xq ?_
    refine aB (kp := aAu) mixed hC ?_
    refine go1 @n0 ?_
    refine xq ?_
    refine aB (kp := aAu) mixed hC ?_
    refine go1 (jn @bz (jn @n1 @s0)) ?_
    refine xq ?_
    refine aB (kp := aAu) mixed hC ?_
    refine go0 ?_
    refine xq ?_
    generalize (m.push dE).push dE = m2 at v2 v3 hA
    generalize (m.push dE).vars.length = r3 at v3 hne hge
    generalize hr : m.vars.length = r2 at v2 hne
    have g2 : m.vars.length ≤ r2 := Nat.le_of_eq hr
    have z0 : pR V 8 = 0 := by unfold pR; rw [if_pos (by decide)]; exact Nat.mod_one _
    have z1 : pO V 8 = 0 := rfl
    refine wZ (fun k e m' F => ∃ (j : Nat), j ≤ 8 ∧ F = [] ∧ Above m m' ∧ m'.var r2 = some [.v (.int .u64 0), .v (.int .u64 0)] ∧ m'.var r3 = some [.v (.int .u64 ((pR V j : Nat) : Int)), .v (.int .u64 ((pO V j : Nat) : Int))] ∧ k = j ∧
     e = [(0, AV.lst g1 1 (bV a)), (2, .ptr r2 0), (3, .ptr r3 0), (4, .v (.int .i64 ((j : Int) - 1)))]) (k := 8) ⟨8, Nat.le_refl _, rfl, hA, v2, by rw [z0, z1]; exact v3, rfl, rfl⟩ ?_
    rintro j e m' F ⟨_, hj8, rfl, hA2, w2, w3, rfl, rfl⟩
    refine xq ?_
    refine aB (kp := aAu) mixed hC ?_
    refine go0 ?_
    refine xq ?_
    refine cK rfl (fun hc => ?_) (fun hc => ?_)
    ·have hj1 : 1 ≤ j := by have := of_decide_eq_true hc; omega
     obtain ⟨i, rfl⟩ : ∃ i, j = i + 1 := ⟨j - 1, by omega⟩
     have e1 : ((i + 1 : Nat) : Int) - 1 = (i : Int) := by omega
     rw [e1]
     have c1 := uH (g := .no) (l := a) (i := i) la (by omega)
     rw [hda i] at c1
     have b1 := bGm V (i + 1)
     have b2 := bEj V (i + 1)
     have b3 := bGm V i
     have b4 := bEj V i
     have b5 : V / 65536 ^ i % 65536 < 65536 := Nat.mod_lt _ (by decide)
     have r6 : IntKind.i64.wrap ((i : Int) - 1) = (i : Int) - 1 := fC (by omega) (by omega)
     refine xq ?_
     refine aB (kp := aAu) mixed hC ?_
     refine go0 ?_
     refine xq ?_
     refine cK rfl (fun hc2 => ?_) (fun hc2 => ?_)
     ·have hi4 : 4 ≤ i := by have := of_decide_eq_true hc2; omega
      have hs := bJv (V := V) hi4 (by omega)
      have hsame := bKv (V := V) hi4
      have l0 := bVi w3
      have st := cC1 (z := ((pR V i : Nat) : Int)) w3
      have l5 := bA (cs := [.v (.int .u64 ((pR V i : Nat) : Int)), .v (.int .u64 ((pO V (i + 1) : Nat) : Int))]) w3
      have l6 := cD (cs := [.v (.int .u64 ((pR V i : Nat) : Int)), .v (.int .u64 ((pO V (i + 1) : Nat) : Int))]) w2 hne
      rw [hsame] at l5 l6 st
      generalize V / 65536 ^ i % 65536 = d at *
      have u1 : IntKind.u64.wrap (((pR V (i + 1) : Nat) : Int) * 65536) = ((pR V (i + 1) * 65536 : Nat) : Int) := uw (n := pR V (i + 1) * 65536) (by omega)
      have u2 := bAy (a := pR V (i + 1) * 65536) (b := d) (by omega)
      rw [hs] at u2
      refine xq ?_
      refine bN (l2 := aAu 6) mixed hC (by kernel_rfl) ?_
      refine eJ (jn @l0 (jn @t1 (jn @c1 (jn @u1 (jn @u2 @st))))) ?_
      refine xq ?_
      refine aB (kp := aAu) mixed hC ?_
      refine go1 @r6 ?_
      refine xq ?_
      exact ⟨i, by omega, i, by omega, rfl, bD hA2 hge, l6, l5, rfl, rfl⟩
     ·have hi4 : i < 4 := by have := of_decide_eq_false hc2; omega
      have hs := bKs (V := V) hi4
      have hsame := bIi (V := V) hi4
      have l0 := bLp w3
      have st := cEz (z := ((pO V i : Nat) : Int)) w3
      have l5 := bA (cs := [.v (.int .u64 ((pR V (i + 1) : Nat) : Int)), .v (.int .u64 ((pO V i : Nat) : Int))]) w3
      have l6 := cD (cs := [.v (.int .u64 ((pR V (i + 1) : Nat) : Int)), .v (.int .u64 ((pO V i : Nat) : Int))]) w2 hne
      rw [hsame] at l5 l6 st
      generalize V / 65536 ^ i % 65536 = d at *
      have u1 : IntKind.u64.wrap (((pO V (i + 1) : Nat) : Int) * 65536) = ((pO V (i + 1) * 65536 : Nat) : Int) := uw (n := pO V (i + 1) * 65536) (by omega)
      have u2 := bAy (a := pO V (i + 1) * 65536) (b := d) (by omega)
      rw [hs] at u2
      refine xq ?_
      refine bN (l2 := aAu 7) mixed hC (by kernel_rfl) ?_
      refine eJ (jn @l0 (jn @t1 (jn @c1 (jn @u1 (jn @u2 @st))))) ?_
      refine xq ?_
      refine aB (kp := aAu) mixed hC ?_
      refine go1 @r6 ?_
      refine xq ?_
      exact ⟨i, by omega, i, by omega, rfl, bD hA2 hge, l6, l5, rfl, rfl⟩
    ·have hj0 : j = 0 := by have := of_decide_eq_false hc; omega
     subst hj0
     have k3 := vrP w3
     have st := stP (x := ((pR V 0 : Nat) : Int)) (y := ((pO V 0 : Nat) : Int)) w2
     refine xq ?_
     refine aB (kp := aAu) mixed hC ?_
     refine go1 (jn @k3 @st) ?_
     refine xq ?_
     exact aX (eK rfl (vrP (bA w2)) rfl (aC (bD hA2 g2)))
   ·cases h
  ·cases h
 ·cases h
end
end Go.Proofs.YtmockbddhhmmeaaGreat.Ev

/- Bytes: the number that bytes begin with; plain laws. -/
import Derived.Test.YtbehhlbcffbkoaaSeL
namespace Go.Proofs.Ytbehhlbcffbkoaa.Ev
open Go Go.Proofs
set_option maxRecDepth 10000
set_option linter.unusedVariables false
set_option linter.unusedSimpArgs false
/-- The number that bytes begin with, and how many they are. -/
def getL : List Nat → Nat → Nat → Int × Nat
  | [], _, _ => (0, 0)
  | c :: r, i, x =>
    if i = 10 ∨ (i = 9 ∧ 1 < c) then (0, 0)
    else if 128 ≤ c then getL r (i + 1) (x + c % 128 * 128 ^ i)
    else if c = 0 ∧ 0 < i then (0, 0)
    else (unfoldOf (x + c % 128 * 128 ^ i), i + 1)
def getOf (b : List Nat) : Int × Nat := getL b 0 0
def valB : List Nat → Nat
  | [] => 0
  | c :: l => c % 128 + 128 * valB l
theorem p64 : (18446744073709551616 : Nat) = 2 * 128 ^ 9 := by decide
theorem pow_big {i : Nat} (h : 10 ≤ i) : 18446744073709551616 ≤ 128 ^ i := Nat.le_trans (by decide) (Nat.pow_le_pow_right (by decide) h)
theorem getL_code (rest : List Nat) : ∀ (y i x : Nat), x + 128 ^ i * y < 18446744073709551616 → (y = 0 → i = 0) → getL (codeB y ++ rest) i x = (unfoldOf (x + 128 ^ i * y), i + (codeB y).length) := by
  intro y
  induction y using Nat.strongRecOn with
  | _ y ih =>
    intro i x hlt h0
    by_cases hy : y < 128
    · rw [codeB_lt hy]
      show getL (y :: rest) i x = _
      have hi : ¬ (i = 10 ∨ (i = 9 ∧ 1 < y)) := by
        rintro (rfl | ⟨rfl, h1⟩)
        · have : 1 ≤ y := by
            rcases Nat.eq_zero_or_pos y with h | h
            · exact absurd (h0 h) (by decide)
            · exact h
          have : 128 ^ 10 * 1 ≤ 128 ^ 10 * y := Nat.mul_le_mul_left _ this
          omega
        · have : 128 ^ 9 * 2 ≤ 128 ^ 9 * y := Nat.mul_le_mul_left _ h1
          omega
      have hz : ¬ (y = 0 ∧ 0 < i) := fun ⟨h1, h2⟩ => by have := h0 h1; omega
      rw [getL, if_neg hi, if_neg (by omega), if_neg hz, Nat.mod_eq_of_lt hy, Nat.mul_comm y]
      rfl
    · rw [codeB_ge hy]
      show getL ((y % 128 + 128) :: (codeB (y / 128) ++ rest)) i x = _
      have hi : ¬ (i = 10 ∨ (i = 9 ∧ 1 < y % 128 + 128)) := by
        have hb : 128 ^ i * 128 ≤ 128 ^ i * y := Nat.mul_le_mul_left _ (by omega)
        rintro (rfl | ⟨rfl, h1⟩) <;> omega
      have e1 : 128 ^ (i + 1) * (y / 128) + y % 128 * 128 ^ i = 128 ^ i * y := by
        have := Nat.div_add_mod y 128
        calc 128 ^ (i + 1) * (y / 128) + y % 128 * 128 ^ i = 128 ^ i * (128 * (y / 128) + y % 128) := by rw [Nat.pow_succ, Nat.mul_add, Nat.mul_assoc, Nat.mul_comm (y % 128)]
          _ = 128 ^ i * y := by rw [this]
      have e2 : (y % 128 + 128) % 128 = y % 128 := by omega
      rw [getL, if_neg hi, if_pos (by omega), e2, ih (y / 128) (by omega) (i + 1) _ (by omega) (by omega)]
      simp only [List.length_cons]
      congr 1
      · congr 1
        omega
      · omega
theorem getL_conv : ∀ (l : List Nat) (i x : Nat) (v : Int) (n : Nat), i ≤ 10 → x < 128 ^ i → OkB l → getL l i x = (v, n) → n ≠ 0 →
    ∃ y rest, l = codeB y ++ rest ∧ x + 128 ^ i * y < 18446744073709551616 ∧ (0 < i → y ≠ 0) ∧ v = unfoldOf (x + 128 ^ i * y) ∧ n = i + (codeB y).length
  | [], i, x, v, n, _, _, _, h, hn => by simp [getL] at h; omega
  | c :: r, i, x, v, n, hi, hx, hok, h, hn => by
    have hc := hok c (List.mem_cons_self ..)
    rw [getL] at h
    split at h
    · simp at h; omega
    · rename_i h1
      split at h
      · rename_i h2
        have hi8 : i ≤ 8 := by omega
        have e2 : c % 128 * 128 ^ i ≤ 127 * 128 ^ i := Nat.mul_le_mul_right _ (by omega)
        have e3 : 128 ^ (i + 1) = 128 ^ i * 128 := Nat.pow_succ ..
        obtain ⟨y, rest, h3, h4, h5, h6, h7⟩ := getL_conv r (i + 1) (x + c % 128 * 128 ^ i) v n (by omega) (by omega) (fun b hb => hok b (List.mem_cons_of_mem _ hb)) h hn
        have hy0 : y ≠ 0 := h5 (by omega)
        have e1 : x + c % 128 * 128 ^ i + 128 ^ (i + 1) * y = x + 128 ^ i * (c % 128 + 128 * y) := by
          rw [Nat.pow_succ, Nat.mul_add, Nat.mul_assoc, Nat.mul_comm (c % 128)]
          omega
        rw [e1] at h4 h6
        refine ⟨c % 128 + 128 * y, rest, ?_, h4, fun _ => by omega, h6, ?_⟩
        · rw [codeB_ge (by omega), h3, show (c % 128 + 128 * y) % 128 + 128 = c by omega, show (c % 128 + 128 * y) / 128 = y by omega]
          rfl
        · rw [codeB_ge (by omega), show (c % 128 + 128 * y) / 128 = y by omega, h7]
          simp
          omega
      · rename_i h2
        split at h
        · simp at h; omega
        · rename_i h3
          simp only [Prod.mk.injEq] at h
          have hc1 : c % 128 = c := Nat.mod_eq_of_lt (by omega)
          rw [hc1] at h
          refine ⟨c, r, by rw [codeB_lt (by omega)]; rfl, ?_, fun h0 e => h3 ⟨e, h0⟩, by rw [Nat.mul_comm]; exact h.1.symm, by rw [codeB_lt (by omega)]; exact h.2.symm⟩
          rcases Nat.lt_or_ge i 9 with h9 | h9
          · have e1 : 128 ^ i * c ≤ 128 ^ i * 127 := Nat.mul_le_mul_left _ (by omega)
            have e2 : 128 ^ (i + 1) ≤ 128 ^ 9 := Nat.pow_le_pow_right (by decide) (by omega)
            rw [Nat.pow_succ] at e2
            have e3 : (128 : Nat) ^ 9 < 18446744073709551616 := by decide
            omega
          · have hi9 : i = 9 := by omega
            subst hi9
            have e1 : 128 ^ 9 * c ≤ 128 ^ 9 * 1 := Nat.mul_le_mul_left _ (by omega)
            have := p64
            omega
theorem getL_zero : ∀ (l : List Nat) (i x : Nat) (v : Int), getL l i x = (v, 0) → v = 0
  | [], i, x, v, h => by simp [getL] at h; omega
  | c :: r, i, x, v, h => by
    rw [getL] at h
    split at h
    · simp at h; omega
    · split at h
      · exact getL_zero r _ _ v h
      · split at h
        · simp at h; omega
        · simp at h
theorem val_code (y : Nat) : valB (codeB y) = y := by
  induction y using Nat.strongRecOn with
  | _ y ih =>
    by_cases hy : y < 128
    · rw [codeB_lt hy]; simp [valB]; omega
    · rw [codeB_ge hy]
      simp only [valB, ih (y / 128) (by omega)]
      omega
/-- So many bytes are a number's code. -/
def OkGet (b : List Nat) (n : Nat) : Prop := codeB (valB (b.take n) % 18446744073709551616) = b.take n
theorem getOf_code {y : Nat} (rest : List Nat) (hy : y < 18446744073709551616) : getOf (codeB y ++ rest) = (unfoldOf y, (codeB y).length) := by
  have := getL_code rest y 0 0 (by omega) (fun _ => rfl)
  rw [Nat.pow_zero, Nat.one_mul, Nat.zero_add, Nat.zero_add] at this
  exact this
theorem getOf_yes {b : List Nat} {n : Nat} (hn : n ≤ b.length) (h : OkGet b n) : getOf b = (unfoldOf (valB (b.take n) % 18446744073709551616), n) := by
  have h1 := getOf_code (b.drop n) (Nat.mod_lt (valB (b.take n)) (by decide : 18446744073709551616 > 0))
  unfold OkGet at h
  rw [h, List.take_append_drop] at h1
  rw [h1, List.length_take, Nat.min_eq_left hn]
theorem getOf_no {b : List Nat} (hb : OkB b) (h : ∀ n, 1 ≤ n → n ≤ 10 → n ≤ b.length → ¬ OkGet b n) : getOf b = (0, 0) := by
  rcases hg : getOf b with ⟨v, n⟩
  rcases Nat.eq_zero_or_pos n with rfl | hn
  · rw [getL_zero _ _ _ _ hg]
  · exfalso
    obtain ⟨y, rest, h1, h2, h3, h4, h5⟩ := getL_conv b 0 0 v n (by decide) (by decide) hb hg (by omega)
    rw [Nat.pow_zero, Nat.one_mul, Nat.zero_add] at h2
    rw [Nat.zero_add] at h5
    refine h n hn (by rw [h5]; exact code_ten h2) (by rw [h1, h5]; simp) ?_
    have e : b.take n = codeB y := by rw [h1, h5]; simp
    unfold OkGet
    rw [e, val_code, Nat.mod_eq_of_lt h2]
/-- What the reading comes to is in bounds. -/
theorem getL_in : ∀ (l : List Nat) (i x : Nat), i ≤ 10 → x < 128 ^ i → OkB l → inI (getL l i x).1 ∧ (getL l i x).2 ≤ 10
  | [], i, x, _, _, _ => by rw [getL]; exact ⟨by decide, by decide⟩
  | c :: r, i, x, hi, hx, hok => by
    have hc := hok c (List.mem_cons_self ..)
    rw [getL]
    split
    · exact ⟨by decide, by decide⟩
    · rename_i h1
      split
      · rename_i h2
        have e2 : c % 128 * 128 ^ i ≤ 127 * 128 ^ i := Nat.mul_le_mul_right _ (by omega)
        have e3 : 128 ^ (i + 1) = 128 ^ i * 128 := Nat.pow_succ ..
        exact getL_in r (i + 1) _ (by omega) (by omega) (fun b hb => hok b (List.mem_cons_of_mem _ hb))
      · split
        · exact ⟨by decide, by decide⟩
        · refine ⟨unfoldOf_in ?_, by show i + 1 ≤ 10; omega⟩
          have hc1 : c % 128 = c := Nat.mod_eq_of_lt (by omega)
          rw [hc1]
          rcases Nat.lt_or_ge i 9 with h9 | h9
          · have e1 : c * 128 ^ i ≤ 127 * 128 ^ i := Nat.mul_le_mul_right _ (by omega)
            have e2 : 128 ^ (i + 1) ≤ 128 ^ 9 := Nat.pow_le_pow_right (by decide) (by omega)
            rw [Nat.pow_succ] at e2
            have e3 : (128 : Nat) ^ 9 < 18446744073709551616 := by decide
            omega
          · have hi9 : i = 9 := by omega
            subst hi9
            have e1 : c * 128 ^ 9 ≤ 1 * 128 ^ 9 := Nat.mul_le_mul_right _ (by omega)
            have := p64
            omega
theorem getOf_in {b : List Nat} (h : OkB b) : inI (getOf b).1 ∧ (getOf b).2 ≤ 10 := getL_in b 0 0 (by decide) (by decide) h
theorem getL_le : ∀ (l : List Nat) (i x : Nat), (getL l i x).2 ≤ i + l.length
  | [], i, x => by rw [getL]; simp
  | c :: r, i, x => by
    rw [getL]
    split
    · simp
    · split
      · have := getL_le r (i + 1) (x + c % 128 * 128 ^ i)
        simp only [List.length_cons]
        omega
      · split
        · simp
        · simp only [List.length_cons]; omega
theorem getOf_le (b : List Nat) : (getOf b).2 ≤ b.length := by have := getL_le b 0 0; unfold getOf; omega
end Go.Proofs.Ytbehhlbcffbkoaa.Ev

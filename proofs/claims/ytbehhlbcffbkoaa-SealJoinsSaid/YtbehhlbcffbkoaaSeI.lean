/- The theorem of joining: plain. -/
import Derived.Test.YtbehhlbcffbkoaaSeH
namespace Go.Proofs.Ytbehhlbcffbkoaa.Ev
open Go Go.Proofs
set_option linter.unusedVariables false
set_option linter.unusedSimpArgs false
theorem get_left {s t : ByteArray} {i : Nat} (h : i < s.size) : (s ++ t).get! i = s.get! i := by
  show (s ++ t).data[i]! = s.data[i]!
  have h1 : i < s.data.size := h
  have h2 : i < (s.data ++ t.data).size := by rw [Array.size_append]; omega
  rw [ByteArray.data_append, getElem!_pos (s.data ++ t.data) i h2, getElem!_pos s.data i h1, Array.getElem_append_left h1]
theorem get_right {s t : ByteArray} {j : Nat} (h : j < t.size) : (s ++ t).get! (s.size + j) = t.get! j := by
  show (s ++ t).data[s.data.size + j]! = t.data[j]!
  have h1 : j < t.data.size := h
  have h2 : s.data.size + j < (s.data ++ t.data).size := by rw [Array.size_append]; omega
  rw [ByteArray.data_append, getElem!_pos (s.data ++ t.data) _ h2, getElem!_pos t.data j h1, Array.getElem_append_right (by omega)]
  simp
theorem refs_pre (s t : ByteArray) : ∀ i, i ≤ s.size → refs (s ++ t) i = refs s i
  | 0, _ => rfl
  | i + 1, h => by
    simp only [refs, refs_pre s t i (by omega), get_left (t := t) (by omega : i < s.size)]
theorem refs_app (s t : ByteArray) : ∀ j, j ≤ t.size → (refs (s ++ t) (s.size + j)).1 + 1 = (refs s s.size).1 + (refs t j).1 ∧
    (refs (s ++ t) (s.size + j)).2 + j = (refs s s.size).2 + (refs t j).2 + j * (refs s s.size).1
  | 0, _ => by simp [refs, refs_pre]
  | j + 1, h => by
    obtain ⟨h1, h2⟩ := refs_app s t j (by omega)
    rw [← Nat.add_assoc]
    simp only [refs, get_right (s := s) (by omega : j < t.size)]
    refine ⟨by omega, ?_⟩
    rw [Nat.add_mul, Nat.one_mul]
    omega
theorem refs_pos (s : ByteArray) : ∀ i, 1 ≤ (refs s i).1
  | 0 => Nat.le_refl _
  | i + 1 => by
    have := refs_pos s i
    simp only [refs]
    omega
theorem join_num {a b c d n A B : Nat} (ha : 1 ≤ a) (h1 : A + 1 = a + c) (h2 : B + n = b + d + n * a) :
    (b % 65521 + d % 65521 + n % 65521 * (a % 65521 + 65520) % 65521) % 65521 = B % 65521 ∧ (a % 65521 + c % 65521 + 65520) % 65521 = A % 65521 := by
  refine ⟨?_, by omega⟩
  obtain ⟨k, rfl⟩ : ∃ k, a = k + 1 := ⟨a - 1, by omega⟩
  have e1 : n % 65521 * ((k + 1) % 65521 + 65520) % 65521 = n * k % 65521 := by
    have e2 : ((k + 1) % 65521 + 65520) % 65521 = k % 65521 := by omega
    rw [Nat.mul_mod, e2, Nat.mod_mod, ← Nat.mul_mod]
  rw [Nat.mul_add, Nat.mul_one] at h2
  rw [e1]
  generalize n * k = q at h2 ⊢
  omega
theorem sums_of (s : ByteArray) : sumOf s % 65536 = (refs s s.size).1 % 65521 ∧ sumOf s / 65536 = (refs s s.size).2 % 65521 := by
  have h := refs_mod s s.size
  have hl := sums_lt s s.size
  unfold sumOf
  omega
theorem join_sums (s t : ByteArray) : joinOf (sumOf s) (sumOf t) t.size = sumOf (s ++ t) := by
  obtain ⟨s1, s2⟩ := sums_of s
  obtain ⟨t1, t2⟩ := sums_of t
  have l := refs_app s t t.size (Nat.le_refl _)
  have hm := refs_mod (s ++ t) (s ++ t).size
  rw [ByteArray.size_append] at hm
  obtain ⟨j1, j2⟩ := join_num (refs_pos s s.size) l.1 l.2
  have m1 := Nat.mod_lt (refs s s.size).1 (by decide : 65521 > 0)
  have m2 := Nat.mod_lt (refs s s.size).2 (by decide : 65521 > 0)
  have m3 := Nat.mod_lt (refs t t.size).1 (by decide : 65521 > 0)
  have m4 := Nat.mod_lt (refs t t.size).2 (by decide : 65521 > 0)
  unfold joinOf
  rw [if_neg (by omega), s1, s2, t1, t2, Int.toNat_natCast, j1, j2]
  show _ = (sums (s ++ t) (s ++ t).size).2 * 65536 + (sums (s ++ t) (s ++ t).size).1
  rw [ByteArray.size_append, ← hm.1, ← hm.2]
end Go.Proofs.Ytbehhlbcffbkoaa.Ev

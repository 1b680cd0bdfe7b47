/- Trees: a part of a tree by itself. -/
import Derived.Test.YtojaokhkbmiidaaCoW
namespace Go.Proofs.Ytojaokhkbmiidaa.Ev
open Go Go.Proofs
set_option maxRecDepth 10000
set_option linter.unusedVariables false
set_option linter.unusedSimpArgs false
theorem endW_shift (q : Nat) : ∀ (xs : List Nd) (k p : Nat), (endW xs k p = -1 ∧ endW xs k (q + p) = -1) ∨ (0 ≤ endW xs k p ∧ endW xs k (q + p) = (q : Int) + endW xs k p)
  | _, 0, p => by
    right
    unfold endW
    omega
  | [], k + 1, p => .inl ⟨rfl, rfl⟩
  | x :: r, k + 1, p => by
    rw [endW, endW]
    split
    · exact .inl ⟨rfl, rfl⟩
    · exact endW_shift q r _ (p + 1)
theorem endW_cut : ∀ (xs : List Nd) (k p n : Nat), 0 ≤ endW xs k p → endW xs k p ≤ ((p + n : Nat) : Int) → endW (xs.take n) k p = endW xs k p
  | _, 0, p, n, h, hn => by
    rw [show ∀ xs, endW xs 0 p = (p : Int) from fun xs => by unfold endW; rfl, show ∀ xs, endW xs 0 p = (p : Int) from fun xs => by unfold endW; rfl]
  | [], k + 1, p, n, h, hn => by
    rw [endW] at h
    omega
  | x :: r, k + 1, p, n, h, hn => by
    rcases endW_in (x :: r) (k + 1) p with h1 | ⟨h1, h2, h3⟩
    · omega
    have h4 := h3 (by omega)
    obtain ⟨n', rfl⟩ : ∃ n', n = n' + 1 := ⟨n - 1, by omega⟩
    rw [List.take_succ_cons]
    rw [endW] at h hn
    rw [endW, endW]
    split
    · rfl
    · rename_i hneg
      rw [if_neg hneg] at h hn
      exact endW_cut r _ (p + 1) n' h (by omega)
/-- The part of a list. -/
def part (l : List Nd) (a q : Nat) : List Nd := (l.take q).drop a
theorem part_len {l : List Nd} {a q : Nat} (h : q ≤ l.length) : (part l a q).length = q - a := by
  unfold part
  rw [List.length_drop, List.length_take]
  omega
theorem part_end {l : List Nd} {a q j : Nat} (h0 : 0 ≤ endOf l ((a + j : Nat) : Int)) (h1 : endOf l ((a + j : Nat) : Int) ≤ (q : Int)) : endOf (part l a q) (j : Int) = endOf l ((a + j : Nat) : Int) - (a : Int) := by
  rw [endOf_nat] at h0 h1
  rw [endOf_nat, endOf_nat]
  have e1 : (part l a q).drop j = (l.drop (a + j)).take (q - (a + j)) := by
    unfold part
    rw [List.drop_drop, List.drop_take]
  rw [e1]
  have hin := endW_in (l.drop (a + j)) 1 (a + j)
  have hc := endW_cut (l.drop (a + j)) 1 (a + j) (q - (a + j)) h0 (by omega)
  rw [← hc]
  rcases endW_shift a ((l.drop (a + j)).take (q - (a + j))) 1 j with ⟨_, h⟩ | ⟨_, h⟩
  · omega
  · omega
theorem part_get {l : List Nd} {a q j : Nat} (h : a + j < q) (hq : q ≤ l.length) : (part l a q).getD j nd0 = l.getD (a + j) nd0 := by
  unfold part
  simp only [List.getD, List.getElem?_drop, List.getElem?_take]
  rw [if_pos h]
theorem part_belowW {l : List Nd} {a q : Nat} : ∀ (k n : Nat), 0 ≤ endW (l.drop (a + n)) k (a + n) → endW (l.drop (a + n)) k (a + n) ≤ (q : Int) → belowW (part l a q) k (n : Int) = (belowW l k ((a + n : Nat) : Int)).map fun b => b - (a : Int)
  | 0, n, _, _ => rfl
  | k + 1, n, h0, h1 => by
    have h2 := endW_add l (l.drop (a + n)) 1 k (a + n) rfl
    rw [show 1 + k = k + 1 by omega, ← endOf_nat] at h2
    rw [h2] at h0 h1
    split at h0
    · omega
    rename_i hn
    rw [if_neg hn] at h1
    have hin := endOf_in l ((a + n : Nat) : Int)
    obtain ⟨q', hq'⟩ : ∃ q' : Nat, endOf l ((a + n : Nat) : Int) = ((a + q' : Nat) : Int) := ⟨(endOf l ((a + n : Nat) : Int)).toNat - a, by omega⟩
    rw [hq', Int.toNat_natCast] at h0 h1
    have hle := endW_in (l.drop (a + q')) k (a + q')
    have he := part_end (l := l) (a := a) (q := q) (j := n) (by omega) (by omega)
    rw [belowW, belowW, he, hq', show ((a + q' : Nat) : Int) - (a : Int) = (q' : Int) by omega, part_belowW k q' h0 h1, List.map_cons]
    congr 1
    omega
theorem part_below {l : List Nd} {a q j : Nat} (h0 : 0 ≤ endOf l ((a + j : Nat) : Int)) (h1 : endOf l ((a + j : Nat) : Int) ≤ (q : Int)) (hq : q ≤ l.length) : belowOf (part l a q) (j : Int) = (belowOf l ((a + j : Nat) : Int)).map fun b => b - (a : Int) := by
  have he := part_end (l := l) (a := a) (q := q) (j := j) h0 h1
  have hin := endOf_in l ((a + j : Nat) : Int)
  obtain ⟨hp, hA⟩ := end_arity h0
  have ear : arAt (part l a q) (j : Int) = arAt l ((a + j : Nat) : Int) := by
    unfold arAt
    rw [Int.toNat_natCast, Int.toNat_natCast, part_get (by omega) hq]
  rw [hA] at h0 h1
  unfold belowOf
  rw [if_neg (by omega), if_neg (by omega), ear]
  have := part_belowW (l := l) (a := a) (q := q) (arAt l ((a + j : Nat) : Int)) (j + 1) h0 h1
  exact this
theorem below_end {l : List Nd} {a b : Int} (ha : 0 ≤ a) (hb : b ∈ belowOf l a) : endOf l b ≤ endOf l a := by
  unfold belowOf at hb
  split at hb
  · simp at hb
  rename_i hn
  obtain ⟨p, rfl⟩ := Int.eq_ofNat_of_zero_le ha
  obtain ⟨_, h1⟩ := end_arity (l := l) (p := p) (by omega)
  rw [h1] at hn ⊢
  have key : ∀ (k n : Nat), 0 ≤ endW (l.drop n) k n → b ∈ belowW l k (n : Int) → endOf l b ≤ endW (l.drop n) k n := by
    intro k
    induction k with
    | zero => intro n _ hb; simp [belowW] at hb
    | succ k ih =>
      intro n h hb
      have h2 := endW_add l (l.drop n) 1 k n rfl
      rw [show 1 + k = k + 1 by omega, ← endOf_nat] at h2
      rw [h2] at h ⊢
      split at h
      · omega
      rename_i hn
      rw [if_neg hn]
      obtain ⟨q, hq⟩ := Int.eq_ofNat_of_zero_le (by omega : 0 ≤ endOf l (n : Int))
      rw [hq, Int.toNat_natCast] at h ⊢
      have hin := endW_in (l.drop q) k q
      rcases List.mem_cons.1 hb with rfl | hb
      · omega
      · rw [hq] at hb
        exact ih q h hb
  exact key _ (p + 1) (by omega) hb
theorem part_depthF {l : List Nd} {a q : Nat} (hq : q ≤ l.length) : ∀ (f j : Nat), 0 ≤ endOf l ((a + j : Nat) : Int) → endOf l ((a + j : Nat) : Int) ≤ (q : Int) → depthF (part l a q) f (j : Int) = depthF l f ((a + j : Nat) : Int)
  | 0, j, _, _ => rfl
  | f + 1, j, h0, h1 => by
    rw [depthF, depthF, part_below h0 h1 hq, List.map_map]
    congr 2
    refine List.map_congr_left fun b hb => ?_
    obtain ⟨g1, g2, g3⟩ := below_mem (by omega) hb
    have g4 := below_end (by omega) hb
    obtain ⟨b', rfl⟩ : ∃ b' : Nat, b = ((a + b' : Nat) : Int) := ⟨b.toNat - a, by omega⟩
    show depthF (part l a q) f (((a + b' : Nat) : Int) - (a : Int)) = _
    rw [show ((a + b' : Nat) : Int) - (a : Int) = (b' : Int) by omega]
    exact part_depthF hq f b' g3 (by omega)
theorem depthF_more (l : List Nd) (a : Int) (h0 : 0 ≤ a) (h1 : a < (l.length : Int)) (f : Nat) (hf : (l.length : Int) - a ≤ (f : Int)) : ∀ d, depthF l (f + d) a = depthF l f a
  | 0 => rfl
  | d + 1 => by
    rw [show f + (d + 1) = f + d + 1 by omega, ← depthF_same l (f + d) a h0 h1 (by omega)]
    exact depthF_more l a h0 h1 f hf d
/-- So deep as its length allows. -/
theorem depthF_cut (l : List Nd) : ∀ (f : Nat) (a : Int), 0 ≤ a → endOf l a - a ≤ (f : Int) → 0 ≤ endOf l a → depthF l f a = depthF l (f + 1) a
  | 0, a, ha, h1, h => by have := endOf_in l a; omega
  | f + 1, a, ha, h1, h => by
    rw [depthF, depthF]
    congr 2
    refine List.map_congr_left fun b hb => ?_
    obtain ⟨g1, g2, g3⟩ := below_mem ha hb
    have g4 := below_end ha hb
    exact depthF_cut l f b (by omega) (by omega) g3
theorem depthF_cuts (l : List Nd) (f : Nat) (a : Int) (ha : 0 ≤ a) (h1 : endOf l a - a ≤ (f : Int)) (h : 0 ≤ endOf l a) : ∀ d, depthF l (f + d) a = depthF l f a
  | 0 => rfl
  | d + 1 => by
    rw [show f + (d + 1) = f + d + 1 by omega, ← depthF_cut l (f + d) a ha (by omega) h]
    exact depthF_cuts l f a ha h1 h d
theorem part_whole {l : List Nd} {a q : Nat} (h : endOf l (a : Int) = (q : Int)) (h64 : l.length ≤ 64) : wholeB (part l a q) = true ∧ depthOf (part l a q) = depthD l (a : Int) := by
  have hin := endOf_in l (a : Int)
  have hl := part_len (l := l) (a := a) (q := q) (by omega)
  have he := part_end (l := l) (a := a) (q := q) (j := 0) (by rw [Nat.add_zero]; omega) (by rw [Nat.add_zero]; omega)
  have e0 : ((0 : Nat) : Int) = 0 := rfl
  rw [Nat.add_zero, h, e0] at he
  have hw : wholeB (part l a q) = true := by
    unfold wholeB
    rw [hl, decide_eq_true (by omega), decide_eq_true (by omega), decide_eq_true (by omega)]
    rfl
  refine ⟨hw, ?_⟩
  unfold depthOf
  rw [hw, if_pos rfl]
  unfold depthD
  rw [hl]
  have h2 := part_depthF (l := l) (a := a) (q := q) (by omega) (q - a) 0 (by rw [Nat.add_zero]; omega) (by rw [Nat.add_zero]; omega)
  rw [Nat.add_zero, e0] at h2
  rw [h2]
  obtain ⟨d, hd⟩ : ∃ d, l.length = q - a + d := ⟨l.length - (q - a), by omega⟩
  rw [hd]
  exact (depthF_cuts l (q - a) (a : Int) (by omega) (by omega) (by omega) d).symm
theorem maxL_mem {a : Nat} : ∀ {l : List Nat}, a ∈ l → a ≤ maxL l
  | b :: l, h => by
    unfold maxL
    rcases List.mem_cons.1 h with rfl | h
    · omega
    · have := maxL_mem h; omega
theorem depth_less {l : List Nd} {b : Int} (h0 : 0 < l.length) (hb : b ∈ belowOf l 0) : depthD l b < depthD l 0 := by
  rw [depthD_eq (a := 0) (by omega) (by omega)]
  have := maxL_mem (a := depthD l b) (List.mem_map_of_mem (f := depthD l) hb)
  omega
/-- Where each one below begins. -/
theorem belowW_get (l : List Nd) : ∀ (k n j : Nat), 0 ≤ endW (l.drop n) k n → j < k → (belowW l k (n : Int)).getD j 0 = endW (l.drop n) j n ∧ 0 ≤ endW (l.drop n) j n ∧ endOf l (endW (l.drop n) j n) = endW (l.drop n) (j + 1) n ∧ 0 ≤ endW (l.drop n) (j + 1) n := by
  intro k
  induction k with
  | zero => intro n j _ h; omega
  | succ k ih =>
    intro n j h hj
    have h2 := endW_add l (l.drop n) 1 k n rfl
    rw [show 1 + k = k + 1 by omega, ← endOf_nat] at h2
    rw [h2] at h
    split at h
    · omega
    rename_i hn
    obtain ⟨q, hq⟩ := Int.eq_ofNat_of_zero_le (by omega : 0 ≤ endOf l (n : Int))
    rw [hq, Int.toNat_natCast] at h
    have e0 : endW (l.drop n) 0 n = (n : Int) := by unfold endW; rfl
    have e1 : endW (l.drop n) 1 n = (q : Int) := by rw [← endOf_nat]; exact hq
    cases j with
    | zero => exact ⟨by rw [e0]; rfl, by omega, by rw [e0, Nat.zero_add, e1, hq], by rw [Nat.zero_add]; omega⟩
    | succ j =>
      have e2 : ∀ i, endW (l.drop n) (i + 1) n = endW (l.drop q) i q := fun i => by
        have := endW_add l (l.drop n) 1 i n rfl
        rw [show 1 + i = i + 1 by omega, e1, if_neg (by omega), Int.toNat_natCast] at this
        exact this
      rw [belowW, hq, e2, e2, List.getD_cons_succ]
      exact ih q j h (by omega)
end Go.Proofs.Ytojaokhkbmiidaa.Ev

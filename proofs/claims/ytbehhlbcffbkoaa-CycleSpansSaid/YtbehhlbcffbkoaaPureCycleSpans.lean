/- The plain law of CycleSpans: the span of a cycle of any number is what the document tells, cycle by cycle. No conditions. -/
import Derived.Test.YtbehhlbcffbkoaaPCycleSpansx3
import Derived.Test.YtbehhlbcffbkoaaCyc
namespace Go.Proofs.Ytbehhlbcffbkoaa.Pure
open Go.RowKit Go.Proofs.Ytbehhlbcffbkoaa.PCycleSpans Go.Proofs.YtbehhlbcffbkoaaW.PrintWords Go.Proofs.YtbehhlbcffbkoaaW.PrintLast Go.Proofs.YtbehhlbcffbkoaaW.PrintMore Go.Proofs.Ytbehhlbcffbkoaa.Cyc
set_option linter.unusedSimpArgs false
set_option linter.unusedVariables false

theorem may_eq (a b c : Int) : cycle_may.f a b c = some (decide (1 ≤ a ∧ a ≤ 1048576 ∧ 1 ≤ b ∧ b ≤ 16 ∧ 0 ≤ c ∧ c ≤ 1048576)) := by
  unfold cycle_may.f cycle_within.f
  by_cases h1 : a ≥ 1 <;> by_cases h2 : a ≤ 1048576 <;> by_cases h3 : b ≥ 1 <;> by_cases h4 : b ≤ 16 <;> by_cases h5 : c ≥ 0 <;> simp [h1, h2, h3, h4, h5] <;> omega

theorem refMay_eq (a b c : Int) : regimenref23_May.f a b c = some (decide (1 ≤ a ∧ a ≤ 1048576 ∧ 1 ≤ b ∧ b ≤ 16 ∧ 0 ≤ c ∧ c ≤ 1048576)) := by
  unfold regimenref23_May.f
  by_cases h1 : a ≥ 1 <;> by_cases h2 : a ≤ 1048576 <;> by_cases h3 : b ≥ 1 <;> by_cases h4 : b ≤ 16 <;> by_cases h5 : c ≥ 0 <;> simp [h1, h2, h3, h4, h5] <;> omega

theorem next_eq {a b t : Int} (h0 : 0 ≤ a) (h3 : a ≤ 4611686018427387904) (h1 : 1 ≤ b - a) (h2 : b - a ≤ 1048576) (ht : 1 ≤ t) (ht2 : t ≤ 16) :
    cycle_next.f a b t = some (nx (a, b) t) := by
  unfold cycle_next.f
  rw [next_a h0 h3 h1 h2 ht ht2]

section
variable {first times : Int} (hf : 1 ≤ first) (hf2 : first ≤ 1048576) (ht : 1 ≤ times) (ht2 : times ≤ 16)
include hf hf2 ht ht2

theorem next_st (n : Nat) (hn : n ≤ 4000000) : cycle_next.f (st first times n).1 (st first times n).2 times = some (st first times (n + 1)) := by
  have h := st_inv hf hf2 ht ht2 n
  exact next_eq (by omega) (by omega) (by omega) (by omega) ht ht2

theorem find_l0 (at_ : Int) (ha : at_ ≤ 1048576) : ∀ (d k n : Nat), (st first times n).1 ≤ at_ → at_ < n + d → d < k →
    ∃ m : Nat, cycle_find.l0 k times at_ n (st first times n).1 (st first times n).2 = some ((st first times m).1, (st first times m).2, (m : Int)) ∧ (st first times m).1 ≤ at_ ∧ at_ < (st first times m).2 ∧ (m : Int) ≤ at_ := by
  intro d
  induction d with
  | zero =>
    intro k n h1 h2 hk
    have := st_inv hf hf2 ht ht2 n
    omega
  | succ d ih =>
    intro k n h1 h2 hk
    have h := st_inv hf hf2 ht ht2 n
    obtain ⟨k, rfl⟩ : ∃ m, k = m + 1 := ⟨k - 1, by omega⟩
    by_cases c : (st first times n).2 ≤ at_
    · obtain ⟨m, hm, h⟩ := ih k (n + 1) (by rw [st_step]; exact c) (by omega) (by omega)
      refine ⟨m, ?_, h⟩
      simp only [cycle_find.l0]
      rw [if_pos c, next_st hf hf2 ht ht2 n (by omega)]
      simp only [Option.bind_some]
      rw [w64 (by omega) (by omega)]
      exact hm
    · refine ⟨n, ?_, h1, by omega, by omega⟩
      simp only [cycle_find.l0]
      rw [if_neg c]

theorem find_eq (at_ : Int) (h0 : 0 ≤ at_) (ha : at_ ≤ 1048576) (k : Nat) (hk : 1048578 ≤ k) :
    ∃ m : Nat, cycle_find.f k first times at_ = some ((st first times m).1, (st first times m).2, (m : Int)) ∧ (st first times m).1 ≤ at_ ∧ at_ < (st first times m).2 ∧ (m : Int) ≤ at_ := by
  unfold cycle_find.f
  by_cases c : times = 1
  · subst c
    have e : Int.tdiv at_ first = at_ / first := Int.tdiv_eq_ediv_of_nonneg h0
    have hq0 : 0 ≤ at_ / first := Int.ediv_nonneg h0 (by omega)
    have hqa : at_ / first ≤ at_ := Int.ediv_le_self _ h0
    have h1 := Int.mul_ediv_self_le (x := at_) (k := first) (by omega)
    have h2 := Int.lt_mul_ediv_self_add (x := at_) (k := first) (by omega)
    rw [Int.mul_comm] at h1 h2
    refine ⟨(at_ / first).toNat, ?_, ?_⟩
    · rw [if_pos rfl, if_neg (by omega), e, st_one hf2]
      simp only [Int.toNat_of_nonneg hq0]
      rw [w64 (x := at_ / first) (by omega) (by omega), w64 (x := at_ / first * first) (by have := Int.mul_nonneg hq0 (show 0 ≤ first by omega); omega) (by omega), w64 (x := at_ / first * first + first) (by have := Int.mul_nonneg hq0 (show 0 ≤ first by omega); omega) (by omega)]
    · rw [st_one hf2]
      simp only [Int.toNat_of_nonneg hq0]
      omega
  · rw [if_neg c]
    have := find_l0 hf hf2 ht ht2 at_ ha (at_.toNat + 1) k 0 (by simpa [st] using h0) (by omega) (by omega)
    simpa [st] using this
end

theorem awake_eq (k : Nat) (hk : 1048578 ≤ k) : regimenlaw23_awake.f k = some true := by
  unfold regimenlaw23_awake.f cycle_Find.f cycle_Count.f
  obtain ⟨k, rfl⟩ : ∃ m, k = m + 8 := ⟨k - 8, by omega⟩
  have e0 : wrap64 0 = 0 := w64 (by omega) (by omega)
  have e1 : wrap64 1 = 1 := w64 (by omega) (by omega)
  have e2 : wrap64 2 = 2 := w64 (by omega) (by omega)
  have e3 : wrap64 3 = 3 := w64 (by omega) (by omega)
  have e4 : wrap64 4 = 4 := w64 (by omega) (by omega)
  have e6 : wrap64 6 = 6 := w64 (by omega) (by omega)
  have e7 : wrap64 14 = 14 := w64 (by omega) (by omega)
  have e8 : wrap64 8 = 8 := w64 (by omega) (by omega)
  simp [may_eq, cycle_find.f, cycle_find.l0, cycle_next.f, mn, e0, e1, e2, e3, e4, e6, e7, e8]

section
variable {first times : Int} (hf : 1 ≤ first) (hf2 : first ≤ 1048576) (ht : 1 ≤ times) (ht2 : times ≤ 16)
include hf hf2 ht ht2
theorem refNext_st (n : Nat) (hn : n ≤ 4000000) : regimenref23_Next.f (st first times n).1 (st first times n).2 times = some (st first times (n + 1)) := by
  have h := st_inv hf hf2 ht ht2 n
  unfold regimenref23_Next.f
  exact next_b (by omega) (by omega) (by omega) (by omega) ht ht2
end

section
variable {first times : Int} (hf : 1 ≤ first) (hf2 : first ≤ 1048576) (ht : 1 ≤ times) (ht2 : times ≤ 16)
include hf hf2 ht ht2

/-- What Span tells: the cycle's span, or nothing where it begins too far off. -/
theorem span_l0 (hc : times ≠ 1) (number : Nat) (hn : number ≤ 1048576) : ∀ (d k n : Nat), n ≤ number → number - n ≤ d → d < k →
    cycle_Span.l0 k times number n (st first times n).1 (st first times n).2 = some (if (st first times number).1 > 1048576 then (0, 0, 0) else ((st first times number).1, (st first times number).2, 0)) := by
  intro d
  induction d with
  | zero =>
    intro k n h1 h2 hk
    obtain ⟨k, rfl⟩ : ∃ m, k = m + 1 := ⟨k - 1, by omega⟩
    obtain rfl : n = number := by omega
    simp only [cycle_Span.l0]
    rw [if_pos (by omega), if_neg (by omega)]
    split <;> rfl
  | succ d ih =>
    intro k n h1 h2 hk
    obtain ⟨k, rfl⟩ : ∃ m, k = m + 1 := ⟨k - 1, by omega⟩
    simp only [cycle_Span.l0]
    rw [if_pos (by omega)]
    by_cases c : n < number
    · rw [if_pos (by omega)]
      by_cases c2 : (st first times n).1 ≤ 1048576
      · rw [if_pos c2, next_st hf hf2 ht ht2 n (by omega)]
        simp only [Option.bind_some]
        rw [w64 (by omega) (by omega)]
        exact ih k (n + 1) (by omega) (by omega) (by omega)
      · have := st_mono hf hf2 ht ht2 n (number - n)
        rw [show n + (number - n) = number by omega] at this
        rw [if_neg c2, if_pos (by omega), if_pos (by omega)]
    · obtain rfl : n = number := by omega
      rw [if_neg (by omega)]
      split <;> rfl

theorem span_eq (number : Nat) (hn : number ≤ 1048576) (k : Nat) (hk : 1048580 ≤ k) :
    cycle_Span.f k first times number = some (if (st first times number).1 > 1048576 then (0, 0, 0) else ((st first times number).1, (st first times number).2, 0)) := by
  unfold cycle_Span.f
  rw [may_eq, decide_eq_true (by omega)]
  simp only [Option.bind_some, if_true]
  obtain ⟨k, rfl⟩ : ∃ m, k = m + 1 := ⟨k - 1, by omega⟩
  by_cases c : times = 1
  · subst c
    obtain ⟨k, rfl⟩ : ∃ m, k = m + 1 := ⟨k - 1, by omega⟩
    have hp : 0 ≤ (number : Int) * first := Int.mul_nonneg (by omega) (by omega)
    have hp2 : (number : Int) * first ≤ 1048576 * 1048576 := Int.mul_le_mul (by omega) hf2 (by omega) (by omega)
    simp only [if_true, cycle_Span.j0, cycle_Span.l0]
    rw [w64 (x := (number : Int) * first) (by omega) (by omega), w64 (x := (number : Int) * first + first) (by omega) (by omega), if_neg (by omega), st_one hf2]
    split <;> rfl
  · rw [if_neg c]
    simp only [cycle_Span.j0]
    have := span_l0 hf hf2 ht ht2 c number hn number k 0 (by omega) (by omega) (by omega)
    simpa [st] using this
end

theorem span_no {first times number : Int} (h : ¬ (1 ≤ first ∧ first ≤ 1048576 ∧ 1 ≤ times ∧ times ≤ 16 ∧ 0 ≤ number ∧ number ≤ 1048576)) (k : Nat) :
    cycle_Span.f k first times number = some (0, 0, 1) := by
  unfold cycle_Span.f
  rw [may_eq, decide_eq_false h]
  rfl

section
variable {first times : Int} (hf : 1 ≤ first) (hf2 : first ≤ 1048576) (ht : 1 ≤ times) (ht2 : times ≤ 16)
include hf hf2 ht ht2
theorem law_l0 (number : Nat) (hn : number ≤ 1048576) (a b : Int) (hab : (a, b) = if (st first times number).1 > 1048576 then (0, 0) else ((st first times number).1, (st first times number).2)) :
    ∀ (d k n : Nat), n ≤ number → number - n ≤ d → d + 1048580 < k →
    regimenlaw23_CycleSpans.l0 k times number 0 n a b (st first times n).1 (st first times n).2 = some true := by
  intro d
  induction d with
  | zero =>
    intro k n h1 h2 hk
    obtain ⟨k, rfl⟩ : ∃ m, k = m + 1 := ⟨k - 1, by omega⟩
    obtain rfl : n = number := by omega
    simp only [regimenlaw23_CycleSpans.l0]
    rw [if_neg (by omega)]
    split at hab <;> rename_i c <;> cases hab
    · rw [if_pos c]; simp [awake_eq k (by omega)]
    · rw [if_neg c]; simp [awake_eq k (by omega)]
  | succ d ih =>
    intro k n h1 h2 hk
    obtain ⟨k, rfl⟩ : ∃ m, k = m + 1 := ⟨k - 1, by omega⟩
    simp only [regimenlaw23_CycleSpans.l0]
    by_cases c : n < number
    · rw [if_pos (by omega)]
      by_cases c2 : (st first times n).1 ≤ 1048576
      · rw [if_pos c2, refNext_st hf hf2 ht ht2 n (by omega)]
        simp only [Option.bind_some]
        rw [w64 (by omega) (by omega)]
        exact ih k (n + 1) (by omega) (by omega) (by omega)
      · have := st_mono hf hf2 ht ht2 n (number - n)
        rw [show n + (number - n) = number by omega] at this
        rw [if_pos (by omega)] at hab
        cases hab
        rw [if_neg c2, if_pos (by omega)]; simp [awake_eq k (by omega)]
    · obtain rfl : n = number := by omega
      rw [if_neg (by omega)]
      split at hab <;> rename_i c <;> cases hab
      · rw [if_pos c]; simp [awake_eq k (by omega)]
      · rw [if_neg c]; simp [awake_eq k (by omega)]
end

theorem CycleSpans : regimenlaw23_CycleSpans.Pure := by
  intro first times number _ _ _
  refine ⟨3000000, ?_⟩
  unfold regimenlaw23_CycleSpans.f
  rw [refMay_eq]
  by_cases h : 1 ≤ first ∧ first ≤ 1048576 ∧ 1 ≤ times ∧ times ≤ 16 ∧ 0 ≤ number ∧ number ≤ 1048576
  · obtain ⟨h1, h2, h3, h4, h5, h6⟩ := h
    obtain ⟨m, rfl⟩ : ∃ m : Nat, number = m := ⟨number.toNat, by omega⟩
    rw [span_eq h1 h2 h3 h4 m (by omega) 3000000 (by omega), decide_eq_true (by omega)]
    simp only [Option.bind_some, if_true]
    have key := fun a b hab => law_l0 h1 h2 h3 h4 m (by omega) a b hab m 3000000 0 (by omega) (by omega) (by omega)
    by_cases c : (st first times m).1 > 1048576
    · rw [if_pos c]; rw [if_pos c] at key
      simpa [st] using key 0 0 rfl
    · rw [if_neg c]; rw [if_neg c] at key
      simpa [st] using key _ _ rfl
  · rw [span_no h, decide_eq_false h]
    simp [awake_eq 3000000 (by omega)]

end Go.Proofs.Ytbehhlbcffbkoaa.Pure

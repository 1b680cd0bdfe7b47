/- Plain lemmas on cycles: the n-th cycle of a first length and a factor, that it is one step long at least, and which cycle has a place. No program is named here. -/
import Derived.Test.YtbehhlbcffbkoaaWMore
namespace Go.Proofs.Ytbehhlbcffbkoaa.Cyc
open Go.RowKit Go.Proofs.YtbehhlbcffbkoaaW.PrintWords Go.Proofs.YtbehhlbcffbkoaaW.PrintLast Go.Proofs.YtbehhlbcffbkoaaW.PrintMore

def nx (s : Int × Int) (t : Int) : Int × Int := (s.2, s.2 + if (s.2 - s.1) * t ≤ 1048576 then (s.2 - s.1) * t else 1048576)
def st (first times : Int) : Nat → Int × Int
  | 0 => (0, first)
  | n + 1 => nx (st first times n) times

theorem prod_bounds {a t : Int} (ha : 1 ≤ a) (ha2 : a ≤ 1048576) (ht : 1 ≤ t) (ht2 : t ≤ 16) : a ≤ a * t ∧ a * t ≤ 16777216 := by
  constructor
  · have := Int.mul_le_mul_of_nonneg_left ht (show 0 ≤ a by omega)
    omega
  · have h1 := Int.mul_le_mul_of_nonneg_left ht2 (show 0 ≤ a by omega)
    have : a * 16 ≤ 1048576 * 16 := by omega
    omega

theorem st_inv {first times : Int} (hf : 1 ≤ first) (hf2 : first ≤ 1048576) (ht : 1 ≤ times) (ht2 : times ≤ 16) (n : Nat) :
    (n : Int) ≤ (st first times n).1 ∧ 1 ≤ (st first times n).2 - (st first times n).1 ∧ (st first times n).2 - (st first times n).1 ≤ 1048576 ∧ (st first times n).1 ≤ n * 1048576 := by
  induction n with
  | zero => simp only [st]; omega
  | succ n ih =>
    obtain ⟨h0, h1, h2, h3⟩ := ih
    have hp := prod_bounds h1 h2 ht ht2
    simp only [st, nx]
    split <;> omega

theorem st_step (first times : Int) (n : Nat) : (st first times (n + 1)).1 = (st first times n).2 := rfl

theorem st_mono {first times : Int} (hf : 1 ≤ first) (hf2 : first ≤ 1048576) (ht : 1 ≤ times) (ht2 : times ≤ 16) (n d : Nat) :
    (st first times n).1 + d ≤ (st first times (n + d)).1 := by
  induction d with
  | zero => simp
  | succ d ih =>
    have h := st_inv hf hf2 ht ht2 (n + d)
    have := st_step first times (n + d)
    rw [show n + (d + 1) = n + d + 1 from rfl]
    omega

theorem st_lt {first times : Int} (hf : 1 ≤ first) (hf2 : first ≤ 1048576) (ht : 1 ≤ times) (ht2 : times ≤ 16) {n m : Nat} (h : n < m) :
    (st first times n).2 ≤ (st first times m).1 := by
  obtain ⟨d, rfl⟩ : ∃ d, m = n + 1 + d := ⟨m - (n + 1), by omega⟩
  have := st_mono hf hf2 ht ht2 (n + 1) d
  have := st_step first times n
  omega

theorem st_unique {first times at_ : Int} (hf : 1 ≤ first) (hf2 : first ≤ 1048576) (ht : 1 ≤ times) (ht2 : times ≤ 16) {n m : Nat}
    (h1 : (st first times n).1 ≤ at_) (h2 : at_ < (st first times n).2) (h3 : (st first times m).1 ≤ at_) (h4 : at_ < (st first times m).2) : n = m := by
  rcases Nat.lt_trichotomy n m with h | h | h
  · have := st_lt hf hf2 ht ht2 h
    omega
  · exact h
  · have := st_lt hf hf2 ht ht2 h
    omega

theorem st_one {first : Int} (hf2 : first ≤ 1048576) (n : Nat) : st first 1 n = ((n : Int) * first, (n : Int) * first + first) := by
  induction n with
  | zero => simp [st]
  | succ n ih =>
    simp only [st, nx, ih]
    have e : ((n : Int) * first + first - (n : Int) * first) * 1 = first := by omega
    rw [e, if_pos hf2]
    have e2 : ((n + 1 : Nat) : Int) * first = (n : Int) * first + first := by
      rw [Int.natCast_add, Int.add_mul]; simp
    rw [e2]

theorem exists_cycle {first times : Int} (hf : 1 ≤ first) (hf2 : first ≤ 1048576) (ht : 1 ≤ times) (ht2 : times ≤ 16) (at_ : Int) (h0 : 0 ≤ at_) :
    ∃ m : Nat, (st first times m).1 ≤ at_ ∧ at_ < (st first times m).2 ∧ (m : Int) ≤ at_ := by
  have key : ∀ d n : Nat, (st first times n).1 ≤ at_ → at_ < n + d → ∃ m : Nat, (st first times m).1 ≤ at_ ∧ at_ < (st first times m).2 ∧ (m : Int) ≤ at_ := by
    intro d
    induction d with
    | zero =>
      intro n h1 h2
      have := st_inv hf hf2 ht ht2 n
      omega
    | succ d ih =>
      intro n h1 h2
      have := st_inv hf hf2 ht ht2 n
      by_cases c : at_ < (st first times n).2
      · exact ⟨n, h1, c, by omega⟩
      · exact ih (n + 1) (by rw [st_step]; omega) (by omega)
  exact key (at_.toNat + 1) 0 (by simpa [st] using h0) (by omega)

/-- One cycle behind another, as both texts spell it: nothing wraps. -/
theorem w64 {x : Int} (h : -9223372036854775808 ≤ x) (h2 : x < 9223372036854775808) : wrap64 x = x := by unfold wrap64; omega

theorem next_a {a b t : Int} (h0 : 0 ≤ a) (h3 : a ≤ 4611686018427387904) (h1 : 1 ≤ b - a) (h2 : b - a ≤ 1048576) (ht : 1 ≤ t) (ht2 : t ≤ 16) :
    (b, wrap64 (b + (mn (wrap64 ((wrap64 (b - a)) * t)) 1048576))) = nx (a, b) t := by
  have hp := prod_bounds h1 h2 ht ht2
  rw [w64 (x := b - a) (by omega) (by omega), w64 (x := (b - a) * t) (by omega) (by omega)]
  simp only [nx, mn]
  split
  · rw [if_neg (by omega), w64 (by omega) (by omega)]
  · rw [if_pos (by omega), w64 (by omega) (by omega)]

theorem next_b {a b t : Int} (h0 : 0 ≤ a) (h3 : a ≤ 4611686018427387904) (h1 : 1 ≤ b - a) (h2 : b - a ≤ 1048576) (ht : 1 ≤ t) (ht2 : t ≤ 16) :
    (if (wrap64 (t * (wrap64 (b - a)))) > 1048576 then (some (b, wrap64 (b + 1048576))) else (some (b, wrap64 (b + (wrap64 (t * (wrap64 (b - a)))))))) = some (nx (a, b) t) := by
  have hp := prod_bounds h1 h2 ht ht2
  rw [w64 (x := b - a) (by omega) (by omega), Int.mul_comm t, w64 (x := (b - a) * t) (by omega) (by omega)]
  simp only [nx]
  split
  · rw [if_neg (by omega), w64 (by omega) (by omega)]
  · rw [if_pos (by omega), w64 (by omega) (by omega)]

end Go.Proofs.Ytbehhlbcffbkoaa.Cyc

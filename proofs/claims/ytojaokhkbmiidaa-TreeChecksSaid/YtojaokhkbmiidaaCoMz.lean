/- Nodes: the program's test. -/
import Derived.Test.YtojaokhkbmiidaaCoM1
import Derived.Test.YtojaokhkbmiidaaCoM2
import Derived.Test.YtojaokhkbmiidaaCoM3
import Derived.Test.YtojaokhkbmiidaaCoM4
namespace Go.Proofs.Ytojaokhkbmiidaa.Ev
open Go Go.Proofs
theorem may_ok : FunOk Try.prog 40 mayG := may_all fun op => by
  rcases (by omega : (op < 1 ∨ 9 < op) ∨ op = 1 ∨ op = 2 ∨ op = 3 ∨ op = 4 ∨ op = 5 ∨ op = 6 ∨ op = 7 ∨ op = 8 ∨ op = 9) with h | h | h | h | h | h | h | h | h | h
  · exact ⟨_, decide_eq_true h, may_else⟩
  · exact ⟨_, decide_eq_true h, may_at1⟩
  · exact ⟨_, decide_eq_true h, may_at2⟩
  · exact ⟨_, decide_eq_true h, may_at3⟩
  · exact ⟨_, decide_eq_true h, may_at4⟩
  · exact ⟨_, decide_eq_true h, may_at5⟩
  · exact ⟨_, decide_eq_true h, may_at6⟩
  · exact ⟨_, decide_eq_true h, may_at7⟩
  · exact ⟨_, decide_eq_true h, may_at8⟩
  · exact ⟨_, decide_eq_true h, may_at9⟩
end Go.Proofs.Ytojaokhkbmiidaa.Ev

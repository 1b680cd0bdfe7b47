/- Nodes: the document's test. -/
import Derived.Test.YtojaokhkbmiidaaCoZ1
import Derived.Test.YtojaokhkbmiidaaCoZ2
import Derived.Test.YtojaokhkbmiidaaCoZ3
import Derived.Test.YtojaokhkbmiidaaCoZ4
namespace Go.Proofs.Ytojaokhkbmiidaa.Ev
open Go Go.Proofs
theorem refMay_ok : FunOk Try.prog 36 mayG := may_all fun op => by
  rcases (by omega : op < 1 ∨ 9 < op ∨ op = 1 ∨ op = 2 ∨ op = 3 ∨ op = 4 ∨ op = 5 ∨ op = 6 ∨ op = 7 ∨ op = 8 ∨ op = 9) with h | h | h | h | h | h | h | h | h | h | h
  · exact ⟨_, decide_eq_true h, refMay_low⟩
  · exact ⟨_, decide_eq_true h, refMay_high⟩
  · exact ⟨_, decide_eq_true h, refMay_at1⟩
  · exact ⟨_, decide_eq_true h, refMay_at2⟩
  · exact ⟨_, decide_eq_true h, refMay_at3⟩
  · exact ⟨_, decide_eq_true h, refMay_at4⟩
  · exact ⟨_, decide_eq_true h, refMay_at5⟩
  · exact ⟨_, decide_eq_true h, refMay_at6⟩
  · exact ⟨_, decide_eq_true h, refMay_at7⟩
  · exact ⟨_, decide_eq_true h, refMay_at8⟩
  · exact ⟨_, decide_eq_true h, refMay_at9⟩
end Go.Proofs.Ytojaokhkbmiidaa.Ev

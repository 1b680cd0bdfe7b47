/- Code: sound. -/
import Derived.Test.YtojaokhkbmiidaaEv16
namespace Go.Proofs.Ytojaokhkbmiidaa.Ev
open Go
set_option linter.unusedVariables false
set_option linter.unusedSimpArgs false
def toExit : Ex → Exit
  | .normal => .normal
  | .exit id => .exit id
  | .ret => .ret
section
variable {P : Program} {call : CallF} {nt : Nat} {φ₀ : Phi} {m₀ : Mem} {w₀ : World}

theorem St.restr {e : Env} {m : Mem} {a : Act} {w : World} (h : St φ₀ m₀ w₀ nt e m a w) (l : Option (List Nat)) : St φ₀ m₀ w₀ nt (restr l e) m a w := by
  obtain ⟨φ, h1, h2, h3, h4⟩ := h
  exact ⟨φ, h1, h2, h3.restr l, h4⟩
/-- What a piece of code leaves behind. -/
def Post (φ₀ : Phi) (m₀ : Mem) (w₀ : World) (nt : Nat) (r : Ex × Env × Mem) : Exit → Act → World → Prop := fun x a w => x = toExit r.1 ∧ St φ₀ m₀ w₀ nt r.2.1 r.2.2 a w
theorem loop_sound {b : Code} {body : Env → Mem → Res} (hb : ∀ e m r, body e m = some r → ∀ a w, St φ₀ m₀ w₀ nt e m a w → b.wp P (Post φ₀ m₀ w₀ nt r) a w) {r : Ex × Env × Mem} :
    ∀ n e m, loopN body n e m = some r → ∀ a w, St φ₀ m₀ w₀ nt e m a w → Code.rounds P b (Post φ₀ m₀ w₀ nt r) n a w
  | 0, e, m, h, a, w, hs => by cases h
  | n + 1, e, m, h, a, w, hs => by
    rw [rounds_succ]
    unfold loopN at h
    split at h
    · rename_i e' m' h1
      refine wp_mono (hb e m _ h1 a w hs) fun x a' w' hp => ?_
      obtain ⟨rfl, hs'⟩ := hp
      exact loop_sound hb n e' m' h a' w' hs'
    · rename_i h1
      refine wp_mono (hb e m _ h a w hs) fun x a' w' hp => ?_
      obtain ⟨rfl, hs'⟩ := hp
      obtain ⟨x, e', m'⟩ := r
      cases x with
      | normal => exact absurd h (h1 e' m')
      | exit id => exact ⟨rfl, hs'⟩
      | ret => exact ⟨rfl, hs'⟩
theorem code_sound (hm : P.follows .mixedOrders = true) (hC : CallOk P call) (kp : Nat → Option (List Nat)) (n : Nat) : ∀ (c : Code) (e : Env) (m : Mem) (r : Ex × Env × Mem), code P call nt kp n c e m = some r →
    ∀ a w, St φ₀ m₀ w₀ nt e m a w → c.wp P (Post φ₀ m₀ w₀ nt r) a w := by
  intro c
  induction c with
  | skip =>
    intro e m r h a w hs
    simp only [code, Option.some.injEq] at h
    subst h
    exact wp_skip ⟨rfl, hs⟩
  | region id ops draw =>
    intro e m r h a w hs
    unfold code at h
    split at h
    · rename_i e' m' h1
      simp only [Option.some.injEq] at h
      subst h
      cases draw with
      | true =>
        rw [if_pos rfl] at h1
        have := drawn_sound (id := id) (Q := Post φ₀ m₀ w₀ nt (.normal, Ev.restr (kp id) e', m')) hm hC h1 hs fun a w hs => ⟨rfl, hs.restr _⟩
        simpa using this
      | false =>
        rw [if_neg (by simp)] at h1
        exact wp_region_list (ops_sound hC ops.toList e m e' m' h1 (fun a w hs => ⟨rfl, hs.restr _⟩) a w hs)
    · cases h
  | seq x y ihx ihy =>
    intro e m r h a w hs
    unfold code at h
    refine wp_seq ?_
    split at h
    · rename_i e' m' h1
      refine wp_mono (ihx e m _ h1 a w hs) fun x a' w' hp => ?_
      obtain ⟨rfl, hs'⟩ := hp
      exact ihy e' m' r h a' w' hs'
    · rename_i h1
      refine wp_mono (ihx e m _ h a w hs) fun x a' w' hp => ?_
      obtain ⟨rfl, hs'⟩ := hp
      obtain ⟨x, e', m'⟩ := r
      cases x with
      | normal => exact absurd h (h1 e' m')
      | exit id => exact ⟨rfl, hs'⟩
      | ret => exact ⟨rfl, hs'⟩
  | cond c x y ihx ihy =>
    intro e m r h a w hs
    unfold code at h
    split at h
    · rename_i t ht
      have hc : a.eval c = .bool t := by
        obtain ⟨φ, _, _, hE, _⟩ := hs
        have := rep_opd (P := P) hE 0 c
        rw [ht] at this
        generalize hv : a.eval c = v at this
        cases this
        rfl
      refine wp_cond hc ?_
      cases t with
      | true => exact ihx e m r h a w hs
      | false => exact ihy e m r h a w hs
    · cases h
  | block id b ih =>
    intro e m r h a w hs
    unfold code at h
    refine wp_block ?_
    split at h
    · rename_i q e' m' h1
      refine wp_mono (ih e m _ h1 a w hs) fun x a' w' hp => ?_
      obtain ⟨rfl, hs'⟩ := hp
      show (if q = id then _ else _)
      split at h
      · rename_i hq
        rw [if_pos hq]
        simp only [Option.some.injEq] at h
        subst h
        exact ⟨rfl, hs'⟩
      · rename_i hq
        rw [if_neg hq]
        simp only [Option.some.injEq] at h
        subst h
        exact ⟨rfl, hs'⟩
    · rename_i h1
      refine wp_mono (ih e m _ h a w hs) fun x a' w' hp => ?_
      obtain ⟨rfl, hs'⟩ := hp
      obtain ⟨x, e', m'⟩ := r
      cases x with
      | normal => exact ⟨rfl, hs'⟩
      | exit id => exact absurd h (h1 id e' m')
      | ret => exact ⟨rfl, hs'⟩
  | loop b ih =>
    intro e m r h a w hs
    unfold code at h
    exact wp_loop_rounds n (loop_sound ih n e m h a w hs)
  | exit id =>
    intro e m r h a w hs
    simp only [code, Option.some.injEq] at h
    subst h
    exact wp_exit ⟨rfl, hs⟩
  | ret =>
    intro e m r h a w hs
    simp only [code, Option.some.injEq] at h
    subst h
    exact wp_ret ⟨rfl, hs⟩
  | _ => intro e m r h; simp [code] at h
end
end Go.Proofs.Ytojaokhkbmiidaa.Ev

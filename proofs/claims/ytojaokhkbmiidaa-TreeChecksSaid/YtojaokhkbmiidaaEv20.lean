/- Runs of code without a count of rounds; a function's contract; the law's call. -/
import Derived.Test.YtojaokhkbmiidaaEv19
namespace Go.Proofs.Ytojaokhkbmiidaa.Ev
open Go
set_option linter.unusedVariables false
set_option linter.unusedSimpArgs false
section
variable {P : Program} {call : CallF} {nt : Nat} {kp : Nat → Option (List Nat)}

theorem loopN_mono {b b' : Env → Mem → Res} (hb : ∀ e m r, b e m = some r → b' e m = some r) {r : Ex × Env × Mem} : ∀ n n' e m, n ≤ n' → loopN b n e m = some r → loopN b' n' e m = some r
  | 0, _, _, _, _, h => by cases h
  | n + 1, 0, _, _, hn, _ => by omega
  | n + 1, n' + 1, e, m, hn, h => by
    unfold loopN at h ⊢
    split at h
    · rename_i e' m' h1
      rw [hb e m _ h1]
      exact loopN_mono hb n n' e' m' (by omega) h
    · rename_i h1
      rw [hb e m _ h]
      obtain ⟨x, e', m'⟩ := r
      cases x with
      | normal => exact absurd h (h1 e' m')
      | exit id => rfl
      | ret => rfl
theorem code_mono {n n' : Nat} (hn : n ≤ n') : ∀ (c : Code) (e : Env) (m : Mem) (r : Ex × Env × Mem), code P call nt kp n c e m = some r → code P call nt kp n' c e m = some r := by
  intro c
  induction c with
  | seq x y ihx ihy =>
    intro e m r h
    unfold code at h ⊢
    split at h
    · rename_i e' m' h1
      rw [ihx e m _ h1]
      exact ihy e' m' r h
    · rename_i h1
      rw [ihx e m _ h]
      obtain ⟨x, e', m'⟩ := r
      cases x with
      | normal => exact absurd h (h1 e' m')
      | exit id => rfl
      | ret => rfl
  | cond c x y ihx ihy =>
    intro e m r h
    unfold code at h ⊢
    split at h
    · rename_i t ht
      cases t with
      | true => exact ihx e m r h
      | false => exact ihy e m r h
    · cases h
  | block id b ih =>
    intro e m r h
    unfold code at h ⊢
    split at h
    · rename_i q e' m' h1
      rw [ih e m _ h1]
      exact h
    · rename_i h1
      rw [ih e m _ h]
      obtain ⟨x, e', m'⟩ := r
      cases x with
      | normal => rfl
      | exit id => exact absurd h (h1 id e' m')
      | ret => rfl
  | loop b ih =>
    intro e m r h
    unfold code at h ⊢
    exact loopN_mono ih n n' e m hn h
  | _ => intro e m r h; exact h

/-- Code runs, in some number of rounds, to an end that Q holds of. -/
def Runs (P : Program) (call : CallF) (nt : Nat) (kp : Nat → Option (List Nat)) (c : Code) (e : Env) (m : Mem) (Q : Ex → Env → Mem → Prop) : Prop :=
  ∃ n x e' m', code P call nt kp n c e m = some (x, e', m') ∧ Q x e' m'
variable {e : Env} {m : Mem} {Q : Ex → Env → Mem → Prop}
/-- Where the first of two ends. -/
def Next (K : Env → Mem → Prop) (Q : Ex → Env → Mem → Prop) : Ex → Env → Mem → Prop
  | .normal, e, m => K e m
  | x, e, m => Q x e m
def Inside (id : Nat) (Q : Ex → Env → Mem → Prop) : Ex → Env → Mem → Prop
  | .exit q, e, m => if q = id then Q .normal e m else Q (.exit q) e m
  | x, e, m => Q x e m
theorem runs_mono {c : Code} {Q' : Ex → Env → Mem → Prop} (h : Runs P call nt kp c e m Q) (hq : ∀ x e m, Q x e m → Q' x e m) : Runs P call nt kp c e m Q' :=
  let ⟨n, x, e', m', h1, h2⟩ := h; ⟨n, x, e', m', h1, hq _ _ _ h2⟩
theorem runs_skip (h : Q .normal e m) : Runs P call nt kp .skip e m Q := ⟨0, _, _, _, rfl, h⟩
theorem runs_exit {id : Nat} (h : Q (.exit id) e m) : Runs P call nt kp (.exit id) e m Q := ⟨0, _, _, _, rfl, h⟩
theorem runs_ret (h : Q .ret e m) : Runs P call nt kp .ret e m Q := ⟨0, _, _, _, rfl, h⟩
theorem runs_region {id : Nat} {l : List Oper} {e' : Env} {m' : Mem} (h : evOps P call nt l.toArray false l e m = some (e', m')) (hq : Q .normal (restr (kp id) e') m') :
    Runs P call nt kp (.region id l.toArray false) e m Q := ⟨0, _, _, _, by simp only [code, if_neg Bool.false_ne_true, h], hq⟩
theorem runs_drawn {id : Nat} {l : List Oper} {e' : Env} {m' : Mem} (h : evDrawn P call nt l e m = some (e', m')) (hq : Q .normal (restr (kp id) e') m') :
    Runs P call nt kp (.region id l.toArray true) e m Q := ⟨0, _, _, _, by simp only [code, if_true, h], hq⟩
theorem runs_seq {a b : Code} (h : Runs P call nt kp a e m (Next (fun e m => Runs P call nt kp b e m Q) Q)) : Runs P call nt kp (.seq a b) e m Q := by
  obtain ⟨n, x, e', m', h1, h2⟩ := h
  cases x with
  | normal =>
    obtain ⟨n2, x2, e2, m2, h3, h4⟩ := h2
    refine ⟨max n n2, x2, e2, m2, ?_, h4⟩
    unfold code
    rw [code_mono (Nat.le_max_left n n2) _ _ _ _ h1]
    exact code_mono (Nat.le_max_right n n2) _ _ _ _ h3
  | exit id => exact ⟨n, _, _, _, by unfold code; rw [h1], h2⟩
  | ret => exact ⟨n, _, _, _, by unfold code; rw [h1], h2⟩
theorem runs_cond {c : Operand} {a b : Code} {t : Bool} (hc : opd P e 0 c = .v (.bool t)) (ht : t = true → Runs P call nt kp a e m Q) (hf : t = false → Runs P call nt kp b e m Q) : Runs P call nt kp (.cond c a b) e m Q := by
  cases t with
  | true => obtain ⟨n, x, e', m', h1, h2⟩ := ht rfl; exact ⟨n, x, e', m', by unfold code; rw [hc]; exact h1, h2⟩
  | false => obtain ⟨n, x, e', m', h1, h2⟩ := hf rfl; exact ⟨n, x, e', m', by unfold code; rw [hc]; exact h1, h2⟩
theorem runs_block {id : Nat} {b : Code} (h : Runs P call nt kp b e m (Inside id Q)) : Runs P call nt kp (.block id b) e m Q := by
  obtain ⟨n, x, e', m', h1, h2⟩ := h
  cases x with
  | normal => exact ⟨n, _, _, _, by unfold code; rw [h1], h2⟩
  | ret => exact ⟨n, _, _, _, by unfold code; rw [h1], h2⟩
  | exit q =>
    simp only [Inside] at h2
    by_cases hq : q = id
    · rw [if_pos hq] at h2
      exact ⟨n, _, _, _, by unfold code; rw [h1]; simp only [hq, if_true], h2⟩
    · rw [if_neg hq] at h2
      exact ⟨n, _, _, _, by unfold code; rw [h1]; simp only [if_neg hq], h2⟩
theorem runs_loop {b : Code} (I : Nat → Env → Mem → Prop) {k : Nat} (h0 : I k e m) (round : ∀ k e m, I k e m → Runs P call nt kp b e m (Next (fun e' m' => ∃ k', k' < k ∧ I k' e' m') Q)) : Runs P call nt kp (.loop b) e m Q := by
  have key : ∀ k e m, I k e m → ∃ n x e' m', loopN (code P call nt kp n b) n e m = some (x, e', m') ∧ Q x e' m' := by
    intro k
    induction k using Nat.strongRecOn with
    | _ k ih =>
      intro e m hI
      obtain ⟨n, x, e', m', h1, h2⟩ := round k e m hI
      cases x with
      | normal =>
        obtain ⟨k', hk, hI'⟩ := h2
        obtain ⟨n2, x2, e2, m2, h3, h4⟩ := ih k' hk e' m' hI'
        refine ⟨max n n2 + 1, x2, e2, m2, ?_, h4⟩
        unfold loopN
        rw [code_mono (by omega : n ≤ max n n2 + 1) _ _ _ _ h1]
        exact loopN_mono (code_mono (by omega : n2 ≤ max n n2 + 1) b) n2 (max n n2) e' m' (Nat.le_max_right ..) h3
      | exit id => exact ⟨n + 1, _, _, _, by unfold loopN; rw [code_mono (Nat.le_succ n) _ _ _ _ h1], h2⟩
      | ret => exact ⟨n + 1, _, _, _, by unfold loopN; rw [code_mono (Nat.le_succ n) _ _ _ _ h1], h2⟩
  obtain ⟨n, x, e', m', h1, h2⟩ := key k e m h0
  exact ⟨n, x, e', m', by unfold code; exact h1, h2⟩

/-- What a body must leave behind. -/
def Leaves (P : Program) (gr : Bool) (fn : Func) (m₀ : Mem) (r : AV × Mem) : Ex → Env → Mem → Prop
  | .normal, e, m => evRet P gr fn m₀ e m = some r
  | .ret, e, m => evRet P gr fn m₀ e m = some r
  | .exit _, _, _ => False
/-- A function's contract, of its body's run. -/
theorem fun_ok (hm : P.follows .mixedOrders = true) (hC : CallOk P call) {f : FuncId} {fn : Func} {c : Code} (hf : P.funcs[f]? = some fn) (hb : fn.body = some c) (kp : Nat → Option (List Nat)) (gr : Bool)
    {g : List AV → Mem → Option (AV × Mem)} (hn : (fn.name == "runtime.NumGoroutine") = false)
    (h : ∀ args m r, g args m = some r → args.length ≤ fn.ntmps ∧ Runs P call fn.ntmps kp c (entry args) m (Leaves P gr fn m r)) : FunOk P f g := by
  intro args m r m' hg
  obtain ⟨hl, n, x, e', m1, h1, h2⟩ := h args m (r, m') hg
  refine body_ok hm hC n (C := ⟨fun _ => kp, fun _ => gr, fun _ => none⟩) hf hb args m r m' ?_
  unfold evBody
  rw [if_pos ⟨hl, hn⟩]
  dsimp only
  rw [h1]
  cases x with
  | normal => exact h2
  | ret => exact h2
  | exit id => exact h2.elim

/-- Contracts side by side. -/
def table (l : List (FuncId × (List AV → Mem → Option (AV × Mem)))) : CallF := fun f args m =>
  match l with
  | [] => none
  | (k, g) :: rest => if f = k then g args m else table rest f args m
theorem table_ok : ∀ {l : List (FuncId × (List AV → Mem → Option (AV × Mem)))}, (∀ p ∈ l, FunOk P p.1 p.2) → CallOk P (table l)
  | [], _ => fun f args m r m' h => by cases h
  | (k, g) :: rest, hl => fun f args m r m' h => by
    unfold table at h
    split at h
    · rename_i hk
      subst hk
      exact hl _ (List.mem_cons_self ..) args m r m' h
    · exact table_ok (fun p hp => hl p (List.mem_cons_of_mem _ hp)) f args m r m' h
end

/-! ### the law's call -/
/-- All that was there stays. -/
def phiW (W : World) : Phi := ⟨fun _ => 0, fun b _ => b < W.heap.size, fun _ => (0, 0, 0)⟩
theorem phiW_rm (W : World) : RM (phiW W) ⟨[], []⟩ W where
  var r cs h := by simp [Mem.var] at h
  inj r r' cs cs' h := by simp [Mem.var] at h
  vim r cs o h := by simp [Mem.var] at h
  tok id b s e h := by simp at h
  tinj id id' b s e s' e' h := by simp at h
  imlt b o h := h
theorem law_calls {P : Program} {f : FuncId} {g : List AV → Mem → Option (AV × Mem)} (hf : FunOk P f g) {args : List AV} {x : Value} {m' : Mem} (hg : g args ⟨[], []⟩ = some (.v x, m')) {W : World} {vals : Array Value}
    (hA : Reps (phiW W) ⟨[], []⟩ W args vals) : Calls P f vals W fun e W' => e = .returned x ∧ Go.RowKit.Below W.heap.size W W' := by
  refine ((hf args _ _ _ hg).2 (phiW W) W vals (phiW_rm W) hA).mono fun e W' h => ?_
  obtain ⟨y, φ', rfl, _, hX, hr⟩ := h
  cases hr
  refine ⟨rfl, hX.os, hX.tape, hX.output, hX.size, fun k hk => hX.blk k hk ?_⟩
  rintro (⟨r, cs, h, _⟩ | ⟨id, s, e, h, _⟩)
  · simp [Mem.var] at h
  · simp at h
end Go.Proofs.Ytojaokhkbmiidaa.Ev

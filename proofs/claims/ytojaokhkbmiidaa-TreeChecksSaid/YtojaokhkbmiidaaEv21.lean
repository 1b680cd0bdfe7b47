/- Regions, step by step. -/
import Derived.Test.YtojaokhkbmiidaaEv20
namespace Go.Proofs.Ytojaokhkbmiidaa.Ev
open Go
set_option linter.unusedVariables false
set_option linter.unusedSimpArgs false
section
variable {P : Program} {call : CallF} {nt : Nat} {kp : Nat → Option (List Nat)} {ops : Array Oper} {pu : Bool}
/-- Operations run to a state that K holds of. -/
def Ops (P : Program) (call : CallF) (nt : Nat) (ops : Array Oper) (pu : Bool) (l : List Oper) (e : Env) (m : Mem) (K : Env → Mem → Prop) : Prop :=
  ∃ e' m', evOps P call nt ops pu l e m = some (e', m') ∧ K e' m'
variable {e : Env} {m : Mem} {Q : Ex → Env → Mem → Prop} {K : Env → Mem → Prop}
theorem runs_ops {id : Nat} {l : List Oper} (h : Ops P call nt l.toArray false l e m fun e' m' => Q .normal (restr (kp id) e') m') : Runs P call nt kp (.region id l.toArray false) e m Q :=
  let ⟨_, _, h1, h2⟩ := h; runs_region h1 h2
theorem runs_ops_drawn {id : Nat} {l : List Oper} (hok : drawnOk P l = true) (h : Ops P call nt l.toArray (anyLoose P l) l e m fun e' m' => Q .normal (restr (kp id) e') m') : Runs P call nt kp (.region id l.toArray true) e m Q :=
  let ⟨_, _, h1, h2⟩ := h; runs_drawn (by unfold evDrawn; rw [if_pos hok]; exact h1) h2
/-- The ends of pieces of code. -/
theorem next_normal {K : Env → Mem → Prop} (h : K e m) : Next K Q .normal e m := h
theorem next_exit {K : Env → Mem → Prop} {id : Nat} (h : Q (.exit id) e m) : Next K Q (.exit id) e m := h
theorem next_ret {K : Env → Mem → Prop} (h : Q .ret e m) : Next K Q .ret e m := h
theorem inside_normal {id : Nat} (h : Q .normal e m) : Inside id Q .normal e m := h
theorem inside_ret {id : Nat} (h : Q .ret e m) : Inside id Q .ret e m := h
theorem inside_exit {id : Nat} (h : Q .normal e m) : Inside id Q (.exit id) e m := by show (if id = id then _ else _); rw [if_pos rfl]; exact h
theorem inside_other {id q : Nat} (hq : q ≠ id) (h : Q (.exit q) e m) : Inside id Q (.exit q) e m := by show (if q = id then _ else _); rw [if_neg hq]; exact h
/-- A region's end: the slots that are kept. -/
theorem runs_ops_kept {id : Nat} {l : List Oper} (h : Ops P call nt l.toArray false l e m fun e' m' => ∀ e2, restr (kp id) e' = e2 → Q .normal e2 m') : Runs P call nt kp (.region id l.toArray false) e m Q :=
  runs_ops (let ⟨e', m', h1, h2⟩ := h; ⟨e', m', h1, h2 _ rfl⟩)
theorem runs_ops_drawn_kept {id : Nat} {l : List Oper} (hok : drawnOk P l = true) (h : Ops P call nt l.toArray (anyLoose P l) l e m fun e' m' => ∀ e2, restr (kp id) e' = e2 → Q .normal e2 m') : Runs P call nt kp (.region id l.toArray true) e m Q :=
  runs_ops_drawn hok (let ⟨e', m', h1, h2⟩ := h; ⟨e', m', h1, h2 _ rfl⟩)
theorem ops_nil (h : K e m) : Ops P call nt ops pu [] e m K := ⟨e, m, rfl, h⟩
theorem ops_op {o : Oper} {rest : List Oper} {a : AV} {m1 : Mem} {d : Nat} (hg : o.guard = none) (hd : o.dst = some d) (hlt : d < nt) (hk : evOp P call e m o = some (a, m1))
    (hpu : (pu && clsOf P o == .ca) = true → m1 = m) (h : Ops P call nt ops pu rest ((d, a) :: e) m1 K) : Ops P call nt ops pu (o :: rest) e m K := by
  obtain ⟨e', m', h1, h2⟩ := h
  refine ⟨e', m', ?_, h2⟩
  have hw : wantedAV ops e o = some true := by unfold wantedAV; rw [hg]
  have hp : putAV nt o.dst a e = some ((d, a) :: e) := by unfold putAV; rw [hd]; exact if_pos hlt
  have hk' : keeps P pu o m (evOp P call e m o) = some (a, m1) := by unfold keeps; rw [hk]; exact if_pos hpu
  unfold evOps
  rw [hw]
  simp only [hk', hp]
  exact h1
theorem ops_op0 {o : Oper} {rest : List Oper} {a : AV} {m1 : Mem} (hg : o.guard = none) (hd : o.dst = none) (hk : evOp P call e m o = some (a, m1))
    (hpu : (pu && clsOf P o == .ca) = true → m1 = m) (h : Ops P call nt ops pu rest e m1 K) : Ops P call nt ops pu (o :: rest) e m K := by
  obtain ⟨e', m', h1, h2⟩ := h
  refine ⟨e', m', ?_, h2⟩
  have hw : wantedAV ops e o = some true := by unfold wantedAV; rw [hg]
  have hp : putAV nt o.dst a e = some e := by unfold putAV; rw [hd]
  have hk' : keeps P pu o m (evOp P call e m o) = some (a, m1) := by unfold keeps; rw [hk]; exact if_pos hpu
  unfold evOps
  rw [hw]
  simp only [hk', hp]
  exact h1
/-- A guarded one. -/
theorem ops_if {o : Oper} {rest : List Oper} {d j g : Nat} {want b : Bool} (hg : o.guard = some (j, want)) (hj : (ops[j]?).bind (·.dst) = some g) (hb : get e g = .v (.bool b)) (hd : o.dst = some d) (hlt : d < nt)
    (hy : b = want → ∃ a m1, evOp P call e m o = some (a, m1) ∧ ((pu && clsOf P o == .ca) = true → m1 = m) ∧ Ops P call nt ops pu rest ((d, a) :: e) m1 K)
    (hn : b ≠ want → Ops P call nt ops pu rest ((d, .v (.tuple #[])) :: e) m K) : Ops P call nt ops pu (o :: rest) e m K := by
  have hw : wantedAV ops e o = some (b == want) := by unfold wantedAV; rw [hg]; simp only [hj, hb]
  have hp : ∀ a, putAV nt o.dst a e = some ((d, a) :: e) := fun a => by unfold putAV; rw [hd]; exact if_pos hlt
  by_cases h : b = want
  · obtain ⟨a, m1, hk, hpu, e', m', h1, h2⟩ := hy h
    refine ⟨e', m', ?_, h2⟩
    have hk' : keeps P pu o m (evOp P call e m o) = some (a, m1) := by unfold keeps; rw [hk]; exact if_pos hpu
    unfold evOps
    rw [hw, show (b == want) = true by simp [h]]
    simp only [hk', hp]
    exact h1
  · obtain ⟨e', m', h1, h2⟩ := hn h
    refine ⟨e', m', ?_, h2⟩
    unfold evOps
    rw [hw, show (b == want) = false by simp [h]]
    simp only [hp]
    exact h1
theorem ops_yes {o : Oper} {rest : List Oper} {d j g : Nat} {want : Bool} {a : AV} {m1 : Mem} (hg : o.guard = some (j, want)) (hj : (ops[j]?).bind (·.dst) = some g) (hb : get e g = .v (.bool want)) (hd : o.dst = some d) (hlt : d < nt)
    (hk : evOp P call e m o = some (a, m1)) (hpu : (pu && clsOf P o == .ca) = true → m1 = m) (h : Ops P call nt ops pu rest ((d, a) :: e) m1 K) : Ops P call nt ops pu (o :: rest) e m K :=
  ops_if hg hj hb hd hlt (fun _ => ⟨a, m1, hk, hpu, h⟩) (fun hn => absurd rfl hn)
theorem ops_no {o : Oper} {rest : List Oper} {d j g : Nat} {want b : Bool} (hg : o.guard = some (j, want)) (hj : (ops[j]?).bind (·.dst) = some g) (hb : get e g = .v (.bool b)) (hne : b ≠ want) (hd : o.dst = some d) (hlt : d < nt)
    (h : Ops P call nt ops pu rest ((d, .v (.tuple #[])) :: e) m K) : Ops P call nt ops pu (o :: rest) e m K :=
  ops_if hg hj hb hd hlt (fun h' => absurd h' hne) (fun _ => h)
end
end Go.Proofs.Ytojaokhkbmiidaa.Ev

/- One list that grows. -/
import Derived.Test.YtojaokhkbmiidaaEv23
namespace Go.Proofs.Ytojaokhkbmiidaa.Ev
open Go
set_option linter.unusedVariables false
set_option linter.unusedSimpArgs false
section
variable {P : Program} {m : Mem}
/-- The one list that grows: not yet, or by the one token. -/
def Grows (m : Mem) (g : Grow) (m' : Mem) : Prop := (g = .full ∧ m' = m) ∨ ∃ v, g = .tok m.toks.length v ∧ m' = m.tk [v]
theorem grows_full : Grows m .full m := .inl ⟨rfl, rfl⟩
theorem grows_tok {v : Nat} : Grows m (.tok m.toks.length v) (m.tk [v]) := .inr ⟨v, rfl, rfl⟩
theorem app_grows {t t2 : TypeId} {k : Nat} (ha : appB P t t2 k = true) {g : Grow} {m' : Mem} (hG : Grows m g m') {y : AV} {g2 : Grow} {xs ys : List (List AV)} (hy : asList k y = some (g2, ys)) (hl : xs.length + ys.length ≤ lim) :
    ∃ g' m'', evAppend P t t2 m' (.lst g k xs) y = some (.lst g' k (xs ++ ys), m'') ∧ Grows m g' m'' := by
  rcases hG with ⟨rfl, rfl⟩ | ⟨v, rfl, rfl⟩
  · exact ⟨_, _, app_full ha hy hl, grows_tok⟩
  · exact ⟨_, _, app_one ha hy hl, grows_tok⟩
theorem fin_grows {g : Grow} {m' : Mem} (hG : Grows m g m') : finMem m m' = m := by
  rcases hG with ⟨rfl, rfl⟩ | ⟨v, rfl, rfl⟩
  · exact finMem_self _
  · exact fin_tk
/-- With other tokens already there. -/
theorem grows_at {l : List Nat} {g : Grow} {m' : Mem} (hG : Grows (m.tk l) g m') : finMem m m' = m := by
  rcases hG with ⟨rfl, rfl⟩ | ⟨v, rfl, rfl⟩
  · exact fin_tk
  · rw [tk_tk]; exact fin_tk
/-- Bytes. -/
theorem app_bytes {t t2 : TypeId} (ha : appB P t t2 1 = true) {g g2 : Grow} {m' : Mem} (hG : Grows m g m') (xs ys : List Nat) (hl : xs.length + ys.length ≤ lim) :
    ∃ g' m'', evAppend P t t2 m' (.lst g 1 (rowsB xs)) (.lst g2 1 (rowsB ys)) = some (.lst g' 1 (rowsB (xs ++ ys)), m'') ∧ Grows m g' m'' := by
  rw [← rowsB_app]
  exact app_grows ha hG asList_lst (by rw [rowsB_len, rowsB_len]; exact hl)
theorem app_byte {t t2 : TypeId} (ha : appB P t t2 1 = true) {g g2 : Grow} {m' : Mem} (hG : Grows m g m') (xs : List Nat) (y : Nat) (hl : xs.length + 1 ≤ lim) :
    ∃ g' m'', evAppend P t t2 m' (.lst g 1 (rowsB xs)) (.lst g2 1 [[.v (.int .u8 (y : Int))]]) = some (.lst g' 1 (rowsB (xs ++ [y])), m'') ∧ Grows m g' m'' := app_bytes ha hG xs [y] hl
theorem app_ints {t t2 : TypeId} (ha : appB P t t2 1 = true) {g g2 : Grow} {m' : Mem} (hG : Grows m g m') (xs ys : List Int) (hl : xs.length + ys.length ≤ lim) :
    ∃ g' m'', evAppend P t t2 m' (.lst g 1 (rowsI xs)) (.lst g2 1 (rowsI ys)) = some (.lst g' 1 (rowsI (xs ++ ys)), m'') ∧ Grows m g' m'' := by
  rw [← rowsI_app]
  exact app_grows ha hG asList_lst (by rw [rowsI_len, rowsI_len]; exact hl)
theorem app_int {t t2 : TypeId} (ha : appB P t t2 1 = true) {g g2 : Grow} {m' : Mem} (hG : Grows m g m') (xs : List Int) (y : Int) (hl : xs.length + 1 ≤ lim) :
    ∃ g' m'', evAppend P t t2 m' (.lst g 1 (rowsI xs)) (.lst g2 1 [[.v (.int .i64 y)]]) = some (.lst g' 1 (rowsI (xs ++ [y])), m'') ∧ Grows m g' m'' := app_ints ha hG xs [y] hl
end
section
variable {P : Program} {call : CallF} {nt : Nat} {ops : Array Oper} {pu : Bool} {e : Env} {m : Mem} {K : Env → Mem → Prop}
theorem ops_cut {l : List Oper} {K' : Env → Mem → Prop} (h : Ops P call nt ops pu l e m K') (hk : ∀ e m, K' e m → K e m) : Ops P call nt ops pu l e m K :=
  let ⟨e', m', h1, h2⟩ := h; ⟨e', m', h1, hk e' m' h2⟩
/-- Guarded by what was not carried out. -/
theorem ops_off {o : Oper} {rest : List Oper} {d j g : Nat} {want : Bool} {a : Array Value} (hg : o.guard = some (j, want)) (hj : (ops[j]?).bind (·.dst) = some g) (hb : get e g = .v (.tuple a)) (hd : o.dst = some d) (hlt : d < nt)
    (h : Ops P call nt ops pu rest ((d, .v (.tuple #[])) :: e) m K) : Ops P call nt ops pu (o :: rest) e m K := by
  obtain ⟨e', m', h1, h2⟩ := h
  refine ⟨e', m', ?_, h2⟩
  have hw : wantedAV ops e o = some false := by unfold wantedAV; rw [hg]; simp only [hj, hb]
  have hp : ∀ a, putAV nt o.dst a e = some ((d, a) :: e) := fun a => by unfold putAV; rw [hd]; exact if_pos hlt
  unfold evOps
  rw [hw]
  simp only [hp]
  exact h1
end
end Go.Proofs.Ytojaokhkbmiidaa.Ev

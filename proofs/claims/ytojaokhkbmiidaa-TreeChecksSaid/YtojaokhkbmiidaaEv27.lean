/- Tables at a function; arguments of lists of bytes and numbers. -/
import Derived.Test.YtojaokhkbmiidaaEv25
import Derived.Test.YtojaokhkbmiidaaEv26
namespace Go.Proofs.Ytojaokhkbmiidaa.Ev
open Go
set_option linter.unusedVariables false
set_option linter.unusedSimpArgs false
theorem table_at : ∀ {l : List (FuncId × (List AV → Mem → Option (AV × Mem)))} {f : FuncId} {g : List AV → Mem → Option (AV × Mem)} {args : List AV} {m : Mem}, (l.find? fun p => p.1 == f).map (·.2) = some g → table l f args m = g args m
  | [], f, g, args, m, h => by simp at h
  | (k, g0) :: rest, f, g, args, m, h => by
    by_cases e : f = k
    · subst e
      simp at h
      rw [table, if_pos rfl, h]
    · have e' : (k == f) = false := by simpa using fun h => e h.symm
      rw [List.find?_cons, e'] at h
      rw [table, if_neg e]
      exact table_at h
/-- A cut behind a piece of code. -/
theorem runs_next {P : Program} {call : CallF} {nt : Nat} {kp : Nat → Option (List Nat)} {c : Code} {e : Env} {m : Mem} {Q : Ex → Env → Mem → Prop} {I K : Env → Mem → Prop} (h : Runs P call nt kp c e m (Next I Q)) (hk : ∀ e m, I e m → K e m) :
    Runs P call nt kp c e m (Next K Q) := runs_mono h fun x e m hx => by
  cases x with
  | normal => exact hk _ _ hx
  | exit id => exact hx
  | ret => exact hx
/-- Contracts one by one. -/
theorem table_nil {P : Program} : ∀ p ∈ ([] : List (FuncId × (List AV → Mem → Option (AV × Mem)))), FunOk P p.1 p.2 := fun p h => by simp at h
theorem table_more {P : Program} {f : FuncId} {g : List AV → Mem → Option (AV × Mem)} {l : List (FuncId × (List AV → Mem → Option (AV × Mem)))} (h : FunOk P f g) (hl : ∀ p ∈ l, FunOk P p.1 p.2) : ∀ p ∈ (f, g) :: l, FunOk P p.1 p.2 := fun p hp => by
  rcases List.mem_cons.1 hp with rfl | hp
  · exact h
  · exact hl p hp
theorem build_rows {P : Program} {t t2 : TypeId} {k n : Nat} (ha : appB P t t2 k = true) {ps : List (Nat × AV)} {rows : List (List AV)} (hr : evRows k 0 ps = some rows) (hn : rows.length = n) (h16 : n * k ≤ 16777216) :
    evBuildSlice P t n ps = some (.lst .full k rows) := by
  unfold appB at ha
  unfold evBuildSlice
  split at ha
  · rename_i e he
    split at ha
    · rename_i k' b z hk hb hz
      simp only [Bool.and_eq_true, decide_eq_true_eq] at ha
      obtain ⟨⟨⟨⟨⟨h1, h2⟩, h3⟩, h4⟩, h5⟩, h6⟩ := ha
      subst h1
      simp only [he, hk, hz, hr]
      rw [if_pos ⟨hn, h16, h3⟩]
    · cases ha
  · cases ha
theorem rows_bytes : ∀ {rows : List (List AV)}, (∀ row ∈ rows, ∃ n, row = [.v (.int .u8 n)] ∧ IntKind.u8.min ≤ n ∧ n ≤ IntKind.u8.max) → ∃ l, OkB l ∧ rows = rowsB l
  | [], _ => ⟨[], .nil, rfl⟩
  | row :: rows, h => by
    obtain ⟨l, h1, rfl⟩ := rows_bytes fun r hr => h r (List.mem_cons_of_mem _ hr)
    obtain ⟨n, rfl, h2, h3⟩ := h row (List.mem_cons_self ..)
    simp [IntKind.min, IntKind.max, IntKind.signed, IntKind.bits] at h2 h3
    refine ⟨n.toNat :: l, fun b hb => ?_, ?_⟩
    · rcases List.mem_cons.1 hb with rfl | hb
      · omega
      · exact h1 b hb
    · show _ = [.v (.int .u8 ((n.toNat : Nat) : Int))] :: rowsB l
      rw [Int.toNat_of_nonneg h2]
theorem rows_ints : ∀ {rows : List (List AV)}, (∀ row ∈ rows, ∃ n, row = [.v (.int .i64 n)] ∧ IntKind.i64.min ≤ n ∧ n ≤ IntKind.i64.max) → ∃ l, OkI l ∧ rows = rowsI l
  | [], _ => ⟨[], .nil, rfl⟩
  | row :: rows, h => by
    obtain ⟨l, h1, rfl⟩ := rows_ints fun r hr => h r (List.mem_cons_of_mem _ hr)
    obtain ⟨n, rfl, h2, h3⟩ := h row (List.mem_cons_self ..)
    simp [IntKind.min, IntKind.max, IntKind.signed, IntKind.bits] at h2 h3
    refine ⟨n :: l, fun b hb => ?_, rfl⟩
    rcases List.mem_cons.1 hb with rfl | hb
    · exact ⟨h2, h3⟩
    · exact h1 b hb
section
variable {P : Program} {d : Nat} {t e : TypeId} {a : AV}
theorem arg_int {k : IntKind} (ht : P.underlying t = some (.int k)) (h : TypedArg P (d + 1) t a) : ∃ n, a = .v (.int k n) ∧ k.min ≤ n ∧ n ≤ k.max := by
  unfold TypedArg Typed at h
  rw [ht] at h
  obtain ⟨n, h1, h2⟩ := h
  cases h1
  exact ⟨n, rfl, h2⟩
theorem arg_str (ht : P.underlying t = some .string) (h : TypedArg P (d + 1) t a) : ∃ s, a = .v (.string s) ∧ s.size ≤ 9223372036854775807 := by
  unfold TypedArg Typed at h
  rw [ht] at h
  obtain ⟨n, h1, h2⟩ := h
  cases h1
  exact ⟨n, rfl, h2⟩
theorem arg_slice (ht : P.underlying t = some (.slice e)) (h : TypedArg P (d + 1) t a) : ∃ rows, a = .lst .no (P.cellsOf e) rows ∧ rows.length ≤ 9223372036854775807 ∧ ∀ row ∈ rows, Typed P d e row := by
  unfold TypedArg Typed at h
  rw [ht] at h
  obtain ⟨rows, h1, h2⟩ := h
  cases h1
  exact ⟨rows, rfl, h2⟩
theorem size_cells {k : Nat} (h : tSize P e = some k) : P.cellsOf e = k := by
  unfold tSize at h
  unfold Program.cellsOf
  rw [h]
  rfl
theorem arg_bytes (ht : P.underlying t = some (.slice e)) (he : P.underlying e = some (.int .u8)) (hs : tSize P e = some 1) (h : TypedArg P (d + 2) t a) : ∃ l, OkB l ∧ l.length ≤ 9223372036854775807 ∧ a = .lst .no 1 (rowsB l) := by
  obtain ⟨rows, rfl, h1, h2⟩ := arg_slice ht h
  obtain ⟨l, h3, rfl⟩ := rows_bytes fun row hr => by
    have := h2 row hr
    unfold Typed at this
    rw [he] at this
    exact this
  exact ⟨l, h3, by rw [rowsB_len] at h1; exact h1, by rw [size_cells hs]⟩
theorem arg_ints (ht : P.underlying t = some (.slice e)) (he : P.underlying e = some (.int .i64)) (hs : tSize P e = some 1) (h : TypedArg P (d + 2) t a) : ∃ l, OkI l ∧ l.length ≤ 9223372036854775807 ∧ a = .lst .no 1 (rowsI l) := by
  obtain ⟨rows, rfl, h1, h2⟩ := arg_slice ht h
  obtain ⟨l, h3, rfl⟩ := rows_ints fun row hr => by
    have := h2 row hr
    unfold Typed at this
    rw [he] at this
    exact this
  exact ⟨l, h3, by rw [rowsI_len] at h1; exact h1, by rw [size_cells hs]⟩
end
end Go.Proofs.Ytojaokhkbmiidaa.Ev

/- Nodes. -/
import Derived.Test.YtojaokhkbmiidaaCoA
namespace Go.Proofs.Ytojaokhkbmiidaa.Ev
open Go Go.Proofs
set_option maxRecDepth 10000
set_option linter.unusedVariables false
set_option linter.unusedSimpArgs false
structure Nd where
  op : Int
  a : Int
  b : Int
  c : Int
  k : Int
  u : Int
  n : Int
  deriving DecidableEq
instance : Inhabited Nd := ⟨⟨0, 0, 0, 0, 0, 0, 0⟩⟩
def iv (n : Int) : AV := .v (.int .i64 n)
def Nd.row (x : Nd) : List AV := [iv x.op, iv x.a, iv x.b, iv x.c, iv x.k, iv x.u, iv x.n]
def Nd.ok (x : Nd) : Prop := inI x.op ∧ inI x.a ∧ inI x.b ∧ inI x.c ∧ inI x.k ∧ inI x.u ∧ inI x.n
instance (x : Nd) : Decidable x.ok := by unfold Nd.ok; exact inferInstance
def nd0 : Nd := ⟨0, 0, 0, 0, 0, 0, 0⟩
theorem nd0_ok : nd0.ok := by decide
def rowsN (l : List Nd) : List (List AV) := l.map Nd.row
theorem rowsN_len (l : List Nd) : (rowsN l).length = l.length := List.length_map ..
theorem rowsN_take (l : List Nd) (i : Nat) : (rowsN l).take i = rowsN (l.take i) := List.map_take.symm
theorem rowsN_drop (l : List Nd) (i : Nat) : (rowsN l).drop i = rowsN (l.drop i) := List.map_drop.symm
theorem rowsN_get {l : List Nd} {i : Nat} (hi : i < l.length) : (rowsN l)[i]? = some (l.getD i nd0).row := by
  simp [rowsN, List.getD, List.getElem?_eq_getElem hi]
def OkN (l : List Nd) : Prop := ∀ x ∈ l, x.ok
instance (l : List Nd) : Decidable (OkN l) := by unfold OkN; exact inferInstance
theorem OkN.getD {l : List Nd} (h : OkN l) (i : Nat) : (l.getD i nd0).ok := by
  simp only [List.getD]
  cases hi : l[i]? with
  | none => exact nd0_ok
  | some b => exact h b (List.mem_of_getElem? hi)
theorem OkN.take {l : List Nd} (h : OkN l) (i : Nat) : OkN (l.take i) := fun b hb => h b (List.mem_of_mem_take hb)
theorem OkN.drop {l : List Nd} (h : OkN l) (i : Nat) : OkN (l.drop i) := fun b hb => h b (List.mem_of_mem_drop hb)
def unNd : List AV → Option Nd
  | [.v (.int .i64 op), .v (.int .i64 a), .v (.int .i64 b), .v (.int .i64 c), .v (.int .i64 k), .v (.int .i64 u), .v (.int .i64 n)] => some ⟨op, a, b, c, k, u, n⟩
  | _ => none
def unN : List (List AV) → Option (List Nd)
  | [] => some []
  | row :: r =>
    match unNd row, unN r with
    | some x, some l => some (x :: l)
    | _, _ => none
theorem unNd_some {row : List AV} {x : Nd} (h : unNd row = some x) : row = x.row := by
  unfold unNd at h
  split at h
  · cases h; rfl
  · cases h
theorem unN_some : ∀ {rows : List (List AV)} {l : List Nd}, unN rows = some l → rows = rowsN l
  | [], l, h => by simp only [unN, Option.some.injEq] at h; subst h; rfl
  | row :: r, l, h => by
    unfold unN at h
    split at h
    · rename_i x l' h1 h2
      cases h
      rw [unNd_some h1, unN_some h2]
      rfl
    · cases h
theorem unN_rowsN : ∀ (l : List Nd), unN (rowsN l) = some l
  | [] => rfl
  | x :: l => by
    have e : rowsN (x :: l) = x.row :: rowsN l := rfl
    rw [e, unN, unN_rowsN l]
    rfl
theorem szNode : tSize Try.prog 56 = some 7 := by kernel_rfl
theorem elNodes : tElem Try.prog 22 = some 56 := by simp only [tElem, Try.underlying22]
theorem naNodes : tArr Try.prog 22 = none := by simp only [tArr, Try.underlying22]
theorem atNodes {g : Grow} {kk : IntKind} {l : List Nd} {i : Nat} (hi : i < l.length) : evIndexAddr Try.prog 22 (.lst g 7 (rowsN l)) (.v (.int kk (i : Int))) = some (.eptr (l.getD i nd0).row) := at_list elNodes naNodes szNode (rowsN_get hi)
theorem fldOp {x : Nd} : evFieldAddr Try.prog 56 (.eptr x.row) 0 = some (.eptr x.row) := by kernel_rfl
theorem ldOp {m : Mem} {x : Nd} : evLoad Try.prog m 3 (.eptr x.row) = some (.v (.int .i64 x.op)) := loadInt
theorem ldNode {m : Mem} {x : Nd} : evLoad Try.prog m 56 (.eptr x.row) = some (.agg x.row) := by kernel_rfl
/-- A law's argument. -/
theorem typed_node {d : Nat} {row : List AV} (h : Typed Try.prog (d + 3) 56 row) : ∃ x : Nd, x.ok ∧ row = x.row := by
  unfold Typed at h
  rw [Try.underlying56] at h
  obtain ⟨parts, rfl, hl, h⟩ := h
  match parts, hl with
  | [p0, p1, p2, p3, p4, p5], _ =>
    have h0 := h 0 _ p0 rfl rfl
    have h1 := h 1 _ p1 rfl rfl
    have h2 := h 2 _ p2 rfl rfl
    have h3 := h 3 _ p3 rfl rfl
    have h4 := h 4 _ p4 rfl rfl
    have h5 := h 5 _ p5 rfl rfl
    have num : ∀ {d : Nat} {p : List AV}, Typed Try.prog (d + 1) 3 p → ∃ n, inI n ∧ p = [iv n] := by
      intro d p h
      unfold Typed at h
      rw [Try.underlying3] at h
      obtain ⟨n, rfl, n0, n1⟩ := h
      simp [IntKind.min, IntKind.max, IntKind.signed, IntKind.bits] at n0 n1
      exact ⟨n, ⟨n0, n1⟩, rfl⟩
    obtain ⟨op, o0, rfl⟩ := num h0
    obtain ⟨a, o1, rfl⟩ := num h1
    obtain ⟨b, o2, rfl⟩ := num h2
    obtain ⟨c, o3, rfl⟩ := num h3
    obtain ⟨k, o4, rfl⟩ := num h4
    have h5' : Typed Try.prog (d + 2) 54 p5 := h5
    unfold Typed at h5'
    rw [Try.underlying54] at h5'
    obtain ⟨q, rfl, hq, h6⟩ := h5'
    match q, hq with
    | [q0, q1], _ =>
      have g0 := h6 0 _ q0 rfl rfl
      have g1 := h6 1 _ q1 rfl rfl
      obtain ⟨u, o5, rfl⟩ := num g0
      obtain ⟨n, o6, rfl⟩ := num g1
      exact ⟨⟨op, a, b, c, k, u, n⟩, ⟨o0, o1, o2, o3, o4, o5, o6⟩, rfl⟩
theorem rows_nodes {d : Nat} : ∀ {rows : List (List AV)}, (∀ row ∈ rows, Typed Try.prog (d + 3) 56 row) → ∃ l, OkN l ∧ rows = rowsN l
  | [], _ => ⟨[], (fun x h => by simp at h), rfl⟩
  | row :: rows, h => by
    obtain ⟨l, h1, rfl⟩ := rows_nodes fun r hr => h r (List.mem_cons_of_mem _ hr)
    obtain ⟨x, h2, rfl⟩ := typed_node (h row (List.mem_cons_self ..))
    refine ⟨x :: l, fun y hy => ?_, rfl⟩
    rcases List.mem_cons.1 hy with rfl | hy
    · exact h2
    · exact h1 y hy
theorem arg_nodes {d : Nat} {a : AV} (h : TypedArg Try.prog (d + 4) 22 a) : ∃ l, OkN l ∧ l.length ≤ 9223372036854775807 ∧ a = .lst .no 7 (rowsN l) := by
  obtain ⟨rows, rfl, h1, h2⟩ := arg_slice Try.underlying22 h
  obtain ⟨l, h3, rfl⟩ := rows_nodes h2
  exact ⟨l, h3, by rw [rowsN_len] at h1; exact h1, by rw [size_cells szNode]⟩
end Go.Proofs.Ytojaokhkbmiidaa.Ev

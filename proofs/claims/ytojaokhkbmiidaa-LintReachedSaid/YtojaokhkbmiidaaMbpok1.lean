/- Words for all walks: types, numbers, texts, lists of texts. -/
import Derived.Test.YtojaokhkbmiidaaMa2
import Derived.Test.YtojaokhkbmiidaaChecked
import Derived.KernelRfl
namespace Go.Proofs.Ytojaokhkbmiidaa.Ev
open Go Go.Proofs
set_option maxRecDepth 10000
set_option linter.unusedVariables false
set_option linter.unusedSimpArgs false
theorem mixed : Try.prog.follows .mixedOrders = true := Try.checked.mixed
theorem strS : tStr Try.prog 9 = true := by simp only [tStr, Try.underlying9]
theorem szInt : tSize Try.prog 3 = some 1 := by kernel_rfl
theorem szStr : tSize Try.prog 9 = some 1 := by kernel_rfl
theorem elStrs : tElem Try.prog 38 = some 9 := by simp only [tElem, Try.underlying38]
theorem naStrs : tArr Try.prog 38 = none := by simp only [tArr, Try.underlying38]
theorem appStrs : appB Try.prog 38 38 1 = true := by kernel_rfl
theorem elInts : tElem Try.prog 25 = some 3 := by simp only [tElem, Try.underlying25]
theorem naInts : tArr Try.prog 25 = none := by simp only [tArr, Try.underlying25]
theorem appInts : appB Try.prog 25 25 1 = true := by kernel_rfl
theorem loadStr {m : Mem} {c : AV} {cs : List AV} : evLoad Try.prog m 9 (.eptr (c :: cs)) = some c := load_one (by simp only [tAgg, Try.underlying9]) szStr
theorem loadInt {m : Mem} {c : AV} {cs : List AV} : evLoad Try.prog m 3 (.eptr (c :: cs)) = some c := load_one (by simp only [tAgg, Try.underlying3]) szInt
theorem mkInts0 : evBuildSlice Try.prog 25 0 [] = some (.lst .full 1 []) := build_nil appInts
theorem mkInts1 {b : Int} : evBuildSlice Try.prog 25 1 [(0, .v (.int .i64 b))] = some (.lst .full 1 [[.v (.int .i64 b)]]) := build_one appInts (by decide) rfl rfl
theorem mkStrs0 : evBuildSlice Try.prog 38 0 [] = some (.lst .full 1 []) := build_nil appStrs
theorem mkStrs1 {b : ByteArray} : evBuildSlice Try.prog 38 1 [(0, .v (.string b))] = some (.lst .full 1 [[.v (.string b)]]) := build_one appStrs (by decide) rfl rfl
/-! ### numbers -/
theorem u8_wrap {n : Nat} (h : n < 256) : IntKind.u8.wrap (n : Int) = n := wrap_of _ _ (by simp [IntKind.min, IntKind.signed]) (by simp [IntKind.max, IntKind.signed, IntKind.bits]; omega)
theorem u32_wrap {n : Nat} (h : n < 4294967296) : IntKind.u32.wrap (n : Int) = n := wrap_of _ _ (by simp [IntKind.min, IntKind.signed]) (by simp [IntKind.max, IntKind.signed, IntKind.bits]; omega)
theorem u64_wrap {n : Nat} (h : n < 18446744073709551616) : IntKind.u64.wrap (n : Int) = n := wrap_of _ _ (by simp [IntKind.min, IntKind.signed]) (by simp [IntKind.max, IntKind.signed, IntKind.bits]; omega)
theorem i64_wrap {n : Int} (h0 : -9223372036854775808 ≤ n) (h : n ≤ 9223372036854775807) : IntKind.i64.wrap n = n := wrap_i64 h0 h
theorem tmod_nat (a b : Nat) : (a : Int).tmod (b : Int) = (a % b : Nat) := by rfl
def inI (n : Int) : Prop := -9223372036854775808 ≤ n ∧ n ≤ 9223372036854775807
instance (n : Int) : Decidable (inI n) := by unfold inI; exact inferInstance
theorem next_i64 {i : Nat} (h : i < 9223372036854775807) : IntKind.i64.wrap ((i : Int) + 1) = ((i + 1 : Nat) : Int) := i64_wrap (n := ((i + 1 : Nat) : Int)) (by omega) (by omega)
/-! ### lists -/
theorem getD_ext {α : Type} {d : α} {l1 l2 : List α} (hl : l1.length = l2.length) (h : ∀ i, i < l1.length → l1.getD i d = l2.getD i d) : l1 = l2 := by
  apply List.ext_getElem hl
  intro i h1 h2
  have := h i h1
  simpa [List.getD, List.getElem?_eq_getElem h1, List.getElem?_eq_getElem h2] using this
theorem take_next {α : Type} {d : α} {l : List α} {i : Nat} (hi : i < l.length) : l.take (i + 1) = l.take i ++ [l.getD i d] := by
  rw [List.take_add_one, List.getElem?_eq_getElem hi]
  simp [List.getD, List.getElem?_eq_getElem hi]
theorem drop_next {α : Type} {d : α} {l : List α} {i : Nat} (hi : i < l.length) : l.drop i = l.getD i d :: l.drop (i + 1) := by
  rw [List.drop_eq_getElem_cons hi]
  simp [List.getD, List.getElem?_eq_getElem hi]
/-! ### texts -/
theorem bytes_same {a b : ByteArray} : (a == b) = true ↔ a = b := by
  obtain ⟨a⟩ := a
  obtain ⟨b⟩ := b
  have e : ((⟨a⟩ : ByteArray) == ⟨b⟩) = (a == b) := rfl
  rw [e, beq_iff_eq]
  constructor
  · rintro rfl; rfl
  · intro h; cases h; rfl
theorem bytes_not {a b : ByteArray} : (a == b) = false ↔ a ≠ b := by
  rw [← Bool.not_eq_true, bytes_same]
theorem bytes_ne {a b : ByteArray} : (a != b) = true ↔ a ≠ b := by
  unfold bne
  rw [Bool.not_eq_true', bytes_not]
theorem bytes_self (a : ByteArray) : (a == a) = true := bytes_same.mpr rfl
theorem bytes_dec {a b : ByteArray} : (a == b) = decide (a = b) := by
  by_cases h : a = b
  · rw [decide_eq_true h, bytes_same.2 h]
  · rw [decide_eq_false h, bytes_not.2 h]
def rowsS (l : List ByteArray) : List (List AV) := l.map fun (s : ByteArray) => [.v (.string s)]
theorem rowsS_len (l : List ByteArray) : (rowsS l).length = l.length := List.length_map ..
theorem rowsS_take (l : List ByteArray) (i : Nat) : (rowsS l).take i = rowsS (l.take i) := List.map_take.symm
theorem rowsS_app (l l2 : List ByteArray) : rowsS l ++ rowsS l2 = rowsS (l ++ l2) := List.map_append.symm
theorem rowsS_get {l : List ByteArray} {i : Nat} (hi : i < l.length) : (rowsS l)[i]? = some [.v (.string (l.getD i ⟨#[]⟩))] := by
  simp [rowsS, List.getD, List.getElem?_eq_getElem hi]
def unS : List (List AV) → Option (List ByteArray)
  | [] => some []
  | [.v (.string s)] :: r => (unS r).map fun l => s :: l
  | _ => none
theorem unS_some : ∀ {rows : List (List AV)} {l : List ByteArray}, unS rows = some l → rows = rowsS l
  | [], l, h => by simp only [unS, Option.some.injEq] at h; subst h; rfl
  | row :: r, l, h => by
    unfold unS at h
    split at h
    · rename_i heq; cases heq
    · rename_i b r' heq
      cases heq
      cases hr : unS r with
      | none => simp [hr] at h
      | some l' =>
        simp only [hr, Option.map_some, Option.some.injEq] at h
        subst h
        rw [unS_some hr]
        rfl
    · cases h
theorem unS_rowsS : ∀ (l : List ByteArray), unS (rowsS l) = some l
  | [] => rfl
  | s :: l => by
    have e : rowsS (s :: l) = [.v (.string s)] :: rowsS l := rfl
    rw [e, unS, unS_rowsS l]
    rfl
theorem atStrs {g : Grow} {kk : IntKind} {l : List ByteArray} {i : Nat} (hi : i < l.length) : evIndexAddr Try.prog 38 (.lst g 1 (rowsS l)) (.v (.int kk (i : Int))) = some (.eptr [.v (.string (l.getD i ⟨#[]⟩))]) := at_list elStrs naStrs szStr (rowsS_get hi)
theorem atInts {g : Grow} {kk : IntKind} {l : List Int} {i : Nat} (hi : i < l.length) : evIndexAddr Try.prog 25 (.lst g 1 (rowsI l)) (.v (.int kk (i : Int))) = some (.eptr [.v (.int .i64 (l.getD i 0))]) := at_list elInts naInts szInt (rowsI_get hi)
theorem rows_strs {P : Program} {d : Nat} {e : TypeId} (he : P.underlying e = some .string) : ∀ {rows : List (List AV)}, (∀ row ∈ rows, Typed P (d + 1) e row) → ∃ l, rows = rowsS l
  | [], _ => ⟨[], rfl⟩
  | row :: rows, h => by
    obtain ⟨l, rfl⟩ := rows_strs he fun r hr => h r (List.mem_cons_of_mem _ hr)
    have := h row (List.mem_cons_self ..)
    unfold Typed at this
    rw [he] at this
    obtain ⟨s, rfl, _⟩ := this
    exact ⟨s :: l, rfl⟩
end Go.Proofs.Ytojaokhkbmiidaa.Ev

namespace Go.Proofs.Ytojaokhkbmiidaa.Ev
open Go Go.Proofs
set_option maxRecDepth 10000
set_option linter.unusedVariables false
set_option linter.unusedSimpArgs false
structure Nd where
  op : Int
  a : Int
  b : Int
  c : Int
  k : Int
  u : Int
  n : Int
  deriving DecidableEq
instance : Inhabited Nd := ⟨⟨0, 0, 0, 0, 0, 0, 0⟩⟩
def iv (n : Int) : AV := .v (.int .i64 n)
def Nd.row (x : Nd) : List AV := [iv x.op, iv x.a, iv x.b, iv x.c, iv x.k, iv x.u, iv x.n]
def Nd.ok (x : Nd) : Prop := inI x.op ∧ inI x.a ∧ inI x.b ∧ inI x.c ∧ inI x.k ∧ inI x.u ∧ inI x.n
instance (x : Nd) : Decidable x.ok := by unfold Nd.ok; exact inferInstance
def nd0 : Nd := ⟨0, 0, 0, 0, 0, 0, 0⟩
theorem nd0_ok : nd0.ok := by decide
def rowsN (l : List Nd) : List (List AV) := l.map Nd.row
theorem rowsN_len (l : List Nd) : (rowsN l).length = l.length := List.length_map ..
theorem rowsN_take (l : List Nd) (i : Nat) : (rowsN l).take i = rowsN (l.take i) := List.map_take.symm
theorem rowsN_drop (l : List Nd) (i : Nat) : (rowsN l).drop i = rowsN (l.drop i) := List.map_drop.symm
theorem rowsN_get {l : List Nd} {i : Nat} (hi : i < l.length) : (rowsN l)[i]? = some (l.getD i nd0).row := by
  simp [rowsN, List.getD, List.getElem?_eq_getElem hi]
def OkN (l : List Nd) : Prop := ∀ x ∈ l, x.ok
instance (l : List Nd) : Decidable (OkN l) := by unfold OkN; exact inferInstance
theorem OkN.getD {l : List Nd} (h : OkN l) (i : Nat) : (l.getD i nd0).ok := by
  simp only [List.getD]
  cases hi : l[i]? with
  | none => exact nd0_ok
  | some b => exact h b (List.mem_of_getElem? hi)
theorem OkN.take {l : List Nd} (h : OkN l) (i : Nat) : OkN (l.take i) := fun b hb => h b (List.mem_of_mem_take hb)
theorem OkN.drop {l : List Nd} (h : OkN l) (i : Nat) : OkN (l.drop i) := fun b hb => h b (List.mem_of_mem_drop hb)
def unNd : List AV → Option Nd
  | [.v (.int .i64 op), .v (.int .i64 a), .v (.int .i64 b), .v (.int .i64 c), .v (.int .i64 k), .v (.int .i64 u), .v (.int .i64 n)] => some ⟨op, a, b, c, k, u, n⟩
  | _ => none
def unN : List (List AV) → Option (List Nd)
  | [] => some []
  | row :: r =>
    match unNd row, unN r with
    | some x, some l => some (x :: l)
    | _, _ => none
theorem unNd_some {row : List AV} {x : Nd} (h : unNd row = some x) : row = x.row := by
  unfold unNd at h
  split at h
  · cases h; rfl
  · cases h
theorem unN_some : ∀ {rows : List (List AV)} {l : List Nd}, unN rows = some l → rows = rowsN l
  | [], l, h => by simp only [unN, Option.some.injEq] at h; subst h; rfl
  | row :: r, l, h => by
    unfold unN at h
    split at h
    · rename_i x l' h1 h2
      cases h
      rw [unNd_some h1, unN_some h2]
      rfl
    · cases h
theorem unN_rowsN : ∀ (l : List Nd), unN (rowsN l) = some l
  | [] => rfl
  | x :: l => by
    have e : rowsN (x :: l) = x.row :: rowsN l := rfl
    rw [e, unN, unN_rowsN l]
    rfl
theorem szNode : tSize Try.prog 56 = some 7 := by kernel_rfl
theorem elNodes : tElem Try.prog 22 = some 56 := by simp only [tElem, Try.underlying22]
theorem naNodes : tArr Try.prog 22 = none := by simp only [tArr, Try.underlying22]
theorem atNodes {g : Grow} {kk : IntKind} {l : List Nd} {i : Nat} (hi : i < l.length) : evIndexAddr Try.prog 22 (.lst g 7 (rowsN l)) (.v (.int kk (i : Int))) = some (.eptr (l.getD i nd0).row) := at_list elNodes naNodes szNode (rowsN_get hi)
theorem fldOp {x : Nd} : evFieldAddr Try.prog 56 (.eptr x.row) 0 = some (.eptr x.row) := by kernel_rfl
theorem ldOp {m : Mem} {x : Nd} : evLoad Try.prog m 3 (.eptr x.row) = some (.v (.int .i64 x.op)) := loadInt
theorem ldNode {m : Mem} {x : Nd} : evLoad Try.prog m 56 (.eptr x.row) = some (.agg x.row) := by kernel_rfl
/-- A law's argument. -/
theorem typed_node {d : Nat} {row : List AV} (h : Typed Try.prog (d + 3) 56 row) : ∃ x : Nd, x.ok ∧ row = x.row := by
  unfold Typed at h
  rw [Try.underlying56] at h
  obtain ⟨parts, rfl, hl, h⟩ := h
  match parts, hl with
  | [p0, p1, p2, p3, p4, p5], _ =>
    have h0 := h 0 _ p0 rfl rfl
    have h1 := h 1 _ p1 rfl rfl
    have h2 := h 2 _ p2 rfl rfl
    have h3 := h 3 _ p3 rfl rfl
    have h4 := h 4 _ p4 rfl rfl
    have h5 := h 5 _ p5 rfl rfl
    have num : ∀ {d : Nat} {p : List AV}, Typed Try.prog (d + 1) 3 p → ∃ n, inI n ∧ p = [iv n] := by
      intro d p h
      unfold Typed at h
      rw [Try.underlying3] at h
      obtain ⟨n, rfl, n0, n1⟩ := h
      simp [IntKind.min, IntKind.max, IntKind.signed, IntKind.bits] at n0 n1
      exact ⟨n, ⟨n0, n1⟩, rfl⟩
    obtain ⟨op, o0, rfl⟩ := num h0
    obtain ⟨a, o1, rfl⟩ := num h1
    obtain ⟨b, o2, rfl⟩ := num h2
    obtain ⟨c, o3, rfl⟩ := num h3
    obtain ⟨k, o4, rfl⟩ := num h4
    have h5' : Typed Try.prog (d + 2) 54 p5 := h5
    unfold Typed at h5'
    rw [Try.underlying54] at h5'
    obtain ⟨q, rfl, hq, h6⟩ := h5'
    match q, hq with
    | [q0, q1], _ =>
      have g0 := h6 0 _ q0 rfl rfl
      have g1 := h6 1 _ q1 rfl rfl
      obtain ⟨u, o5, rfl⟩ := num g0
      obtain ⟨n, o6, rfl⟩ := num g1
      exact ⟨⟨op, a, b, c, k, u, n⟩, ⟨o0, o1, o2, o3, o4, o5, o6⟩, rfl⟩
theorem rows_nodes {d : Nat} : ∀ {rows : List (List AV)}, (∀ row ∈ rows, Typed Try.prog (d + 3) 56 row) → ∃ l, OkN l ∧ rows = rowsN l
  | [], _ => ⟨[], (fun x h => by simp at h), rfl⟩
  | row :: rows, h => by
    obtain ⟨l, h1, rfl⟩ := rows_nodes fun r hr => h r (List.mem_cons_of_mem _ hr)
    obtain ⟨x, h2, rfl⟩ := typed_node (h row (List.mem_cons_self ..))
    refine ⟨x :: l, fun y hy => ?_, rfl⟩
    rcases List.mem_cons.1 hy with rfl | hy
    · exact h2
    · exact h1 y hy
theorem arg_nodes {d : Nat} {a : AV} (h : TypedArg Try.prog (d + 4) 22 a) : ∃ l, OkN l ∧ l.length ≤ 9223372036854775807 ∧ a = .lst .no 7 (rowsN l) := by
  obtain ⟨rows, rfl, h1, h2⟩ := arg_slice Try.underlying22 h
  obtain ⟨l, h3, rfl⟩ := rows_nodes h2
  exact ⟨l, h3, by rw [rowsN_len] at h1; exact h1, by rw [size_cells szNode]⟩
end Go.Proofs.Ytojaokhkbmiidaa.Ev

namespace Go.Proofs.Ytojaokhkbmiidaa.Ev
open Go Go.Proofs
set_option maxRecDepth 10000
set_option linter.unusedVariables false
set_option linter.unusedSimpArgs false
theorem agInt : tAgg Try.prog 3 = some false := by simp only [tAgg, Try.underlying3]
def big40 : Nat := 1099511627776
def strCells (l : List ByteArray) : List AV := l.map fun (s : ByteArray) => .v (.string s)
theorem loadVarS {m : Mem} {cs : List AV} {off : Nat} : evLoad Try.prog (m.push cs) 9 (.ptr m.vars.length off) = (cs.drop off).head? := by
  unfold evLoad
  simp only [ptrCells, push_var, Option.map_some, szStr]
  rw [show tAgg Try.prog 9 = some false by simp only [tAgg, Try.underlying9]]
/-! ### the first one that .. -/
def firstBy {α : Type} (p : α → Bool) : List α → Nat → Int
  | [], _ => -1
  | s :: l, i => if p s then (i : Int) else firstBy p l (i + 1)
theorem firstBy_any {α : Type} (p : α → Bool) : ∀ (l : List α) (i : Nat), decide (0 ≤ firstBy p l i) = l.any p
  | [], i => by simp [firstBy]
  | s :: l, i => by
    rw [firstBy]
    cases h : p s with
    | true => simp [h]
    | false => simp only [Bool.false_eq_true, if_false, firstBy_any p l (i + 1), List.any_cons, h, Bool.false_or]
theorem by_no {α : Type} {d : α} {p : α → Bool} {l : List α} {i : Nat} (hi : i < l.length) (hp : p (l.getD i d) = false) (h : firstBy p (l.drop i) i = firstBy p l 0) : firstBy p (l.drop (i + 1)) (i + 1) = firstBy p l 0 := by
  rw [drop_next (d := d) hi, firstBy, hp, if_neg (by simp)] at h
  exact h
theorem by_yes {α : Type} {d : α} {p : α → Bool} {l : List α} {i : Nat} (hi : i < l.length) (hp : p (l.getD i d) = true) (h : firstBy p (l.drop i) i = firstBy p l 0) : firstBy p l 0 = (i : Int) := by
  rw [drop_next (d := d) hi, firstBy, hp, if_pos rfl] at h
  exact h.symm
theorem by_end {α : Type} {p : α → Bool} {l : List α} (h : firstBy p (l.drop l.length) l.length = firstBy p l 0) : firstBy p l 0 = -1 := by
  rw [List.drop_length] at h
  exact h.symm
/-- Variables of one's own, above. -/
def Above (m m' : Mem) : Prop := ∃ L, m' = { vars := m.vars ++ L, toks := m.toks }
theorem above_self (m : Mem) : Above m m := ⟨[], by simp⟩
theorem above_push {m m' : Mem} {cs : List AV} (h : Above m m') : Above m (m'.push cs) := by
  obtain ⟨L, rfl⟩ := h
  exact ⟨L ++ [some cs], by simp [Mem.push]⟩
theorem above_fin {m m' : Mem} (h : Above m m') : finMem m m' = m := by
  obtain ⟨L, rfl⟩ := h
  unfold finMem
  rw [if_pos (by simp)]
  simp
def yesG : List AV → Mem → Option (AV × Mem)
  | [], m => some (.v (.bool true), m)
  | _, _ => none
theorem yes_eq : ∀ mm, yesG [] mm = some (.v (.bool true), mm) := fun _ => rfl
def plainC : Ctx := ⟨fun _ _ => none, fun _ => false, fun _ => none⟩
end Go.Proofs.Ytojaokhkbmiidaa.Ev

namespace Go.Proofs.Ytojaokhkbmiidaa.Ev
open Go Go.Proofs
set_option maxRecDepth 10000
set_option maxHeartbeats 8000000
set_option linter.unusedVariables false
set_option linter.unusedSimpArgs false
theorem ops_case {P : Program} {call : CallF} {nt : Nat} {ops : Array Oper} {pu : Bool} {e : Env} {m : Mem} {K : Env → Mem → Prop} {o : Oper} {rest : List Oper} {j g : Nat} {want B : Bool} (hg : o.guard = some (j, want)) (hj : (ops[j]?).bind (·.dst) = some g) (hb : get e g = .v (.bool B))
    (ht : B = true → Ops P call nt ops pu (o :: rest) e m K) (hf : B = false → Ops P call nt ops pu (o :: rest) e m K) : Ops P call nt ops pu (o :: rest) e m K := by
  cases B with
  | true => exact ht rfl
  | false => exact hf rfl
theorem ops_here {P : Program} {call : CallF} {nt : Nat} {ops : Array Oper} {pu : Bool} {l : List Oper} {e : Env} {m : Mem} {K : Env → Mem → Prop} (h : Ops P call nt ops pu l e m K) : Ops P call nt ops pu l e m K := h
theorem runs_here {P : Program} {call : CallF} {nt : Nat} {kp : Nat → Option (List Nat)} {c : Code} {e : Env} {m : Mem} {Q : Ex → Env → Mem → Prop} (h : Runs P call nt kp c e m Q) : Runs P call nt kp c e m Q := h
attribute [local irreducible] Next Inside Runs Ops table
def upTo (c : Int) : List AV → Mem → Option (AV × Mem)
  | [.v (.int .i64 x)], m => some (.v (.bool (decide (0 ≤ x ∧ x ≤ c))), m)
  | _, _ => none
def kpQ : Nat → Option (List Nat) := fun _ => some [0, 2]
theorem refQ_ok : FunOk Try.prog 54 (upTo 4503599627370496) := by
  have hC := table_ok (P := Try.prog) (l := []) table_nil
  refine fun_ok mixed hC Try.func54 rfl kpQ false rfl fun args m r h => ?_
  unfold upTo at h
  split at h
  · rename_i x
    simp only [Option.some.injEq] at h
    subst h
    refine ⟨Nat.le_of_ble_eq_true rfl, ?_⟩
    simp only [entry, List.length_cons, List.length_nil, List.range, List.range.loop, List.zip_cons_cons, List.zip_nil_right]
    have fin : ∀ (e : Env) (b : Bool), Ev.get e 2 = .v (.bool b) → b = decide (0 ≤ x ∧ x ≤ 4503599627370496) → Leaves Try.prog false Try.f54 m (.v (.bool (decide (0 ≤ x ∧ x ≤ 4503599627370496))), m) .ret e m := fun e b h1 h2 => by rw [← h2]; exact leaves_v rfl h1
    repeat' (first | (first | refine runs_seq ?_ | refine runs_block ?_ | refine next_normal ?_ | refine inside_normal ?_ | refine next_exit ?_ | refine inside_exit ?_ | refine inside_other (by decide) ?_ | refine next_ret ?_ | refine inside_ret ?_ | refine runs_ops_kept ?_ | refine runs_skip ?_ | refine runs_exit ?_ | refine runs_ret ?_ | ((first | refine' ops_op rfl rfl (by decide) ?_ ?_ ?_ | refine' ops_yes rfl rfl (by simp only [Ev.get, reduceIte, Nat.reduceEqDiff]; first | done | rfl) rfl (by decide) ?_ ?_ ?_ | refine' ops_op0 rfl rfl ?_ ?_ ?_); rotate_left 2; (focus (simp only [evOp, opd, constAV, constCell, Ev.get, reduceIte, Nat.reduceEqDiff, reduceCtorEq, evBinN, nilCmp, evBin, evInt, evUn, evConvert, evBuiltin, evLen, evField, evPart, tStr, tInt, tElem, tArr, tBool, tAgg, tField, Try.underlying9, Try.underlying3, Try.underlying4, Try.underlying5, Try.underlying2, Try.underlying54, List.zipWith, Option.map_some, Option.map_none, List.length_cons, List.length_nil, ne_eq, Int.reduceEq, not_false_eq_true, and_self, and_true, true_and, szStr, szInt, Option.getD_some, isNil, loadStr, loadInt, mkInts0, mkInts1, mkStrs0, mkStrs1, rowsS_len, rowsI_len, rowsN_len, evStr, fldOp, ldOp, evMinMax, evFoldI, evCall, List.size_toArray, List.append_nil, List.nil_append, List.map_cons, List.map_nil, argAV, argCell, List.toList_toArray, fieldTy]; first | done | rfl)); exact (fun h => by first | rfl | (simp at h; done) | exact absurd (Bool.and_eq_true_iff.mp h).2 (by decide))) | refine ops_no rfl rfl (by simp only [Ev.get, reduceIte, Nat.reduceEqDiff]; first | done | rfl) (by decide) rfl (by decide) ?_ | refine ops_off rfl rfl rfl rfl (by decide) ?_ | (refine ops_nil ?_; intro e2 h2; simp only [restr, kpQ, List.map_cons, List.map_nil, Ev.get, reduceIte, Nat.reduceEqDiff] at h2; subst h2)) | (refine ops_here ?_; (fail_if_success (refine ops_case (B := true) rfl rfl rfl ?_ ?_)); (fail_if_success (refine ops_case (B := false) rfl rfl rfl ?_ ?_)); refine ops_case rfl rfl rfl (fun hB => ?_) (fun hB => ?_) <;> rw [hB]) | (refine runs_here ?_; refine runs_cond rfl (fun hc => ?_) (fun hc => ?_) <;> first | (cases hc; done) | skip))
    all_goals exact fin _ _ rfl (by rw [Bool.eq_iff_iff]; simp only [decide_eq_true_eq, decide_eq_false_iff_not, Bool.false_eq_true, false_iff, true_iff] at *; omega)
  · cases h
theorem number_ok : FunOk Try.prog 57 (upTo 4503599627370496) := by
  have hC := table_ok (P := Try.prog) (l := []) table_nil
  refine fun_ok mixed hC Try.func57 rfl kpQ false rfl fun args m r h => ?_
  unfold upTo at h
  split at h
  · rename_i x
    simp only [Option.some.injEq] at h
    subst h
    refine ⟨Nat.le_of_ble_eq_true rfl, ?_⟩
    simp only [entry, List.length_cons, List.length_nil, List.range, List.range.loop, List.zip_cons_cons, List.zip_nil_right]
    have fin : ∀ (e : Env) (b : Bool), Ev.get e 2 = .v (.bool b) → b = decide (0 ≤ x ∧ x ≤ 4503599627370496) → Leaves Try.prog false Try.f57 m (.v (.bool (decide (0 ≤ x ∧ x ≤ 4503599627370496))), m) .ret e m := fun e b h1 h2 => by rw [← h2]; exact leaves_v rfl h1
    repeat' (first | (first | refine runs_seq ?_ | refine runs_block ?_ | refine next_normal ?_ | refine inside_normal ?_ | refine next_exit ?_ | refine inside_exit ?_ | refine inside_other (by decide) ?_ | refine next_ret ?_ | refine inside_ret ?_ | refine runs_ops_kept ?_ | refine runs_skip ?_ | refine runs_exit ?_ | refine runs_ret ?_ | ((first | refine' ops_op rfl rfl (by decide) ?_ ?_ ?_ | refine' ops_yes rfl rfl (by simp only [Ev.get, reduceIte, Nat.reduceEqDiff]; first | done | rfl) rfl (by decide) ?_ ?_ ?_ | refine' ops_op0 rfl rfl ?_ ?_ ?_); rotate_left 2; (focus (simp only [evOp, opd, constAV, constCell, Ev.get, reduceIte, Nat.reduceEqDiff, reduceCtorEq, evBinN, nilCmp, evBin, evInt, evUn, evConvert, evBuiltin, evLen, evField, evPart, tStr, tInt, tElem, tArr, tBool, tAgg, tField, Try.underlying9, Try.underlying3, Try.underlying4, Try.underlying5, Try.underlying2, List.zipWith, Option.map_some, Option.map_none, List.length_cons, List.length_nil, ne_eq, Int.reduceEq, not_false_eq_true, and_self, and_true, true_and, szStr, szInt, Option.getD_some, isNil, loadStr, loadInt, mkInts0, mkInts1, mkStrs0, mkStrs1, rowsS_len, rowsI_len, rowsN_len, evStr, fldOp, ldOp, evMinMax, evFoldI, evCall, List.size_toArray, List.append_nil, List.nil_append, List.map_cons, List.map_nil, argAV, argCell, List.toList_toArray, fieldTy]; first | done | rfl)); exact (fun h => by first | rfl | (simp at h; done) | exact absurd (Bool.and_eq_true_iff.mp h).2 (by decide))) | refine ops_no rfl rfl (by simp only [Ev.get, reduceIte, Nat.reduceEqDiff]; first | done | rfl) (by decide) rfl (by decide) ?_ | refine ops_off rfl rfl rfl rfl (by decide) ?_ | (refine ops_nil ?_; intro e2 h2; simp only [restr, kpQ, List.map_cons, List.map_nil, Ev.get, reduceIte, Nat.reduceEqDiff] at h2; subst h2)) | (refine ops_here ?_; (fail_if_success (refine ops_case (B := true) rfl rfl rfl ?_ ?_)); (fail_if_success (refine ops_case (B := false) rfl rfl rfl ?_ ?_)); refine ops_case rfl rfl rfl (fun hB => ?_) (fun hB => ?_) <;> rw [hB]) | (refine runs_here ?_; refine runs_cond rfl (fun hc => ?_) (fun hc => ?_) <;> first | (cases hc; done) | skip))
    all_goals exact fin _ _ rfl (by rw [Bool.eq_iff_iff]; simp only [decide_eq_true_eq, decide_eq_false_iff_not, Bool.false_eq_true, false_iff, true_iff] at *; omega)
  · cases h
theorem count_ok : FunOk Try.prog 59 (upTo 1099511627776) := by
  have hC := table_ok (P := Try.prog) (l := []) table_nil
  refine fun_ok mixed hC Try.func59 rfl kpQ false rfl fun args m r h => ?_
  unfold upTo at h
  split at h
  · rename_i x
    simp only [Option.some.injEq] at h
    subst h
    refine ⟨Nat.le_of_ble_eq_true rfl, ?_⟩
    simp only [entry, List.length_cons, List.length_nil, List.range, List.range.loop, List.zip_cons_cons, List.zip_nil_right]
    have fin : ∀ (e : Env) (b : Bool), Ev.get e 2 = .v (.bool b) → b = decide (0 ≤ x ∧ x ≤ 1099511627776) → Leaves Try.prog false Try.f59 m (.v (.bool (decide (0 ≤ x ∧ x ≤ 1099511627776))), m) .ret e m := fun e b h1 h2 => by rw [← h2]; exact leaves_v rfl h1
    repeat' (first | (first | refine runs_seq ?_ | refine runs_block ?_ | refine next_normal ?_ | refine inside_normal ?_ | refine next_exit ?_ | refine inside_exit ?_ | refine inside_other (by decide) ?_ | refine next_ret ?_ | refine inside_ret ?_ | refine runs_ops_kept ?_ | refine runs_skip ?_ | refine runs_exit ?_ | refine runs_ret ?_ | ((first | refine' ops_op rfl rfl (by decide) ?_ ?_ ?_ | refine' ops_yes rfl rfl (by simp only [Ev.get, reduceIte, Nat.reduceEqDiff]; first | done | rfl) rfl (by decide) ?_ ?_ ?_ | refine' ops_op0 rfl rfl ?_ ?_ ?_); rotate_left 2; (focus (simp only [evOp, opd, constAV, constCell, Ev.get, reduceIte, Nat.reduceEqDiff, reduceCtorEq, evBinN, nilCmp, evBin, evInt, evUn, evConvert, evBuiltin, evLen, evField, evPart, tStr, tInt, tElem, tArr, tBool, tAgg, tField, Try.underlying9, Try.underlying3, Try.underlying4, Try.underlying5, Try.underlying2, List.zipWith, Option.map_some, Option.map_none, List.length_cons, List.length_nil, ne_eq, Int.reduceEq, not_false_eq_true, and_self, and_true, true_and, szStr, szInt, Option.getD_some, isNil, loadStr, loadInt, mkInts0, mkInts1, mkStrs0, mkStrs1, rowsS_len, rowsI_len, rowsN_len, evStr, fldOp, ldOp, evMinMax, evFoldI, evCall, List.size_toArray, List.append_nil, List.nil_append, List.map_cons, List.map_nil, argAV, argCell, List.toList_toArray, fieldTy]; first | done | rfl)); exact (fun h => by first | rfl | (simp at h; done) | exact absurd (Bool.and_eq_true_iff.mp h).2 (by decide))) | refine ops_no rfl rfl (by simp only [Ev.get, reduceIte, Nat.reduceEqDiff]; first | done | rfl) (by decide) rfl (by decide) ?_ | refine ops_off rfl rfl rfl rfl (by decide) ?_ | (refine ops_nil ?_; intro e2 h2; simp only [restr, kpQ, List.map_cons, List.map_nil, Ev.get, reduceIte, Nat.reduceEqDiff] at h2; subst h2)) | (refine ops_here ?_; (fail_if_success (refine ops_case (B := true) rfl rfl rfl ?_ ?_)); (fail_if_success (refine ops_case (B := false) rfl rfl rfl ?_ ?_)); refine ops_case rfl rfl rfl (fun hB => ?_) (fun hB => ?_) <;> rw [hB]) | (refine runs_here ?_; refine runs_cond rfl (fun hc => ?_) (fun hc => ?_) <;> first | (cases hc; done) | skip))
    all_goals exact fin _ _ rfl (by rw [Bool.eq_iff_iff]; simp only [decide_eq_true_eq, decide_eq_false_iff_not, Bool.false_eq_true, false_iff, true_iff] at *; omega)
  · cases h
/-! ### lengths -/
def lenMay (u n : Int) : Prop := 0 ≤ n ∧ n ≤ 1099511627776 ∧ 0 ≤ u ∧ u ≤ 3 ∧ (u = 2 → n ≤ 100) ∧ (u = 3 → n = 0)
instance (u n : Int) : Decidable (lenMay u n) := by unfold lenMay; exact inferInstance
def lenMayG : List AV → Mem → Option (AV × Mem)
  | [.agg [.v (.int .i64 u), .v (.int .i64 n)]], m => some (.v (.bool (decide (lenMay u n))), m)
  | _, _ => none
theorem len0 {r : Nat} : evFieldAddr Try.prog 54 (.ptr r 0) 0 = some (.ptr r 0) := by kernel_rfl
theorem len1 {r : Nat} : evFieldAddr Try.prog 54 (.ptr r 0) 1 = some (.ptr r (0 + 1)) := by kernel_rfl
theorem loadOne {m : Mem} {cs : List AV} {off : Nat} : evLoad Try.prog (m.push cs) 3 (.ptr m.vars.length off) = (cs.drop off).head? := by
  unfold evLoad
  simp only [ptrCells, push_var, Option.map_some, szInt, agInt]
theorem loadLen {m : Mem} {u n : Int} : evLoad Try.prog (m.push [.v (.int .i64 u), .v (.int .i64 n)]) 54 (.ptr m.vars.length 0) = some (.agg [.v (.int .i64 u), .v (.int .i64 n)]) := by
  unfold evLoad
  simp only [ptrCells, push_var, Option.map_some]
  rw [show tAgg Try.prog 54 = some true by kernel_rfl, show tSize Try.prog 54 = some 2 by kernel_rfl]
  rfl
theorem cellsLen {u n : Int} : cellsOf (.agg [.v (.int .i64 u), .v (.int .i64 n)]) = some [.v (.int .i64 u), .v (.int .i64 n)] := rfl
theorem newLen {m : Mem} {u n : Int} : newVar m m.vars.length [.v (.int .i64 u), .v (.int .i64 n)] = some (m.push [.v (.int .i64 u), .v (.int .i64 n)]) := newVar_push rfl
def kpRefLen : Nat → Option (List Nat) := fun _ => some [0, 1, 2, 20]
theorem refLenMay_ok : FunOk Try.prog 55 lenMayG := by
  have hC := table_ok (P := Try.prog) (l := []) table_nil
  refine fun_ok mixed hC Try.func55 rfl kpRefLen false rfl fun args m r h => ?_
  unfold lenMayG at h
  split at h
  · rename_i u n
    simp only [Option.some.injEq] at h
    subst h
    refine ⟨Nat.le_of_ble_eq_true rfl, ?_⟩
    simp only [entry, List.length_cons, List.length_nil, List.range, List.range.loop, List.zip_cons_cons, List.zip_nil_right]
    have fin : ∀ (e : Env) (m' : Mem) (b : Bool), Ev.get e 2 = .v (.bool b) → finMem m m' = m → (b = true ↔ lenMay u n) → Leaves Try.prog false Try.f55 m (.v (.bool (decide (lenMay u n))), m) .ret e m' := fun e m' b h1 h2 h3 => by
      have : b = decide (lenMay u n) := by rw [Bool.eq_iff_iff, decide_eq_true_eq]; exact h3
      rw [← this]
      exact leaves_fin rfl h1 h2
    repeat' (first | (first | refine runs_seq ?_ | refine runs_block ?_ | refine next_normal ?_ | refine inside_normal ?_ | refine next_exit ?_ | refine inside_exit ?_ | refine inside_other (by decide) ?_ | refine next_ret ?_ | refine inside_ret ?_ | refine runs_ops_kept ?_ | refine runs_skip ?_ | refine runs_exit ?_ | refine runs_ret ?_ | ((first | refine' ops_op rfl rfl (by decide) ?_ ?_ ?_ | refine' ops_yes rfl rfl (by simp only [Ev.get, reduceIte, Nat.reduceEqDiff, len0, len1]; first | done | rfl) rfl (by decide) ?_ ?_ ?_ | refine' ops_op0 rfl rfl ?_ ?_ ?_); rotate_left 2; (focus (simp only [evOp, opd, constAV, constCell, Ev.get, reduceIte, Nat.reduceEqDiff, reduceCtorEq, evBinN, nilCmp, evBin, evInt, evUn, evConvert, evBuiltin, evLen, evField, evPart, tStr, tInt, tElem, tArr, tBool, tAgg, tField, Try.underlying9, Try.underlying3, Try.underlying4, Try.underlying5, Try.underlying21, Try.underlying38, Try.underlying25, Try.underlying33, Try.underlying2, Try.underlying22, Try.underlying54, List.zipWith, Option.map_some, Option.map_none, List.length_cons, List.length_nil, ne_eq, Int.reduceEq, not_false_eq_true, and_self, and_true, true_and, szStr, szInt, Option.getD_some, isNil, loadStr, loadInt, mkInts0, mkInts1, mkStrs0, mkStrs1, rowsS_len, rowsI_len, rowsN_len, evStr, fldOp, ldOp, evMinMax, evFoldI, len0, len1, loadOne, loadLen, cellsLen, newLen, Nat.zero_add, List.drop_zero, List.drop_succ_cons, List.head?_cons, evCall, List.size_toArray, List.append_nil, List.nil_append, List.map_cons, List.map_nil, argAV, argCell, List.toList_toArray, fieldTy]; first | done | rfl)); exact (fun h => by first | rfl | (simp at h; done) | exact absurd (Bool.and_eq_true_iff.mp h).2 (by decide))) | refine ops_no rfl rfl (by simp only [Ev.get, reduceIte, Nat.reduceEqDiff, len0, len1]; first | done | rfl) (by decide) rfl (by decide) ?_ | refine ops_off rfl rfl rfl rfl (by decide) ?_ | (refine ops_nil ?_; intro e2 h2; simp only [restr, kpRefLen, List.map_cons, List.map_nil, Ev.get, reduceIte, Nat.reduceEqDiff] at h2; subst h2)) | (refine ops_here ?_; (fail_if_success (refine ops_case (B := true) rfl rfl rfl ?_ ?_)); (fail_if_success (refine ops_case (B := false) rfl rfl rfl ?_ ?_)); refine ops_case rfl rfl rfl (fun hB => ?_) (fun hB => ?_) <;> rw [hB]) | (refine runs_here ?_; refine runs_cond rfl (fun hc => ?_) (fun hc => ?_) <;> first | (cases hc; done) | skip))
    all_goals exact fin _ _ _ rfl fin_push (by unfold lenMay; simp only [decide_eq_true_eq, decide_eq_false_iff_not, Bool.false_eq_true, false_iff, true_iff, beq_iff_eq, bne_iff_ne, beq_eq_false_iff_ne, bne_eq_false_iff_eq, ne_eq, Int.reduceEq, true_and, false_and, or_false, false_or, and_true, and_false] at *; omega)
  · cases h
def kpWithin : Nat → Option (List Nat) := fun _ => some [0, 1, 2, 6]
def withinG : List AV → Mem → Option (AV × Mem)
  | [.v (.int .i64 x), .v (.int .i64 lo), .v (.int .i64 hi)], m => some (.v (.bool (decide (lo ≤ x ∧ x ≤ hi))), m)
  | _, _ => none
theorem lenWithin_ok : FunOk Try.prog 98 withinG := by
  have hC := table_ok (P := Try.prog) (l := []) table_nil
  refine fun_ok mixed hC Try.func98 rfl kpWithin false rfl fun args m r h => ?_
  unfold withinG at h
  split at h
  · rename_i x lo hi
    simp only [Option.some.injEq] at h
    subst h
    refine ⟨Nat.le_of_ble_eq_true rfl, ?_⟩
    simp only [entry, List.length_cons, List.length_nil, List.range, List.range.loop, List.zip_cons_cons, List.zip_nil_right]
    have fin : ∀ (e : Env) (b : Bool), Ev.get e 6 = .v (.bool b) → b = decide (lo ≤ x ∧ x ≤ hi) → Leaves Try.prog false Try.f98 m (.v (.bool (decide (lo ≤ x ∧ x ≤ hi))), m) .ret e m := fun e b h1 h2 => by rw [← h2]; exact leaves_v rfl h1
    repeat' (first | (first | refine runs_seq ?_ | refine runs_block ?_ | refine next_normal ?_ | refine inside_normal ?_ | refine next_exit ?_ | refine inside_exit ?_ | refine inside_other (by decide) ?_ | refine next_ret ?_ | refine inside_ret ?_ | refine runs_ops_kept ?_ | refine runs_skip ?_ | refine runs_exit ?_ | refine runs_ret ?_ | ((first | refine' ops_op rfl rfl (by decide) ?_ ?_ ?_ | refine' ops_yes rfl rfl (by simp only [Ev.get, reduceIte, Nat.reduceEqDiff, len0, len1]; first | done | rfl) rfl (by decide) ?_ ?_ ?_ | refine' ops_op0 rfl rfl ?_ ?_ ?_); rotate_left 2; (focus (simp only [evOp, opd, constAV, constCell, Ev.get, reduceIte, Nat.reduceEqDiff, reduceCtorEq, evBinN, nilCmp, evBin, evInt, evUn, evConvert, evBuiltin, evLen, evField, evPart, tStr, tInt, tElem, tArr, tBool, tAgg, tField, Try.underlying9, Try.underlying3, Try.underlying4, Try.underlying5, Try.underlying2, List.zipWith, Option.map_some, Option.map_none, List.length_cons, List.length_nil, ne_eq, Int.reduceEq, not_false_eq_true, and_self, and_true, true_and, szStr, szInt, Option.getD_some, isNil, loadStr, loadInt, mkInts0, mkInts1, mkStrs0, mkStrs1, rowsS_len, rowsI_len, rowsN_len, evStr, fldOp, ldOp, evMinMax, evFoldI, len0, len1, loadOne, loadLen, cellsLen, newLen, Nat.zero_add, List.drop_zero, List.drop_succ_cons, List.head?_cons, evCall, List.size_toArray, List.append_nil, List.nil_append, List.map_cons, List.map_nil, argAV, argCell, List.toList_toArray, fieldTy]; first | done | rfl)); exact (fun h => by first | rfl | (simp at h; done) | exact absurd (Bool.and_eq_true_iff.mp h).2 (by decide))) | refine ops_no rfl rfl (by simp only [Ev.get, reduceIte, Nat.reduceEqDiff, len0, len1]; first | done | rfl) (by decide) rfl (by decide) ?_ | refine ops_off rfl rfl rfl rfl (by decide) ?_ | (refine ops_nil ?_; intro e2 h2; simp only [restr, kpWithin, List.map_cons, List.map_nil, Ev.get, reduceIte, Nat.reduceEqDiff] at h2; subst h2)) | (refine ops_here ?_; (fail_if_success (refine ops_case (B := true) rfl rfl rfl ?_ ?_)); (fail_if_success (refine ops_case (B := false) rfl rfl rfl ?_ ?_)); refine ops_case rfl rfl rfl (fun hB => ?_) (fun hB => ?_) <;> rw [hB]) | (refine runs_here ?_; refine runs_cond rfl (fun hc => ?_) (fun hc => ?_) <;> first | (cases hc; done) | skip))
    all_goals exact fin _ _ rfl (by rw [Bool.eq_iff_iff]; simp only [decide_eq_true_eq, decide_eq_false_iff_not, Bool.false_eq_true, false_iff, true_iff] at *; omega)
  · cases h
def lenCheckG : List AV → Mem → Option (AV × Mem)
  | [.agg [.v (.int .i64 u), .v (.int .i64 n)]], m => some (.v (.int .i64 (if lenMay u n then 0 else 1)), m)
  | _, _ => none
def kpLenCheck : Nat → Option (List Nat) := fun _ => some [0, 1, 2, 3, 5, 6, 9, 11, 17]
theorem lenCheck_ok : FunOk Try.prog 76 lenCheckG := by
  have hC := table_ok (P := Try.prog) (l := [(98, withinG)]) (table_more lenWithin_ok table_nil)
  have t1 := fun args mm => table_at (l := [(98, withinG)]) (f := 98) (args := args) (m := mm) rfl
  refine fun_ok mixed hC Try.func76 rfl kpLenCheck false rfl fun args m r h => ?_
  unfold lenCheckG at h
  split at h
  · rename_i u n
    simp only [Option.some.injEq] at h
    subst h
    refine ⟨Nat.le_of_ble_eq_true rfl, ?_⟩
    simp only [entry, List.length_cons, List.length_nil, List.range, List.range.loop, List.zip_cons_cons, List.zip_nil_right]
    have fw : ∀ x lo hi mm, withinG [.v (.int .i64 x), .v (.int .i64 lo), .v (.int .i64 hi)] mm = some (.v (.bool (decide (lo ≤ x ∧ x ≤ hi))), mm) := fun _ _ _ _ => rfl
    have fin : ∀ (e : Env) (m' : Mem) (b : Int), Ev.get e 2 = .v (.int .i64 b) → finMem m m' = m → ((b = 0 ∧ lenMay u n) ∨ (b = 1 ∧ ¬ lenMay u n)) → Leaves Try.prog false Try.f76 m (.v (.int .i64 (if lenMay u n then 0 else 1)), m) .ret e m' := fun e m' b h1 h2 h3 => by
      have : b = (if lenMay u n then 0 else 1) := by
        rcases h3 with ⟨rfl, h⟩ | ⟨rfl, h⟩
        · rw [if_pos h]
        · rw [if_neg h]
      rw [← this]
      exact leaves_fin rfl h1 h2
    repeat' (first | (first | refine runs_seq ?_ | refine runs_block ?_ | refine next_normal ?_ | refine inside_normal ?_ | refine next_exit ?_ | refine inside_exit ?_ | refine inside_other (by decide) ?_ | refine next_ret ?_ | refine inside_ret ?_ | refine runs_ops_kept ?_ | refine runs_skip ?_ | refine runs_exit ?_ | refine runs_ret ?_ | ((first | refine' ops_op rfl rfl (by decide) ?_ ?_ ?_ | refine' ops_yes rfl rfl (by simp only [Ev.get, reduceIte, Nat.reduceEqDiff, len0, len1, t1, fw]; first | done | rfl) rfl (by decide) ?_ ?_ ?_ | refine' ops_op0 rfl rfl ?_ ?_ ?_); rotate_left 2; (focus (simp only [evOp, opd, constAV, constCell, Ev.get, reduceIte, Nat.reduceEqDiff, reduceCtorEq, evBinN, nilCmp, evBin, evInt, evUn, evConvert, evBuiltin, evLen, evField, evPart, tStr, tInt, tElem, tArr, tBool, tAgg, tField, Try.underlying9, Try.underlying3, Try.underlying4, Try.underlying5, Try.underlying21, Try.underlying25, Try.underlying33, Try.underlying2, Try.underlying22, Try.underlying54, List.zipWith, Option.map_some, Option.map_none, List.length_cons, List.length_nil, ne_eq, Int.reduceEq, not_false_eq_true, and_self, and_true, true_and, szStr, szInt, Option.getD_some, isNil, loadStr, loadInt, mkInts0, mkInts1, mkStrs0, mkStrs1, rowsS_len, rowsI_len, rowsN_len, evStr, fldOp, ldOp, evMinMax, evFoldI, len0, len1, loadOne, loadLen, cellsLen, newLen, Nat.zero_add, List.drop_zero, List.drop_succ_cons, List.head?_cons, evCall, List.size_toArray, List.append_nil, List.nil_append, List.map_cons, List.map_nil, argAV, argCell, List.toList_toArray, fieldTy, t1, fw]; first | done | rfl)); exact (fun h => by first | rfl | (simp at h; done) | exact absurd (Bool.and_eq_true_iff.mp h).2 (by decide))) | refine ops_no rfl rfl (by simp only [Ev.get, reduceIte, Nat.reduceEqDiff, len0, len1, t1, fw]; first | done | rfl) (by decide) rfl (by decide) ?_ | refine ops_off rfl rfl rfl rfl (by decide) ?_ | (refine ops_nil ?_; intro e2 h2; simp only [restr, kpLenCheck, List.map_cons, List.map_nil, Ev.get, reduceIte, Nat.reduceEqDiff] at h2; subst h2)) | (refine ops_here ?_; (fail_if_success (refine ops_case (B := true) rfl rfl rfl ?_ ?_)); (fail_if_success (refine ops_case (B := false) rfl rfl rfl ?_ ?_)); refine ops_case rfl rfl rfl (fun hB => ?_) (fun hB => ?_) <;> rw [hB]) | (refine runs_here ?_; refine runs_cond rfl (fun hc => ?_) (fun hc => ?_) <;> first | (cases hc; done) | skip))
    all_goals exact fin _ _ _ rfl fin_push (by unfold lenMay; simp only [Bool.not_eq_true', Bool.not_eq_false', decide_eq_true_eq, decide_eq_false_iff_not, Bool.false_eq_true, false_iff, true_iff, beq_iff_eq, bne_iff_ne, beq_eq_false_iff_ne, bne_eq_false_iff_eq, ne_eq, Int.reduceEq, true_and, false_and, or_false, false_or, and_true, and_false] at *; omega)
  · cases h
end Go.Proofs.Ytojaokhkbmiidaa.Ev

namespace Go.Proofs.Ytojaokhkbmiidaa.Ev
open Go Go.Proofs
set_option maxRecDepth 10000
set_option maxHeartbeats 8000000
set_option linter.unusedVariables false
set_option linter.unusedSimpArgs false
attribute [local irreducible] Next Inside Runs Ops table
def lenV (u n of ep : Int) : Int := if u = 0 then n else if u = 1 then n * ep else if u = 2 then (of * n).tdiv 100 else of
def inS (x : Int) : Prop := 0 ≤ x ∧ x ≤ 1048576
instance (x : Int) : Decidable (inS x) := by unfold inS; exact inferInstance
theorem mul_in {a b A B : Int} (h0 : 0 ≤ a) (h1 : a ≤ A) (h2 : 0 ≤ b) (h3 : b ≤ B) : 0 ≤ a * b ∧ a * b ≤ A * B :=
  ⟨Int.mul_nonneg h0 h2, Int.mul_le_mul h1 h3 h2 (by omega)⟩
theorem tdiv_in {a : Int} (h0 : 0 ≤ a) : a.tdiv 100 = a / 100 := Int.tdiv_eq_ediv_of_nonneg h0
theorem lenV_in {u n of ep : Int} (h : lenMay u n) (h1 : inS of) (h2 : inS ep) : 0 ≤ lenV u n of ep ∧ lenV u n of ep ≤ 1152921504606846976 := by
  unfold lenMay at h
  unfold inS at h1 h2
  unfold lenV
  split
  · omega
  · split
    · exact (mul_in (B := 1048576) h.1 h.2.1 h2.1 h2.2)
    · split
      · rename_i h3
        have := mul_in (B := 100) h1.1 h1.2 h.1 (h.2.2.2.2.1 h3)
        rw [tdiv_in this.1]
        omega
      · omega
def stepsLG : List AV → Mem → Option (AV × Mem)
  | [.agg [.v (.int .i64 u), .v (.int .i64 n)], .v (.int .i64 of), .v (.int .i64 ep)], m =>
    some (if lenMay u n ∧ inS of ∧ inS ep then (if lenV u n of ep > 1099511627776 then .tup [.v (.int .i64 0), .v (.int .i64 4)] else .tup [.v (.int .i64 (lenV u n of ep)), .v (.int .i64 0)]) else .tup [.v (.int .i64 0), .v (.int .i64 1)], m)
  | _, _ => none
def kpStepsL : Nat → Option (List Nat) := fun
  | 0 => some [1, 2, 3]
  | 1 => some [1, 2, 3, 21]
  | 2 => some [6, 7]
  | 3 => some [1, 2, 3, 8]
  | 4 => some [1, 2, 3, 8, 24]
  | 5 => some [1, 2, 3, 8, 24, 25]
  | 6 => some [8]
  | 7 => some [1, 2, 3, 8, 24, 29]
  | 8 => some [8]
  | 9 => some [1, 3, 8, 35]
  | 10 => some [8]
  | 11 => some [8, 43]
  | 12 => some [6, 7]
  | 13 => some [6, 7]
  | _ => none
def tab_stepsL_ok : List (FuncId × (List AV → Mem → Option (AV × Mem))) := [(76, lenCheckG), (98, withinG)]
theorem stepsL_ok : FunOk Try.prog 63 stepsLG := by
  have hC := table_ok (P := Try.prog) (l := tab_stepsL_ok) (table_more lenCheck_ok (table_more lenWithin_ok table_nil))
  have t1 := fun args mm => table_at (l := tab_stepsL_ok) (f := 76) (args := args) (m := mm) rfl
  have t2 := fun args mm => table_at (l := tab_stepsL_ok) (f := 98) (args := args) (m := mm) rfl
  refine fun_ok mixed hC Try.func63 rfl kpStepsL false rfl fun args m r h => ?_
  unfold stepsLG at h
  split at h
  · rename_i u n of ep
    simp only [Option.some.injEq] at h
    subst h
    refine ⟨Nat.le_of_ble_eq_true rfl, ?_⟩
    simp only [entry, List.length_cons, List.length_nil, List.range, List.range.loop, List.zip_cons_cons, List.zip_nil_right]
    have fw : ∀ x lo hi mm, withinG [.v (.int .i64 x), .v (.int .i64 lo), .v (.int .i64 hi)] mm = some (.v (.bool (decide (lo ≤ x ∧ x ≤ hi))), mm) := fun _ _ _ _ => rfl
    by_cases hl : lenMay u n
    · have f1 : ∀ mm, lenCheckG [.agg [.v (.int .i64 u), .v (.int .i64 n)]] mm = some (.v (.int .i64 0), mm) := fun mm => by simp only [lenCheckG]; rw [if_pos hl]
      have b1 : ((0 : Int) != 0) = false := rfl
      by_cases h1 : inS of
      · have b2 : (!decide ((0 : Int) ≤ of ∧ of ≤ 1048576)) = false := by rw [decide_eq_true (show 0 ≤ of ∧ of ≤ 1048576 from h1)]; rfl
        by_cases h2 : inS ep
        · have b3 : (!decide ((0 : Int) ≤ ep ∧ ep ≤ 1048576)) = false := by rw [decide_eq_true (show 0 ≤ ep ∧ ep ≤ 1048576 from h2)]; rfl
          have hV := lenV_in hl h1 h2
          rw [if_pos ⟨hl, h1, h2⟩]
          have fin : ∀ (e : Env) (v : Int), v = lenV u n of ep → Ev.get e 6 = .v (.int .i64 0) → Ev.get e 7 = .v (.int .i64 4) → v > 1099511627776 → Leaves Try.prog false Try.f63 m ((if lenV u n of ep > 1099511627776 then .tup [.v (.int .i64 0), .v (.int .i64 4)] else .tup [.v (.int .i64 (lenV u n of ep)), .v (.int .i64 0)]), m) .ret e (m.push [.v (.int .i64 u), .v (.int .i64 n)]) := fun e v hv g1 g2 hgt => by
            rw [if_pos (by omega)]
            exact leaves_two rfl (by rw [g1]; rfl) (by rw [g2]; rfl) fin_push
          have fin2 : ∀ (e : Env) (v : Int), v = lenV u n of ep → Ev.get e 6 = .v (.int .i64 v) → Ev.get e 7 = .v (.int .i64 0) → ¬ v > 1099511627776 → Leaves Try.prog false Try.f63 m ((if lenV u n of ep > 1099511627776 then .tup [.v (.int .i64 0), .v (.int .i64 4)] else .tup [.v (.int .i64 (lenV u n of ep)), .v (.int .i64 0)]), m) .ret e (m.push [.v (.int .i64 u), .v (.int .i64 n)]) := fun e v hv g1 g2 hgt => by
            rw [if_neg (by omega), ← hv]
            exact leaves_two rfl (by rw [g1]; rfl) (by rw [g2]; rfl) fin_push
          have hl' := hl
          unfold lenMay at hl'
          have hu : u = 0 ∨ u = 1 ∨ u = 2 ∨ u = 3 := by omega
          unfold inS at h1 h2
          have w1 : IntKind.i64.wrap (n * ep) = n * ep := by have := mul_in (A := 1099511627776) (B := 1048576) hl'.1 hl'.2.1 h2.1 h2.2; exact i64_wrap (by omega) (by omega)
          rcases hu with rfl | rfl | rfl | rfl
          · have e1 : lenV 0 n of ep = n := rfl
            repeat' (first | (first | refine runs_seq ?_ | refine runs_block ?_ | refine next_normal ?_ | refine inside_normal ?_ | refine next_exit ?_ | refine inside_exit ?_ | refine inside_other (by decide) ?_ | refine next_ret ?_ | refine inside_ret ?_ | refine runs_ops_kept ?_ | refine runs_skip ?_ | refine runs_exit ?_ | refine runs_ret ?_ | ((first | refine' ops_op rfl rfl (by decide) ?_ ?_ ?_ | refine' ops_yes rfl rfl (by simp only [Ev.get, reduceIte, Nat.reduceEqDiff, len0, len1, t1, f1, b1, t2, fw, b2, b3]; first | done | rfl) rfl (by decide) ?_ ?_ ?_ | refine' ops_op0 rfl rfl ?_ ?_ ?_); rotate_left 2; (focus (simp only [evOp, opd, constAV, constCell, Ev.get, reduceIte, Nat.reduceEqDiff, reduceCtorEq, evBinN, nilCmp, evBin, evInt, evUn, evConvert, evBuiltin, evLen, evField, evPart, tStr, tInt, tElem, tArr, tBool, tAgg, tField, Try.underlying9, Try.underlying3, Try.underlying4, Try.underlying5, Try.underlying21, Try.underlying38, Try.underlying25, Try.underlying33, Try.underlying2, Try.underlying22, Try.underlying54, List.zipWith, Option.map_some, Option.map_none, List.length_cons, List.length_nil, ne_eq, Int.reduceEq, not_false_eq_true, and_self, and_true, true_and, szStr, szInt, Option.getD_some, isNil, evStr, len0, len1, loadOne, loadLen, cellsLen, newLen, Nat.zero_add, List.drop_zero, List.drop_succ_cons, List.head?_cons, evMinMax, evFoldI, evCall, List.size_toArray, List.append_nil, List.nil_append, List.map_cons, List.map_nil, argAV, argCell, List.toList_toArray, fieldTy, t1, f1, b1, t2, fw, b2, b3]; first | done | rfl)); exact (fun h => by first | rfl | (simp at h; done) | exact absurd (Bool.and_eq_true_iff.mp h).2 (by decide))) | refine ops_no rfl rfl (by simp only [Ev.get, reduceIte, Nat.reduceEqDiff, len0, len1, t1, f1, b1, t2, fw, b2, b3]; first | done | rfl) (by decide) rfl (by decide) ?_ | refine ops_off rfl rfl rfl rfl (by decide) ?_ | (refine ops_nil ?_; intro e2 h2; simp only [restr, kpStepsL, List.map_cons, List.map_nil, Ev.get, reduceIte, Nat.reduceEqDiff] at h2; subst h2)) | (refine ops_here ?_; (fail_if_success (refine ops_case (B := true) rfl rfl rfl ?_ ?_)); (fail_if_success (refine ops_case (B := false) rfl rfl rfl ?_ ?_)); refine ops_case rfl rfl rfl (fun hB => ?_) (fun hB => ?_) <;> rw [hB]) | (refine runs_here ?_; refine runs_cond rfl (fun hc => ?_) (fun hc => ?_) <;> first | (cases hc; done) | skip))
            all_goals first | exact fin _ n e1.symm rfl rfl (of_decide_eq_true (by assumption)) | exact fin2 _ n e1.symm rfl rfl (of_decide_eq_false (by assumption))
          · have e1 : lenV 1 n of ep = n * ep := rfl
            repeat' (first | (first | refine runs_seq ?_ | refine runs_block ?_ | refine next_normal ?_ | refine inside_normal ?_ | refine next_exit ?_ | refine inside_exit ?_ | refine inside_other (by decide) ?_ | refine next_ret ?_ | refine inside_ret ?_ | refine runs_ops_kept ?_ | refine runs_skip ?_ | refine runs_exit ?_ | refine runs_ret ?_ | ((first | refine' ops_op rfl rfl (by decide) ?_ ?_ ?_ | refine' ops_yes rfl rfl (by simp only [Ev.get, reduceIte, Nat.reduceEqDiff, len0, len1, t1, f1, b1, t2, fw, b2, b3, w1]; first | done | rfl) rfl (by decide) ?_ ?_ ?_ | refine' ops_op0 rfl rfl ?_ ?_ ?_); rotate_left 2; (focus (simp only [evOp, opd, constAV, constCell, Ev.get, reduceIte, Nat.reduceEqDiff, reduceCtorEq, evBinN, nilCmp, evBin, evInt, evUn, evConvert, evBuiltin, evLen, evField, evPart, tStr, tInt, tElem, tArr, tBool, tAgg, tField, Try.underlying9, Try.underlying3, Try.underlying4, Try.underlying5, Try.underlying21, Try.underlying38, Try.underlying25, Try.underlying33, Try.underlying2, Try.underlying22, Try.underlying54, List.zipWith, Option.map_some, Option.map_none, List.length_cons, List.length_nil, ne_eq, Int.reduceEq, not_false_eq_true, and_self, and_true, true_and, szStr, szInt, Option.getD_some, isNil, evStr, len0, len1, loadOne, loadLen, cellsLen, newLen, Nat.zero_add, List.drop_zero, List.drop_succ_cons, List.head?_cons, evMinMax, evFoldI, evCall, List.size_toArray, List.append_nil, List.nil_append, List.map_cons, List.map_nil, argAV, argCell, List.toList_toArray, fieldTy, t1, f1, b1, t2, fw, b2, b3, w1]; first | done | rfl)); exact (fun h => by first | rfl | (simp at h; done) | exact absurd (Bool.and_eq_true_iff.mp h).2 (by decide))) | refine ops_no rfl rfl (by simp only [Ev.get, reduceIte, Nat.reduceEqDiff, len0, len1, t1, f1, b1, t2, fw, b2, b3, w1]; first | done | rfl) (by decide) rfl (by decide) ?_ | refine ops_off rfl rfl rfl rfl (by decide) ?_ | (refine ops_nil ?_; intro e2 h2; simp only [restr, kpStepsL, List.map_cons, List.map_nil, Ev.get, reduceIte, Nat.reduceEqDiff] at h2; subst h2)) | (refine ops_here ?_; (fail_if_success (refine ops_case (B := true) rfl rfl rfl ?_ ?_)); (fail_if_success (refine ops_case (B := false) rfl rfl rfl ?_ ?_)); refine ops_case rfl rfl rfl (fun hB => ?_) (fun hB => ?_) <;> rw [hB]) | (refine runs_here ?_; refine runs_cond rfl (fun hc => ?_) (fun hc => ?_) <;> first | (cases hc; done) | skip))
            all_goals first | exact fin _ _ e1.symm rfl rfl (of_decide_eq_true (by assumption)) | exact fin2 _ _ e1.symm rfl rfl (of_decide_eq_false (by assumption))
          · have e1 : lenV 2 n of ep = (of * n).tdiv 100 := rfl
            have h100 := hl'.2.2.2.2.1 rfl
            have hm := mul_in (A := 1048576) (B := 100) h1.1 h1.2 hl'.1 h100
            have hd := tdiv_in hm.1
            have w2 : IntKind.i64.wrap (of * n) = of * n := i64_wrap (by omega) (by omega)
            have w3 : IntKind.i64.wrap ((of * n).tdiv 100) = (of * n).tdiv 100 := i64_wrap (by omega) (by omega)
            have n100 : (100 : Int) ≠ 0 := by decide
            repeat' (first | (first | refine runs_seq ?_ | refine runs_block ?_ | refine next_normal ?_ | refine inside_normal ?_ | refine next_exit ?_ | refine inside_exit ?_ | refine inside_other (by decide) ?_ | refine next_ret ?_ | refine inside_ret ?_ | refine runs_ops_kept ?_ | refine runs_skip ?_ | refine runs_exit ?_ | refine runs_ret ?_ | ((first | refine' ops_op rfl rfl (by decide) ?_ ?_ ?_ | refine' ops_yes rfl rfl (by simp only [Ev.get, reduceIte, Nat.reduceEqDiff, len0, len1, t1, f1, b1, t2, fw, b2, b3, w2, w3, n100]; first | done | rfl) rfl (by decide) ?_ ?_ ?_ | refine' ops_op0 rfl rfl ?_ ?_ ?_); rotate_left 2; (focus (simp only [evOp, opd, constAV, constCell, Ev.get, reduceIte, Nat.reduceEqDiff, reduceCtorEq, evBinN, nilCmp, evBin, evInt, evUn, evConvert, evBuiltin, evLen, evField, evPart, tStr, tInt, tElem, tArr, tBool, tAgg, tField, Try.underlying9, Try.underlying3, Try.underlying4, Try.underlying5, Try.underlying21, Try.underlying38, Try.underlying25, Try.underlying33, Try.underlying2, Try.underlying22, Try.underlying54, List.zipWith, Option.map_some, Option.map_none, List.length_cons, List.length_nil, ne_eq, Int.reduceEq, not_false_eq_true, and_self, and_true, true_and, szStr, szInt, Option.getD_some, isNil, evStr, len0, len1, loadOne, loadLen, cellsLen, newLen, Nat.zero_add, List.drop_zero, List.drop_succ_cons, List.head?_cons, evMinMax, evFoldI, evCall, List.size_toArray, List.append_nil, List.nil_append, List.map_cons, List.map_nil, argAV, argCell, List.toList_toArray, fieldTy, t1, f1, b1, t2, fw, b2, b3, w2, w3, n100]; first | done | rfl)); exact (fun h => by first | rfl | (simp at h; done) | exact absurd (Bool.and_eq_true_iff.mp h).2 (by decide))) | refine ops_no rfl rfl (by simp only [Ev.get, reduceIte, Nat.reduceEqDiff, len0, len1, t1, f1, b1, t2, fw, b2, b3, w2, w3, n100]; first | done | rfl) (by decide) rfl (by decide) ?_ | refine ops_off rfl rfl rfl rfl (by decide) ?_ | (refine ops_nil ?_; intro e2 h2; simp only [restr, kpStepsL, List.map_cons, List.map_nil, Ev.get, reduceIte, Nat.reduceEqDiff] at h2; subst h2)) | (refine ops_here ?_; (fail_if_success (refine ops_case (B := true) rfl rfl rfl ?_ ?_)); (fail_if_success (refine ops_case (B := false) rfl rfl rfl ?_ ?_)); refine ops_case rfl rfl rfl (fun hB => ?_) (fun hB => ?_) <;> rw [hB]) | (refine runs_here ?_; refine runs_cond rfl (fun hc => ?_) (fun hc => ?_) <;> first | (cases hc; done) | skip))
            all_goals first | exact fin _ _ e1.symm rfl rfl (of_decide_eq_true (by assumption)) | exact fin2 _ _ e1.symm rfl rfl (of_decide_eq_false (by assumption))
          · have e1 : lenV 3 n of ep = of := rfl
            repeat' (first | (first | refine runs_seq ?_ | refine runs_block ?_ | refine next_normal ?_ | refine inside_normal ?_ | refine next_exit ?_ | refine inside_exit ?_ | refine inside_other (by decide) ?_ | refine next_ret ?_ | refine inside_ret ?_ | refine runs_ops_kept ?_ | refine runs_skip ?_ | refine runs_exit ?_ | refine runs_ret ?_ | ((first | refine' ops_op rfl rfl (by decide) ?_ ?_ ?_ | refine' ops_yes rfl rfl (by simp only [Ev.get, reduceIte, Nat.reduceEqDiff, len0, len1, t1, f1, b1, t2, fw, b2, b3]; first | done | rfl) rfl (by decide) ?_ ?_ ?_ | refine' ops_op0 rfl rfl ?_ ?_ ?_); rotate_left 2; (focus (simp only [evOp, opd, constAV, constCell, Ev.get, reduceIte, Nat.reduceEqDiff, reduceCtorEq, evBinN, nilCmp, evBin, evInt, evUn, evConvert, evBuiltin, evLen, evField, evPart, tStr, tInt, tElem, tArr, tBool, tAgg, tField, Try.underlying9, Try.underlying3, Try.underlying4, Try.underlying5, Try.underlying21, Try.underlying38, Try.underlying25, Try.underlying33, Try.underlying2, Try.underlying22, Try.underlying54, List.zipWith, Option.map_some, Option.map_none, List.length_cons, List.length_nil, ne_eq, Int.reduceEq, not_false_eq_true, and_self, and_true, true_and, szStr, szInt, Option.getD_some, isNil, evStr, len0, len1, loadOne, loadLen, cellsLen, newLen, Nat.zero_add, List.drop_zero, List.drop_succ_cons, List.head?_cons, evMinMax, evFoldI, evCall, List.size_toArray, List.append_nil, List.nil_append, List.map_cons, List.map_nil, argAV, argCell, List.toList_toArray, fieldTy, t1, f1, b1, t2, fw, b2, b3]; first | done | rfl)); exact (fun h => by first | rfl | (simp at h; done) | exact absurd (Bool.and_eq_true_iff.mp h).2 (by decide))) | refine ops_no rfl rfl (by simp only [Ev.get, reduceIte, Nat.reduceEqDiff, len0, len1, t1, f1, b1, t2, fw, b2, b3]; first | done | rfl) (by decide) rfl (by decide) ?_ | refine ops_off rfl rfl rfl rfl (by decide) ?_ | (refine ops_nil ?_; intro e2 h2; simp only [restr, kpStepsL, List.map_cons, List.map_nil, Ev.get, reduceIte, Nat.reduceEqDiff] at h2; subst h2)) | (refine ops_here ?_; (fail_if_success (refine ops_case (B := true) rfl rfl rfl ?_ ?_)); (fail_if_success (refine ops_case (B := false) rfl rfl rfl ?_ ?_)); refine ops_case rfl rfl rfl (fun hB => ?_) (fun hB => ?_) <;> rw [hB]) | (refine runs_here ?_; refine runs_cond rfl (fun hc => ?_) (fun hc => ?_) <;> first | (cases hc; done) | skip))
            all_goals first | exact fin _ _ e1.symm rfl rfl (of_decide_eq_true (by assumption)) | exact fin2 _ _ e1.symm rfl rfl (of_decide_eq_false (by assumption))
        · have b3 : (!decide ((0 : Int) ≤ ep ∧ ep ≤ 1048576)) = true := by rw [decide_eq_false (show ¬ (0 ≤ ep ∧ ep ≤ 1048576) from h2)]; rfl
          rw [if_neg (fun h => h2 h.2.2)]
          repeat (first | refine runs_seq ?_ | refine runs_block ?_ | refine next_normal ?_ | refine inside_normal ?_ | refine next_exit ?_ | refine inside_exit ?_ | refine inside_other (by decide) ?_ | refine next_ret ?_ | refine inside_ret ?_ | refine runs_ops_kept ?_ | refine runs_skip ?_ | refine runs_exit ?_ | refine runs_ret ?_ | ((first | refine' ops_op rfl rfl (by decide) ?_ ?_ ?_ | refine' ops_yes rfl rfl (by simp only [Ev.get, reduceIte, Nat.reduceEqDiff, len0, len1, t1, f1, b1, t2, fw, b2, b3]; first | done | rfl) rfl (by decide) ?_ ?_ ?_ | refine' ops_op0 rfl rfl ?_ ?_ ?_); rotate_left 2; (focus (simp only [evOp, opd, constAV, constCell, Ev.get, reduceIte, Nat.reduceEqDiff, reduceCtorEq, evBinN, nilCmp, evBin, evInt, evUn, evConvert, evBuiltin, evLen, evField, evPart, tStr, tInt, tElem, tArr, tBool, tAgg, tField, Try.underlying9, Try.underlying3, Try.underlying4, Try.underlying5, Try.underlying21, Try.underlying38, Try.underlying25, Try.underlying33, Try.underlying2, Try.underlying22, Try.underlying54, List.zipWith, Option.map_some, Option.map_none, List.length_cons, List.length_nil, ne_eq, Int.reduceEq, not_false_eq_true, and_self, and_true, true_and, szStr, szInt, Option.getD_some, isNil, evStr, len0, len1, loadOne, loadLen, cellsLen, newLen, Nat.zero_add, List.drop_zero, List.drop_succ_cons, List.head?_cons, evMinMax, evFoldI, evCall, List.size_toArray, List.append_nil, List.nil_append, List.map_cons, List.map_nil, argAV, argCell, List.toList_toArray, fieldTy, t1, f1, b1, t2, fw, b2, b3]; first | done | rfl)); exact (fun h => by first | rfl | (simp at h; done) | exact absurd (Bool.and_eq_true_iff.mp h).2 (by decide))) | refine ops_no rfl rfl (by simp only [Ev.get, reduceIte, Nat.reduceEqDiff, len0, len1, t1, f1, b1, t2, fw, b2, b3]; first | done | rfl) (by decide) rfl (by decide) ?_ | refine ops_off rfl rfl rfl rfl (by decide) ?_ | (refine ops_nil ?_; intro e2 h2; simp only [restr, kpStepsL, List.map_cons, List.map_nil, Ev.get, reduceIte, Nat.reduceEqDiff] at h2; subst h2))
          refine runs_cond rfl (fun hc => ?_) (fun hc => by cases hc)
          repeat (first | refine runs_seq ?_ | refine runs_block ?_ | refine next_normal ?_ | refine inside_normal ?_ | refine next_exit ?_ | refine inside_exit ?_ | refine inside_other (by decide) ?_ | refine next_ret ?_ | refine inside_ret ?_ | refine runs_ops_kept ?_ | refine runs_skip ?_ | refine runs_exit ?_ | refine runs_ret ?_ | ((first | refine' ops_op rfl rfl (by decide) ?_ ?_ ?_ | refine' ops_yes rfl rfl (by simp only [Ev.get, reduceIte, Nat.reduceEqDiff, len0, len1]; first | done | rfl) rfl (by decide) ?_ ?_ ?_ | refine' ops_op0 rfl rfl ?_ ?_ ?_); rotate_left 2; (focus (simp only [evOp, opd, constAV, constCell, Ev.get, reduceIte, Nat.reduceEqDiff, reduceCtorEq, evBinN, nilCmp, evBin, evInt, evUn, evConvert, evBuiltin, evLen, evField, evPart, tStr, tInt, tElem, tArr, tBool, tAgg, tField, Try.underlying9, Try.underlying3, Try.underlying4, Try.underlying5, Try.underlying21, Try.underlying38, Try.underlying25, Try.underlying33, Try.underlying2, Try.underlying22, Try.underlying54, List.zipWith, Option.map_some, Option.map_none, List.length_cons, List.length_nil, ne_eq, Int.reduceEq, not_false_eq_true, and_self, and_true, true_and, szStr, szInt, Option.getD_some, isNil, evStr, len0, len1, loadOne, loadLen, cellsLen, newLen, Nat.zero_add, List.drop_zero, List.drop_succ_cons, List.head?_cons, evMinMax, evFoldI, evCall, List.size_toArray, List.append_nil, List.nil_append, List.map_cons, List.map_nil, argAV, argCell, List.toList_toArray, fieldTy]; first | done | rfl)); exact (fun h => by first | rfl | (simp at h; done) | exact absurd (Bool.and_eq_true_iff.mp h).2 (by decide))) | refine ops_no rfl rfl (by simp only [Ev.get, reduceIte, Nat.reduceEqDiff, len0, len1]; first | done | rfl) (by decide) rfl (by decide) ?_ | refine ops_off rfl rfl rfl rfl (by decide) ?_ | (refine ops_nil ?_; intro e2 h2; simp only [restr, kpStepsL, List.map_cons, List.map_nil, Ev.get, reduceIte, Nat.reduceEqDiff] at h2; subst h2))
          exact leaves_two rfl rfl rfl fin_push
      · have b2 : (!decide ((0 : Int) ≤ of ∧ of ≤ 1048576)) = true := by rw [decide_eq_false (show ¬ (0 ≤ of ∧ of ≤ 1048576) from h1)]; rfl
        rw [if_neg (fun h => h1 h.2.1)]
        repeat (first | refine runs_seq ?_ | refine runs_block ?_ | refine next_normal ?_ | refine inside_normal ?_ | refine next_exit ?_ | refine inside_exit ?_ | refine inside_other (by decide) ?_ | refine next_ret ?_ | refine inside_ret ?_ | refine runs_ops_kept ?_ | refine runs_skip ?_ | refine runs_exit ?_ | refine runs_ret ?_ | ((first | refine' ops_op rfl rfl (by decide) ?_ ?_ ?_ | refine' ops_yes rfl rfl (by simp only [Ev.get, reduceIte, Nat.reduceEqDiff, len0, len1, t1, f1, b1, t2, fw, b2]; first | done | rfl) rfl (by decide) ?_ ?_ ?_ | refine' ops_op0 rfl rfl ?_ ?_ ?_); rotate_left 2; (focus (simp only [evOp, opd, constAV, constCell, Ev.get, reduceIte, Nat.reduceEqDiff, reduceCtorEq, evBinN, nilCmp, evBin, evInt, evUn, evConvert, evBuiltin, evLen, evField, evPart, tStr, tInt, tElem, tArr, tBool, tAgg, tField, Try.underlying9, Try.underlying3, Try.underlying4, Try.underlying5, Try.underlying21, Try.underlying38, Try.underlying25, Try.underlying33, Try.underlying2, Try.underlying22, Try.underlying54, List.zipWith, Option.map_some, Option.map_none, List.length_cons, List.length_nil, ne_eq, Int.reduceEq, not_false_eq_true, and_self, and_true, true_and, szStr, szInt, Option.getD_some, isNil, evStr, len0, len1, loadOne, loadLen, cellsLen, newLen, Nat.zero_add, List.drop_zero, List.drop_succ_cons, List.head?_cons, evMinMax, evFoldI, evCall, List.size_toArray, List.append_nil, List.nil_append, List.map_cons, List.map_nil, argAV, argCell, List.toList_toArray, fieldTy, t1, f1, b1, t2, fw, b2]; first | done | rfl)); exact (fun h => by first | rfl | (simp at h; done) | exact absurd (Bool.and_eq_true_iff.mp h).2 (by decide))) | refine ops_no rfl rfl (by simp only [Ev.get, reduceIte, Nat.reduceEqDiff, len0, len1, t1, f1, b1, t2, fw, b2]; first | done | rfl) (by decide) rfl (by decide) ?_ | refine ops_off rfl rfl rfl rfl (by decide) ?_ | (refine ops_nil ?_; intro e2 h2; simp only [restr, kpStepsL, List.map_cons, List.map_nil, Ev.get, reduceIte, Nat.reduceEqDiff] at h2; subst h2))
        refine runs_cond rfl (fun hc => ?_) (fun hc => by cases hc)
        repeat (first | refine runs_seq ?_ | refine runs_block ?_ | refine next_normal ?_ | refine inside_normal ?_ | refine next_exit ?_ | refine inside_exit ?_ | refine inside_other (by decide) ?_ | refine next_ret ?_ | refine inside_ret ?_ | refine runs_ops_kept ?_ | refine runs_skip ?_ | refine runs_exit ?_ | refine runs_ret ?_ | ((first | refine' ops_op rfl rfl (by decide) ?_ ?_ ?_ | refine' ops_yes rfl rfl (by simp only [Ev.get, reduceIte, Nat.reduceEqDiff, len0, len1]; first | done | rfl) rfl (by decide) ?_ ?_ ?_ | refine' ops_op0 rfl rfl ?_ ?_ ?_); rotate_left 2; (focus (simp only [evOp, opd, constAV, constCell, Ev.get, reduceIte, Nat.reduceEqDiff, reduceCtorEq, evBinN, nilCmp, evBin, evInt, evUn, evConvert, evBuiltin, evLen, evField, evPart, tStr, tInt, tElem, tArr, tBool, tAgg, tField, Try.underlying9, Try.underlying3, Try.underlying4, Try.underlying5, Try.underlying21, Try.underlying38, Try.underlying25, Try.underlying33, Try.underlying2, Try.underlying22, Try.underlying54, List.zipWith, Option.map_some, Option.map_none, List.length_cons, List.length_nil, ne_eq, Int.reduceEq, not_false_eq_true, and_self, and_true, true_and, szStr, szInt, Option.getD_some, isNil, evStr, len0, len1, loadOne, loadLen, cellsLen, newLen, Nat.zero_add, List.drop_zero, List.drop_succ_cons, List.head?_cons, evMinMax, evFoldI, evCall, List.size_toArray, List.append_nil, List.nil_append, List.map_cons, List.map_nil, argAV, argCell, List.toList_toArray, fieldTy]; first | done | rfl)); exact (fun h => by first | rfl | (simp at h; done) | exact absurd (Bool.and_eq_true_iff.mp h).2 (by decide))) | refine ops_no rfl rfl (by simp only [Ev.get, reduceIte, Nat.reduceEqDiff, len0, len1]; first | done | rfl) (by decide) rfl (by decide) ?_ | refine ops_off rfl rfl rfl rfl (by decide) ?_ | (refine ops_nil ?_; intro e2 h2; simp only [restr, kpStepsL, List.map_cons, List.map_nil, Ev.get, reduceIte, Nat.reduceEqDiff] at h2; subst h2))
        exact leaves_two rfl rfl rfl fin_push
    · have f1 : ∀ mm, lenCheckG [.agg [.v (.int .i64 u), .v (.int .i64 n)]] mm = some (.v (.int .i64 1), mm) := fun mm => by simp only [lenCheckG]; rw [if_neg hl]
      have b1 : ((1 : Int) != 0) = true := rfl
      rw [if_neg (fun h => hl h.1)]
      repeat (first | refine runs_seq ?_ | refine runs_block ?_ | refine next_normal ?_ | refine inside_normal ?_ | refine next_exit ?_ | refine inside_exit ?_ | refine inside_other (by decide) ?_ | refine next_ret ?_ | refine inside_ret ?_ | refine runs_ops_kept ?_ | refine runs_skip ?_ | refine runs_exit ?_ | refine runs_ret ?_ | ((first | refine' ops_op rfl rfl (by decide) ?_ ?_ ?_ | refine' ops_yes rfl rfl (by simp only [Ev.get, reduceIte, Nat.reduceEqDiff, len0, len1, t1, f1, b1, t2, fw]; first | done | rfl) rfl (by decide) ?_ ?_ ?_ | refine' ops_op0 rfl rfl ?_ ?_ ?_); rotate_left 2; (focus (simp only [evOp, opd, constAV, constCell, Ev.get, reduceIte, Nat.reduceEqDiff, reduceCtorEq, evBinN, nilCmp, evBin, evInt, evUn, evConvert, evBuiltin, evLen, evField, evPart, tStr, tInt, tElem, tArr, tBool, tAgg, tField, Try.underlying9, Try.underlying3, Try.underlying4, Try.underlying5, Try.underlying21, Try.underlying38, Try.underlying25, Try.underlying33, Try.underlying2, Try.underlying22, Try.underlying54, List.zipWith, Option.map_some, Option.map_none, List.length_cons, List.length_nil, ne_eq, Int.reduceEq, not_false_eq_true, and_self, and_true, true_and, szStr, szInt, Option.getD_some, isNil, evStr, len0, len1, loadOne, loadLen, cellsLen, newLen, Nat.zero_add, List.drop_zero, List.drop_succ_cons, List.head?_cons, evMinMax, evFoldI, evCall, List.size_toArray, List.append_nil, List.nil_append, List.map_cons, List.map_nil, argAV, argCell, List.toList_toArray, fieldTy, t1, f1, b1, t2, fw]; first | done | rfl)); exact (fun h => by first | rfl | (simp at h; done) | exact absurd (Bool.and_eq_true_iff.mp h).2 (by decide))) | refine ops_no rfl rfl (by simp only [Ev.get, reduceIte, Nat.reduceEqDiff, len0, len1, t1, f1, b1, t2, fw]; first | done | rfl) (by decide) rfl (by decide) ?_ | refine ops_off rfl rfl rfl rfl (by decide) ?_ | (refine ops_nil ?_; intro e2 h2; simp only [restr, kpStepsL, List.map_cons, List.map_nil, Ev.get, reduceIte, Nat.reduceEqDiff] at h2; subst h2))
      refine runs_cond rfl (fun hc => ?_) (fun hc => by cases hc)
      repeat (first | refine runs_seq ?_ | refine runs_block ?_ | refine next_normal ?_ | refine inside_normal ?_ | refine next_exit ?_ | refine inside_exit ?_ | refine inside_other (by decide) ?_ | refine next_ret ?_ | refine inside_ret ?_ | refine runs_ops_kept ?_ | refine runs_skip ?_ | refine runs_exit ?_ | refine runs_ret ?_ | ((first | refine' ops_op rfl rfl (by decide) ?_ ?_ ?_ | refine' ops_yes rfl rfl (by simp only [Ev.get, reduceIte, Nat.reduceEqDiff, len0, len1]; first | done | rfl) rfl (by decide) ?_ ?_ ?_ | refine' ops_op0 rfl rfl ?_ ?_ ?_); rotate_left 2; (focus (simp only [evOp, opd, constAV, constCell, Ev.get, reduceIte, Nat.reduceEqDiff, reduceCtorEq, evBinN, nilCmp, evBin, evInt, evUn, evConvert, evBuiltin, evLen, evField, evPart, tStr, tInt, tElem, tArr, tBool, tAgg, tField, Try.underlying9, Try.underlying3, Try.underlying4, Try.underlying5, Try.underlying21, Try.underlying38, Try.underlying25, Try.underlying33, Try.underlying2, Try.underlying22, Try.underlying54, List.zipWith, Option.map_some, Option.map_none, List.length_cons, List.length_nil, ne_eq, Int.reduceEq, not_false_eq_true, and_self, and_true, true_and, szStr, szInt, Option.getD_some, isNil, evStr, len0, len1, loadOne, loadLen, cellsLen, newLen, Nat.zero_add, List.drop_zero, List.drop_succ_cons, List.head?_cons, evMinMax, evFoldI, evCall, List.size_toArray, List.append_nil, List.nil_append, List.map_cons, List.map_nil, argAV, argCell, List.toList_toArray, fieldTy]; first | done | rfl)); exact (fun h => by first | rfl | (simp at h; done) | exact absurd (Bool.and_eq_true_iff.mp h).2 (by decide))) | refine ops_no rfl rfl (by simp only [Ev.get, reduceIte, Nat.reduceEqDiff, len0, len1]; first | done | rfl) (by decide) rfl (by decide) ?_ | refine ops_off rfl rfl rfl rfl (by decide) ?_ | (refine ops_nil ?_; intro e2 h2; simp only [restr, kpStepsL, List.map_cons, List.map_nil, Ev.get, reduceIte, Nat.reduceEqDiff] at h2; subst h2))
      exact leaves_two rfl rfl rfl fin_push
  · cases h
/-! ### the document's -/
def stepsRG : List AV → Mem → Option (AV × Mem)
  | [.agg [.v (.int .i64 u), .v (.int .i64 n)], .v (.int .i64 of), .v (.int .i64 ep)], m =>
    if lenMay u n ∧ inS of ∧ inS ep then some (if lenV u n of ep > 1099511627776 then .tup [.v (.int .i64 0), .v (.int .i64 4)] else .tup [.v (.int .i64 (lenV u n of ep)), .v (.int .i64 0)], m) else none
  | _, _ => none
def kpStepsR : Nat → Option (List Nat) := fun
  | 0 => some [1, 2, 3]
  | 1 => some [1, 2, 3, 8]
  | 2 => some [1, 2, 3, 8, 12]
  | 3 => some [1, 2, 3, 8]
  | 4 => some [1, 2, 3, 8, 17]
  | 5 => some [1, 2, 3, 26]
  | 6 => some [6, 7]
  | 7 => some [1, 3, 8]
  | 8 => some [1, 3, 8, 33]
  | 9 => some [8]
  | 10 => some [6, 7]
  | _ => none
theorem stepsR_ok : FunOk Try.prog 75 stepsRG := by
  have hC := table_ok (P := Try.prog) (l := []) table_nil
  refine fun_ok mixed hC Try.func75 rfl kpStepsR false rfl fun args m r h => ?_
  unfold stepsRG at h
  split at h
  · rename_i u n of ep
    split at h
    · rename_i hb
      obtain ⟨hl, h1, h2⟩ := hb
      simp only [Option.some.injEq] at h
      subst h
      refine ⟨Nat.le_of_ble_eq_true rfl, ?_⟩
      simp only [entry, List.length_cons, List.length_nil, List.range, List.range.loop, List.zip_cons_cons, List.zip_nil_right]
      have fin : ∀ (e : Env), lenV u n of ep > 1099511627776 → Ev.get e 6 = .v (.int .i64 0) → Ev.get e 7 = .v (.int .i64 4) → Leaves Try.prog false Try.f75 m ((if lenV u n of ep > 1099511627776 then .tup [.v (.int .i64 0), .v (.int .i64 4)] else .tup [.v (.int .i64 (lenV u n of ep)), .v (.int .i64 0)]), m) .ret e (m.push [.v (.int .i64 u), .v (.int .i64 n)]) := fun e hgt g1 g2 => by
        rw [if_pos hgt]
        exact leaves_two rfl (by rw [g1]; rfl) (by rw [g2]; rfl) fin_push
      have fin2 : ∀ (e : Env) (v : Int), v = lenV u n of ep → Ev.get e 6 = .v (.int .i64 v) → Ev.get e 7 = .v (.int .i64 0) → ¬ v > 1099511627776 → Leaves Try.prog false Try.f75 m ((if lenV u n of ep > 1099511627776 then .tup [.v (.int .i64 0), .v (.int .i64 4)] else .tup [.v (.int .i64 (lenV u n of ep)), .v (.int .i64 0)]), m) .ret e (m.push [.v (.int .i64 u), .v (.int .i64 n)]) := fun e v hv g1 g2 hgt => by
        rw [if_neg (by omega), ← hv]
        exact leaves_two rfl (by rw [g1]; rfl) (by rw [g2]; rfl) fin_push
      have hl' := hl
      unfold lenMay at hl'
      have hu : u = 0 ∨ u = 1 ∨ u = 2 ∨ u = 3 := by omega
      unfold inS at h1 h2
      rcases hu with rfl | rfl | rfl | rfl
      · have e1 : lenV 0 n of ep = n := rfl
        repeat' (first | (first | refine runs_seq ?_ | refine runs_block ?_ | refine next_normal ?_ | refine inside_normal ?_ | refine next_exit ?_ | refine inside_exit ?_ | refine inside_other (by decide) ?_ | refine next_ret ?_ | refine inside_ret ?_ | refine runs_ops_kept ?_ | refine runs_skip ?_ | refine runs_exit ?_ | refine runs_ret ?_ | ((first | refine' ops_op rfl rfl (by decide) ?_ ?_ ?_ | refine' ops_yes rfl rfl (by simp only [Ev.get, reduceIte, Nat.reduceEqDiff, len0, len1]; first | done | rfl) rfl (by decide) ?_ ?_ ?_ | refine' ops_op0 rfl rfl ?_ ?_ ?_); rotate_left 2; (focus (simp only [evOp, opd, constAV, constCell, Ev.get, reduceIte, Nat.reduceEqDiff, reduceCtorEq, evBinN, nilCmp, evBin, evInt, evUn, evConvert, evBuiltin, evLen, evField, evPart, tStr, tInt, tElem, tArr, tBool, tAgg, tField, Try.underlying9, Try.underlying3, Try.underlying4, Try.underlying5, Try.underlying21, Try.underlying38, Try.underlying25, Try.underlying33, Try.underlying2, Try.underlying22, Try.underlying56, Try.underlying54, List.zipWith, Option.map_some, Option.map_none, List.length_cons, List.length_nil, ne_eq, Int.reduceEq, not_false_eq_true, and_self, and_true, true_and, szStr, szInt, Option.getD_some, isNil, evStr, len0, len1, loadOne, loadLen, cellsLen, newLen, Nat.zero_add, List.drop_zero, List.drop_succ_cons, List.head?_cons, evMinMax, evFoldI, evCall, List.size_toArray, List.append_nil, List.nil_append, List.map_cons, List.map_nil, argAV, argCell, List.toList_toArray, fieldTy]; first | done | rfl)); exact (fun h => by first | rfl | (simp at h; done) | exact absurd (Bool.and_eq_true_iff.mp h).2 (by decide))) | refine ops_no rfl rfl (by simp only [Ev.get, reduceIte, Nat.reduceEqDiff, len0, len1]; first | done | rfl) (by decide) rfl (by decide) ?_ | refine ops_off rfl rfl rfl rfl (by decide) ?_ | (refine ops_nil ?_; intro e2 h2; simp only [restr, kpStepsR, List.map_cons, List.map_nil, Ev.get, reduceIte, Nat.reduceEqDiff] at h2; subst h2)) | (refine ops_here ?_; (fail_if_success (refine ops_case (B := true) rfl rfl rfl ?_ ?_)); (fail_if_success (refine ops_case (B := false) rfl rfl rfl ?_ ?_)); refine ops_case rfl rfl rfl (fun hB => ?_) (fun hB => ?_) <;> rw [hB]) | (refine runs_here ?_; refine runs_cond rfl (fun hc => ?_) (fun hc => ?_) <;> first | (cases hc; done) | skip))
        all_goals exact fin2 _ n e1.symm rfl rfl (by omega)
      · have e1 : lenV 1 n of ep = n * ep := rfl
        have w1 : IntKind.i64.wrap (n * ep) = n * ep := by have := mul_in (A := 1099511627776) (B := 1048576) hl'.1 hl'.2.1 h2.1 h2.2; exact i64_wrap (by omega) (by omega)
        repeat (first | refine runs_seq ?_ | refine runs_block ?_ | refine next_normal ?_ | refine inside_normal ?_ | refine next_exit ?_ | refine inside_exit ?_ | refine inside_other (by decide) ?_ | refine next_ret ?_ | refine inside_ret ?_ | refine runs_ops_kept ?_ | refine runs_skip ?_ | refine runs_exit ?_ | refine runs_ret ?_ | ((first | refine' ops_op rfl rfl (by decide) ?_ ?_ ?_ | refine' ops_yes rfl rfl (by simp only [Ev.get, reduceIte, Nat.reduceEqDiff, len0, len1]; first | done | rfl) rfl (by decide) ?_ ?_ ?_ | refine' ops_op0 rfl rfl ?_ ?_ ?_); rotate_left 2; (focus (simp only [evOp, opd, constAV, constCell, Ev.get, reduceIte, Nat.reduceEqDiff, reduceCtorEq, evBinN, nilCmp, evBin, evInt, evUn, evConvert, evBuiltin, evLen, evField, evPart, tStr, tInt, tElem, tArr, tBool, tAgg, tField, Try.underlying9, Try.underlying3, Try.underlying4, Try.underlying5, Try.underlying21, Try.underlying38, Try.underlying25, Try.underlying33, Try.underlying2, Try.underlying22, Try.underlying56, Try.underlying54, List.zipWith, Option.map_some, Option.map_none, List.length_cons, List.length_nil, ne_eq, Int.reduceEq, not_false_eq_true, and_self, and_true, true_and, szStr, szInt, Option.getD_some, isNil, evStr, len0, len1, loadOne, loadLen, cellsLen, newLen, Nat.zero_add, List.drop_zero, List.drop_succ_cons, List.head?_cons, evMinMax, evFoldI, evCall, List.size_toArray, List.append_nil, List.nil_append, List.map_cons, List.map_nil, argAV, argCell, List.toList_toArray, fieldTy]; first | done | rfl)); exact (fun h => by first | rfl | (simp at h; done) | exact absurd (Bool.and_eq_true_iff.mp h).2 (by decide))) | refine ops_no rfl rfl (by simp only [Ev.get, reduceIte, Nat.reduceEqDiff, len0, len1]; first | done | rfl) (by decide) rfl (by decide) ?_ | refine ops_off rfl rfl rfl rfl (by decide) ?_ | (refine ops_nil ?_; intro e2 h2; simp only [restr, kpStepsR, List.map_cons, List.map_nil, Ev.get, reduceIte, Nat.reduceEqDiff] at h2; subst h2))
        refine runs_cond rfl (fun hc => by cases hc) (fun hc => ?_)
        repeat (first | refine runs_seq ?_ | refine runs_block ?_ | refine next_normal ?_ | refine inside_normal ?_ | refine next_exit ?_ | refine inside_exit ?_ | refine inside_other (by decide) ?_ | refine next_ret ?_ | refine inside_ret ?_ | refine runs_ops_kept ?_ | refine runs_skip ?_ | refine runs_exit ?_ | refine runs_ret ?_ | ((first | refine' ops_op rfl rfl (by decide) ?_ ?_ ?_ | refine' ops_yes rfl rfl (by simp only [Ev.get, reduceIte, Nat.reduceEqDiff, len0, len1]; first | done | rfl) rfl (by decide) ?_ ?_ ?_ | refine' ops_op0 rfl rfl ?_ ?_ ?_); rotate_left 2; (focus (simp only [evOp, opd, constAV, constCell, Ev.get, reduceIte, Nat.reduceEqDiff, reduceCtorEq, evBinN, nilCmp, evBin, evInt, evUn, evConvert, evBuiltin, evLen, evField, evPart, tStr, tInt, tElem, tArr, tBool, tAgg, tField, Try.underlying9, Try.underlying3, Try.underlying4, Try.underlying5, Try.underlying21, Try.underlying38, Try.underlying25, Try.underlying33, Try.underlying2, Try.underlying22, Try.underlying56, Try.underlying54, List.zipWith, Option.map_some, Option.map_none, List.length_cons, List.length_nil, ne_eq, Int.reduceEq, not_false_eq_true, and_self, and_true, true_and, szStr, szInt, Option.getD_some, isNil, evStr, len0, len1, loadOne, loadLen, cellsLen, newLen, Nat.zero_add, List.drop_zero, List.drop_succ_cons, List.head?_cons, evMinMax, evFoldI, evCall, List.size_toArray, List.append_nil, List.nil_append, List.map_cons, List.map_nil, argAV, argCell, List.toList_toArray, fieldTy]; first | done | rfl)); exact (fun h => by first | rfl | (simp at h; done) | exact absurd (Bool.and_eq_true_iff.mp h).2 (by decide))) | refine ops_no rfl rfl (by simp only [Ev.get, reduceIte, Nat.reduceEqDiff, len0, len1]; first | done | rfl) (by decide) rfl (by decide) ?_ | refine ops_off rfl rfl rfl rfl (by decide) ?_ | (refine ops_nil ?_; intro e2 h2; simp only [restr, kpStepsR, List.map_cons, List.map_nil, Ev.get, reduceIte, Nat.reduceEqDiff] at h2; subst h2))
        refine runs_cond rfl (fun hc => ?_) (fun hc => by cases hc)
        repeat (first | refine runs_seq ?_ | refine runs_block ?_ | refine next_normal ?_ | refine inside_normal ?_ | refine next_exit ?_ | refine inside_exit ?_ | refine inside_other (by decide) ?_ | refine next_ret ?_ | refine inside_ret ?_ | refine runs_ops_kept ?_ | refine runs_skip ?_ | refine runs_exit ?_ | refine runs_ret ?_ | ((first | refine' ops_op rfl rfl (by decide) ?_ ?_ ?_ | refine' ops_yes rfl rfl (by simp only [Ev.get, reduceIte, Nat.reduceEqDiff, len0, len1]; first | done | rfl) rfl (by decide) ?_ ?_ ?_ | refine' ops_op0 rfl rfl ?_ ?_ ?_); rotate_left 2; (focus (simp only [evOp, opd, constAV, constCell, Ev.get, reduceIte, Nat.reduceEqDiff, reduceCtorEq, evBinN, nilCmp, evBin, evInt, evUn, evConvert, evBuiltin, evLen, evField, evPart, tStr, tInt, tElem, tArr, tBool, tAgg, tField, Try.underlying9, Try.underlying3, Try.underlying4, Try.underlying5, Try.underlying21, Try.underlying38, Try.underlying25, Try.underlying33, Try.underlying2, Try.underlying22, Try.underlying56, Try.underlying54, List.zipWith, Option.map_some, Option.map_none, List.length_cons, List.length_nil, ne_eq, Int.reduceEq, not_false_eq_true, and_self, and_true, true_and, szStr, szInt, Option.getD_some, isNil, evStr, len0, len1, loadOne, loadLen, cellsLen, newLen, Nat.zero_add, List.drop_zero, List.drop_succ_cons, List.head?_cons, evMinMax, evFoldI, evCall, List.size_toArray, List.append_nil, List.nil_append, List.map_cons, List.map_nil, argAV, argCell, List.toList_toArray, fieldTy]; first | done | rfl)); exact (fun h => by first | rfl | (simp at h; done) | exact absurd (Bool.and_eq_true_iff.mp h).2 (by decide))) | refine ops_no rfl rfl (by simp only [Ev.get, reduceIte, Nat.reduceEqDiff, len0, len1]; first | done | rfl) (by decide) rfl (by decide) ?_ | refine ops_off rfl rfl rfl rfl (by decide) ?_ | (refine ops_nil ?_; intro e2 h2; simp only [restr, kpStepsR, List.map_cons, List.map_nil, Ev.get, reduceIte, Nat.reduceEqDiff] at h2; subst h2))
        refine runs_ops_drawn_kept (by kernel_rfl) ?_
        by_cases h0 : ep > 0
        · have b0 : decide (ep > 0) = true := decide_eq_true h0
          have n0 : ep ≠ 0 := by omega
          have hq : (1099511627776 : Int).tdiv ep = 1099511627776 / ep := Int.tdiv_eq_ediv_of_nonneg (by decide)
          have hle : (1099511627776 : Int) / ep ≤ 1099511627776 := Int.ediv_le_self _ (by decide)
          have hge : 0 ≤ (1099511627776 : Int) / ep := Int.ediv_nonneg (by decide) (by omega)
          have w2 : IntKind.i64.wrap ((1099511627776 : Int).tdiv ep) = 1099511627776 / ep := by rw [hq]; exact i64_wrap (by omega) (by omega)
          have hiff : (n > 1099511627776 / ep) ↔ (n * ep > 1099511627776) := by
            constructor
            · intro hh
              exact Int.lt_mul_of_ediv_lt h0 hh
            · intro hh
              exact Int.ediv_lt_of_lt_mul h0 hh
          repeat' (first | (first | refine runs_seq ?_ | refine runs_block ?_ | refine next_normal ?_ | refine inside_normal ?_ | refine next_exit ?_ | refine inside_exit ?_ | refine inside_other (by decide) ?_ | refine next_ret ?_ | refine inside_ret ?_ | refine runs_ops_kept ?_ | refine runs_skip ?_ | refine runs_exit ?_ | refine runs_ret ?_ | ((first | refine' ops_op rfl rfl (by decide) ?_ ?_ ?_ | refine' ops_yes rfl rfl (by simp only [Ev.get, reduceIte, Nat.reduceEqDiff, len0, len1, b0, n0, w1, w2]; first | done | rfl) rfl (by decide) ?_ ?_ ?_ | refine' ops_op0 rfl rfl ?_ ?_ ?_); rotate_left 2; (focus (simp only [evOp, opd, constAV, constCell, Ev.get, reduceIte, Nat.reduceEqDiff, reduceCtorEq, evBinN, nilCmp, evBin, evInt, evUn, evConvert, evBuiltin, evLen, evField, evPart, tStr, tInt, tElem, tArr, tBool, tAgg, tField, Try.underlying9, Try.underlying3, Try.underlying4, Try.underlying5, Try.underlying21, Try.underlying38, Try.underlying25, Try.underlying33, Try.underlying2, Try.underlying22, Try.underlying56, Try.underlying54, List.zipWith, Option.map_some, Option.map_none, List.length_cons, List.length_nil, ne_eq, Int.reduceEq, not_false_eq_true, and_self, and_true, true_and, szStr, szInt, Option.getD_some, isNil, evStr, len0, len1, loadOne, loadLen, cellsLen, newLen, Nat.zero_add, List.drop_zero, List.drop_succ_cons, List.head?_cons, evMinMax, evFoldI, evCall, List.size_toArray, List.append_nil, List.nil_append, List.map_cons, List.map_nil, argAV, argCell, List.toList_toArray, fieldTy, b0, n0, w1, w2]; first | done | rfl)); exact (fun h => by first | rfl | (simp at h; done) | exact absurd (Bool.and_eq_true_iff.mp h).2 (by decide))) | refine ops_no rfl rfl (by simp only [Ev.get, reduceIte, Nat.reduceEqDiff, len0, len1, b0, n0, w1, w2]; first | done | rfl) (by decide) rfl (by decide) ?_ | refine ops_off rfl rfl rfl rfl (by decide) ?_ | (refine ops_nil ?_; intro e2 h2; simp only [restr, kpStepsR, List.map_cons, List.map_nil, Ev.get, reduceIte, Nat.reduceEqDiff] at h2; subst h2)) | (refine ops_here ?_; (fail_if_success (refine ops_case (B := true) rfl rfl rfl ?_ ?_)); (fail_if_success (refine ops_case (B := false) rfl rfl rfl ?_ ?_)); refine ops_case rfl rfl rfl (fun hB => ?_) (fun hB => ?_) <;> rw [hB]) | (refine runs_here ?_; refine runs_cond rfl (fun hc => ?_) (fun hc => ?_) <;> first | (cases hc; done) | skip))
          all_goals first
            | exact fin _ (by rw [e1]; exact hiff.1 (of_decide_eq_true (by assumption))) rfl rfl
            | exact fin2 _ _ e1.symm rfl rfl (fun h => absurd (hiff.2 h) (of_decide_eq_false (by assumption)))
        · have b0 : decide (ep > 0) = false := decide_eq_false h0
          have h00 : ep = 0 := by omega
          subst h00
          repeat' (first | (first | refine runs_seq ?_ | refine runs_block ?_ | refine next_normal ?_ | refine inside_normal ?_ | refine next_exit ?_ | refine inside_exit ?_ | refine inside_other (by decide) ?_ | refine next_ret ?_ | refine inside_ret ?_ | refine runs_ops_kept ?_ | refine runs_skip ?_ | refine runs_exit ?_ | refine runs_ret ?_ | ((first | refine' ops_op rfl rfl (by decide) ?_ ?_ ?_ | refine' ops_yes rfl rfl (by simp only [Ev.get, reduceIte, Nat.reduceEqDiff, len0, len1, b0, w1]; first | done | rfl) rfl (by decide) ?_ ?_ ?_ | refine' ops_op0 rfl rfl ?_ ?_ ?_); rotate_left 2; (focus (simp only [evOp, opd, constAV, constCell, Ev.get, reduceIte, Nat.reduceEqDiff, reduceCtorEq, evBinN, nilCmp, evBin, evInt, evUn, evConvert, evBuiltin, evLen, evField, evPart, tStr, tInt, tElem, tArr, tBool, tAgg, tField, Try.underlying9, Try.underlying3, Try.underlying4, Try.underlying5, Try.underlying21, Try.underlying38, Try.underlying25, Try.underlying33, Try.underlying2, Try.underlying22, Try.underlying56, Try.underlying54, List.zipWith, Option.map_some, Option.map_none, List.length_cons, List.length_nil, ne_eq, Int.reduceEq, not_false_eq_true, and_self, and_true, true_and, szStr, szInt, Option.getD_some, isNil, evStr, len0, len1, loadOne, loadLen, cellsLen, newLen, Nat.zero_add, List.drop_zero, List.drop_succ_cons, List.head?_cons, evMinMax, evFoldI, evCall, List.size_toArray, List.append_nil, List.nil_append, List.map_cons, List.map_nil, argAV, argCell, List.toList_toArray, fieldTy, b0, w1]; first | done | rfl)); exact (fun h => by first | rfl | (simp at h; done) | exact absurd (Bool.and_eq_true_iff.mp h).2 (by decide))) | refine ops_no rfl rfl (by simp only [Ev.get, reduceIte, Nat.reduceEqDiff, len0, len1, b0, w1]; first | done | rfl) (by decide) rfl (by decide) ?_ | refine ops_off rfl rfl rfl rfl (by decide) ?_ | (refine ops_nil ?_; intro e2 h2; simp only [restr, kpStepsR, List.map_cons, List.map_nil, Ev.get, reduceIte, Nat.reduceEqDiff] at h2; subst h2)) | (refine ops_here ?_; (fail_if_success (refine ops_case (B := true) rfl rfl rfl ?_ ?_)); (fail_if_success (refine ops_case (B := false) rfl rfl rfl ?_ ?_)); refine ops_case rfl rfl rfl (fun hB => ?_) (fun hB => ?_) <;> rw [hB]) | (refine runs_here ?_; refine runs_cond rfl (fun hc => ?_) (fun hc => ?_) <;> first | (cases hc; done) | skip))
          all_goals exact fin2 _ _ e1.symm rfl rfl (by omega)
      · have e1 : lenV 2 n of ep = (of * n).tdiv 100 := rfl
        have h100 := hl'.2.2.2.2.1 rfl
        have hm := mul_in (A := 1048576) (B := 100) h1.1 h1.2 hl'.1 h100
        have hd := tdiv_in hm.1
        have w2 : IntKind.i64.wrap (of * n) = of * n := i64_wrap (by omega) (by omega)
        have w3 : IntKind.i64.wrap ((of * n).tdiv 100) = (of * n).tdiv 100 := i64_wrap (by omega) (by omega)
        have n100 : (100 : Int) ≠ 0 := by decide
        repeat' (first | (first | refine runs_seq ?_ | refine runs_block ?_ | refine next_normal ?_ | refine inside_normal ?_ | refine next_exit ?_ | refine inside_exit ?_ | refine inside_other (by decide) ?_ | refine next_ret ?_ | refine inside_ret ?_ | refine runs_ops_kept ?_ | refine runs_skip ?_ | refine runs_exit ?_ | refine runs_ret ?_ | ((first | refine' ops_op rfl rfl (by decide) ?_ ?_ ?_ | refine' ops_yes rfl rfl (by simp only [Ev.get, reduceIte, Nat.reduceEqDiff, len0, len1, w2, w3, n100]; first | done | rfl) rfl (by decide) ?_ ?_ ?_ | refine' ops_op0 rfl rfl ?_ ?_ ?_); rotate_left 2; (focus (simp only [evOp, opd, constAV, constCell, Ev.get, reduceIte, Nat.reduceEqDiff, reduceCtorEq, evBinN, nilCmp, evBin, evInt, evUn, evConvert, evBuiltin, evLen, evField, evPart, tStr, tInt, tElem, tArr, tBool, tAgg, tField, Try.underlying9, Try.underlying3, Try.underlying4, Try.underlying5, Try.underlying21, Try.underlying38, Try.underlying25, Try.underlying33, Try.underlying2, Try.underlying22, Try.underlying56, Try.underlying54, List.zipWith, Option.map_some, Option.map_none, List.length_cons, List.length_nil, ne_eq, Int.reduceEq, not_false_eq_true, and_self, and_true, true_and, szStr, szInt, Option.getD_some, isNil, evStr, len0, len1, loadOne, loadLen, cellsLen, newLen, Nat.zero_add, List.drop_zero, List.drop_succ_cons, List.head?_cons, evMinMax, evFoldI, evCall, List.size_toArray, List.append_nil, List.nil_append, List.map_cons, List.map_nil, argAV, argCell, List.toList_toArray, fieldTy, w2, w3, n100]; first | done | rfl)); exact (fun h => by first | rfl | (simp at h; done) | exact absurd (Bool.and_eq_true_iff.mp h).2 (by decide))) | refine ops_no rfl rfl (by simp only [Ev.get, reduceIte, Nat.reduceEqDiff, len0, len1, w2, w3, n100]; first | done | rfl) (by decide) rfl (by decide) ?_ | refine ops_off rfl rfl rfl rfl (by decide) ?_ | (refine ops_nil ?_; intro e2 h2; simp only [restr, kpStepsR, List.map_cons, List.map_nil, Ev.get, reduceIte, Nat.reduceEqDiff] at h2; subst h2)) | (refine ops_here ?_; (fail_if_success (refine ops_case (B := true) rfl rfl rfl ?_ ?_)); (fail_if_success (refine ops_case (B := false) rfl rfl rfl ?_ ?_)); refine ops_case rfl rfl rfl (fun hB => ?_) (fun hB => ?_) <;> rw [hB]) | (refine runs_here ?_; refine runs_cond rfl (fun hc => ?_) (fun hc => ?_) <;> first | (cases hc; done) | skip))
        all_goals exact fin2 _ _ e1.symm rfl rfl (by omega)
      · have e1 : lenV 3 n of ep = of := rfl
        repeat' (first | (first | refine runs_seq ?_ | refine runs_block ?_ | refine next_normal ?_ | refine inside_normal ?_ | refine next_exit ?_ | refine inside_exit ?_ | refine inside_other (by decide) ?_ | refine next_ret ?_ | refine inside_ret ?_ | refine runs_ops_kept ?_ | refine runs_skip ?_ | refine runs_exit ?_ | refine runs_ret ?_ | ((first | refine' ops_op rfl rfl (by decide) ?_ ?_ ?_ | refine' ops_yes rfl rfl (by simp only [Ev.get, reduceIte, Nat.reduceEqDiff, len0, len1]; first | done | rfl) rfl (by decide) ?_ ?_ ?_ | refine' ops_op0 rfl rfl ?_ ?_ ?_); rotate_left 2; (focus (simp only [evOp, opd, constAV, constCell, Ev.get, reduceIte, Nat.reduceEqDiff, reduceCtorEq, evBinN, nilCmp, evBin, evInt, evUn, evConvert, evBuiltin, evLen, evField, evPart, tStr, tInt, tElem, tArr, tBool, tAgg, tField, Try.underlying9, Try.underlying3, Try.underlying4, Try.underlying5, Try.underlying21, Try.underlying38, Try.underlying25, Try.underlying33, Try.underlying2, Try.underlying22, Try.underlying56, Try.underlying54, List.zipWith, Option.map_some, Option.map_none, List.length_cons, List.length_nil, ne_eq, Int.reduceEq, not_false_eq_true, and_self, and_true, true_and, szStr, szInt, Option.getD_some, isNil, evStr, len0, len1, loadOne, loadLen, cellsLen, newLen, Nat.zero_add, List.drop_zero, List.drop_succ_cons, List.head?_cons, evMinMax, evFoldI, evCall, List.size_toArray, List.append_nil, List.nil_append, List.map_cons, List.map_nil, argAV, argCell, List.toList_toArray, fieldTy]; first | done | rfl)); exact (fun h => by first | rfl | (simp at h; done) | exact absurd (Bool.and_eq_true_iff.mp h).2 (by decide))) | refine ops_no rfl rfl (by simp only [Ev.get, reduceIte, Nat.reduceEqDiff, len0, len1]; first | done | rfl) (by decide) rfl (by decide) ?_ | refine ops_off rfl rfl rfl rfl (by decide) ?_ | (refine ops_nil ?_; intro e2 h2; simp only [restr, kpStepsR, List.map_cons, List.map_nil, Ev.get, reduceIte, Nat.reduceEqDiff] at h2; subst h2)) | (refine ops_here ?_; (fail_if_success (refine ops_case (B := true) rfl rfl rfl ?_ ?_)); (fail_if_success (refine ops_case (B := false) rfl rfl rfl ?_ ?_)); refine ops_case rfl rfl rfl (fun hB => ?_) (fun hB => ?_) <;> rw [hB]) | (refine runs_here ?_; refine runs_cond rfl (fun hc => ?_) (fun hc => ?_) <;> first | (cases hc; done) | skip))
        all_goals exact fin2 _ _ e1.symm rfl rfl (by omega)
    · cases h
  · cases h
/-! ### no more than there are -/
def withinV (u n of ep : Int) : Int := if lenV u n of ep > of then of else lenV u n of ep
def inW (x : Int) : Prop := 0 ≤ x ∧ x ≤ 1000000
instance (x : Int) : Decidable (inW x) := by unfold inW; exact inferInstance
theorem withinV_in {u n of ep : Int} (h : lenMay u n) (h1 : inW of) (h2 : inW ep) : 0 ≤ withinV u n of ep ∧ withinV u n of ep ≤ of := by
  have := lenV_in (u := u) (n := n) (of := of) (ep := ep) h ⟨h1.1, by unfold inW at h1; omega⟩ ⟨h2.1, by unfold inW at h2; omega⟩
  unfold inW at h1
  unfold withinV
  split <;> omega
def withinLG : List AV → Mem → Option (AV × Mem)
  | [.agg [.v (.int .i64 u), .v (.int .i64 n)], .v (.int .i64 of), .v (.int .i64 ep)], m =>
    if lenMay u n ∧ inW of ∧ inW ep then some (.v (.int .i64 (withinV u n of ep)), m) else none
  | _, _ => none
theorem withinLG_eq {u n of ep : Int} {m : Mem} (h : lenMay u n) (h1 : inW of) (h2 : inW ep) : withinLG [.agg [.v (.int .i64 u), .v (.int .i64 n)], .v (.int .i64 of), .v (.int .i64 ep)] m = some (.v (.int .i64 (withinV u n of ep)), m) := if_pos ⟨h, h1, h2⟩
def kpWithinL : Nat → Option (List Nat) := fun
  | 0 => some [1, 2, 3]
  | 1 => some [1, 7, 8]
  | 2 => some [1, 7, 8, 17]
  | 3 => some [6]
  | 4 => some [1, 7, 20]
  | 5 => some [6]
  | 6 => some [6]
  | _ => none
def tab_withinL_ok : List (FuncId × (List AV → Mem → Option (AV × Mem))) := [(63, stepsLG)]
theorem withinL_ok : FunOk Try.prog 74 withinLG := by
  have hC := table_ok (P := Try.prog) (l := tab_withinL_ok) (table_more stepsL_ok table_nil)
  have t1 := fun args mm => table_at (l := tab_withinL_ok) (f := 63) (args := args) (m := mm) rfl
  refine fun_ok mixed hC Try.func74 rfl kpWithinL false rfl fun args m r h => ?_
  unfold withinLG at h
  split at h
  · rename_i u n of ep
    split at h
    · rename_i hb
      obtain ⟨hl, h1, h2⟩ := hb
      simp only [Option.some.injEq] at h
      subst h
      refine ⟨Nat.le_of_ble_eq_true rfl, ?_⟩
      simp only [entry, List.length_cons, List.length_nil, List.range, List.range.loop, List.zip_cons_cons, List.zip_nil_right]
      unfold inW at h1 h2
      have hc : lenMay u n ∧ inS of ∧ inS ep := ⟨hl, ⟨h1.1, by omega⟩, ⟨h2.1, by omega⟩⟩
      by_cases ho : lenV u n of ep > 1099511627776
      · have f1 : ∀ mm, stepsLG [.agg [.v (.int .i64 u), .v (.int .i64 n)], .v (.int .i64 of), .v (.int .i64 ep)] mm = some (.tup [.v (.int .i64 0), .v (.int .i64 4)], mm) := fun mm => by simp only [stepsLG]; rw [if_pos hc, if_pos ho]
        rw [show withinV u n of ep = of from if_pos (by omega)]
        repeat (first | refine runs_seq ?_ | refine runs_block ?_ | refine next_normal ?_ | refine inside_normal ?_ | refine next_exit ?_ | refine inside_exit ?_ | refine inside_other (by decide) ?_ | refine next_ret ?_ | refine inside_ret ?_ | refine runs_ops_kept ?_ | refine runs_skip ?_ | refine runs_exit ?_ | refine runs_ret ?_ | ((first | refine' ops_op rfl rfl (by decide) ?_ ?_ ?_ | refine' ops_yes rfl rfl (by simp only [Ev.get, reduceIte, Nat.reduceEqDiff, len0, len1, t1, f1]; first | done | rfl) rfl (by decide) ?_ ?_ ?_ | refine' ops_op0 rfl rfl ?_ ?_ ?_); rotate_left 2; (focus (simp only [evOp, opd, constAV, constCell, Ev.get, reduceIte, Nat.reduceEqDiff, reduceCtorEq, evBinN, nilCmp, evBin, evInt, evUn, evConvert, evBuiltin, evLen, evField, evPart, tStr, tInt, tElem, tArr, tBool, tAgg, tField, Try.underlying9, Try.underlying3, Try.underlying4, Try.underlying5, Try.underlying21, Try.underlying33, Try.underlying2, Try.underlying22, Try.underlying54, List.zipWith, Option.map_some, Option.map_none, List.length_cons, List.length_nil, ne_eq, Int.reduceEq, not_false_eq_true, and_self, and_true, true_and, szStr, szInt, Option.getD_some, isNil, evStr, len0, len1, loadOne, loadLen, cellsLen, newLen, Nat.zero_add, List.drop_zero, List.drop_succ_cons, List.head?_cons, evMinMax, evFoldI, evCall, List.size_toArray, List.append_nil, List.nil_append, List.map_cons, List.map_nil, argAV, argCell, List.toList_toArray, fieldTy, t1, f1]; first | done | rfl)); exact (fun h => by first | rfl | (simp at h; done) | exact absurd (Bool.and_eq_true_iff.mp h).2 (by decide))) | refine ops_no rfl rfl (by simp only [Ev.get, reduceIte, Nat.reduceEqDiff, len0, len1, t1, f1]; first | done | rfl) (by decide) rfl (by decide) ?_ | refine ops_off rfl rfl rfl rfl (by decide) ?_ | (refine ops_nil ?_; intro e2 h2; simp only [restr, kpWithinL, List.map_cons, List.map_nil, Ev.get, reduceIte, Nat.reduceEqDiff] at h2; subst h2))
        refine runs_cond rfl (fun hc => ?_) (fun hc => by cases hc)
        repeat (first | refine runs_seq ?_ | refine runs_block ?_ | refine next_normal ?_ | refine inside_normal ?_ | refine next_exit ?_ | refine inside_exit ?_ | refine inside_other (by decide) ?_ | refine next_ret ?_ | refine inside_ret ?_ | refine runs_ops_kept ?_ | refine runs_skip ?_ | refine runs_exit ?_ | refine runs_ret ?_ | ((first | refine' ops_op rfl rfl (by decide) ?_ ?_ ?_ | refine' ops_yes rfl rfl (by simp only [Ev.get, reduceIte, Nat.reduceEqDiff, len0, len1]; first | done | rfl) rfl (by decide) ?_ ?_ ?_ | refine' ops_op0 rfl rfl ?_ ?_ ?_); rotate_left 2; (focus (simp only [evOp, opd, constAV, constCell, Ev.get, reduceIte, Nat.reduceEqDiff, reduceCtorEq, evBinN, nilCmp, evBin, evInt, evUn, evConvert, evBuiltin, evLen, evField, evPart, tStr, tInt, tElem, tArr, tBool, tAgg, tField, Try.underlying9, Try.underlying3, Try.underlying4, Try.underlying5, Try.underlying21, Try.underlying33, Try.underlying2, Try.underlying22, Try.underlying54, List.zipWith, Option.map_some, Option.map_none, List.length_cons, List.length_nil, ne_eq, Int.reduceEq, not_false_eq_true, and_self, and_true, true_and, szStr, szInt, Option.getD_some, isNil, evStr, len0, len1, loadOne, loadLen, cellsLen, newLen, Nat.zero_add, List.drop_zero, List.drop_succ_cons, List.head?_cons, evMinMax, evFoldI, evCall, List.size_toArray, List.append_nil, List.nil_append, List.map_cons, List.map_nil, argAV, argCell, List.toList_toArray, fieldTy]; first | done | rfl)); exact (fun h => by first | rfl | (simp at h; done) | exact absurd (Bool.and_eq_true_iff.mp h).2 (by decide))) | refine ops_no rfl rfl (by simp only [Ev.get, reduceIte, Nat.reduceEqDiff, len0, len1]; first | done | rfl) (by decide) rfl (by decide) ?_ | refine ops_off rfl rfl rfl rfl (by decide) ?_ | (refine ops_nil ?_; intro e2 h2; simp only [restr, kpWithinL, List.map_cons, List.map_nil, Ev.get, reduceIte, Nat.reduceEqDiff] at h2; subst h2))
        exact leaves_fin rfl rfl fin_push
      · have f1 : ∀ mm, stepsLG [.agg [.v (.int .i64 u), .v (.int .i64 n)], .v (.int .i64 of), .v (.int .i64 ep)] mm = some (.tup [.v (.int .i64 (lenV u n of ep)), .v (.int .i64 0)], mm) := fun mm => by simp only [stepsLG]; rw [if_pos hc, if_neg ho]
        have e1 : mn (lenV u n of ep) of = withinV u n of ep := rfl
        repeat (first | refine runs_seq ?_ | refine runs_block ?_ | refine next_normal ?_ | refine inside_normal ?_ | refine next_exit ?_ | refine inside_exit ?_ | refine inside_other (by decide) ?_ | refine next_ret ?_ | refine inside_ret ?_ | refine runs_ops_kept ?_ | refine runs_skip ?_ | refine runs_exit ?_ | refine runs_ret ?_ | ((first | refine' ops_op rfl rfl (by decide) ?_ ?_ ?_ | refine' ops_yes rfl rfl (by simp only [Ev.get, reduceIte, Nat.reduceEqDiff, len0, len1, t1, f1]; first | done | rfl) rfl (by decide) ?_ ?_ ?_ | refine' ops_op0 rfl rfl ?_ ?_ ?_); rotate_left 2; (focus (simp only [evOp, opd, constAV, constCell, Ev.get, reduceIte, Nat.reduceEqDiff, reduceCtorEq, evBinN, nilCmp, evBin, evInt, evUn, evConvert, evBuiltin, evLen, evField, evPart, tStr, tInt, tElem, tArr, tBool, tAgg, tField, Try.underlying9, Try.underlying3, Try.underlying4, Try.underlying5, Try.underlying21, Try.underlying33, Try.underlying2, Try.underlying22, Try.underlying54, List.zipWith, Option.map_some, Option.map_none, List.length_cons, List.length_nil, ne_eq, Int.reduceEq, not_false_eq_true, and_self, and_true, true_and, szStr, szInt, Option.getD_some, isNil, evStr, len0, len1, loadOne, loadLen, cellsLen, newLen, Nat.zero_add, List.drop_zero, List.drop_succ_cons, List.head?_cons, evMinMax, evFoldI, evCall, List.size_toArray, List.append_nil, List.nil_append, List.map_cons, List.map_nil, argAV, argCell, List.toList_toArray, fieldTy, t1, f1]; first | done | rfl)); exact (fun h => by first | rfl | (simp at h; done) | exact absurd (Bool.and_eq_true_iff.mp h).2 (by decide))) | refine ops_no rfl rfl (by simp only [Ev.get, reduceIte, Nat.reduceEqDiff, len0, len1, t1, f1]; first | done | rfl) (by decide) rfl (by decide) ?_ | refine ops_off rfl rfl rfl rfl (by decide) ?_ | (refine ops_nil ?_; intro e2 h2; simp only [restr, kpWithinL, List.map_cons, List.map_nil, Ev.get, reduceIte, Nat.reduceEqDiff] at h2; subst h2))
        refine runs_cond rfl (fun hc => by cases hc) (fun hc => ?_)
        repeat (first | refine runs_seq ?_ | refine runs_block ?_ | refine next_normal ?_ | refine inside_normal ?_ | refine next_exit ?_ | refine inside_exit ?_ | refine inside_other (by decide) ?_ | refine next_ret ?_ | refine inside_ret ?_ | refine runs_ops_kept ?_ | refine runs_skip ?_ | refine runs_exit ?_ | refine runs_ret ?_ | ((first | refine' ops_op rfl rfl (by decide) ?_ ?_ ?_ | refine' ops_yes rfl rfl (by simp only [Ev.get, reduceIte, Nat.reduceEqDiff, len0, len1]; first | done | rfl) rfl (by decide) ?_ ?_ ?_ | refine' ops_op0 rfl rfl ?_ ?_ ?_); rotate_left 2; (focus (simp only [evOp, opd, constAV, constCell, Ev.get, reduceIte, Nat.reduceEqDiff, reduceCtorEq, evBinN, nilCmp, evBin, evInt, evUn, evConvert, evBuiltin, evLen, evField, evPart, tStr, tInt, tElem, tArr, tBool, tAgg, tField, Try.underlying9, Try.underlying3, Try.underlying4, Try.underlying5, Try.underlying21, Try.underlying33, Try.underlying2, Try.underlying22, Try.underlying54, List.zipWith, Option.map_some, Option.map_none, List.length_cons, List.length_nil, ne_eq, Int.reduceEq, not_false_eq_true, and_self, and_true, true_and, szStr, szInt, Option.getD_some, isNil, evStr, len0, len1, loadOne, loadLen, cellsLen, newLen, Nat.zero_add, List.drop_zero, List.drop_succ_cons, List.head?_cons, evMinMax, evFoldI, evCall, List.size_toArray, List.append_nil, List.nil_append, List.map_cons, List.map_nil, argAV, argCell, List.toList_toArray, fieldTy]; first | done | rfl)); exact (fun h => by first | rfl | (simp at h; done) | exact absurd (Bool.and_eq_true_iff.mp h).2 (by decide))) | refine ops_no rfl rfl (by simp only [Ev.get, reduceIte, Nat.reduceEqDiff, len0, len1]; first | done | rfl) (by decide) rfl (by decide) ?_ | refine ops_off rfl rfl rfl rfl (by decide) ?_ | (refine ops_nil ?_; intro e2 h2; simp only [restr, kpWithinL, List.map_cons, List.map_nil, Ev.get, reduceIte, Nat.reduceEqDiff] at h2; subst h2))
        refine runs_cond rfl (fun hc => by cases hc) (fun hc => ?_)
        repeat (first | refine runs_seq ?_ | refine runs_block ?_ | refine next_normal ?_ | refine inside_normal ?_ | refine next_exit ?_ | refine inside_exit ?_ | refine inside_other (by decide) ?_ | refine next_ret ?_ | refine inside_ret ?_ | refine runs_ops_kept ?_ | refine runs_skip ?_ | refine runs_exit ?_ | refine runs_ret ?_ | ((first | refine' ops_op rfl rfl (by decide) ?_ ?_ ?_ | refine' ops_yes rfl rfl (by simp only [Ev.get, reduceIte, Nat.reduceEqDiff, len0, len1, e1]; first | done | rfl) rfl (by decide) ?_ ?_ ?_ | refine' ops_op0 rfl rfl ?_ ?_ ?_); rotate_left 2; (focus (simp only [evOp, opd, constAV, constCell, Ev.get, reduceIte, Nat.reduceEqDiff, reduceCtorEq, evBinN, nilCmp, evBin, evInt, evUn, evConvert, evBuiltin, evLen, evField, evPart, tStr, tInt, tElem, tArr, tBool, tAgg, tField, Try.underlying9, Try.underlying3, Try.underlying4, Try.underlying5, Try.underlying21, Try.underlying33, Try.underlying2, Try.underlying22, Try.underlying54, List.zipWith, Option.map_some, Option.map_none, List.length_cons, List.length_nil, ne_eq, Int.reduceEq, not_false_eq_true, and_self, and_true, true_and, szStr, szInt, Option.getD_some, isNil, evStr, len0, len1, loadOne, loadLen, cellsLen, newLen, Nat.zero_add, List.drop_zero, List.drop_succ_cons, List.head?_cons, evMinMax, evFoldI, evCall, List.size_toArray, List.append_nil, List.nil_append, List.map_cons, List.map_nil, argAV, argCell, List.toList_toArray, fieldTy, e1]; first | done | rfl)); exact (fun h => by first | rfl | (simp at h; done) | exact absurd (Bool.and_eq_true_iff.mp h).2 (by decide))) | refine ops_no rfl rfl (by simp only [Ev.get, reduceIte, Nat.reduceEqDiff, len0, len1, e1]; first | done | rfl) (by decide) rfl (by decide) ?_ | refine ops_off rfl rfl rfl rfl (by decide) ?_ | (refine ops_nil ?_; intro e2 h2; simp only [restr, kpWithinL, List.map_cons, List.map_nil, Ev.get, reduceIte, Nat.reduceEqDiff] at h2; subst h2))
        exact leaves_fin rfl rfl fin_push
    · cases h
  · cases h
def kpWithinR : Nat → Option (List Nat) := fun
  | 0 => some [1, 2, 3]
  | 1 => some [1, 7, 8]
  | 2 => some [1, 7, 22]
  | 3 => some [6]
  | 4 => some [6]
  | _ => none
def tab_withinR_ok : List (FuncId × (List AV → Mem → Option (AV × Mem))) := [(75, stepsRG)]
theorem withinR_ok : FunOk Try.prog 53 withinLG := by
  have hC := table_ok (P := Try.prog) (l := tab_withinR_ok) (table_more stepsR_ok table_nil)
  have t1 := fun args mm => table_at (l := tab_withinR_ok) (f := 75) (args := args) (m := mm) rfl
  refine fun_ok mixed hC Try.func53 rfl kpWithinR false rfl fun args m r h => ?_
  unfold withinLG at h
  split at h
  · rename_i u n of ep
    split at h
    · rename_i hb
      obtain ⟨hl, h1, h2⟩ := hb
      simp only [Option.some.injEq] at h
      subst h
      refine ⟨Nat.le_of_ble_eq_true rfl, ?_⟩
      simp only [entry, List.length_cons, List.length_nil, List.range, List.range.loop, List.zip_cons_cons, List.zip_nil_right]
      unfold inW at h1 h2
      have hc : lenMay u n ∧ inS of ∧ inS ep := ⟨hl, ⟨h1.1, by omega⟩, ⟨h2.1, by omega⟩⟩
      by_cases ho : lenV u n of ep > 1099511627776
      · have f1 : ∀ mm, stepsRG [.agg [.v (.int .i64 u), .v (.int .i64 n)], .v (.int .i64 of), .v (.int .i64 ep)] mm = some (.tup [.v (.int .i64 0), .v (.int .i64 4)], mm) := fun mm => by simp only [stepsRG]; rw [if_pos hc, if_pos ho]
        rw [show withinV u n of ep = of from if_pos (by omega)]
        repeat (first | refine runs_seq ?_ | refine runs_block ?_ | refine next_normal ?_ | refine inside_normal ?_ | refine next_exit ?_ | refine inside_exit ?_ | refine inside_other (by decide) ?_ | refine next_ret ?_ | refine inside_ret ?_ | refine runs_ops_kept ?_ | refine runs_skip ?_ | refine runs_exit ?_ | refine runs_ret ?_ | ((first | refine' ops_op rfl rfl (by decide) ?_ ?_ ?_ | refine' ops_yes rfl rfl (by simp only [Ev.get, reduceIte, Nat.reduceEqDiff, len0, len1, t1, f1]; first | done | rfl) rfl (by decide) ?_ ?_ ?_ | refine' ops_op0 rfl rfl ?_ ?_ ?_); rotate_left 2; (focus (simp only [evOp, opd, constAV, constCell, Ev.get, reduceIte, Nat.reduceEqDiff, reduceCtorEq, evBinN, nilCmp, evBin, evInt, evUn, evConvert, evBuiltin, evLen, evField, evPart, tStr, tInt, tElem, tArr, tBool, tAgg, tField, Try.underlying9, Try.underlying3, Try.underlying4, Try.underlying5, Try.underlying21, Try.underlying25, Try.underlying33, Try.underlying2, Try.underlying22, Try.underlying54, List.zipWith, Option.map_some, Option.map_none, List.length_cons, List.length_nil, ne_eq, Int.reduceEq, not_false_eq_true, and_self, and_true, true_and, szStr, szInt, Option.getD_some, isNil, evStr, len0, len1, loadOne, loadLen, cellsLen, newLen, Nat.zero_add, List.drop_zero, List.drop_succ_cons, List.head?_cons, evMinMax, evFoldI, evCall, List.size_toArray, List.append_nil, List.nil_append, List.map_cons, List.map_nil, argAV, argCell, List.toList_toArray, fieldTy, t1, f1]; first | done | rfl)); exact (fun h => by first | rfl | (simp at h; done) | exact absurd (Bool.and_eq_true_iff.mp h).2 (by decide))) | refine ops_no rfl rfl (by simp only [Ev.get, reduceIte, Nat.reduceEqDiff, len0, len1, t1, f1]; first | done | rfl) (by decide) rfl (by decide) ?_ | refine ops_off rfl rfl rfl rfl (by decide) ?_ | (refine ops_nil ?_; intro e2 h2; simp only [restr, kpWithinR, List.map_cons, List.map_nil, Ev.get, reduceIte, Nat.reduceEqDiff] at h2; subst h2))
        refine runs_cond rfl (fun hc => ?_) (fun hc => by cases hc)
        repeat (first | refine runs_seq ?_ | refine runs_block ?_ | refine next_normal ?_ | refine inside_normal ?_ | refine next_exit ?_ | refine inside_exit ?_ | refine inside_other (by decide) ?_ | refine next_ret ?_ | refine inside_ret ?_ | refine runs_ops_kept ?_ | refine runs_skip ?_ | refine runs_exit ?_ | refine runs_ret ?_ | ((first | refine' ops_op rfl rfl (by decide) ?_ ?_ ?_ | refine' ops_yes rfl rfl (by simp only [Ev.get, reduceIte, Nat.reduceEqDiff, len0, len1]; first | done | rfl) rfl (by decide) ?_ ?_ ?_ | refine' ops_op0 rfl rfl ?_ ?_ ?_); rotate_left 2; (focus (simp only [evOp, opd, constAV, constCell, Ev.get, reduceIte, Nat.reduceEqDiff, reduceCtorEq, evBinN, nilCmp, evBin, evInt, evUn, evConvert, evBuiltin, evLen, evField, evPart, tStr, tInt, tElem, tArr, tBool, tAgg, tField, Try.underlying9, Try.underlying3, Try.underlying4, Try.underlying5, Try.underlying21, Try.underlying25, Try.underlying33, Try.underlying2, Try.underlying22, Try.underlying54, List.zipWith, Option.map_some, Option.map_none, List.length_cons, List.length_nil, ne_eq, Int.reduceEq, not_false_eq_true, and_self, and_true, true_and, szStr, szInt, Option.getD_some, isNil, evStr, len0, len1, loadOne, loadLen, cellsLen, newLen, Nat.zero_add, List.drop_zero, List.drop_succ_cons, List.head?_cons, evMinMax, evFoldI, evCall, List.size_toArray, List.append_nil, List.nil_append, List.map_cons, List.map_nil, argAV, argCell, List.toList_toArray, fieldTy]; first | done | rfl)); exact (fun h => by first | rfl | (simp at h; done) | exact absurd (Bool.and_eq_true_iff.mp h).2 (by decide))) | refine ops_no rfl rfl (by simp only [Ev.get, reduceIte, Nat.reduceEqDiff, len0, len1]; first | done | rfl) (by decide) rfl (by decide) ?_ | refine ops_off rfl rfl rfl rfl (by decide) ?_ | (refine ops_nil ?_; intro e2 h2; simp only [restr, kpWithinR, List.map_cons, List.map_nil, Ev.get, reduceIte, Nat.reduceEqDiff] at h2; subst h2))
        exact leaves_fin rfl rfl fin_push
      · have f1 : ∀ mm, stepsRG [.agg [.v (.int .i64 u), .v (.int .i64 n)], .v (.int .i64 of), .v (.int .i64 ep)] mm = some (.tup [.v (.int .i64 (lenV u n of ep)), .v (.int .i64 0)], mm) := fun mm => by simp only [stepsRG]; rw [if_pos hc, if_neg ho]
        have b0 : ((0 : Int) != 0) = false := rfl
        by_cases hgt : lenV u n of ep > of
        · have b1 : decide (lenV u n of ep > of) = true := decide_eq_true hgt
          rw [show withinV u n of ep = of from if_pos hgt]
          repeat (first | refine runs_seq ?_ | refine runs_block ?_ | refine next_normal ?_ | refine inside_normal ?_ | refine next_exit ?_ | refine inside_exit ?_ | refine inside_other (by decide) ?_ | refine next_ret ?_ | refine inside_ret ?_ | refine runs_ops_kept ?_ | refine runs_skip ?_ | refine runs_exit ?_ | refine runs_ret ?_ | ((first | refine' ops_op rfl rfl (by decide) ?_ ?_ ?_ | refine' ops_yes rfl rfl (by simp only [Ev.get, reduceIte, Nat.reduceEqDiff, len0, len1, t1, f1, b0, b1]; first | done | rfl) rfl (by decide) ?_ ?_ ?_ | refine' ops_op0 rfl rfl ?_ ?_ ?_); rotate_left 2; (focus (simp only [evOp, opd, constAV, constCell, Ev.get, reduceIte, Nat.reduceEqDiff, reduceCtorEq, evBinN, nilCmp, evBin, evInt, evUn, evConvert, evBuiltin, evLen, evField, evPart, tStr, tInt, tElem, tArr, tBool, tAgg, tField, Try.underlying9, Try.underlying3, Try.underlying4, Try.underlying5, Try.underlying21, Try.underlying25, Try.underlying33, Try.underlying2, Try.underlying22, Try.underlying54, List.zipWith, Option.map_some, Option.map_none, List.length_cons, List.length_nil, ne_eq, Int.reduceEq, not_false_eq_true, and_self, and_true, true_and, szStr, szInt, Option.getD_some, isNil, evStr, len0, len1, loadOne, loadLen, cellsLen, newLen, Nat.zero_add, List.drop_zero, List.drop_succ_cons, List.head?_cons, evMinMax, evFoldI, evCall, List.size_toArray, List.append_nil, List.nil_append, List.map_cons, List.map_nil, argAV, argCell, List.toList_toArray, fieldTy, t1, f1, b0, b1]; first | done | rfl)); exact (fun h => by first | rfl | (simp at h; done) | exact absurd (Bool.and_eq_true_iff.mp h).2 (by decide))) | refine ops_no rfl rfl (by simp only [Ev.get, reduceIte, Nat.reduceEqDiff, len0, len1, t1, f1, b0, b1]; first | done | rfl) (by decide) rfl (by decide) ?_ | refine ops_off rfl rfl rfl rfl (by decide) ?_ | (refine ops_nil ?_; intro e2 h2; simp only [restr, kpWithinR, List.map_cons, List.map_nil, Ev.get, reduceIte, Nat.reduceEqDiff] at h2; subst h2))
          refine runs_cond rfl (fun hc => ?_) (fun hc => by cases hc)
          repeat (first | refine runs_seq ?_ | refine runs_block ?_ | refine next_normal ?_ | refine inside_normal ?_ | refine next_exit ?_ | refine inside_exit ?_ | refine inside_other (by decide) ?_ | refine next_ret ?_ | refine inside_ret ?_ | refine runs_ops_kept ?_ | refine runs_skip ?_ | refine runs_exit ?_ | refine runs_ret ?_ | ((first | refine' ops_op rfl rfl (by decide) ?_ ?_ ?_ | refine' ops_yes rfl rfl (by simp only [Ev.get, reduceIte, Nat.reduceEqDiff, len0, len1]; first | done | rfl) rfl (by decide) ?_ ?_ ?_ | refine' ops_op0 rfl rfl ?_ ?_ ?_); rotate_left 2; (focus (simp only [evOp, opd, constAV, constCell, Ev.get, reduceIte, Nat.reduceEqDiff, reduceCtorEq, evBinN, nilCmp, evBin, evInt, evUn, evConvert, evBuiltin, evLen, evField, evPart, tStr, tInt, tElem, tArr, tBool, tAgg, tField, Try.underlying9, Try.underlying3, Try.underlying4, Try.underlying5, Try.underlying21, Try.underlying25, Try.underlying33, Try.underlying2, Try.underlying22, Try.underlying54, List.zipWith, Option.map_some, Option.map_none, List.length_cons, List.length_nil, ne_eq, Int.reduceEq, not_false_eq_true, and_self, and_true, true_and, szStr, szInt, Option.getD_some, isNil, evStr, len0, len1, loadOne, loadLen, cellsLen, newLen, Nat.zero_add, List.drop_zero, List.drop_succ_cons, List.head?_cons, evMinMax, evFoldI, evCall, List.size_toArray, List.append_nil, List.nil_append, List.map_cons, List.map_nil, argAV, argCell, List.toList_toArray, fieldTy]; first | done | rfl)); exact (fun h => by first | rfl | (simp at h; done) | exact absurd (Bool.and_eq_true_iff.mp h).2 (by decide))) | refine ops_no rfl rfl (by simp only [Ev.get, reduceIte, Nat.reduceEqDiff, len0, len1]; first | done | rfl) (by decide) rfl (by decide) ?_ | refine ops_off rfl rfl rfl rfl (by decide) ?_ | (refine ops_nil ?_; intro e2 h2; simp only [restr, kpWithinR, List.map_cons, List.map_nil, Ev.get, reduceIte, Nat.reduceEqDiff] at h2; subst h2))
          exact leaves_fin rfl rfl fin_push
        · have b1 : decide (lenV u n of ep > of) = false := decide_eq_false hgt
          rw [show withinV u n of ep = lenV u n of ep from if_neg hgt]
          repeat (first | refine runs_seq ?_ | refine runs_block ?_ | refine next_normal ?_ | refine inside_normal ?_ | refine next_exit ?_ | refine inside_exit ?_ | refine inside_other (by decide) ?_ | refine next_ret ?_ | refine inside_ret ?_ | refine runs_ops_kept ?_ | refine runs_skip ?_ | refine runs_exit ?_ | refine runs_ret ?_ | ((first | refine' ops_op rfl rfl (by decide) ?_ ?_ ?_ | refine' ops_yes rfl rfl (by simp only [Ev.get, reduceIte, Nat.reduceEqDiff, len0, len1, t1, f1, b0, b1]; first | done | rfl) rfl (by decide) ?_ ?_ ?_ | refine' ops_op0 rfl rfl ?_ ?_ ?_); rotate_left 2; (focus (simp only [evOp, opd, constAV, constCell, Ev.get, reduceIte, Nat.reduceEqDiff, reduceCtorEq, evBinN, nilCmp, evBin, evInt, evUn, evConvert, evBuiltin, evLen, evField, evPart, tStr, tInt, tElem, tArr, tBool, tAgg, tField, Try.underlying9, Try.underlying3, Try.underlying4, Try.underlying5, Try.underlying21, Try.underlying25, Try.underlying33, Try.underlying2, Try.underlying22, Try.underlying54, List.zipWith, Option.map_some, Option.map_none, List.length_cons, List.length_nil, ne_eq, Int.reduceEq, not_false_eq_true, and_self, and_true, true_and, szStr, szInt, Option.getD_some, isNil, evStr, len0, len1, loadOne, loadLen, cellsLen, newLen, Nat.zero_add, List.drop_zero, List.drop_succ_cons, List.head?_cons, evMinMax, evFoldI, evCall, List.size_toArray, List.append_nil, List.nil_append, List.map_cons, List.map_nil, argAV, argCell, List.toList_toArray, fieldTy, t1, f1, b0, b1]; first | done | rfl)); exact (fun h => by first | rfl | (simp at h; done) | exact absurd (Bool.and_eq_true_iff.mp h).2 (by decide))) | refine ops_no rfl rfl (by simp only [Ev.get, reduceIte, Nat.reduceEqDiff, len0, len1, t1, f1, b0, b1]; first | done | rfl) (by decide) rfl (by decide) ?_ | refine ops_off rfl rfl rfl rfl (by decide) ?_ | (refine ops_nil ?_; intro e2 h2; simp only [restr, kpWithinR, List.map_cons, List.map_nil, Ev.get, reduceIte, Nat.reduceEqDiff] at h2; subst h2))
          refine runs_cond rfl (fun hc => by cases hc) (fun hc => ?_)
          repeat (first | refine runs_seq ?_ | refine runs_block ?_ | refine next_normal ?_ | refine inside_normal ?_ | refine next_exit ?_ | refine inside_exit ?_ | refine inside_other (by decide) ?_ | refine next_ret ?_ | refine inside_ret ?_ | refine runs_ops_kept ?_ | refine runs_skip ?_ | refine runs_exit ?_ | refine runs_ret ?_ | ((first | refine' ops_op rfl rfl (by decide) ?_ ?_ ?_ | refine' ops_yes rfl rfl (by simp only [Ev.get, reduceIte, Nat.reduceEqDiff, len0, len1]; first | done | rfl) rfl (by decide) ?_ ?_ ?_ | refine' ops_op0 rfl rfl ?_ ?_ ?_); rotate_left 2; (focus (simp only [evOp, opd, constAV, constCell, Ev.get, reduceIte, Nat.reduceEqDiff, reduceCtorEq, evBinN, nilCmp, evBin, evInt, evUn, evConvert, evBuiltin, evLen, evField, evPart, tStr, tInt, tElem, tArr, tBool, tAgg, tField, Try.underlying9, Try.underlying3, Try.underlying4, Try.underlying5, Try.underlying21, Try.underlying25, Try.underlying33, Try.underlying2, Try.underlying22, Try.underlying54, List.zipWith, Option.map_some, Option.map_none, List.length_cons, List.length_nil, ne_eq, Int.reduceEq, not_false_eq_true, and_self, and_true, true_and, szStr, szInt, Option.getD_some, isNil, evStr, len0, len1, loadOne, loadLen, cellsLen, newLen, Nat.zero_add, List.drop_zero, List.drop_succ_cons, List.head?_cons, evMinMax, evFoldI, evCall, List.size_toArray, List.append_nil, List.nil_append, List.map_cons, List.map_nil, argAV, argCell, List.toList_toArray, fieldTy]; first | done | rfl)); exact (fun h => by first | rfl | (simp at h; done) | exact absurd (Bool.and_eq_true_iff.mp h).2 (by decide))) | refine ops_no rfl rfl (by simp only [Ev.get, reduceIte, Nat.reduceEqDiff, len0, len1]; first | done | rfl) (by decide) rfl (by decide) ?_ | refine ops_off rfl rfl rfl rfl (by decide) ?_ | (refine ops_nil ?_; intro e2 h2; simp only [restr, kpWithinR, List.map_cons, List.map_nil, Ev.get, reduceIte, Nat.reduceEqDiff] at h2; subst h2))
          exact leaves_fin rfl rfl fin_push
    · cases h
  · cases h
end Go.Proofs.Ytojaokhkbmiidaa.Ev

namespace Go.Proofs.Ytojaokhkbmiidaa.Ev
open Go Go.Proofs
set_option maxRecDepth 10000
set_option maxHeartbeats 16000000
set_option linter.unusedVariables false
set_option linter.unusedSimpArgs false
def inQ (x : Int) : Prop := 0 ≤ x ∧ x ≤ 4503599627370496
instance (x : Int) : Decidable (inQ x) := by unfold inQ; exact inferInstance
def mayN (x : Nd) : Prop := 1 ≤ x.op ∧ x.op ≤ 9 ∧ inQ x.a ∧ inQ x.b ∧ inQ x.c ∧ 0 ≤ x.k ∧ (x.op = 9 → x.a = 0) ∧ ((x.op < 2 ∨ 7 < x.op) → x.b = 0) ∧ (x.op ≠ 6 → x.c = 0) ∧
  ((x.op ≠ 3 ∧ x.op ≠ 4 ∧ x.op ≠ 6 ∧ x.op ≠ 7) → x.k = 0) ∧ (x.op < 7 → x.u = 0 ∧ x.n = 0) ∧ ((x.op = 3 ∨ x.op = 7) → x.k ≤ 1099511627776) ∧ (x.op = 4 → x.k ≤ 4503599627370496) ∧ (x.op = 6 → x.k ≤ 100) ∧ lenMay x.u x.n ∧ x.u ≠ 3
instance (x : Nd) : Decidable (mayN x) := by unfold mayN; exact inferInstance
def mayAt (p : Int → Bool) : List AV → Mem → Option (AV × Mem)
  | [.agg cs], m =>
    match unNd cs with
    | some x => if p x.op = true then some (.v (.bool (decide (mayN x))), m) else none
    | none => none
  | _, _ => none
def mayG : List AV → Mem → Option (AV × Mem) := mayAt fun _ => true
theorem may_all {P : Program} {f : FuncId} (h : ∀ op, ∃ p : Int → Bool, p op = true ∧ FunOk P f (mayAt p)) : FunOk P f mayG := by
  intro args m r m' hg
  unfold mayG mayAt at hg
  split at hg
  · rename_i cs
    split at hg
    · rename_i x hx
      obtain ⟨p, hp, hok⟩ := h x.op
      refine hok _ m r m' ?_
      simp only [mayAt, hx]
      rw [if_pos hp]
      simpa using hg
    · cases hg
  · cases hg
theorem nf0 {r : Nat} : evFieldAddr Try.prog 56 (.ptr r 0) 0 = some (.ptr r 0) := by kernel_rfl
theorem nf1 {r : Nat} : evFieldAddr Try.prog 56 (.ptr r 0) 1 = some (.ptr r (0 + 1)) := by kernel_rfl
theorem nf2 {r : Nat} : evFieldAddr Try.prog 56 (.ptr r 0) 2 = some (.ptr r (0 + 2)) := by kernel_rfl
theorem nf3 {r : Nat} : evFieldAddr Try.prog 56 (.ptr r 0) 3 = some (.ptr r (0 + 3)) := by kernel_rfl
theorem nf4 {r : Nat} : evFieldAddr Try.prog 56 (.ptr r 0) 4 = some (.ptr r (0 + 4)) := by kernel_rfl
theorem nf5 {r : Nat} : evFieldAddr Try.prog 56 (.ptr r 0) 5 = some (.ptr r (0 + 5)) := by kernel_rfl
theorem lf0 {r : Nat} : evFieldAddr Try.prog 54 (.ptr r 5) 0 = some (.ptr r 5) := by kernel_rfl
def nrow (op a b c k u n : Int) : List AV := [.v (.int .i64 op), .v (.int .i64 a), .v (.int .i64 b), .v (.int .i64 c), .v (.int .i64 k), .v (.int .i64 u), .v (.int .i64 n)]
theorem nh0 {op a b c k u n : Int} : ((nrow op a b c k u n).drop 0).head? = some (.v (.int .i64 op)) := rfl
theorem nh1 {op a b c k u n : Int} : ((nrow op a b c k u n).drop 1).head? = some (.v (.int .i64 a)) := rfl
theorem nh2 {op a b c k u n : Int} : ((nrow op a b c k u n).drop 2).head? = some (.v (.int .i64 b)) := rfl
theorem nh3 {op a b c k u n : Int} : ((nrow op a b c k u n).drop 3).head? = some (.v (.int .i64 c)) := rfl
theorem nh4 {op a b c k u n : Int} : ((nrow op a b c k u n).drop 4).head? = some (.v (.int .i64 k)) := rfl
theorem nh5 {op a b c k u n : Int} : ((nrow op a b c k u n).drop 5).head? = some (.v (.int .i64 u)) := rfl
theorem newNode {m : Mem} {op a b c k u n : Int} : newVar m m.vars.length (nrow op a b c k u n) = some (m.push (nrow op a b c k u n)) := newVar_push rfl
theorem cellsNode {op a b c k u n : Int} : cellsOf (.agg (nrow op a b c k u n)) = some (nrow op a b c k u n) := rfl
theorem loadNodeLen {m : Mem} {op a b c k u n : Int} : evLoad Try.prog (m.push (nrow op a b c k u n)) 54 (.ptr m.vars.length 5) = some (.agg [.v (.int .i64 u), .v (.int .i64 n)]) := by
  unfold evLoad
  simp only [ptrCells, push_var, Option.map_some]
  rw [show tAgg Try.prog 54 = some true by kernel_rfl, show tSize Try.prog 54 = some 2 by kernel_rfl]
  rfl
theorem zeroLen : evBuild Try.prog 54 [] = some (.agg [.v (.int .i64 0), .v (.int .i64 0)]) := by kernel_rfl
theorem niLen : noIface Try.prog 8 54 = true := by kernel_rfl
theorem eqLen {u n u2 n2 : Int} : eqTy Try.prog 8 54 (.agg [.v (.int .i64 u), .v (.int .i64 n)]) (.agg [.v (.int .i64 u2), .v (.int .i64 n2)]) = some ((u == u2) && ((n == n2) && true)) := by kernel_rfl
theorem unNd_row {cs : List AV} {x : Nd} (h : unNd cs = some x) : cs = nrow x.op x.a x.b x.c x.k x.u x.n := unNd_some h
attribute [local irreducible] Next Inside Runs Ops table nrow
def kpRefMay : Nat → Option (List Nat) := fun _ => some [0, 1, 2, 3, 4, 5, 65, 111, 145]
def tabRefMay : List (FuncId × (List AV → Mem → Option (AV × Mem))) := [(54, upTo 4503599627370496), (55, lenMayG)]
theorem q_eq (c x : Int) (mm : Mem) : upTo c [.v (.int .i64 x)] mm = some (.v (.bool (decide (0 ≤ x ∧ x ≤ c))), mm) := rfl
theorem lm_eq (u n : Int) (mm : Mem) : lenMayG [.agg [.v (.int .i64 u), .v (.int .i64 n)]] mm = some (.v (.bool (decide (lenMay u n))), mm) := rfl
end Go.Proofs.Ytojaokhkbmiidaa.Ev

namespace Go.Proofs.Ytojaokhkbmiidaa.Ev
open Go Go.Proofs
set_option maxRecDepth 10000
set_option maxHeartbeats 16000000
set_option linter.unusedVariables false
set_option linter.unusedSimpArgs false
attribute [local irreducible] Next Inside Runs Ops table
def lastsG : List AV → Mem → Option (AV × Mem)
  | [.agg [.v (.int .i64 u), .v (.int .i64 n)]], m => some (.v (.bool (decide (u ≠ 3 ∧ lenMay u n))), m)
  | _, _ => none
def kpLasts : Nat → Option (List Nat) := fun _ => some [0, 1, 2]
theorem lasts_ok : FunOk Try.prog 58 lastsG := by
  have hC := table_ok (P := Try.prog) (l := [(76, lenCheckG)]) (table_more lenCheck_ok table_nil)
  have t1 := fun args mm => table_at (l := [(76, lenCheckG)]) (f := 76) (args := args) (m := mm) rfl
  refine fun_ok mixed hC Try.func58 rfl kpLasts false rfl fun args m r h => ?_
  unfold lastsG at h
  split at h
  · rename_i u n
    simp only [Option.some.injEq] at h
    subst h
    refine ⟨Nat.le_of_ble_eq_true rfl, ?_⟩
    simp only [entry, List.length_cons, List.length_nil, List.range, List.range.loop, List.zip_cons_cons, List.zip_nil_right]
    have fl : ∀ mm, lenCheckG [.agg [.v (.int .i64 u), .v (.int .i64 n)]] mm = some (.v (.int .i64 (if lenMay u n then 0 else 1)), mm) := fun _ => rfl
    have fe : ((if lenMay u n then (0 : Int) else 1) == 0) = decide (lenMay u n) := by
      by_cases h : lenMay u n
      · rw [if_pos h, decide_eq_true h]; rfl
      · rw [if_neg h, decide_eq_false h]; rfl
    by_cases h3 : u = 3
    · have b3 : (u != 3) = false := by rw [h3]; rfl
      rw [decide_eq_false (fun h => h.1 h3)]
      repeat (first | refine runs_seq ?_ | refine runs_block ?_ | refine next_normal ?_ | refine inside_normal ?_ | refine next_exit ?_ | refine inside_exit ?_ | refine inside_other (by decide) ?_ | refine next_ret ?_ | refine inside_ret ?_ | refine runs_ops_kept ?_ | refine runs_skip ?_ | refine runs_exit ?_ | refine runs_ret ?_ | ((first | refine' ops_op rfl rfl (by decide) ?_ ?_ ?_ | refine' ops_yes rfl rfl (by simp only [Ev.get, reduceIte, Nat.reduceEqDiff, len0, len1, b3, t1, fl, fe]; first | done | rfl) rfl (by decide) ?_ ?_ ?_ | refine' ops_op0 rfl rfl ?_ ?_ ?_); rotate_left 2; (focus (simp only [evOp, opd, constAV, constCell, Ev.get, reduceIte, Nat.reduceEqDiff, reduceCtorEq, evBinN, nilCmp, evBin, evInt, evUn, evConvert, evBuiltin, evLen, evField, evPart, tStr, tInt, tElem, tArr, tBool, tAgg, tField, Try.underlying9, Try.underlying3, Try.underlying4, Try.underlying5, Try.underlying33, Try.underlying2, Try.underlying54, List.zipWith, Option.map_some, Option.map_none, List.length_cons, List.length_nil, ne_eq, Int.reduceEq, not_false_eq_true, and_self, and_true, true_and, szStr, szInt, Option.getD_some, isNil, loadStr, loadInt, evStr, len0, len1, loadOne, loadLen, cellsLen, newLen, Nat.zero_add, List.drop_zero, List.drop_succ_cons, List.head?_cons, evCall, List.size_toArray, List.append_nil, List.nil_append, List.map_cons, List.map_nil, argAV, argCell, List.toList_toArray, fieldTy, b3, t1, fl, fe]; first | done | rfl)); exact (fun h => by first | rfl | (simp at h; done) | exact absurd (Bool.and_eq_true_iff.mp h).2 (by decide))) | refine ops_no rfl rfl (by simp only [Ev.get, reduceIte, Nat.reduceEqDiff, len0, len1, b3, t1, fl, fe]; first | done | rfl) (by decide) rfl (by decide) ?_ | refine ops_off rfl rfl rfl rfl (by decide) ?_ | (refine ops_nil ?_; intro e2 h2; simp only [restr, kpLasts, List.map_cons, List.map_nil, Ev.get, reduceIte, Nat.reduceEqDiff] at h2; subst h2))
      exact leaves_fin rfl rfl fin_push
    · have b3 : (u != 3) = true := bne_iff_ne.2 h3
      have e1 : decide (u ≠ 3 ∧ lenMay u n) = decide (lenMay u n) := by
        by_cases h : lenMay u n
        · rw [decide_eq_true h, decide_eq_true ⟨h3, h⟩]
        · rw [decide_eq_false h, decide_eq_false fun hh => h hh.2]
      rw [e1]
      repeat (first | refine runs_seq ?_ | refine runs_block ?_ | refine next_normal ?_ | refine inside_normal ?_ | refine next_exit ?_ | refine inside_exit ?_ | refine inside_other (by decide) ?_ | refine next_ret ?_ | refine inside_ret ?_ | refine runs_ops_kept ?_ | refine runs_skip ?_ | refine runs_exit ?_ | refine runs_ret ?_ | ((first | refine' ops_op rfl rfl (by decide) ?_ ?_ ?_ | refine' ops_yes rfl rfl (by simp only [Ev.get, reduceIte, Nat.reduceEqDiff, len0, len1, b3, t1, fl, fe]; first | done | rfl) rfl (by decide) ?_ ?_ ?_ | refine' ops_op0 rfl rfl ?_ ?_ ?_); rotate_left 2; (focus (simp only [evOp, opd, constAV, constCell, Ev.get, reduceIte, Nat.reduceEqDiff, reduceCtorEq, evBinN, nilCmp, evBin, evInt, evUn, evConvert, evBuiltin, evLen, evField, evPart, tStr, tInt, tElem, tArr, tBool, tAgg, tField, Try.underlying9, Try.underlying3, Try.underlying4, Try.underlying5, Try.underlying33, Try.underlying2, Try.underlying54, List.zipWith, Option.map_some, Option.map_none, List.length_cons, List.length_nil, ne_eq, Int.reduceEq, not_false_eq_true, and_self, and_true, true_and, szStr, szInt, Option.getD_some, isNil, loadStr, loadInt, evStr, len0, len1, loadOne, loadLen, cellsLen, newLen, Nat.zero_add, List.drop_zero, List.drop_succ_cons, List.head?_cons, evCall, List.size_toArray, List.append_nil, List.nil_append, List.map_cons, List.map_nil, argAV, argCell, List.toList_toArray, fieldTy, b3, t1, fl, fe]; first | done | rfl)); exact (fun h => by first | rfl | (simp at h; done) | exact absurd (Bool.and_eq_true_iff.mp h).2 (by decide))) | refine ops_no rfl rfl (by simp only [Ev.get, reduceIte, Nat.reduceEqDiff, len0, len1, b3, t1, fl, fe]; first | done | rfl) (by decide) rfl (by decide) ?_ | refine ops_off rfl rfl rfl rfl (by decide) ?_ | (refine ops_nil ?_; intro e2 h2; simp only [restr, kpLasts, List.map_cons, List.map_nil, Ev.get, reduceIte, Nat.reduceEqDiff] at h2; subst h2))
      exact leaves_fin rfl rfl fin_push
  · cases h
/-! ### two nodes in memory -/
theorem varUnder {m : Mem} {a b : List AV} : ((m.push a).push b).var m.vars.length = some a := by
  unfold Mem.var Mem.push
  simp [List.getElem?_append]
theorem agNode : tAgg Try.prog 56 = some true := by kernel_rfl
theorem agLen : tAgg Try.prog 54 = some true := by kernel_rfl
theorem szLen : tSize Try.prog 54 = some 2 := by kernel_rfl
theorem underInt {m : Mem} {op a b c k u n : Int} {K : List AV} {off : Nat} : evLoad Try.prog ((m.push (nrow op a b c k u n)).push K) 3 (.ptr m.vars.length off) = ((nrow op a b c k u n).drop off).head? := by
  unfold evLoad
  simp only [ptrCells, varUnder, Option.map_some, szInt, agInt]
theorem underLen {m : Mem} {op a b c k u n : Int} {K : List AV} : evLoad Try.prog ((m.push (nrow op a b c k u n)).push K) 54 (.ptr m.vars.length 5) = some (.agg [.v (.int .i64 u), .v (.int .i64 n)]) := by
  unfold evLoad
  simp only [ptrCells, varUnder, Option.map_some, szLen, agLen]
  rfl
theorem underNode {m : Mem} {op a b c k u n : Int} {K : List AV} : evLoad Try.prog ((m.push (nrow op a b c k u n)).push K) 56 (.ptr m.vars.length 0) = some (.agg (nrow op a b c k u n)) := by
  unfold evLoad
  simp only [ptrCells, varUnder, Option.map_some, szNode, agNode]
  rfl
theorem topNode {m : Mem} {op a b c k u n : Int} : evLoad Try.prog (m.push (nrow op a b c k u n)) 56 (.ptr m.vars.length 0) = some (.agg (nrow op a b c k u n)) := by
  unfold evLoad
  simp only [ptrCells, push_var, Option.map_some, szNode, agNode]
  rfl
theorem zeroNode : zeroCells Try.prog 56 = some (nrow 0 0 0 0 0 0 0) := by kernel_rfl
theorem okNode {op a b c k u n : Int} : (nrow op a b c k u n).all okCell = true := rfl
theorem putNode {m : Mem} {op a b c k u n op2 a2 b2 c2 k2 u2 n2 : Int} : evStore Try.prog (m.push (nrow op a b c k u n)) 56 (.ptr m.vars.length 0) (.agg (nrow op2 a2 b2 c2 k2 u2 n2)) = some (m.push (nrow op2 a2 b2 c2 k2 u2 n2)) := by
  rw [store_push (cs := nrow op2 a2 b2 c2 k2 u2 n2) rfl szNode (Nat.le_refl _) rfl]
  rfl
theorem putC {m : Mem} {op a b c k u n c2 : Int} : evStore Try.prog (m.push (nrow op a b c k u n)) 3 (.ptr m.vars.length 3) (.v (.int .i64 c2)) = some (m.push (nrow op a b c2 k u n)) := by
  rw [store_push (cs := [.v (.int .i64 c2)]) rfl szInt (Nat.le_of_ble_eq_true rfl) rfl]
  rfl
theorem putLen {m : Mem} {op a b c k u n u2 n2 : Int} : evStore Try.prog (m.push (nrow op a b c k u n)) 54 (.ptr m.vars.length 5) (.agg [.v (.int .i64 u2), .v (.int .i64 n2)]) = some (m.push (nrow op a b c k u2 n2)) := by
  rw [store_push (cs := [.v (.int .i64 u2), .v (.int .i64 n2)]) rfl szLen (Nat.le_of_ble_eq_true rfl) rfl]
  rfl
theorem mkKept {op a b k : Int} : evBuild Try.prog 56 [(0, .v (.int .i64 op)), (1, .v (.int .i64 a)), (2, .v (.int .i64 b)), (4, .v (.int .i64 k))] = some (.agg (nrow op a b 0 k 0 0)) := by kernel_rfl
theorem mkA {op a : Int} : evBuild Try.prog 56 [(0, .v (.int .i64 op)), (1, .v (.int .i64 a))] = some (.agg (nrow op a 0 0 0 0 0)) := by kernel_rfl
theorem mkAB {op a b : Int} : evBuild Try.prog 56 [(0, .v (.int .i64 op)), (1, .v (.int .i64 a)), (2, .v (.int .i64 b))] = some (.agg (nrow op a b 0 0 0 0)) := by kernel_rfl
theorem mkAL {op a u n : Int} : evBuild Try.prog 56 [(0, .v (.int .i64 op)), (1, .v (.int .i64 a)), (5, .agg [.v (.int .i64 u), .v (.int .i64 n)])] = some (.agg (nrow op a 0 0 0 u n)) := by kernel_rfl
theorem mkL {op u n : Int} : evBuild Try.prog 56 [(0, .v (.int .i64 op)), (5, .agg [.v (.int .i64 u), .v (.int .i64 n)])] = some (.agg (nrow op 0 0 0 0 u n)) := by kernel_rfl
theorem niNode : noIface Try.prog 8 56 = true := by kernel_rfl
theorem eqNode {op a b c k u n op2 a2 b2 c2 k2 u2 n2 : Int} : eqTy Try.prog 8 56 (.agg (nrow op a b c k u n)) (.agg (nrow op2 a2 b2 c2 k2 u2 n2)) =
    some ((op == op2) && ((a == a2) && ((b == b2) && ((c == c2) && ((k == k2) && (((u == u2) && ((n == n2) && true)) && true)))))) := by kernel_rfl
attribute [local irreducible] nrow
def kpMay : Nat → Option (List Nat) := fun _ => some [0, 1, 2, 3, 25, 36, 37, 46, 58, 68, 78, 96, 109]
def tabMay : List (FuncId × (List AV → Mem → Option (AV × Mem))) := [(57, upTo 4503599627370496), (58, lastsG), (59, upTo 1099511627776)]
theorem ll_eq (u n : Int) (mm : Mem) : lastsG [.agg [.v (.int .i64 u), .v (.int .i64 n)]] mm = some (.v (.bool (decide (u ≠ 3 ∧ lenMay u n))), mm) := rfl
theorem fin_two {m : Mem} {a b : List AV} : finMem m ((m.push a).push b) = m := by
  unfold finMem
  have h : ((m.push a).push b).vars.take m.vars.length = m.vars := by simp [Mem.push]
  rw [if_pos h]
  show (⟨m.vars, m.toks.take m.toks.length⟩ : Mem) = m
  rw [List.take_length]
end Go.Proofs.Ytojaokhkbmiidaa.Ev

namespace Go.Proofs.Ytojaokhkbmiidaa.Ev
open Go Go.Proofs
set_option maxRecDepth 10000
set_option maxHeartbeats 16000000
set_option linter.unusedVariables false
set_option linter.unusedSimpArgs false
attribute [local irreducible] Next Inside Runs Ops table nrow
theorem may_at1 : FunOk Try.prog 40 (mayAt fun op => decide (op = 1)) := by
  have hC := table_ok (P := Try.prog) (l := tabMay) (table_more number_ok (table_more lasts_ok (table_more count_ok table_nil)))
  have t1 := fun args mm => table_at (l := tabMay) (f := 57) (args := args) (m := mm) rfl
  have t2 := fun args mm => table_at (l := tabMay) (f := 58) (args := args) (m := mm) rfl
  have t3 := fun args mm => table_at (l := tabMay) (f := 59) (args := args) (m := mm) rfl
  refine fun_ok mixed hC Try.func40 rfl kpMay false rfl fun args m r h => ?_
  unfold mayAt at h
  split at h
  · rename_i cs
    split at h
    · rename_i x hx
      split at h
      · rename_i hop
        obtain rfl := unNd_row hx
        obtain ⟨op, a, b, c, k, u, n⟩ := x
        have hop := of_decide_eq_true hop
        simp only at hop
        simp only [Option.some.injEq] at h
        subst h
        refine ⟨Nat.le_of_ble_eq_true rfl, ?_⟩
        simp only [entry, List.length_cons, List.length_nil, List.range, List.range.loop, List.zip_cons_cons, List.zip_nil_right]
        have fin : ∀ (e : Env) (m' : Mem) (z : Bool), Ev.get e 2 = .v (.bool z) → finMem m m' = m → (z = true ↔ mayN ⟨op, a, b, c, k, u, n⟩) → Leaves Try.prog false Try.f40 m (.v (.bool (decide (mayN ⟨op, a, b, c, k, u, n⟩))), m) .ret e m' := fun e m' z h1 h2 h3 => by
          have : z = decide (mayN ⟨op, a, b, c, k, u, n⟩) := by rw [Bool.eq_iff_iff, decide_eq_true_eq]; exact h3
          rw [← this]
          exact leaves_fin rfl h1 h2
        subst hop
        repeat' (first | (first | refine runs_seq ?_ | refine runs_block ?_ | refine next_normal ?_ | refine inside_normal ?_ | refine next_exit ?_ | refine inside_exit ?_ | refine inside_other (by decide) ?_ | refine next_ret ?_ | refine inside_ret ?_ | refine runs_ops_kept ?_ | refine runs_skip ?_ | refine runs_exit ?_ | refine runs_ret ?_ | ((first | refine' ops_op rfl rfl (by decide) ?_ ?_ ?_ | refine' ops_yes rfl rfl (by simp only [Ev.get, reduceIte, Nat.reduceEqDiff, nf0, nf1, nf2, nf3, nf4, nf5, nh0, nh1, nh2, nh3, nh4, nh5, t1, t2, t3]; first | done | rfl) rfl (by decide) ?_ ?_ ?_ | refine' ops_op0 rfl rfl ?_ ?_ ?_); rotate_left 2; (focus (simp only [evOp, opd, constAV, constCell, Ev.get, reduceIte, Nat.reduceEqDiff, reduceCtorEq, evBinN, nilCmp, evBin, evInt, evUn, evConvert, evBuiltin, evLen, evField, evPart, tStr, tInt, tElem, tArr, tBool, tAgg, tField, Try.underlying9, Try.underlying3, Try.underlying4, Try.underlying5, Try.underlying21, Try.underlying121, Try.underlying38, Try.underlying25, Try.underlying33, Try.underlying2, Try.underlying22, Try.underlying56, Try.underlying54, List.zipWith, Option.map_some, Option.map_none, List.length_cons, List.length_nil, ne_eq, Int.reduceEq, not_false_eq_true, and_self, and_true, true_and, szStr, szInt, Option.getD_some, isNil, evStr, loadOne, newNode, cellsNode, nf0, nf1, nf2, nf3, nf4, nf5, nh0, nh1, nh2, nh3, nh4, nh5, loadNodeLen, underInt, underLen, underNode, topNode, zeroNode, okNode, putNode, putC, putLen, mkKept, mkA, mkAB, mkAL, mkL, niNode, eqNode, Nat.zero_add, evCall, List.size_toArray, List.append_nil, List.nil_append, List.map_cons, List.map_nil, argAV, argCell, List.toList_toArray, fieldTy, t1, q_eq, t2, ll_eq, t3]; first | done | rfl)); exact (fun h => by first | rfl | (simp at h; done) | exact absurd (Bool.and_eq_true_iff.mp h).2 (by decide))) | refine ops_no rfl rfl (by simp only [Ev.get, reduceIte, Nat.reduceEqDiff, nf0, nf1, nf2, nf3, nf4, nf5, nh0, nh1, nh2, nh3, nh4, nh5, t1, t2, t3]; first | done | rfl) (by decide) rfl (by decide) ?_ | refine ops_off rfl rfl rfl rfl (by decide) ?_ | (refine ops_nil ?_; intro e2 h2; simp only [restr, kpMay, List.map_cons, List.map_nil, Ev.get, reduceIte, Nat.reduceEqDiff] at h2; subst h2)) | (refine ops_here ?_; (fail_if_success (refine ops_case (B := true) rfl rfl rfl ?_ ?_)); (fail_if_success (refine ops_case (B := false) rfl rfl rfl ?_ ?_)); refine ops_case rfl rfl rfl (fun hB => ?_) (fun hB => ?_) <;> rw [hB]) | (refine runs_here ?_; refine runs_cond rfl (fun hc => ?_) (fun hc => ?_) <;> first | (cases hc; done) | skip))
        all_goals exact fin _ _ _ rfl (by first | exact fin_push | exact fin_two) (by clear fin hx t1 t2 t3 hC; simp only [Bool.not_eq_true', Bool.not_eq_false', Bool.not_true, Bool.not_false, Bool.and_true, Bool.true_and, Bool.and_eq_true, Bool.and_eq_false_iff, decide_eq_true_eq, decide_eq_false_iff_not, Bool.false_eq_true, reduceCtorEq, false_iff, true_iff, beq_iff_eq, bne_iff_ne, beq_eq_false_iff_ne, bne_eq_false_iff_eq, ne_eq, not_false_eq_true, not_true_eq_false, true_or, or_true, true_implies, false_implies, implies_true, and_self, true_and, false_and, or_false, false_or, and_true, and_false] at *; simp only [mayN, inQ, lenMay, not_false_eq_true, not_true_eq_false, true_or, or_true, true_implies, false_implies, implies_true, and_self, true_and, false_and, or_false, false_or, and_true, and_false] at *; omega)
      · cases h
    · cases h
  · cases h
theorem may_at2 : FunOk Try.prog 40 (mayAt fun op => decide (op = 2)) := by
  have hC := table_ok (P := Try.prog) (l := tabMay) (table_more number_ok (table_more lasts_ok (table_more count_ok table_nil)))
  have t1 := fun args mm => table_at (l := tabMay) (f := 57) (args := args) (m := mm) rfl
  have t2 := fun args mm => table_at (l := tabMay) (f := 58) (args := args) (m := mm) rfl
  have t3 := fun args mm => table_at (l := tabMay) (f := 59) (args := args) (m := mm) rfl
  refine fun_ok mixed hC Try.func40 rfl kpMay false rfl fun args m r h => ?_
  unfold mayAt at h
  split at h
  · rename_i cs
    split at h
    · rename_i x hx
      split at h
      · rename_i hop
        obtain rfl := unNd_row hx
        obtain ⟨op, a, b, c, k, u, n⟩ := x
        have hop := of_decide_eq_true hop
        simp only at hop
        simp only [Option.some.injEq] at h
        subst h
        refine ⟨Nat.le_of_ble_eq_true rfl, ?_⟩
        simp only [entry, List.length_cons, List.length_nil, List.range, List.range.loop, List.zip_cons_cons, List.zip_nil_right]
        have fin : ∀ (e : Env) (m' : Mem) (z : Bool), Ev.get e 2 = .v (.bool z) → finMem m m' = m → (z = true ↔ mayN ⟨op, a, b, c, k, u, n⟩) → Leaves Try.prog false Try.f40 m (.v (.bool (decide (mayN ⟨op, a, b, c, k, u, n⟩))), m) .ret e m' := fun e m' z h1 h2 h3 => by
          have : z = decide (mayN ⟨op, a, b, c, k, u, n⟩) := by rw [Bool.eq_iff_iff, decide_eq_true_eq]; exact h3
          rw [← this]
          exact leaves_fin rfl h1 h2
        subst hop
        repeat' (first | (first | refine runs_seq ?_ | refine runs_block ?_ | refine next_normal ?_ | refine inside_normal ?_ | refine next_exit ?_ | refine inside_exit ?_ | refine inside_other (by decide) ?_ | refine next_ret ?_ | refine inside_ret ?_ | refine runs_ops_kept ?_ | refine runs_skip ?_ | refine runs_exit ?_ | refine runs_ret ?_ | ((first | refine' ops_op rfl rfl (by decide) ?_ ?_ ?_ | refine' ops_yes rfl rfl (by simp only [Ev.get, reduceIte, Nat.reduceEqDiff, nf0, nf1, nf2, nf3, nf4, nf5, nh0, nh1, nh2, nh3, nh4, nh5, t1, t2, t3]; first | done | rfl) rfl (by decide) ?_ ?_ ?_ | refine' ops_op0 rfl rfl ?_ ?_ ?_); rotate_left 2; (focus (simp only [evOp, opd, constAV, constCell, Ev.get, reduceIte, Nat.reduceEqDiff, reduceCtorEq, evBinN, nilCmp, evBin, evInt, evUn, evConvert, evBuiltin, evLen, evField, evPart, tStr, tInt, tElem, tArr, tBool, tAgg, tField, Try.underlying9, Try.underlying3, Try.underlying4, Try.underlying5, Try.underlying21, Try.underlying121, Try.underlying38, Try.underlying25, Try.underlying33, Try.underlying2, Try.underlying22, Try.underlying56, Try.underlying54, List.zipWith, Option.map_some, Option.map_none, List.length_cons, List.length_nil, ne_eq, Int.reduceEq, not_false_eq_true, and_self, and_true, true_and, szStr, szInt, Option.getD_some, isNil, evStr, loadOne, newNode, cellsNode, nf0, nf1, nf2, nf3, nf4, nf5, nh0, nh1, nh2, nh3, nh4, nh5, loadNodeLen, underInt, underLen, underNode, topNode, zeroNode, okNode, putNode, putC, putLen, mkKept, mkA, mkAB, mkAL, mkL, niNode, eqNode, Nat.zero_add, evCall, List.size_toArray, List.append_nil, List.nil_append, List.map_cons, List.map_nil, argAV, argCell, List.toList_toArray, fieldTy, t1, q_eq, t2, ll_eq, t3]; first | done | rfl)); exact (fun h => by first | rfl | (simp at h; done) | exact absurd (Bool.and_eq_true_iff.mp h).2 (by decide))) | refine ops_no rfl rfl (by simp only [Ev.get, reduceIte, Nat.reduceEqDiff, nf0, nf1, nf2, nf3, nf4, nf5, nh0, nh1, nh2, nh3, nh4, nh5, t1, t2, t3]; first | done | rfl) (by decide) rfl (by decide) ?_ | refine ops_off rfl rfl rfl rfl (by decide) ?_ | (refine ops_nil ?_; intro e2 h2; simp only [restr, kpMay, List.map_cons, List.map_nil, Ev.get, reduceIte, Nat.reduceEqDiff] at h2; subst h2)) | (refine ops_here ?_; (fail_if_success (refine ops_case (B := true) rfl rfl rfl ?_ ?_)); (fail_if_success (refine ops_case (B := false) rfl rfl rfl ?_ ?_)); refine ops_case rfl rfl rfl (fun hB => ?_) (fun hB => ?_) <;> rw [hB]) | (refine runs_here ?_; refine runs_cond rfl (fun hc => ?_) (fun hc => ?_) <;> first | (cases hc; done) | skip))
        all_goals exact fin _ _ _ rfl (by first | exact fin_push | exact fin_two) (by clear fin hx t1 t2 t3 hC; simp only [Bool.not_eq_true', Bool.not_eq_false', Bool.not_true, Bool.not_false, Bool.and_true, Bool.true_and, Bool.and_eq_true, Bool.and_eq_false_iff, decide_eq_true_eq, decide_eq_false_iff_not, Bool.false_eq_true, reduceCtorEq, false_iff, true_iff, beq_iff_eq, bne_iff_ne, beq_eq_false_iff_ne, bne_eq_false_iff_eq, ne_eq, not_false_eq_true, not_true_eq_false, true_or, or_true, true_implies, false_implies, implies_true, and_self, true_and, false_and, or_false, false_or, and_true, and_false] at *; simp only [mayN, inQ, lenMay, not_false_eq_true, not_true_eq_false, true_or, or_true, true_implies, false_implies, implies_true, and_self, true_and, false_and, or_false, false_or, and_true, and_false] at *; omega)
      · cases h
    · cases h
  · cases h
theorem may_at3 : FunOk Try.prog 40 (mayAt fun op => decide (op = 3)) := by
  have hC := table_ok (P := Try.prog) (l := tabMay) (table_more number_ok (table_more lasts_ok (table_more count_ok table_nil)))
  have t1 := fun args mm => table_at (l := tabMay) (f := 57) (args := args) (m := mm) rfl
  have t2 := fun args mm => table_at (l := tabMay) (f := 58) (args := args) (m := mm) rfl
  have t3 := fun args mm => table_at (l := tabMay) (f := 59) (args := args) (m := mm) rfl
  refine fun_ok mixed hC Try.func40 rfl kpMay false rfl fun args m r h => ?_
  unfold mayAt at h
  split at h
  · rename_i cs
    split at h
    · rename_i x hx
      split at h
      · rename_i hop
        obtain rfl := unNd_row hx
        obtain ⟨op, a, b, c, k, u, n⟩ := x
        have hop := of_decide_eq_true hop
        simp only at hop
        simp only [Option.some.injEq] at h
        subst h
        refine ⟨Nat.le_of_ble_eq_true rfl, ?_⟩
        simp only [entry, List.length_cons, List.length_nil, List.range, List.range.loop, List.zip_cons_cons, List.zip_nil_right]
        have fin : ∀ (e : Env) (m' : Mem) (z : Bool), Ev.get e 2 = .v (.bool z) → finMem m m' = m → (z = true ↔ mayN ⟨op, a, b, c, k, u, n⟩) → Leaves Try.prog false Try.f40 m (.v (.bool (decide (mayN ⟨op, a, b, c, k, u, n⟩))), m) .ret e m' := fun e m' z h1 h2 h3 => by
          have : z = decide (mayN ⟨op, a, b, c, k, u, n⟩) := by rw [Bool.eq_iff_iff, decide_eq_true_eq]; exact h3
          rw [← this]
          exact leaves_fin rfl h1 h2
        subst hop
        repeat' (first | (first | refine runs_seq ?_ | refine runs_block ?_ | refine next_normal ?_ | refine inside_normal ?_ | refine next_exit ?_ | refine inside_exit ?_ | refine inside_other (by decide) ?_ | refine next_ret ?_ | refine inside_ret ?_ | refine runs_ops_kept ?_ | refine runs_skip ?_ | refine runs_exit ?_ | refine runs_ret ?_ | ((first | refine' ops_op rfl rfl (by decide) ?_ ?_ ?_ | refine' ops_yes rfl rfl (by simp only [Ev.get, reduceIte, Nat.reduceEqDiff, nf0, nf1, nf2, nf3, nf4, nf5, nh0, nh1, nh2, nh3, nh4, nh5, t1, t2, t3]; first | done | rfl) rfl (by decide) ?_ ?_ ?_ | refine' ops_op0 rfl rfl ?_ ?_ ?_); rotate_left 2; (focus (simp only [evOp, opd, constAV, constCell, Ev.get, reduceIte, Nat.reduceEqDiff, reduceCtorEq, evBinN, nilCmp, evBin, evInt, evUn, evConvert, evBuiltin, evLen, evField, evPart, tStr, tInt, tElem, tArr, tBool, tAgg, tField, Try.underlying9, Try.underlying3, Try.underlying4, Try.underlying5, Try.underlying21, Try.underlying121, Try.underlying38, Try.underlying25, Try.underlying33, Try.underlying2, Try.underlying22, Try.underlying56, Try.underlying54, List.zipWith, Option.map_some, Option.map_none, List.length_cons, List.length_nil, ne_eq, Int.reduceEq, not_false_eq_true, and_self, and_true, true_and, szStr, szInt, Option.getD_some, isNil, evStr, loadOne, newNode, cellsNode, nf0, nf1, nf2, nf3, nf4, nf5, nh0, nh1, nh2, nh3, nh4, nh5, loadNodeLen, underInt, underLen, underNode, topNode, zeroNode, okNode, putNode, putC, putLen, mkKept, mkA, mkAB, mkAL, mkL, niNode, eqNode, Nat.zero_add, evCall, List.size_toArray, List.append_nil, List.nil_append, List.map_cons, List.map_nil, argAV, argCell, List.toList_toArray, fieldTy, t1, q_eq, t2, ll_eq, t3]; first | done | rfl)); exact (fun h => by first | rfl | (simp at h; done) | exact absurd (Bool.and_eq_true_iff.mp h).2 (by decide))) | refine ops_no rfl rfl (by simp only [Ev.get, reduceIte, Nat.reduceEqDiff, nf0, nf1, nf2, nf3, nf4, nf5, nh0, nh1, nh2, nh3, nh4, nh5, t1, t2, t3]; first | done | rfl) (by decide) rfl (by decide) ?_ | refine ops_off rfl rfl rfl rfl (by decide) ?_ | (refine ops_nil ?_; intro e2 h2; simp only [restr, kpMay, List.map_cons, List.map_nil, Ev.get, reduceIte, Nat.reduceEqDiff] at h2; subst h2)) | (refine ops_here ?_; (fail_if_success (refine ops_case (B := true) rfl rfl rfl ?_ ?_)); (fail_if_success (refine ops_case (B := false) rfl rfl rfl ?_ ?_)); refine ops_case rfl rfl rfl (fun hB => ?_) (fun hB => ?_) <;> rw [hB]) | (refine runs_here ?_; refine runs_cond rfl (fun hc => ?_) (fun hc => ?_) <;> first | (cases hc; done) | skip))
        all_goals exact fin _ _ _ rfl (by first | exact fin_push | exact fin_two) (by clear fin hx t1 t2 t3 hC; simp only [Bool.not_eq_true', Bool.not_eq_false', Bool.not_true, Bool.not_false, Bool.and_true, Bool.true_and, Bool.and_eq_true, Bool.and_eq_false_iff, decide_eq_true_eq, decide_eq_false_iff_not, Bool.false_eq_true, reduceCtorEq, false_iff, true_iff, beq_iff_eq, bne_iff_ne, beq_eq_false_iff_ne, bne_eq_false_iff_eq, ne_eq, not_false_eq_true, not_true_eq_false, true_or, or_true, true_implies, false_implies, implies_true, and_self, true_and, false_and, or_false, false_or, and_true, and_false] at *; simp only [mayN, inQ, lenMay, not_false_eq_true, not_true_eq_false, true_or, or_true, true_implies, false_implies, implies_true, and_self, true_and, false_and, or_false, false_or, and_true, and_false] at *; omega)
      · cases h
    · cases h
  · cases h
end Go.Proofs.Ytojaokhkbmiidaa.Ev

namespace Go.Proofs.Ytojaokhkbmiidaa.Ev
open Go Go.Proofs
set_option maxRecDepth 10000
set_option maxHeartbeats 16000000
set_option linter.unusedVariables false
set_option linter.unusedSimpArgs false
attribute [local irreducible] Next Inside Runs Ops table nrow
theorem may_at4 : FunOk Try.prog 40 (mayAt fun op => decide (op = 4)) := by
  have hC := table_ok (P := Try.prog) (l := tabMay) (table_more number_ok (table_more lasts_ok (table_more count_ok table_nil)))
  have t1 := fun args mm => table_at (l := tabMay) (f := 57) (args := args) (m := mm) rfl
  have t2 := fun args mm => table_at (l := tabMay) (f := 58) (args := args) (m := mm) rfl
  have t3 := fun args mm => table_at (l := tabMay) (f := 59) (args := args) (m := mm) rfl
  refine fun_ok mixed hC Try.func40 rfl kpMay false rfl fun args m r h => ?_
  unfold mayAt at h
  split at h
  · rename_i cs
    split at h
    · rename_i x hx
      split at h
      · rename_i hop
        obtain rfl := unNd_row hx
        obtain ⟨op, a, b, c, k, u, n⟩ := x
        have hop := of_decide_eq_true hop
        simp only at hop
        simp only [Option.some.injEq] at h
        subst h
        refine ⟨Nat.le_of_ble_eq_true rfl, ?_⟩
        simp only [entry, List.length_cons, List.length_nil, List.range, List.range.loop, List.zip_cons_cons, List.zip_nil_right]
        have fin : ∀ (e : Env) (m' : Mem) (z : Bool), Ev.get e 2 = .v (.bool z) → finMem m m' = m → (z = true ↔ mayN ⟨op, a, b, c, k, u, n⟩) → Leaves Try.prog false Try.f40 m (.v (.bool (decide (mayN ⟨op, a, b, c, k, u, n⟩))), m) .ret e m' := fun e m' z h1 h2 h3 => by
          have : z = decide (mayN ⟨op, a, b, c, k, u, n⟩) := by rw [Bool.eq_iff_iff, decide_eq_true_eq]; exact h3
          rw [← this]
          exact leaves_fin rfl h1 h2
        subst hop
        repeat' (first | (first | refine runs_seq ?_ | refine runs_block ?_ | refine next_normal ?_ | refine inside_normal ?_ | refine next_exit ?_ | refine inside_exit ?_ | refine inside_other (by decide) ?_ | refine next_ret ?_ | refine inside_ret ?_ | refine runs_ops_kept ?_ | refine runs_skip ?_ | refine runs_exit ?_ | refine runs_ret ?_ | ((first | refine' ops_op rfl rfl (by decide) ?_ ?_ ?_ | refine' ops_yes rfl rfl (by simp only [Ev.get, reduceIte, Nat.reduceEqDiff, nf0, nf1, nf2, nf3, nf4, nf5, nh0, nh1, nh2, nh3, nh4, nh5, t1, t2, t3]; first | done | rfl) rfl (by decide) ?_ ?_ ?_ | refine' ops_op0 rfl rfl ?_ ?_ ?_); rotate_left 2; (focus (simp only [evOp, opd, constAV, constCell, Ev.get, reduceIte, Nat.reduceEqDiff, reduceCtorEq, evBinN, nilCmp, evBin, evInt, evUn, evConvert, evBuiltin, evLen, evField, evPart, tStr, tInt, tElem, tArr, tBool, tAgg, tField, Try.underlying9, Try.underlying3, Try.underlying4, Try.underlying5, Try.underlying21, Try.underlying121, Try.underlying38, Try.underlying25, Try.underlying33, Try.underlying2, Try.underlying22, Try.underlying56, Try.underlying54, List.zipWith, Option.map_some, Option.map_none, List.length_cons, List.length_nil, ne_eq, Int.reduceEq, not_false_eq_true, and_self, and_true, true_and, szStr, szInt, Option.getD_some, isNil, evStr, loadOne, newNode, cellsNode, nf0, nf1, nf2, nf3, nf4, nf5, nh0, nh1, nh2, nh3, nh4, nh5, loadNodeLen, underInt, underLen, underNode, topNode, zeroNode, okNode, putNode, putC, putLen, mkKept, mkA, mkAB, mkAL, mkL, niNode, eqNode, Nat.zero_add, evCall, List.size_toArray, List.append_nil, List.nil_append, List.map_cons, List.map_nil, argAV, argCell, List.toList_toArray, fieldTy, t1, q_eq, t2, ll_eq, t3]; first | done | rfl)); exact (fun h => by first | rfl | (simp at h; done) | exact absurd (Bool.and_eq_true_iff.mp h).2 (by decide))) | refine ops_no rfl rfl (by simp only [Ev.get, reduceIte, Nat.reduceEqDiff, nf0, nf1, nf2, nf3, nf4, nf5, nh0, nh1, nh2, nh3, nh4, nh5, t1, t2, t3]; first | done | rfl) (by decide) rfl (by decide) ?_ | refine ops_off rfl rfl rfl rfl (by decide) ?_ | (refine ops_nil ?_; intro e2 h2; simp only [restr, kpMay, List.map_cons, List.map_nil, Ev.get, reduceIte, Nat.reduceEqDiff] at h2; subst h2)) | (refine ops_here ?_; (fail_if_success (refine ops_case (B := true) rfl rfl rfl ?_ ?_)); (fail_if_success (refine ops_case (B := false) rfl rfl rfl ?_ ?_)); refine ops_case rfl rfl rfl (fun hB => ?_) (fun hB => ?_) <;> rw [hB]) | (refine runs_here ?_; refine runs_cond rfl (fun hc => ?_) (fun hc => ?_) <;> first | (cases hc; done) | skip))
        all_goals exact fin _ _ _ rfl (by first | exact fin_push | exact fin_two) (by clear fin hx t1 t2 t3 hC; simp only [Bool.not_eq_true', Bool.not_eq_false', Bool.not_true, Bool.not_false, Bool.and_true, Bool.true_and, Bool.and_eq_true, Bool.and_eq_false_iff, decide_eq_true_eq, decide_eq_false_iff_not, Bool.false_eq_true, reduceCtorEq, false_iff, true_iff, beq_iff_eq, bne_iff_ne, beq_eq_false_iff_ne, bne_eq_false_iff_eq, ne_eq, not_false_eq_true, not_true_eq_false, true_or, or_true, true_implies, false_implies, implies_true, and_self, true_and, false_and, or_false, false_or, and_true, and_false] at *; simp only [mayN, inQ, lenMay, not_false_eq_true, not_true_eq_false, true_or, or_true, true_implies, false_implies, implies_true, and_self, true_and, false_and, or_false, false_or, and_true, and_false] at *; omega)
      · cases h
    · cases h
  · cases h
theorem may_at5 : FunOk Try.prog 40 (mayAt fun op => decide (op = 5)) := by
  have hC := table_ok (P := Try.prog) (l := tabMay) (table_more number_ok (table_more lasts_ok (table_more count_ok table_nil)))
  have t1 := fun args mm => table_at (l := tabMay) (f := 57) (args := args) (m := mm) rfl
  have t2 := fun args mm => table_at (l := tabMay) (f := 58) (args := args) (m := mm) rfl
  have t3 := fun args mm => table_at (l := tabMay) (f := 59) (args := args) (m := mm) rfl
  refine fun_ok mixed hC Try.func40 rfl kpMay false rfl fun args m r h => ?_
  unfold mayAt at h
  split at h
  · rename_i cs
    split at h
    · rename_i x hx
      split at h
      · rename_i hop
        obtain rfl := unNd_row hx
        obtain ⟨op, a, b, c, k, u, n⟩ := x
        have hop := of_decide_eq_true hop
        simp only at hop
        simp only [Option.some.injEq] at h
        subst h
        refine ⟨Nat.le_of_ble_eq_true rfl, ?_⟩
        simp only [entry, List.length_cons, List.length_nil, List.range, List.range.loop, List.zip_cons_cons, List.zip_nil_right]
        have fin : ∀ (e : Env) (m' : Mem) (z : Bool), Ev.get e 2 = .v (.bool z) → finMem m m' = m → (z = true ↔ mayN ⟨op, a, b, c, k, u, n⟩) → Leaves Try.prog false Try.f40 m (.v (.bool (decide (mayN ⟨op, a, b, c, k, u, n⟩))), m) .ret e m' := fun e m' z h1 h2 h3 => by
          have : z = decide (mayN ⟨op, a, b, c, k, u, n⟩) := by rw [Bool.eq_iff_iff, decide_eq_true_eq]; exact h3
          rw [← this]
          exact leaves_fin rfl h1 h2
        subst hop
        repeat' (first | (first | refine runs_seq ?_ | refine runs_block ?_ | refine next_normal ?_ | refine inside_normal ?_ | refine next_exit ?_ | refine inside_exit ?_ | refine inside_other (by decide) ?_ | refine next_ret ?_ | refine inside_ret ?_ | refine runs_ops_kept ?_ | refine runs_skip ?_ | refine runs_exit ?_ | refine runs_ret ?_ | ((first | refine' ops_op rfl rfl (by decide) ?_ ?_ ?_ | refine' ops_yes rfl rfl (by simp only [Ev.get, reduceIte, Nat.reduceEqDiff, nf0, nf1, nf2, nf3, nf4, nf5, nh0, nh1, nh2, nh3, nh4, nh5, t1, t2, t3]; first | done | rfl) rfl (by decide) ?_ ?_ ?_ | refine' ops_op0 rfl rfl ?_ ?_ ?_); rotate_left 2; (focus (simp only [evOp, opd, constAV, constCell, Ev.get, reduceIte, Nat.reduceEqDiff, reduceCtorEq, evBinN, nilCmp, evBin, evInt, evUn, evConvert, evBuiltin, evLen, evField, evPart, tStr, tInt, tElem, tArr, tBool, tAgg, tField, Try.underlying9, Try.underlying3, Try.underlying4, Try.underlying5, Try.underlying21, Try.underlying121, Try.underlying38, Try.underlying25, Try.underlying33, Try.underlying2, Try.underlying22, Try.underlying56, Try.underlying54, List.zipWith, Option.map_some, Option.map_none, List.length_cons, List.length_nil, ne_eq, Int.reduceEq, not_false_eq_true, and_self, and_true, true_and, szStr, szInt, Option.getD_some, isNil, evStr, loadOne, newNode, cellsNode, nf0, nf1, nf2, nf3, nf4, nf5, nh0, nh1, nh2, nh3, nh4, nh5, loadNodeLen, underInt, underLen, underNode, topNode, zeroNode, okNode, putNode, putC, putLen, mkKept, mkA, mkAB, mkAL, mkL, niNode, eqNode, Nat.zero_add, evCall, List.size_toArray, List.append_nil, List.nil_append, List.map_cons, List.map_nil, argAV, argCell, List.toList_toArray, fieldTy, t1, q_eq, t2, ll_eq, t3]; first | done | rfl)); exact (fun h => by first | rfl | (simp at h; done) | exact absurd (Bool.and_eq_true_iff.mp h).2 (by decide))) | refine ops_no rfl rfl (by simp only [Ev.get, reduceIte, Nat.reduceEqDiff, nf0, nf1, nf2, nf3, nf4, nf5, nh0, nh1, nh2, nh3, nh4, nh5, t1, t2, t3]; first | done | rfl) (by decide) rfl (by decide) ?_ | refine ops_off rfl rfl rfl rfl (by decide) ?_ | (refine ops_nil ?_; intro e2 h2; simp only [restr, kpMay, List.map_cons, List.map_nil, Ev.get, reduceIte, Nat.reduceEqDiff] at h2; subst h2)) | (refine ops_here ?_; (fail_if_success (refine ops_case (B := true) rfl rfl rfl ?_ ?_)); (fail_if_success (refine ops_case (B := false) rfl rfl rfl ?_ ?_)); refine ops_case rfl rfl rfl (fun hB => ?_) (fun hB => ?_) <;> rw [hB]) | (refine runs_here ?_; refine runs_cond rfl (fun hc => ?_) (fun hc => ?_) <;> first | (cases hc; done) | skip))
        all_goals exact fin _ _ _ rfl (by first | exact fin_push | exact fin_two) (by clear fin hx t1 t2 t3 hC; simp only [Bool.not_eq_true', Bool.not_eq_false', Bool.not_true, Bool.not_false, Bool.and_true, Bool.true_and, Bool.and_eq_true, Bool.and_eq_false_iff, decide_eq_true_eq, decide_eq_false_iff_not, Bool.false_eq_true, reduceCtorEq, false_iff, true_iff, beq_iff_eq, bne_iff_ne, beq_eq_false_iff_ne, bne_eq_false_iff_eq, ne_eq, not_false_eq_true, not_true_eq_false, true_or, or_true, true_implies, false_implies, implies_true, and_self, true_and, false_and, or_false, false_or, and_true, and_false] at *; simp only [mayN, inQ, lenMay, not_false_eq_true, not_true_eq_false, true_or, or_true, true_implies, false_implies, implies_true, and_self, true_and, false_and, or_false, false_or, and_true, and_false] at *; omega)
      · cases h
    · cases h
  · cases h
end Go.Proofs.Ytojaokhkbmiidaa.Ev

namespace Go.Proofs.Ytojaokhkbmiidaa.Ev
open Go Go.Proofs
set_option maxRecDepth 10000
set_option maxHeartbeats 16000000
set_option linter.unusedVariables false
set_option linter.unusedSimpArgs false
attribute [local irreducible] Next Inside Runs Ops table nrow
theorem may_at6 : FunOk Try.prog 40 (mayAt fun op => decide (op = 6)) := by
  have hC := table_ok (P := Try.prog) (l := tabMay) (table_more number_ok (table_more lasts_ok (table_more count_ok table_nil)))
  have t1 := fun args mm => table_at (l := tabMay) (f := 57) (args := args) (m := mm) rfl
  have t2 := fun args mm => table_at (l := tabMay) (f := 58) (args := args) (m := mm) rfl
  have t3 := fun args mm => table_at (l := tabMay) (f := 59) (args := args) (m := mm) rfl
  refine fun_ok mixed hC Try.func40 rfl kpMay false rfl fun args m r h => ?_
  unfold mayAt at h
  split at h
  · rename_i cs
    split at h
    · rename_i x hx
      split at h
      · rename_i hop
        obtain rfl := unNd_row hx
        obtain ⟨op, a, b, c, k, u, n⟩ := x
        have hop := of_decide_eq_true hop
        simp only at hop
        simp only [Option.some.injEq] at h
        subst h
        refine ⟨Nat.le_of_ble_eq_true rfl, ?_⟩
        simp only [entry, List.length_cons, List.length_nil, List.range, List.range.loop, List.zip_cons_cons, List.zip_nil_right]
        have fin : ∀ (e : Env) (m' : Mem) (z : Bool), Ev.get e 2 = .v (.bool z) → finMem m m' = m → (z = true ↔ mayN ⟨op, a, b, c, k, u, n⟩) → Leaves Try.prog false Try.f40 m (.v (.bool (decide (mayN ⟨op, a, b, c, k, u, n⟩))), m) .ret e m' := fun e m' z h1 h2 h3 => by
          have : z = decide (mayN ⟨op, a, b, c, k, u, n⟩) := by rw [Bool.eq_iff_iff, decide_eq_true_eq]; exact h3
          rw [← this]
          exact leaves_fin rfl h1 h2
        subst hop
        repeat' (first | (first | refine runs_seq ?_ | refine runs_block ?_ | refine next_normal ?_ | refine inside_normal ?_ | refine next_exit ?_ | refine inside_exit ?_ | refine inside_other (by decide) ?_ | refine next_ret ?_ | refine inside_ret ?_ | refine runs_ops_kept ?_ | refine runs_skip ?_ | refine runs_exit ?_ | refine runs_ret ?_ | ((first | refine' ops_op rfl rfl (by decide) ?_ ?_ ?_ | refine' ops_yes rfl rfl (by simp only [Ev.get, reduceIte, Nat.reduceEqDiff, nf0, nf1, nf2, nf3, nf4, nf5, nh0, nh1, nh2, nh3, nh4, nh5, t1, t2, t3]; first | done | rfl) rfl (by decide) ?_ ?_ ?_ | refine' ops_op0 rfl rfl ?_ ?_ ?_); rotate_left 2; (focus (simp only [evOp, opd, constAV, constCell, Ev.get, reduceIte, Nat.reduceEqDiff, reduceCtorEq, evBinN, nilCmp, evBin, evInt, evUn, evConvert, evBuiltin, evLen, evField, evPart, tStr, tInt, tElem, tArr, tBool, tAgg, tField, Try.underlying9, Try.underlying3, Try.underlying4, Try.underlying5, Try.underlying21, Try.underlying121, Try.underlying38, Try.underlying25, Try.underlying33, Try.underlying2, Try.underlying22, Try.underlying56, Try.underlying54, List.zipWith, Option.map_some, Option.map_none, List.length_cons, List.length_nil, ne_eq, Int.reduceEq, not_false_eq_true, and_self, and_true, true_and, szStr, szInt, Option.getD_some, isNil, evStr, loadOne, newNode, cellsNode, nf0, nf1, nf2, nf3, nf4, nf5, nh0, nh1, nh2, nh3, nh4, nh5, loadNodeLen, underInt, underLen, underNode, topNode, zeroNode, okNode, putNode, putC, putLen, mkKept, mkA, mkAB, mkAL, mkL, niNode, eqNode, Nat.zero_add, evCall, List.size_toArray, List.append_nil, List.nil_append, List.map_cons, List.map_nil, argAV, argCell, List.toList_toArray, fieldTy, t1, q_eq, t2, ll_eq, t3]; first | done | rfl)); exact (fun h => by first | rfl | (simp at h; done) | exact absurd (Bool.and_eq_true_iff.mp h).2 (by decide))) | refine ops_no rfl rfl (by simp only [Ev.get, reduceIte, Nat.reduceEqDiff, nf0, nf1, nf2, nf3, nf4, nf5, nh0, nh1, nh2, nh3, nh4, nh5, t1, t2, t3]; first | done | rfl) (by decide) rfl (by decide) ?_ | refine ops_off rfl rfl rfl rfl (by decide) ?_ | (refine ops_nil ?_; intro e2 h2; simp only [restr, kpMay, List.map_cons, List.map_nil, Ev.get, reduceIte, Nat.reduceEqDiff] at h2; subst h2)) | (refine ops_here ?_; (fail_if_success (refine ops_case (B := true) rfl rfl rfl ?_ ?_)); (fail_if_success (refine ops_case (B := false) rfl rfl rfl ?_ ?_)); refine ops_case rfl rfl rfl (fun hB => ?_) (fun hB => ?_) <;> rw [hB]) | (refine runs_here ?_; refine runs_cond rfl (fun hc => ?_) (fun hc => ?_) <;> first | (cases hc; done) | skip))
        all_goals exact fin _ _ _ rfl (by first | exact fin_push | exact fin_two) (by clear fin hx t1 t2 t3 hC; simp only [Bool.not_eq_true', Bool.not_eq_false', Bool.not_true, Bool.not_false, Bool.and_true, Bool.true_and, Bool.and_eq_true, Bool.and_eq_false_iff, decide_eq_true_eq, decide_eq_false_iff_not, Bool.false_eq_true, reduceCtorEq, false_iff, true_iff, beq_iff_eq, bne_iff_ne, beq_eq_false_iff_ne, bne_eq_false_iff_eq, ne_eq, not_false_eq_true, not_true_eq_false, true_or, or_true, true_implies, false_implies, implies_true, and_self, true_and, false_and, or_false, false_or, and_true, and_false] at *; simp only [mayN, inQ, lenMay, not_false_eq_true, not_true_eq_false, true_or, or_true, true_implies, false_implies, implies_true, and_self, true_and, false_and, or_false, false_or, and_true, and_false] at *; omega)
      · cases h
    · cases h
  · cases h
theorem may_at7 : FunOk Try.prog 40 (mayAt fun op => decide (op = 7)) := by
  have hC := table_ok (P := Try.prog) (l := tabMay) (table_more number_ok (table_more lasts_ok (table_more count_ok table_nil)))
  have t1 := fun args mm => table_at (l := tabMay) (f := 57) (args := args) (m := mm) rfl
  have t2 := fun args mm => table_at (l := tabMay) (f := 58) (args := args) (m := mm) rfl
  have t3 := fun args mm => table_at (l := tabMay) (f := 59) (args := args) (m := mm) rfl
  refine fun_ok mixed hC Try.func40 rfl kpMay false rfl fun args m r h => ?_
  unfold mayAt at h
  split at h
  · rename_i cs
    split at h
    · rename_i x hx
      split at h
      · rename_i hop
        obtain rfl := unNd_row hx
        obtain ⟨op, a, b, c, k, u, n⟩ := x
        have hop := of_decide_eq_true hop
        simp only at hop
        simp only [Option.some.injEq] at h
        subst h
        refine ⟨Nat.le_of_ble_eq_true rfl, ?_⟩
        simp only [entry, List.length_cons, List.length_nil, List.range, List.range.loop, List.zip_cons_cons, List.zip_nil_right]
        have fin : ∀ (e : Env) (m' : Mem) (z : Bool), Ev.get e 2 = .v (.bool z) → finMem m m' = m → (z = true ↔ mayN ⟨op, a, b, c, k, u, n⟩) → Leaves Try.prog false Try.f40 m (.v (.bool (decide (mayN ⟨op, a, b, c, k, u, n⟩))), m) .ret e m' := fun e m' z h1 h2 h3 => by
          have : z = decide (mayN ⟨op, a, b, c, k, u, n⟩) := by rw [Bool.eq_iff_iff, decide_eq_true_eq]; exact h3
          rw [← this]
          exact leaves_fin rfl h1 h2
        subst hop
        repeat' (first | (first | refine runs_seq ?_ | refine runs_block ?_ | refine next_normal ?_ | refine inside_normal ?_ | refine next_exit ?_ | refine inside_exit ?_ | refine inside_other (by decide) ?_ | refine next_ret ?_ | refine inside_ret ?_ | refine runs_ops_kept ?_ | refine runs_skip ?_ | refine runs_exit ?_ | refine runs_ret ?_ | ((first | refine' ops_op rfl rfl (by decide) ?_ ?_ ?_ | refine' ops_yes rfl rfl (by simp only [Ev.get, reduceIte, Nat.reduceEqDiff, nf0, nf1, nf2, nf3, nf4, nf5, nh0, nh1, nh2, nh3, nh4, nh5, t1, t2, t3]; first | done | rfl) rfl (by decide) ?_ ?_ ?_ | refine' ops_op0 rfl rfl ?_ ?_ ?_); rotate_left 2; (focus (simp only [evOp, opd, constAV, constCell, Ev.get, reduceIte, Nat.reduceEqDiff, reduceCtorEq, evBinN, nilCmp, evBin, evInt, evUn, evConvert, evBuiltin, evLen, evField, evPart, tStr, tInt, tElem, tArr, tBool, tAgg, tField, Try.underlying9, Try.underlying3, Try.underlying4, Try.underlying5, Try.underlying21, Try.underlying121, Try.underlying38, Try.underlying25, Try.underlying33, Try.underlying2, Try.underlying22, Try.underlying56, Try.underlying54, List.zipWith, Option.map_some, Option.map_none, List.length_cons, List.length_nil, ne_eq, Int.reduceEq, not_false_eq_true, and_self, and_true, true_and, szStr, szInt, Option.getD_some, isNil, evStr, loadOne, newNode, cellsNode, nf0, nf1, nf2, nf3, nf4, nf5, nh0, nh1, nh2, nh3, nh4, nh5, loadNodeLen, underInt, underLen, underNode, topNode, zeroNode, okNode, putNode, putC, putLen, mkKept, mkA, mkAB, mkAL, mkL, niNode, eqNode, Nat.zero_add, evCall, List.size_toArray, List.append_nil, List.nil_append, List.map_cons, List.map_nil, argAV, argCell, List.toList_toArray, fieldTy, t1, q_eq, t2, ll_eq, t3]; first | done | rfl)); exact (fun h => by first | rfl | (simp at h; done) | exact absurd (Bool.and_eq_true_iff.mp h).2 (by decide))) | refine ops_no rfl rfl (by simp only [Ev.get, reduceIte, Nat.reduceEqDiff, nf0, nf1, nf2, nf3, nf4, nf5, nh0, nh1, nh2, nh3, nh4, nh5, t1, t2, t3]; first | done | rfl) (by decide) rfl (by decide) ?_ | refine ops_off rfl rfl rfl rfl (by decide) ?_ | (refine ops_nil ?_; intro e2 h2; simp only [restr, kpMay, List.map_cons, List.map_nil, Ev.get, reduceIte, Nat.reduceEqDiff] at h2; subst h2)) | (refine ops_here ?_; (fail_if_success (refine ops_case (B := true) rfl rfl rfl ?_ ?_)); (fail_if_success (refine ops_case (B := false) rfl rfl rfl ?_ ?_)); refine ops_case rfl rfl rfl (fun hB => ?_) (fun hB => ?_) <;> rw [hB]) | (refine runs_here ?_; refine runs_cond rfl (fun hc => ?_) (fun hc => ?_) <;> first | (cases hc; done) | skip))
        all_goals exact fin _ _ _ rfl (by first | exact fin_push | exact fin_two) (by clear fin hx t1 t2 t3 hC; simp only [Bool.not_eq_true', Bool.not_eq_false', Bool.not_true, Bool.not_false, Bool.and_true, Bool.true_and, Bool.and_eq_true, Bool.and_eq_false_iff, decide_eq_true_eq, decide_eq_false_iff_not, Bool.false_eq_true, reduceCtorEq, false_iff, true_iff, beq_iff_eq, bne_iff_ne, beq_eq_false_iff_ne, bne_eq_false_iff_eq, ne_eq, not_false_eq_true, not_true_eq_false, true_or, or_true, true_implies, false_implies, implies_true, and_self, true_and, false_and, or_false, false_or, and_true, and_false] at *; simp only [mayN, inQ, lenMay, not_false_eq_true, not_true_eq_false, true_or, or_true, true_implies, false_implies, implies_true, and_self, true_and, false_and, or_false, false_or, and_true, and_false] at *; omega)
      · cases h
    · cases h
  · cases h
end Go.Proofs.Ytojaokhkbmiidaa.Ev

namespace Go.Proofs.Ytojaokhkbmiidaa.Ev
open Go Go.Proofs
set_option maxRecDepth 10000
set_option maxHeartbeats 16000000
set_option linter.unusedVariables false
set_option linter.unusedSimpArgs false
attribute [local irreducible] Next Inside Runs Ops table nrow
theorem may_at8 : FunOk Try.prog 40 (mayAt fun op => decide (op = 8)) := by
  have hC := table_ok (P := Try.prog) (l := tabMay) (table_more number_ok (table_more lasts_ok (table_more count_ok table_nil)))
  have t1 := fun args mm => table_at (l := tabMay) (f := 57) (args := args) (m := mm) rfl
  have t2 := fun args mm => table_at (l := tabMay) (f := 58) (args := args) (m := mm) rfl
  have t3 := fun args mm => table_at (l := tabMay) (f := 59) (args := args) (m := mm) rfl
  refine fun_ok mixed hC Try.func40 rfl kpMay false rfl fun args m r h => ?_
  unfold mayAt at h
  split at h
  · rename_i cs
    split at h
    · rename_i x hx
      split at h
      · rename_i hop
        obtain rfl := unNd_row hx
        obtain ⟨op, a, b, c, k, u, n⟩ := x
        have hop := of_decide_eq_true hop
        simp only at hop
        simp only [Option.some.injEq] at h
        subst h
        refine ⟨Nat.le_of_ble_eq_true rfl, ?_⟩
        simp only [entry, List.length_cons, List.length_nil, List.range, List.range.loop, List.zip_cons_cons, List.zip_nil_right]
        have fin : ∀ (e : Env) (m' : Mem) (z : Bool), Ev.get e 2 = .v (.bool z) → finMem m m' = m → (z = true ↔ mayN ⟨op, a, b, c, k, u, n⟩) → Leaves Try.prog false Try.f40 m (.v (.bool (decide (mayN ⟨op, a, b, c, k, u, n⟩))), m) .ret e m' := fun e m' z h1 h2 h3 => by
          have : z = decide (mayN ⟨op, a, b, c, k, u, n⟩) := by rw [Bool.eq_iff_iff, decide_eq_true_eq]; exact h3
          rw [← this]
          exact leaves_fin rfl h1 h2
        subst hop
        repeat' (first | (first | refine runs_seq ?_ | refine runs_block ?_ | refine next_normal ?_ | refine inside_normal ?_ | refine next_exit ?_ | refine inside_exit ?_ | refine inside_other (by decide) ?_ | refine next_ret ?_ | refine inside_ret ?_ | refine runs_ops_kept ?_ | refine runs_skip ?_ | refine runs_exit ?_ | refine runs_ret ?_ | ((first | refine' ops_op rfl rfl (by decide) ?_ ?_ ?_ | refine' ops_yes rfl rfl (by simp only [Ev.get, reduceIte, Nat.reduceEqDiff, nf0, nf1, nf2, nf3, nf4, nf5, nh0, nh1, nh2, nh3, nh4, nh5, t1, t2, t3]; first | done | rfl) rfl (by decide) ?_ ?_ ?_ | refine' ops_op0 rfl rfl ?_ ?_ ?_); rotate_left 2; (focus (simp only [evOp, opd, constAV, constCell, Ev.get, reduceIte, Nat.reduceEqDiff, reduceCtorEq, evBinN, nilCmp, evBin, evInt, evUn, evConvert, evBuiltin, evLen, evField, evPart, tStr, tInt, tElem, tArr, tBool, tAgg, tField, Try.underlying9, Try.underlying3, Try.underlying4, Try.underlying5, Try.underlying21, Try.underlying121, Try.underlying38, Try.underlying25, Try.underlying33, Try.underlying2, Try.underlying22, Try.underlying56, Try.underlying54, List.zipWith, Option.map_some, Option.map_none, List.length_cons, List.length_nil, ne_eq, Int.reduceEq, not_false_eq_true, and_self, and_true, true_and, szStr, szInt, Option.getD_some, isNil, evStr, loadOne, newNode, cellsNode, nf0, nf1, nf2, nf3, nf4, nf5, nh0, nh1, nh2, nh3, nh4, nh5, loadNodeLen, underInt, underLen, underNode, topNode, zeroNode, okNode, putNode, putC, putLen, mkKept, mkA, mkAB, mkAL, mkL, niNode, eqNode, Nat.zero_add, evCall, List.size_toArray, List.append_nil, List.nil_append, List.map_cons, List.map_nil, argAV, argCell, List.toList_toArray, fieldTy, t1, q_eq, t2, ll_eq, t3]; first | done | rfl)); exact (fun h => by first | rfl | (simp at h; done) | exact absurd (Bool.and_eq_true_iff.mp h).2 (by decide))) | refine ops_no rfl rfl (by simp only [Ev.get, reduceIte, Nat.reduceEqDiff, nf0, nf1, nf2, nf3, nf4, nf5, nh0, nh1, nh2, nh3, nh4, nh5, t1, t2, t3]; first | done | rfl) (by decide) rfl (by decide) ?_ | refine ops_off rfl rfl rfl rfl (by decide) ?_ | (refine ops_nil ?_; intro e2 h2; simp only [restr, kpMay, List.map_cons, List.map_nil, Ev.get, reduceIte, Nat.reduceEqDiff] at h2; subst h2)) | (refine ops_here ?_; (fail_if_success (refine ops_case (B := true) rfl rfl rfl ?_ ?_)); (fail_if_success (refine ops_case (B := false) rfl rfl rfl ?_ ?_)); refine ops_case rfl rfl rfl (fun hB => ?_) (fun hB => ?_) <;> rw [hB]) | (refine runs_here ?_; refine runs_cond rfl (fun hc => ?_) (fun hc => ?_) <;> first | (cases hc; done) | skip))
        all_goals exact fin _ _ _ rfl (by first | exact fin_push | exact fin_two) (by clear fin hx t1 t2 t3 hC; simp only [Bool.not_eq_true', Bool.not_eq_false', Bool.not_true, Bool.not_false, Bool.and_true, Bool.true_and, Bool.and_eq_true, Bool.and_eq_false_iff, decide_eq_true_eq, decide_eq_false_iff_not, Bool.false_eq_true, reduceCtorEq, false_iff, true_iff, beq_iff_eq, bne_iff_ne, beq_eq_false_iff_ne, bne_eq_false_iff_eq, ne_eq, not_false_eq_true, not_true_eq_false, true_or, or_true, true_implies, false_implies, implies_true, and_self, true_and, false_and, or_false, false_or, and_true, and_false] at *; simp only [mayN, inQ, lenMay, not_false_eq_true, not_true_eq_false, true_or, or_true, true_implies, false_implies, implies_true, and_self, true_and, false_and, or_false, false_or, and_true, and_false] at *; omega)
      · cases h
    · cases h
  · cases h
theorem may_at9 : FunOk Try.prog 40 (mayAt fun op => decide (op = 9)) := by
  have hC := table_ok (P := Try.prog) (l := tabMay) (table_more number_ok (table_more lasts_ok (table_more count_ok table_nil)))
  have t1 := fun args mm => table_at (l := tabMay) (f := 57) (args := args) (m := mm) rfl
  have t2 := fun args mm => table_at (l := tabMay) (f := 58) (args := args) (m := mm) rfl
  have t3 := fun args mm => table_at (l := tabMay) (f := 59) (args := args) (m := mm) rfl
  refine fun_ok mixed hC Try.func40 rfl kpMay false rfl fun args m r h => ?_
  unfold mayAt at h
  split at h
  · rename_i cs
    split at h
    · rename_i x hx
      split at h
      · rename_i hop
        obtain rfl := unNd_row hx
        obtain ⟨op, a, b, c, k, u, n⟩ := x
        have hop := of_decide_eq_true hop
        simp only at hop
        simp only [Option.some.injEq] at h
        subst h
        refine ⟨Nat.le_of_ble_eq_true rfl, ?_⟩
        simp only [entry, List.length_cons, List.length_nil, List.range, List.range.loop, List.zip_cons_cons, List.zip_nil_right]
        have fin : ∀ (e : Env) (m' : Mem) (z : Bool), Ev.get e 2 = .v (.bool z) → finMem m m' = m → (z = true ↔ mayN ⟨op, a, b, c, k, u, n⟩) → Leaves Try.prog false Try.f40 m (.v (.bool (decide (mayN ⟨op, a, b, c, k, u, n⟩))), m) .ret e m' := fun e m' z h1 h2 h3 => by
          have : z = decide (mayN ⟨op, a, b, c, k, u, n⟩) := by rw [Bool.eq_iff_iff, decide_eq_true_eq]; exact h3
          rw [← this]
          exact leaves_fin rfl h1 h2
        subst hop
        repeat' (first | (first | refine runs_seq ?_ | refine runs_block ?_ | refine next_normal ?_ | refine inside_normal ?_ | refine next_exit ?_ | refine inside_exit ?_ | refine inside_other (by decide) ?_ | refine next_ret ?_ | refine inside_ret ?_ | refine runs_ops_kept ?_ | refine runs_skip ?_ | refine runs_exit ?_ | refine runs_ret ?_ | ((first | refine' ops_op rfl rfl (by decide) ?_ ?_ ?_ | refine' ops_yes rfl rfl (by simp only [Ev.get, reduceIte, Nat.reduceEqDiff, nf0, nf1, nf2, nf3, nf4, nf5, nh0, nh1, nh2, nh3, nh4, nh5, t1, t2, t3]; first | done | rfl) rfl (by decide) ?_ ?_ ?_ | refine' ops_op0 rfl rfl ?_ ?_ ?_); rotate_left 2; (focus (simp only [evOp, opd, constAV, constCell, Ev.get, reduceIte, Nat.reduceEqDiff, reduceCtorEq, evBinN, nilCmp, evBin, evInt, evUn, evConvert, evBuiltin, evLen, evField, evPart, tStr, tInt, tElem, tArr, tBool, tAgg, tField, Try.underlying9, Try.underlying3, Try.underlying4, Try.underlying5, Try.underlying21, Try.underlying121, Try.underlying38, Try.underlying25, Try.underlying33, Try.underlying2, Try.underlying22, Try.underlying56, Try.underlying54, List.zipWith, Option.map_some, Option.map_none, List.length_cons, List.length_nil, ne_eq, Int.reduceEq, not_false_eq_true, and_self, and_true, true_and, szStr, szInt, Option.getD_some, isNil, evStr, loadOne, newNode, cellsNode, nf0, nf1, nf2, nf3, nf4, nf5, nh0, nh1, nh2, nh3, nh4, nh5, loadNodeLen, underInt, underLen, underNode, topNode, zeroNode, okNode, putNode, putC, putLen, mkKept, mkA, mkAB, mkAL, mkL, niNode, eqNode, Nat.zero_add, evCall, List.size_toArray, List.append_nil, List.nil_append, List.map_cons, List.map_nil, argAV, argCell, List.toList_toArray, fieldTy, t1, q_eq, t2, ll_eq, t3]; first | done | rfl)); exact (fun h => by first | rfl | (simp at h; done) | exact absurd (Bool.and_eq_true_iff.mp h).2 (by decide))) | refine ops_no rfl rfl (by simp only [Ev.get, reduceIte, Nat.reduceEqDiff, nf0, nf1, nf2, nf3, nf4, nf5, nh0, nh1, nh2, nh3, nh4, nh5, t1, t2, t3]; first | done | rfl) (by decide) rfl (by decide) ?_ | refine ops_off rfl rfl rfl rfl (by decide) ?_ | (refine ops_nil ?_; intro e2 h2; simp only [restr, kpMay, List.map_cons, List.map_nil, Ev.get, reduceIte, Nat.reduceEqDiff] at h2; subst h2)) | (refine ops_here ?_; (fail_if_success (refine ops_case (B := true) rfl rfl rfl ?_ ?_)); (fail_if_success (refine ops_case (B := false) rfl rfl rfl ?_ ?_)); refine ops_case rfl rfl rfl (fun hB => ?_) (fun hB => ?_) <;> rw [hB]) | (refine runs_here ?_; refine runs_cond rfl (fun hc => ?_) (fun hc => ?_) <;> first | (cases hc; done) | skip))
        all_goals exact fin _ _ _ rfl (by first | exact fin_push | exact fin_two) (by clear fin hx t1 t2 t3 hC; simp only [Bool.not_eq_true', Bool.not_eq_false', Bool.not_true, Bool.not_false, Bool.and_true, Bool.true_and, Bool.and_eq_true, Bool.and_eq_false_iff, decide_eq_true_eq, decide_eq_false_iff_not, Bool.false_eq_true, reduceCtorEq, false_iff, true_iff, beq_iff_eq, bne_iff_ne, beq_eq_false_iff_ne, bne_eq_false_iff_eq, ne_eq, not_false_eq_true, not_true_eq_false, true_or, or_true, true_implies, false_implies, implies_true, and_self, true_and, false_and, or_false, false_or, and_true, and_false] at *; simp only [mayN, inQ, lenMay, not_false_eq_true, not_true_eq_false, true_or, or_true, true_implies, false_implies, implies_true, and_self, true_and, false_and, or_false, false_or, and_true, and_false] at *; omega)
      · cases h
    · cases h
  · cases h
theorem may_else : FunOk Try.prog 40 (mayAt fun op => decide (op < 1 ∨ 9 < op)) := by
  have hC := table_ok (P := Try.prog) (l := tabMay) (table_more number_ok (table_more lasts_ok (table_more count_ok table_nil)))
  have t1 := fun args mm => table_at (l := tabMay) (f := 57) (args := args) (m := mm) rfl
  have t2 := fun args mm => table_at (l := tabMay) (f := 58) (args := args) (m := mm) rfl
  have t3 := fun args mm => table_at (l := tabMay) (f := 59) (args := args) (m := mm) rfl
  refine fun_ok mixed hC Try.func40 rfl kpMay false rfl fun args m r h => ?_
  unfold mayAt at h
  split at h
  · rename_i cs
    split at h
    · rename_i x hx
      split at h
      · rename_i hop
        obtain rfl := unNd_row hx
        obtain ⟨op, a, b, c, k, u, n⟩ := x
        have hop := of_decide_eq_true hop
        simp only at hop
        simp only [Option.some.injEq] at h
        subst h
        refine ⟨Nat.le_of_ble_eq_true rfl, ?_⟩
        simp only [entry, List.length_cons, List.length_nil, List.range, List.range.loop, List.zip_cons_cons, List.zip_nil_right]
        have fin : ∀ (e : Env) (m' : Mem) (z : Bool), Ev.get e 2 = .v (.bool z) → finMem m m' = m → (z = true ↔ mayN ⟨op, a, b, c, k, u, n⟩) → Leaves Try.prog false Try.f40 m (.v (.bool (decide (mayN ⟨op, a, b, c, k, u, n⟩))), m) .ret e m' := fun e m' z h1 h2 h3 => by
          have : z = decide (mayN ⟨op, a, b, c, k, u, n⟩) := by rw [Bool.eq_iff_iff, decide_eq_true_eq]; exact h3
          rw [← this]
          exact leaves_fin rfl h1 h2
        have e1 : (op == 1) = false := beq_eq_false_iff_ne.2 (by omega)
        have e2 : (op == 2) = false := beq_eq_false_iff_ne.2 (by omega)
        have e3 : (op == 3) = false := beq_eq_false_iff_ne.2 (by omega)
        have e4 : (op == 4) = false := beq_eq_false_iff_ne.2 (by omega)
        have e5 : (op == 5) = false := beq_eq_false_iff_ne.2 (by omega)
        have e6 : (op == 6) = false := beq_eq_false_iff_ne.2 (by omega)
        have e7 : (op == 7) = false := beq_eq_false_iff_ne.2 (by omega)
        have e8 : (op == 8) = false := beq_eq_false_iff_ne.2 (by omega)
        have e9 : (op == 9) = false := beq_eq_false_iff_ne.2 (by omega)
        repeat' (first | (first | refine runs_seq ?_ | refine runs_block ?_ | refine next_normal ?_ | refine inside_normal ?_ | refine next_exit ?_ | refine inside_exit ?_ | refine inside_other (by decide) ?_ | refine next_ret ?_ | refine inside_ret ?_ | refine runs_ops_kept ?_ | refine runs_skip ?_ | refine runs_exit ?_ | refine runs_ret ?_ | ((first | refine' ops_op rfl rfl (by decide) ?_ ?_ ?_ | refine' ops_yes rfl rfl (by simp only [Ev.get, reduceIte, Nat.reduceEqDiff, nf0, nf1, nf2, nf3, nf4, nf5, nh0, nh1, nh2, nh3, nh4, nh5, t1, t2, t3, e1, e2, e3, e4, e5, e6, e7, e8]; first | done | rfl) rfl (by decide) ?_ ?_ ?_ | refine' ops_op0 rfl rfl ?_ ?_ ?_); rotate_left 2; (focus (simp only [evOp, opd, constAV, constCell, Ev.get, reduceIte, Nat.reduceEqDiff, reduceCtorEq, evBinN, nilCmp, evBin, evInt, evUn, evConvert, evBuiltin, evLen, evField, evPart, tStr, tInt, tElem, tArr, tBool, tAgg, tField, Try.underlying9, Try.underlying3, Try.underlying4, Try.underlying5, Try.underlying21, Try.underlying121, Try.underlying38, Try.underlying25, Try.underlying33, Try.underlying2, Try.underlying22, Try.underlying56, Try.underlying54, List.zipWith, Option.map_some, Option.map_none, List.length_cons, List.length_nil, ne_eq, Int.reduceEq, not_false_eq_true, and_self, and_true, true_and, szStr, szInt, Option.getD_some, isNil, evStr, loadOne, newNode, cellsNode, nf0, nf1, nf2, nf3, nf4, nf5, nh0, nh1, nh2, nh3, nh4, nh5, loadNodeLen, underInt, underLen, underNode, topNode, zeroNode, okNode, putNode, putC, putLen, mkKept, mkA, mkAB, mkAL, mkL, niNode, eqNode, Nat.zero_add, evCall, List.size_toArray, List.append_nil, List.nil_append, List.map_cons, List.map_nil, argAV, argCell, List.toList_toArray, fieldTy, t1, q_eq, t2, ll_eq, t3, e1, e2, e3, e4, e5, e6, e7, e8]; first | done | rfl)); exact (fun h => by first | rfl | (simp at h; done) | exact absurd (Bool.and_eq_true_iff.mp h).2 (by decide))) | refine ops_no rfl rfl (by simp only [Ev.get, reduceIte, Nat.reduceEqDiff, nf0, nf1, nf2, nf3, nf4, nf5, nh0, nh1, nh2, nh3, nh4, nh5, t1, t2, t3, e1, e2, e3, e4, e5, e6, e7, e8]; first | done | rfl) (by decide) rfl (by decide) ?_ | refine ops_off rfl rfl rfl rfl (by decide) ?_ | (refine ops_nil ?_; intro e2 h2; simp only [restr, kpMay, List.map_cons, List.map_nil, Ev.get, reduceIte, Nat.reduceEqDiff] at h2; subst h2)) | (refine ops_here ?_; (fail_if_success (refine ops_case (B := true) rfl rfl rfl ?_ ?_)); (fail_if_success (refine ops_case (B := false) rfl rfl rfl ?_ ?_)); refine ops_case rfl rfl rfl (fun hB => ?_) (fun hB => ?_) <;> rw [hB]) | (refine runs_here ?_; refine runs_cond rfl (fun hc => ?_) (fun hc => ?_) <;> first | (cases hc; done) | skip))
        all_goals exact fin _ _ _ rfl (by first | exact fin_push | exact fin_two) (by clear fin hx t1 t2 t3 hC; simp only [Bool.not_eq_true', Bool.not_eq_false', Bool.not_true, Bool.not_false, Bool.and_true, Bool.true_and, Bool.and_eq_true, Bool.and_eq_false_iff, decide_eq_true_eq, decide_eq_false_iff_not, Bool.false_eq_true, reduceCtorEq, false_iff, true_iff, beq_iff_eq, bne_iff_ne, beq_eq_false_iff_ne, bne_eq_false_iff_eq, ne_eq, not_false_eq_true, not_true_eq_false, true_or, or_true, true_implies, false_implies, implies_true, and_self, true_and, false_and, or_false, false_or, and_true, and_false] at *; simp only [mayN, inQ, lenMay, not_false_eq_true, not_true_eq_false, true_or, or_true, true_implies, false_implies, implies_true, and_self, true_and, false_and, or_false, false_or, and_true, and_false] at *; omega)
      · cases h
    · cases h
  · cases h
end Go.Proofs.Ytojaokhkbmiidaa.Ev

namespace Go.Proofs.Ytojaokhkbmiidaa.Ev
open Go Go.Proofs
theorem may_ok : FunOk Try.prog 40 mayG := may_all fun op => by
  rcases (by omega : (op < 1 ∨ 9 < op) ∨ op = 1 ∨ op = 2 ∨ op = 3 ∨ op = 4 ∨ op = 5 ∨ op = 6 ∨ op = 7 ∨ op = 8 ∨ op = 9) with h | h | h | h | h | h | h | h | h | h
  · exact ⟨_, decide_eq_true h, may_else⟩
  · exact ⟨_, decide_eq_true h, may_at1⟩
  · exact ⟨_, decide_eq_true h, may_at2⟩
  · exact ⟨_, decide_eq_true h, may_at3⟩
  · exact ⟨_, decide_eq_true h, may_at4⟩
  · exact ⟨_, decide_eq_true h, may_at5⟩
  · exact ⟨_, decide_eq_true h, may_at6⟩
  · exact ⟨_, decide_eq_true h, may_at7⟩
  · exact ⟨_, decide_eq_true h, may_at8⟩
  · exact ⟨_, decide_eq_true h, may_at9⟩
end Go.Proofs.Ytojaokhkbmiidaa.Ev

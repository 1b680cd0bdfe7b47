/- Words for all walks: types, numbers, texts, lists of texts. -/
import Derived.Test.YtojaokhkbmiidaaGreatMa2
import Derived.Test.YtojaokhkbmiidaaGreatChecked
import Derived.KernelRfl
namespace Go.Proofs.YtojaokhkbmiidaaGreat.Ev
open Go Go.Proofs
set_option maxRecDepth 10000
set_option linter.unusedVariables false
set_option linter.unusedSimpArgs false
attribute [go_sem] Tryz.underlying9 Tryz.underlying3 Tryz.underlying4 Tryz.underlying5 Tryz.underlying21 Tryz.underlying160 Tryz.underlying22 Tryz.underlying77 Tryz.underlying165 Tryz.underlying41 Tryz.underlying2 Tryz.underlying173 Tryz.underlying70 Tryz.underlying102 Tryz.underlying33
theorem mixed : Tryz.prog.follows .mixedOrders = true := Tryz.checked.mixed
theorem strS : tStr Tryz.prog 9 = true := by simp only [tStr, Tryz.underlying9]
theorem szInt : tSize Tryz.prog 3 = some 1 := by kernel_rfl
theorem szStr : tSize Tryz.prog 9 = some 1 := by kernel_rfl
theorem elStrs : tElem Tryz.prog 22 = some 9 := by simp only [tElem, Tryz.underlying22]
theorem naStrs : tArr Tryz.prog 22 = none := by simp only [tArr, Tryz.underlying22]
theorem appStrs : appB Tryz.prog 22 22 1 = true := by kernel_rfl
theorem elInts : tElem Tryz.prog 77 = some 3 := by simp only [tElem, Tryz.underlying77]
theorem naInts : tArr Tryz.prog 77 = none := by simp only [tArr, Tryz.underlying77]
theorem appInts : appB Tryz.prog 77 77 1 = true := by kernel_rfl
theorem loadStr {m : Mem} {c : AV} {cs : List AV} : evLoad Tryz.prog m 9 (.eptr (c :: cs)) = some c := load_one (by simp only [tAgg, Tryz.underlying9]) szStr
theorem loadInt {m : Mem} {c : AV} {cs : List AV} : evLoad Tryz.prog m 3 (.eptr (c :: cs)) = some c := load_one (by simp only [tAgg, Tryz.underlying3]) szInt
theorem mkInts0 : evBuildSlice Tryz.prog 77 0 [] = some (.lst .full 1 []) := build_nil appInts
theorem mkInts1 {b : Int} : evBuildSlice Tryz.prog 77 1 [(0, .v (.int .i64 b))] = some (.lst .full 1 [[.v (.int .i64 b)]]) := build_one appInts (by decide) rfl rfl
theorem mkStrs0 : evBuildSlice Tryz.prog 22 0 [] = some (.lst .full 1 []) := build_nil appStrs
theorem mkStrs1 {b : ByteArray} : evBuildSlice Tryz.prog 22 1 [(0, .v (.string b))] = some (.lst .full 1 [[.v (.string b)]]) := build_one appStrs (by decide) rfl rfl
theorem i64_wrap {n : Int} (h0 : -9223372036854775808 ≤ n) (h : n ≤ 9223372036854775807) : IntKind.i64.wrap n = n := wrap_i64 h0 h
theorem tmod_nat (a b : Nat) : (a : Int).tmod (b : Int) = (a % b : Nat) := by rfl
def inI (n : Int) : Prop := -9223372036854775808 ≤ n ∧ n ≤ 9223372036854775807
instance (n : Int) : Decidable (inI n) := by unfold inI; exact inferInstance
theorem next_i64 {i : Nat} (h : i < 9223372036854775807) : IntKind.i64.wrap ((i : Int) + 1) = ((i + 1 : Nat) : Int) := i64_wrap (n := ((i + 1 : Nat) : Int)) (by omega) (by omega)
/-! ### lists -/
theorem getD_ext {α : Type} {d : α} {l1 l2 : List α} (hl : l1.length = l2.length) (h : ∀ i, i < l1.length → l1.getD i d = l2.getD i d) : l1 = l2 := by
  apply List.ext_getElem hl
  intro i h1 h2
  have := h i h1
  simpa [List.getD, List.getElem?_eq_getElem h1, List.getElem?_eq_getElem h2] using this
theorem take_next {α : Type} {d : α} {l : List α} {i : Nat} (hi : i < l.length) : l.take (i + 1) = l.take i ++ [l.getD i d] := by
  rw [List.take_add_one, List.getElem?_eq_getElem hi]
  simp [List.getD, List.getElem?_eq_getElem hi]
theorem drop_next {α : Type} {d : α} {l : List α} {i : Nat} (hi : i < l.length) : l.drop i = l.getD i d :: l.drop (i + 1) := by
  rw [List.drop_eq_getElem_cons hi]
  simp [List.getD, List.getElem?_eq_getElem hi]
/-! ### texts -/
theorem bytes_same {a b : ByteArray} : (a == b) = true ↔ a = b := by
  obtain ⟨a⟩ := a
  obtain ⟨b⟩ := b
  have e : ((⟨a⟩ : ByteArray) == ⟨b⟩) = (a == b) := rfl
  rw [e, beq_iff_eq]
  constructor
  · rintro rfl; rfl
  · intro h; cases h; rfl
theorem bytes_not {a b : ByteArray} : (a == b) = false ↔ a ≠ b := by
  rw [← Bool.not_eq_true, bytes_same]
theorem bytes_ne {a b : ByteArray} : (a != b) = true ↔ a ≠ b := by
  unfold bne
  rw [Bool.not_eq_true', bytes_not]
theorem bytes_self (a : ByteArray) : (a == a) = true := bytes_same.mpr rfl
theorem bytes_dec {a b : ByteArray} : (a == b) = decide (a = b) := by
  by_cases h : a = b
  · rw [decide_eq_true h, bytes_same.2 h]
  · rw [decide_eq_false h, bytes_not.2 h]
def rowsS (l : List ByteArray) : List (List AV) := l.map fun (s : ByteArray) => [.v (.string s)]
theorem rowsS_len (l : List ByteArray) : (rowsS l).length = l.length := List.length_map ..
theorem rowsS_app (l l2 : List ByteArray) : rowsS l ++ rowsS l2 = rowsS (l ++ l2) := List.map_append.symm
theorem rowsS_get {l : List ByteArray} {i : Nat} (hi : i < l.length) : (rowsS l)[i]? = some [.v (.string (l.getD i ⟨#[]⟩))] := by
  simp [rowsS, List.getD, List.getElem?_eq_getElem hi]
def unS : List (List AV) → Option (List ByteArray)
  | [] => some []
  | [.v (.string s)] :: r => (unS r).map fun l => s :: l
  | _ => none
theorem unS_some : ∀ {rows : List (List AV)} {l : List ByteArray}, unS rows = some l → rows = rowsS l
  | [], l, h => by simp only [unS, Option.some.injEq] at h; subst h; rfl
  | row :: r, l, h => by
    unfold unS at h
    split at h
    · rename_i heq; cases heq
    · rename_i b r' heq
      cases heq
      cases hr : unS r with
      | none => simp [hr] at h
      | some l' =>
        simp only [hr, Option.map_some, Option.some.injEq] at h
        subst h
        rw [unS_some hr]
        rfl
    · cases h
theorem unS_rowsS : ∀ (l : List ByteArray), unS (rowsS l) = some l
  | [] => rfl
  | s :: l => by
    have e : rowsS (s :: l) = [.v (.string s)] :: rowsS l := rfl
    rw [e, unS, unS_rowsS l]
    rfl
theorem atStrs {g : Grow} {kk : IntKind} {l : List ByteArray} {i : Nat} (hi : i < l.length) : evIndexAddr Tryz.prog 22 (.lst g 1 (rowsS l)) (.v (.int kk (i : Int))) = some (.eptr [.v (.string (l.getD i ⟨#[]⟩))]) := at_list elStrs naStrs szStr (rowsS_get hi)
theorem atInts {g : Grow} {kk : IntKind} {l : List Int} {i : Nat} (hi : i < l.length) : evIndexAddr Tryz.prog 77 (.lst g 1 (rowsI l)) (.v (.int kk (i : Int))) = some (.eptr [.v (.int .i64 (l.getD i 0))]) := at_list elInts naInts szInt (rowsI_get hi)
end Go.Proofs.YtojaokhkbmiidaaGreat.Ev

namespace Go.Proofs.YtojaokhkbmiidaaGreat.Ev
open Go Go.Proofs
set_option maxRecDepth 10000
set_option linter.unusedVariables false
set_option linter.unusedSimpArgs false
structure Nd where
  op : Int
  a : Int
  b : Int
  c : Int
  k : Int
  u : Int
  n : Int
  deriving DecidableEq
instance : Inhabited Nd := ⟨⟨0, 0, 0, 0, 0, 0, 0⟩⟩
def iv (n : Int) : AV := .v (.int .i64 n)
def Nd.row (x : Nd) : List AV := [iv x.op, iv x.a, iv x.b, iv x.c, iv x.k, iv x.u, iv x.n]
def Nd.ok (x : Nd) : Prop := inI x.op ∧ inI x.a ∧ inI x.b ∧ inI x.c ∧ inI x.k ∧ inI x.u ∧ inI x.n
instance (x : Nd) : Decidable x.ok := by unfold Nd.ok; exact inferInstance
def nd0 : Nd := ⟨0, 0, 0, 0, 0, 0, 0⟩
theorem nd0_ok : nd0.ok := by decide
def rowsN (l : List Nd) : List (List AV) := l.map Nd.row
theorem rowsN_len (l : List Nd) : (rowsN l).length = l.length := List.length_map ..
theorem rowsN_get {l : List Nd} {i : Nat} (hi : i < l.length) : (rowsN l)[i]? = some (l.getD i nd0).row := by
  simp [rowsN, List.getD, List.getElem?_eq_getElem hi]
def OkN (l : List Nd) : Prop := ∀ x ∈ l, x.ok
instance (l : List Nd) : Decidable (OkN l) := by unfold OkN; exact inferInstance
theorem OkN.getD {l : List Nd} (h : OkN l) (i : Nat) : (l.getD i nd0).ok := by
  simp only [List.getD]
  cases hi : l[i]? with
  | none => exact nd0_ok
  | some b => exact h b (List.mem_of_getElem? hi)
theorem OkN.take {l : List Nd} (h : OkN l) (i : Nat) : OkN (l.take i) := fun b hb => h b (List.mem_of_mem_take hb)
theorem OkN.drop {l : List Nd} (h : OkN l) (i : Nat) : OkN (l.drop i) := fun b hb => h b (List.mem_of_mem_drop hb)
def unNd : List AV → Option Nd
  | [.v (.int .i64 op), .v (.int .i64 a), .v (.int .i64 b), .v (.int .i64 c), .v (.int .i64 k), .v (.int .i64 u), .v (.int .i64 n)] => some ⟨op, a, b, c, k, u, n⟩
  | _ => none
def unN : List (List AV) → Option (List Nd)
  | [] => some []
  | row :: r =>
    match unNd row, unN r with
    | some x, some l => some (x :: l)
    | _, _ => none
theorem unNd_some {row : List AV} {x : Nd} (h : unNd row = some x) : row = x.row := by
  unfold unNd at h
  split at h
  · cases h; rfl
  · cases h
theorem unN_some : ∀ {rows : List (List AV)} {l : List Nd}, unN rows = some l → rows = rowsN l
  | [], l, h => by simp only [unN, Option.some.injEq] at h; subst h; rfl
  | row :: r, l, h => by
    unfold unN at h
    split at h
    · rename_i x l' h1 h2
      cases h
      rw [unNd_some h1, unN_some h2]
      rfl
    · cases h
theorem unN_rowsN : ∀ (l : List Nd), unN (rowsN l) = some l
  | [] => rfl
  | x :: l => by
    have e : rowsN (x :: l) = x.row :: rowsN l := rfl
    rw [e, unN, unN_rowsN l]
    rfl
theorem szNode : tSize Tryz.prog 102 = some 7 := by kernel_rfl
theorem elNodes : tElem Tryz.prog 70 = some 102 := by simp only [tElem, Tryz.underlying70]
theorem naNodes : tArr Tryz.prog 70 = none := by simp only [tArr, Tryz.underlying70]
theorem atNodes {g : Grow} {kk : IntKind} {l : List Nd} {i : Nat} (hi : i < l.length) : evIndexAddr Tryz.prog 70 (.lst g 7 (rowsN l)) (.v (.int kk (i : Int))) = some (.eptr (l.getD i nd0).row) := at_list elNodes naNodes szNode (rowsN_get hi)
theorem fldOp {x : Nd} : evFieldAddr Tryz.prog 102 (.eptr x.row) 0 = some (.eptr x.row) := by kernel_rfl
theorem ldOp {m : Mem} {x : Nd} : evLoad Tryz.prog m 3 (.eptr x.row) = some (.v (.int .i64 x.op)) := loadInt
theorem ldNode {m : Mem} {x : Nd} : evLoad Tryz.prog m 102 (.eptr x.row) = some (.agg x.row) := by kernel_rfl
/-- A law's argument. -/
theorem typed_node {d : Nat} {row : List AV} (h : Typed Tryz.prog (d + 3) 102 row) : ∃ x : Nd, x.ok ∧ row = x.row := by
  unfold Typed at h
  rw [Tryz.underlying102] at h
  obtain ⟨parts, rfl, hl, h⟩ := h
  match parts, hl with
  | [p0, p1, p2, p3, p4, p5], _ =>
    have h0 := h 0 _ p0 rfl rfl
    have h1 := h 1 _ p1 rfl rfl
    have h2 := h 2 _ p2 rfl rfl
    have h3 := h 3 _ p3 rfl rfl
    have h4 := h 4 _ p4 rfl rfl
    have h5 := h 5 _ p5 rfl rfl
    have num : ∀ {d : Nat} {p : List AV}, Typed Tryz.prog (d + 1) 3 p → ∃ n, inI n ∧ p = [iv n] := by
      intro d p h
      unfold Typed at h
      rw [Tryz.underlying3] at h
      obtain ⟨n, rfl, n0, n1⟩ := h
      simp [IntKind.min, IntKind.max, IntKind.signed, IntKind.bits] at n0 n1
      exact ⟨n, ⟨n0, n1⟩, rfl⟩
    obtain ⟨op, o0, rfl⟩ := num h0
    obtain ⟨a, o1, rfl⟩ := num h1
    obtain ⟨b, o2, rfl⟩ := num h2
    obtain ⟨c, o3, rfl⟩ := num h3
    obtain ⟨k, o4, rfl⟩ := num h4
    have h5' : Typed Tryz.prog (d + 2) 33 p5 := h5
    unfold Typed at h5'
    rw [Tryz.underlying33] at h5'
    obtain ⟨q, rfl, hq, h6⟩ := h5'
    match q, hq with
    | [q0, q1], _ =>
      have g0 := h6 0 _ q0 rfl rfl
      have g1 := h6 1 _ q1 rfl rfl
      obtain ⟨u, o5, rfl⟩ := num g0
      obtain ⟨n, o6, rfl⟩ := num g1
      exact ⟨⟨op, a, b, c, k, u, n⟩, ⟨o0, o1, o2, o3, o4, o5, o6⟩, rfl⟩
theorem rows_nodes {d : Nat} : ∀ {rows : List (List AV)}, (∀ row ∈ rows, Typed Tryz.prog (d + 3) 102 row) → ∃ l, OkN l ∧ rows = rowsN l
  | [], _ => ⟨[], (fun x h => by simp at h), rfl⟩
  | row :: rows, h => by
    obtain ⟨l, h1, rfl⟩ := rows_nodes fun r hr => h r (List.mem_cons_of_mem _ hr)
    obtain ⟨x, h2, rfl⟩ := typed_node (h row (List.mem_cons_self ..))
    refine ⟨x :: l, fun y hy => ?_, rfl⟩
    rcases List.mem_cons.1 hy with rfl | hy
    · exact h2
    · exact h1 y hy
end Go.Proofs.YtojaokhkbmiidaaGreat.Ev

namespace Go.Proofs.YtojaokhkbmiidaaGreat.Ev
open Go Go.Proofs
set_option maxRecDepth 10000
set_option maxHeartbeats 8000000
set_option linter.unusedVariables false
set_option linter.unusedSimpArgs false
attribute [local irreducible] Next Inside Runs Ops table
/-! ### api.Flaw -/
structure Fl where
  rule : Int
  item : Int
  part : Int
def fl0 : Fl := ⟨0, 0, 0⟩
def Fl.row (x : Fl) : List AV := [iv x.rule, iv x.item, iv x.part]
def rowsFl (l : List Fl) : List (List AV) := l.map Fl.row
theorem rowsFl_len (l : List Fl) : (rowsFl l).length = l.length := List.length_map ..
theorem rowsFl_app (l l2 : List Fl) : rowsFl l ++ rowsFl l2 = rowsFl (l ++ l2) := List.map_append.symm
theorem rowsFl_get {l : List Fl} {i : Nat} (hi : i < l.length) : (rowsFl l)[i]? = some (l.getD i fl0).row := by
  simp [rowsFl, List.getD, List.getElem?_eq_getElem hi]
theorem elFl : tElem Tryz.prog 40 = some 83 := by simp only [tElem, Tryz.underlying40]
theorem naFl : tArr Tryz.prog 40 = none := by simp only [tArr, Tryz.underlying40]
theorem appFl : appB Tryz.prog 40 40 3 = true := by kernel_rfl
theorem szFl : tSize Tryz.prog 83 = some 3 := by kernel_rfl
theorem atFl {g : Grow} {kk : IntKind} {l : List Fl} {i : Nat} (hi : i < l.length) : evIndexAddr Tryz.prog 40 (.lst g 3 (rowsFl l)) (.v (.int kk (i : Int))) = some (.eptr (l.getD i fl0).row) := at_list elFl naFl szFl (rowsFl_get hi)
theorem feFlItem {x : Fl} : evFieldAddr Tryz.prog 83 (.eptr x.row) 1 = some (.eptr (x.row.drop 1)) := by kernel_rfl
theorem leFlItem {m : Mem} {x : Fl} : evLoad Tryz.prog m 3 (.eptr (x.row.drop 1)) = some (iv x.item) := by kernel_rfl
/-! ### api.Span -/
structure Sp where
  from_ : Int
  to_ : Int
def sp0 : Sp := ⟨0, 0⟩
def Sp.row (x : Sp) : List AV := [iv x.from_, iv x.to_]
def unSp : List AV → Option Sp
  | [.v (.int .i64 c0), .v (.int .i64 c1)] => some ⟨c0, c1⟩
  | _ => none
theorem unSp_some {cs : List AV} {x : Sp} (h : unSp cs = some x) : cs = x.row := by
  unfold unSp at h
  split at h
  · cases h; rfl
  · cases h
theorem unSp_row (x : Sp) : unSp x.row = some x := by
  rfl
def rowsSp (l : List Sp) : List (List AV) := l.map Sp.row
theorem rowsSp_len (l : List Sp) : (rowsSp l).length = l.length := List.length_map ..
theorem rowsSp_app (l l2 : List Sp) : rowsSp l ++ rowsSp l2 = rowsSp (l ++ l2) := List.map_append.symm
theorem rowsSp_get {l : List Sp} {i : Nat} (hi : i < l.length) : (rowsSp l)[i]? = some (l.getD i sp0).row := by
  simp [rowsSp, List.getD, List.getElem?_eq_getElem hi]
def unsSp : List (List AV) → Option (List Sp)
  | [] => some []
  | row :: r =>
    match unSp row, unsSp r with
    | some x, some l => some (x :: l)
    | _, _ => none
theorem unsSp_some : ∀ {rs : List (List AV)} {l : List Sp}, unsSp rs = some l → rs = rowsSp l
  | [], l, h => by simp only [unsSp, Option.some.injEq] at h; subst h; rfl
  | row :: r, l, h => by
    unfold unsSp at h
    split at h
    · rename_i x l' h1 h2
      cases h
      rw [unSp_some h1, unsSp_some h2]
      rfl
    · cases h
theorem unsSp_rowsSp : ∀ (l : List Sp), unsSp (rowsSp l) = some l
  | [] => rfl
  | x :: l => by
    have e : rowsSp (x :: l) = x.row :: rowsSp l := rfl
    rw [e, unsSp, unSp_row, unsSp_rowsSp l]
theorem elSp : tElem Tryz.prog 46 = some 51 := by simp only [tElem, Tryz.underlying46]
theorem naSp : tArr Tryz.prog 46 = none := by simp only [tArr, Tryz.underlying46]
theorem appSp : appB Tryz.prog 46 46 2 = true := by kernel_rfl
theorem szSp : tSize Tryz.prog 51 = some 2 := by kernel_rfl
theorem atSp {g : Grow} {kk : IntKind} {l : List Sp} {i : Nat} (hi : i < l.length) : evIndexAddr Tryz.prog 46 (.lst g 2 (rowsSp l)) (.v (.int kk (i : Int))) = some (.eptr (l.getD i sp0).row) := at_list elSp naSp szSp (rowsSp_get hi)
theorem mapSp {x : Sp} : List.map argCell x.row = x.row := rfl
theorem cellsSp {x : Sp} : cellsOf (.agg x.row) = some x.row := rfl
theorem newSp {m : Mem} {x : Sp} : newVar m m.vars.length x.row = some (m.push x.row) := newVar_push rfl
theorem ldSp {m : Mem} {x : Sp} : evLoad Tryz.prog m 51 (.eptr x.row) = some (.agg x.row) := by kernel_rfl
theorem feSpFrom_ {x : Sp} : evFieldAddr Tryz.prog 51 (.eptr x.row) 0 = some (.eptr x.row) := by kernel_rfl
theorem fpSpFrom_ {r : Nat} : evFieldAddr Tryz.prog 51 (.ptr r 0) 0 = some (.ptr r 0) := by kernel_rfl
theorem leSpFrom_ {m : Mem} {x : Sp} : evLoad Tryz.prog m 3 (.eptr x.row) = some (iv x.from_) := by kernel_rfl
theorem lpSpFrom_ {m : Mem} {r : Nat} {x : Sp} (hv : m.var r = some x.row) : evLoad Tryz.prog m 3 (.ptr r 0) = some (iv x.from_) := by
  unfold evLoad
  simp only [ptrCells, hv, Option.map_some]
  rw [show tAgg Tryz.prog 3 = some false by kernel_rfl, show tSize Tryz.prog 3 = some 1 by kernel_rfl]
  rfl
theorem feSpTo_ {x : Sp} : evFieldAddr Tryz.prog 51 (.eptr x.row) 1 = some (.eptr (x.row.drop 1)) := by kernel_rfl
theorem fpSpTo_ {r : Nat} : evFieldAddr Tryz.prog 51 (.ptr r 0) 1 = some (.ptr r 1) := by kernel_rfl
theorem leSpTo_ {m : Mem} {x : Sp} : evLoad Tryz.prog m 3 (.eptr (x.row.drop 1)) = some (iv x.to_) := by kernel_rfl
theorem lpSpTo_ {m : Mem} {r : Nat} {x : Sp} (hv : m.var r = some x.row) : evLoad Tryz.prog m 3 (.ptr r 1) = some (iv x.to_) := by
  unfold evLoad
  simp only [ptrCells, hv, Option.map_some]
  rw [show tAgg Tryz.prog 3 = some false by kernel_rfl, show tSize Tryz.prog 3 = some 1 by kernel_rfl]
  rfl
/-! ### api.Set -/
structure Gs where
  group : ByteArray
  param : Int
  nodes : List Nd
def gs0 : Gs := ⟨⟨#[]⟩, 0, []⟩
def Gs.row (x : Gs) : List AV := [.v (.string x.group), iv x.param, .lst .no 7 (rowsN x.nodes)]
def unGs : List AV → Option Gs
  | [.v (.string c0), .v (.int .i64 c1), .lst .no 7 c2] =>
    match unN c2 with
    | some l2 => some ⟨c0, c1, l2⟩
    | _ => none
  | _ => none
theorem unGs_some {cs : List AV} {x : Gs} (h : unGs cs = some x) : cs = x.row := by
  unfold unGs at h
  split at h
  · split at h
    · rename_i h2
      cases h
      obtain rfl := unN_some h2
      rfl
    · cases h
  · cases h
theorem unGs_row (x : Gs) : unGs x.row = some x := by
  simp only [unGs, Gs.row, iv, unN_rowsN]
def rowsGs (l : List Gs) : List (List AV) := l.map Gs.row
theorem rowsGs_len (l : List Gs) : (rowsGs l).length = l.length := List.length_map ..
theorem rowsGs_get {l : List Gs} {i : Nat} (hi : i < l.length) : (rowsGs l)[i]? = some (l.getD i gs0).row := by
  simp [rowsGs, List.getD, List.getElem?_eq_getElem hi]
def unsGs : List (List AV) → Option (List Gs)
  | [] => some []
  | row :: r =>
    match unGs row, unsGs r with
    | some x, some l => some (x :: l)
    | _, _ => none
theorem unsGs_some : ∀ {rs : List (List AV)} {l : List Gs}, unsGs rs = some l → rs = rowsGs l
  | [], l, h => by simp only [unsGs, Option.some.injEq] at h; subst h; rfl
  | row :: r, l, h => by
    unfold unsGs at h
    split at h
    · rename_i x l' h1 h2
      cases h
      rw [unGs_some h1, unsGs_some h2]
      rfl
    · cases h
theorem unsGs_rowsGs : ∀ (l : List Gs), unsGs (rowsGs l) = some l
  | [] => rfl
  | x :: l => by
    have e : rowsGs (x :: l) = x.row :: rowsGs l := rfl
    rw [e, unsGs, unGs_row, unsGs_rowsGs l]
theorem elGs : tElem Tryz.prog 67 = some 72 := by simp only [tElem, Tryz.underlying67]
theorem naGs : tArr Tryz.prog 67 = none := by simp only [tArr, Tryz.underlying67]
theorem szGs : tSize Tryz.prog 72 = some 3 := by kernel_rfl
theorem agGs : tAgg Tryz.prog 72 = some true := by kernel_rfl
theorem atGs {g : Grow} {kk : IntKind} {l : List Gs} {i : Nat} (hi : i < l.length) : evIndexAddr Tryz.prog 67 (.lst g 3 (rowsGs l)) (.v (.int kk (i : Int))) = some (.eptr (l.getD i gs0).row) := at_list elGs naGs szGs (rowsGs_get hi)
theorem mapGs {x : Gs} : List.map argCell x.row = x.row := rfl
theorem cellsGs {x : Gs} : cellsOf (.agg x.row) = some x.row := rfl
theorem newGs {m : Mem} {x : Gs} : newVar m m.vars.length x.row = some (m.push x.row) := newVar_push rfl
theorem ldGs {m : Mem} {x : Gs} : evLoad Tryz.prog m 72 (.eptr x.row) = some (.agg x.row) := by kernel_rfl
theorem vrGs {m : Mem} {r : Nat} {x : Gs} (hv : m.var r = some x.row) : evLoad Tryz.prog m 72 (.ptr r 0) = some (.agg x.row) := by
  unfold evLoad
  simp only [ptrCells, hv, Option.map_some, szGs, agGs]
  rfl
def zeroGs : List AV := [.v (.string ⟨#[]⟩), .v (.int .i64 0), .lst .full 7 []]
theorem zrGs : zeroCells Tryz.prog 72 = some zeroGs := by kernel_rfl
theorem zoGs : zeroGs.all okCell = true := rfl
theorem znGs {m : Mem} : newVar m m.vars.length zeroGs = some (m.push zeroGs) := newVar_push rfl
theorem zsGs {m : Mem} {x : Gs} : evStore Tryz.prog (m.push zeroGs) 72 (.ptr m.vars.length 0) (.agg x.row) = some (m.push x.row) := by
  rw [store_push (cs := x.row) rfl szGs (Nat.le_refl _) rfl]
  rfl
theorem feGsGroup {x : Gs} : evFieldAddr Tryz.prog 72 (.eptr x.row) 0 = some (.eptr x.row) := by kernel_rfl
theorem fpGsGroup {r : Nat} : evFieldAddr Tryz.prog 72 (.ptr r 0) 0 = some (.ptr r 0) := by kernel_rfl
theorem leGsGroup {m : Mem} {x : Gs} : evLoad Tryz.prog m 9 (.eptr x.row) = some (.v (.string x.group)) := by kernel_rfl
theorem lpGsGroup {m : Mem} {r : Nat} {x : Gs} (hv : m.var r = some x.row) : evLoad Tryz.prog m 9 (.ptr r 0) = some (.v (.string x.group)) := by
  unfold evLoad
  simp only [ptrCells, hv, Option.map_some]
  rw [show tAgg Tryz.prog 9 = some false by kernel_rfl, show tSize Tryz.prog 9 = some 1 by kernel_rfl]
  rfl
theorem feGsParam {x : Gs} : evFieldAddr Tryz.prog 72 (.eptr x.row) 1 = some (.eptr (x.row.drop 1)) := by kernel_rfl
theorem fpGsParam {r : Nat} : evFieldAddr Tryz.prog 72 (.ptr r 0) 1 = some (.ptr r 1) := by kernel_rfl
theorem leGsParam {m : Mem} {x : Gs} : evLoad Tryz.prog m 3 (.eptr (x.row.drop 1)) = some (iv x.param) := by kernel_rfl
theorem lpGsParam {m : Mem} {r : Nat} {x : Gs} (hv : m.var r = some x.row) : evLoad Tryz.prog m 3 (.ptr r 1) = some (iv x.param) := by
  unfold evLoad
  simp only [ptrCells, hv, Option.map_some]
  rw [show tAgg Tryz.prog 3 = some false by kernel_rfl, show tSize Tryz.prog 3 = some 1 by kernel_rfl]
  rfl
theorem feGsNodes {x : Gs} : evFieldAddr Tryz.prog 72 (.eptr x.row) 2 = some (.eptr (x.row.drop 2)) := by kernel_rfl
theorem fpGsNodes {r : Nat} : evFieldAddr Tryz.prog 72 (.ptr r 0) 2 = some (.ptr r 2) := by kernel_rfl
theorem leGsNodes {m : Mem} {x : Gs} : evLoad Tryz.prog m 70 (.eptr (x.row.drop 2)) = some (.lst .no 7 (rowsN x.nodes)) := by kernel_rfl
theorem lpGsNodes {m : Mem} {r : Nat} {x : Gs} (hv : m.var r = some x.row) : evLoad Tryz.prog m 70 (.ptr r 2) = some (.lst .no 7 (rowsN x.nodes)) := by
  unfold evLoad
  simp only [ptrCells, hv, Option.map_some]
  rw [show tAgg Tryz.prog 70 = some false by kernel_rfl, show tSize Tryz.prog 70 = some 1 by kernel_rfl]
  rfl
/-! ### api.Phase -/
structure Ph where
  name : ByteArray
  lenU : Int
  lenN : Int
  frozen : List ByteArray
  sets : List Gs
def ph0 : Ph := ⟨⟨#[]⟩, 0, 0, [], []⟩
def Ph.row (x : Ph) : List AV := [.v (.string x.name), iv x.lenU, iv x.lenN, .lst .no 1 (rowsS x.frozen), .lst .no 3 (rowsGs x.sets)]
def unPh : List AV → Option Ph
  | [.v (.string c0), .v (.int .i64 c1), .v (.int .i64 c2), .lst .no 1 c3, .lst .no 3 c4] =>
    match unS c3, unsGs c4 with
    | some l3, some l4 => some ⟨c0, c1, c2, l3, l4⟩
    | _, _ => none
  | _ => none
theorem unPh_some {cs : List AV} {x : Ph} (h : unPh cs = some x) : cs = x.row := by
  unfold unPh at h
  split at h
  · split at h
    · rename_i h3 h4
      cases h
      obtain rfl := unS_some h3
      obtain rfl := unsGs_some h4
      rfl
    · cases h
  · cases h
theorem unPh_row (x : Ph) : unPh x.row = some x := by
  simp only [unPh, Ph.row, iv, unsGs_rowsGs, unS_rowsS]
def rowsPh (l : List Ph) : List (List AV) := l.map Ph.row
theorem rowsPh_len (l : List Ph) : (rowsPh l).length = l.length := List.length_map ..
theorem rowsPh_get {l : List Ph} {i : Nat} (hi : i < l.length) : (rowsPh l)[i]? = some (l.getD i ph0).row := by
  simp [rowsPh, List.getD, List.getElem?_eq_getElem hi]
def unsPh : List (List AV) → Option (List Ph)
  | [] => some []
  | row :: r =>
    match unPh row, unsPh r with
    | some x, some l => some (x :: l)
    | _, _ => none
theorem unsPh_some : ∀ {rs : List (List AV)} {l : List Ph}, unsPh rs = some l → rs = rowsPh l
  | [], l, h => by simp only [unsPh, Option.some.injEq] at h; subst h; rfl
  | row :: r, l, h => by
    unfold unsPh at h
    split at h
    · rename_i x l' h1 h2
      cases h
      rw [unPh_some h1, unsPh_some h2]
      rfl
    · cases h
theorem unsPh_rowsPh : ∀ (l : List Ph), unsPh (rowsPh l) = some l
  | [] => rfl
  | x :: l => by
    have e : rowsPh (x :: l) = x.row :: rowsPh l := rfl
    rw [e, unsPh, unPh_row, unsPh_rowsPh l]
theorem elPh : tElem Tryz.prog 23 = some 69 := by simp only [tElem, Tryz.underlying23]
theorem naPh : tArr Tryz.prog 23 = none := by simp only [tArr, Tryz.underlying23]
theorem szPh : tSize Tryz.prog 69 = some 5 := by kernel_rfl
theorem agPh : tAgg Tryz.prog 69 = some true := by kernel_rfl
theorem atPh {g : Grow} {kk : IntKind} {l : List Ph} {i : Nat} (hi : i < l.length) : evIndexAddr Tryz.prog 23 (.lst g 5 (rowsPh l)) (.v (.int kk (i : Int))) = some (.eptr (l.getD i ph0).row) := at_list elPh naPh szPh (rowsPh_get hi)
theorem mapPh {x : Ph} : List.map argCell x.row = x.row := rfl
theorem cellsPh {x : Ph} : cellsOf (.agg x.row) = some x.row := rfl
theorem newPh {m : Mem} {x : Ph} : newVar m m.vars.length x.row = some (m.push x.row) := newVar_push rfl
theorem ldPh {m : Mem} {x : Ph} : evLoad Tryz.prog m 69 (.eptr x.row) = some (.agg x.row) := by kernel_rfl
theorem vrPh {m : Mem} {r : Nat} {x : Ph} (hv : m.var r = some x.row) : evLoad Tryz.prog m 69 (.ptr r 0) = some (.agg x.row) := by
  unfold evLoad
  simp only [ptrCells, hv, Option.map_some, szPh, agPh]
  rfl
def zeroPh : List AV := [.v (.string ⟨#[]⟩), .v (.int .i64 0), .v (.int .i64 0), .lst .full 1 [], .lst .full 3 []]
theorem zrPh : zeroCells Tryz.prog 69 = some zeroPh := by kernel_rfl
theorem zoPh : zeroPh.all okCell = true := rfl
theorem znPh {m : Mem} : newVar m m.vars.length zeroPh = some (m.push zeroPh) := newVar_push rfl
theorem zsPh {m : Mem} {x : Ph} : evStore Tryz.prog (m.push zeroPh) 69 (.ptr m.vars.length 0) (.agg x.row) = some (m.push x.row) := by
  rw [store_push (cs := x.row) rfl szPh (Nat.le_refl _) rfl]
  rfl
theorem fePhName {x : Ph} : evFieldAddr Tryz.prog 69 (.eptr x.row) 0 = some (.eptr x.row) := by kernel_rfl
theorem fpPhName {r : Nat} : evFieldAddr Tryz.prog 69 (.ptr r 0) 0 = some (.ptr r 0) := by kernel_rfl
theorem lePhName {m : Mem} {x : Ph} : evLoad Tryz.prog m 9 (.eptr x.row) = some (.v (.string x.name)) := by kernel_rfl
theorem lpPhName {m : Mem} {r : Nat} {x : Ph} (hv : m.var r = some x.row) : evLoad Tryz.prog m 9 (.ptr r 0) = some (.v (.string x.name)) := by
  unfold evLoad
  simp only [ptrCells, hv, Option.map_some]
  rw [show tAgg Tryz.prog 9 = some false by kernel_rfl, show tSize Tryz.prog 9 = some 1 by kernel_rfl]
  rfl
theorem fePhLen {x : Ph} : evFieldAddr Tryz.prog 69 (.eptr x.row) 1 = some (.eptr (x.row.drop 1)) := by kernel_rfl
theorem fpPhLen {r : Nat} : evFieldAddr Tryz.prog 69 (.ptr r 0) 1 = some (.ptr r 1) := by kernel_rfl
theorem lePhLen {m : Mem} {x : Ph} : evLoad Tryz.prog m 33 (.eptr (x.row.drop 1)) = some (.agg [iv x.lenU, iv x.lenN]) := by kernel_rfl
theorem lpPhLen {m : Mem} {r : Nat} {x : Ph} (hv : m.var r = some x.row) : evLoad Tryz.prog m 33 (.ptr r 1) = some (.agg [iv x.lenU, iv x.lenN]) := by
  unfold evLoad
  simp only [ptrCells, hv, Option.map_some]
  rw [show tAgg Tryz.prog 33 = some true by kernel_rfl, show tSize Tryz.prog 33 = some 2 by kernel_rfl]
  rfl
theorem fpPhLenU {r : Nat} : evFieldAddr Tryz.prog 33 (.ptr r 1) 0 = some (.ptr r 1) := by kernel_rfl
theorem lpPhLenU {m : Mem} {r : Nat} {x : Ph} (hv : m.var r = some x.row) : evLoad Tryz.prog m 3 (.ptr r 1) = some (iv x.lenU) := by
  unfold evLoad
  simp only [ptrCells, hv, Option.map_some]
  rw [show tAgg Tryz.prog 3 = some false by kernel_rfl, show tSize Tryz.prog 3 = some 1 by kernel_rfl]
  rfl
theorem fePhFrozen {x : Ph} : evFieldAddr Tryz.prog 69 (.eptr x.row) 2 = some (.eptr (x.row.drop 3)) := by kernel_rfl
theorem fpPhFrozen {r : Nat} : evFieldAddr Tryz.prog 69 (.ptr r 0) 2 = some (.ptr r 3) := by kernel_rfl
theorem lePhFrozen {m : Mem} {x : Ph} : evLoad Tryz.prog m 22 (.eptr (x.row.drop 3)) = some (.lst .no 1 (rowsS x.frozen)) := by kernel_rfl
theorem lpPhFrozen {m : Mem} {r : Nat} {x : Ph} (hv : m.var r = some x.row) : evLoad Tryz.prog m 22 (.ptr r 3) = some (.lst .no 1 (rowsS x.frozen)) := by
  unfold evLoad
  simp only [ptrCells, hv, Option.map_some]
  rw [show tAgg Tryz.prog 22 = some false by kernel_rfl, show tSize Tryz.prog 22 = some 1 by kernel_rfl]
  rfl
theorem fePhSets {x : Ph} : evFieldAddr Tryz.prog 69 (.eptr x.row) 3 = some (.eptr (x.row.drop 4)) := by kernel_rfl
theorem fpPhSets {r : Nat} : evFieldAddr Tryz.prog 69 (.ptr r 0) 3 = some (.ptr r 4) := by kernel_rfl
theorem lePhSets {m : Mem} {x : Ph} : evLoad Tryz.prog m 67 (.eptr (x.row.drop 4)) = some (.lst .no 3 (rowsGs x.sets)) := by kernel_rfl
theorem lpPhSets {m : Mem} {r : Nat} {x : Ph} (hv : m.var r = some x.row) : evLoad Tryz.prog m 67 (.ptr r 4) = some (.lst .no 3 (rowsGs x.sets)) := by
  unfold evLoad
  simp only [ptrCells, hv, Option.map_some]
  rw [show tAgg Tryz.prog 67 = some false by kernel_rfl, show tSize Tryz.prog 67 = some 1 by kernel_rfl]
  rfl
/-! ### api.Recipe -/
structure Rc where
  name : ByteArray
  steps : Int
  epoch : Int
  weights : Int
  metrics : List ByteArray
  groups : List ByteArray
  eval : Int
  phases : List Ph
  stopOn : Bool
  stopMetric : ByteArray
  stopMax : Bool
  stopPatience : Int
  stopDelta : Int
  stopRel : Bool
  plateauOn : Bool
  plateauMetric : ByteArray
  plateauMax : Bool
  plateauFactor : Int
  plateauPatience : Int
  plateauCooldown : Int
  plateauFloor : Int
  plateauDelta : Int
  keepOn : Bool
  keepMetric : ByteArray
  keepMax : Bool
  keepCount : Int
  emaOn : Bool
  emaDecay : Int
  swaOn : Bool
  swaFromU : Int
  swaFromN : Int
  swaEvery : Int
def rc0 : Rc := ⟨⟨#[]⟩, 0, 0, 0, [], [], 0, [], false, ⟨#[]⟩, false, 0, 0, false, false, ⟨#[]⟩, false, 0, 0, 0, 0, 0, false, ⟨#[]⟩, false, 0, false, 0, false, 0, 0, 0⟩
def Rc.row (x : Rc) : List AV := [.v (.string x.name), iv x.steps, iv x.epoch, iv x.weights, .lst .no 1 (rowsS x.metrics), .lst .no 1 (rowsS x.groups), iv x.eval, .lst .no 5 (rowsPh x.phases), .v (.bool x.stopOn), .v (.string x.stopMetric), .v (.bool x.stopMax), iv x.stopPatience, iv x.stopDelta, .v (.bool x.stopRel), .v (.bool x.plateauOn), .v (.string x.plateauMetric), .v (.bool x.plateauMax), iv x.plateauFactor, iv x.plateauPatience, iv x.plateauCooldown, iv x.plateauFloor, iv x.plateauDelta, .v (.bool x.keepOn), .v (.string x.keepMetric), .v (.bool x.keepMax), iv x.keepCount, .v (.bool x.emaOn), iv x.emaDecay, .v (.bool x.swaOn), iv x.swaFromU, iv x.swaFromN, iv x.swaEvery]
def unRc : List AV → Option Rc
  | [.v (.string c0), .v (.int .i64 c1), .v (.int .i64 c2), .v (.int .i64 c3), .lst .no 1 c4, .lst .no 1 c5, .v (.int .i64 c6), .lst .no 5 c7, .v (.bool c8), .v (.string c9), .v (.bool c10), .v (.int .i64 c11), .v (.int .i64 c12), .v (.bool c13), .v (.bool c14), .v (.string c15), .v (.bool c16), .v (.int .i64 c17), .v (.int .i64 c18), .v (.int .i64 c19), .v (.int .i64 c20), .v (.int .i64 c21), .v (.bool c22), .v (.string c23), .v (.bool c24), .v (.int .i64 c25), .v (.bool c26), .v (.int .i64 c27), .v (.bool c28), .v (.int .i64 c29), .v (.int .i64 c30), .v (.int .i64 c31)] =>
    match unS c4, unS c5, unsPh c7 with
    | some l4, some l5, some l7 => some ⟨c0, c1, c2, c3, l4, l5, c6, l7, c8, c9, c10, c11, c12, c13, c14, c15, c16, c17, c18, c19, c20, c21, c22, c23, c24, c25, c26, c27, c28, c29, c30, c31⟩
    | _, _, _ => none
  | _ => none
theorem unRc_some {cs : List AV} {x : Rc} (h : unRc cs = some x) : cs = x.row := by
  unfold unRc at h
  split at h
  · split at h
    · rename_i h4 h5 h7
      cases h
      obtain rfl := unS_some h4
      obtain rfl := unS_some h5
      obtain rfl := unsPh_some h7
      rfl
    · cases h
  · cases h
theorem unRc_row (x : Rc) : unRc x.row = some x := by
  simp only [unRc, Rc.row, iv, unsPh_rowsPh, unS_rowsS]
theorem szRc : tSize Tryz.prog 37 = some 32 := by kernel_rfl
theorem agRc : tAgg Tryz.prog 37 = some true := by kernel_rfl
theorem mapRc {x : Rc} : List.map argCell x.row = x.row := rfl
theorem cellsRc {x : Rc} : cellsOf (.agg x.row) = some x.row := rfl
theorem newRc {m : Mem} {x : Rc} : newVar m m.vars.length x.row = some (m.push x.row) := newVar_push rfl
theorem vrRc {m : Mem} {r : Nat} {x : Rc} (hv : m.var r = some x.row) : evLoad Tryz.prog m 37 (.ptr r 0) = some (.agg x.row) := by
  unfold evLoad
  simp only [ptrCells, hv, Option.map_some, szRc, agRc]
  rfl
def zeroRc : List AV := [.v (.string ⟨#[]⟩), .v (.int .i64 0), .v (.int .i64 0), .v (.int .i64 0), .lst .full 1 [], .lst .full 1 [], .v (.int .i64 0), .lst .full 5 [], .v (.bool false), .v (.string ⟨#[]⟩), .v (.bool false), .v (.int .i64 0), .v (.int .i64 0), .v (.bool false), .v (.bool false), .v (.string ⟨#[]⟩), .v (.bool false), .v (.int .i64 0), .v (.int .i64 0), .v (.int .i64 0), .v (.int .i64 0), .v (.int .i64 0), .v (.bool false), .v (.string ⟨#[]⟩), .v (.bool false), .v (.int .i64 0), .v (.bool false), .v (.int .i64 0), .v (.bool false), .v (.int .i64 0), .v (.int .i64 0), .v (.int .i64 0)]
theorem fpRcName {r : Nat} : evFieldAddr Tryz.prog 37 (.ptr r 0) 0 = some (.ptr r 0) := by kernel_rfl
theorem lpRcName {m : Mem} {r : Nat} {x : Rc} (hv : m.var r = some x.row) : evLoad Tryz.prog m 9 (.ptr r 0) = some (.v (.string x.name)) := by
  unfold evLoad
  simp only [ptrCells, hv, Option.map_some]
  rw [show tAgg Tryz.prog 9 = some false by kernel_rfl, show tSize Tryz.prog 9 = some 1 by kernel_rfl]
  rfl
theorem fpRcSteps {r : Nat} : evFieldAddr Tryz.prog 37 (.ptr r 0) 1 = some (.ptr r 1) := by kernel_rfl
theorem lpRcSteps {m : Mem} {r : Nat} {x : Rc} (hv : m.var r = some x.row) : evLoad Tryz.prog m 3 (.ptr r 1) = some (iv x.steps) := by
  unfold evLoad
  simp only [ptrCells, hv, Option.map_some]
  rw [show tAgg Tryz.prog 3 = some false by kernel_rfl, show tSize Tryz.prog 3 = some 1 by kernel_rfl]
  rfl
theorem fpRcEpoch {r : Nat} : evFieldAddr Tryz.prog 37 (.ptr r 0) 2 = some (.ptr r 2) := by kernel_rfl
theorem lpRcEpoch {m : Mem} {r : Nat} {x : Rc} (hv : m.var r = some x.row) : evLoad Tryz.prog m 3 (.ptr r 2) = some (iv x.epoch) := by
  unfold evLoad
  simp only [ptrCells, hv, Option.map_some]
  rw [show tAgg Tryz.prog 3 = some false by kernel_rfl, show tSize Tryz.prog 3 = some 1 by kernel_rfl]
  rfl
theorem fpRcWeights {r : Nat} : evFieldAddr Tryz.prog 37 (.ptr r 0) 3 = some (.ptr r 3) := by kernel_rfl
theorem lpRcWeights {m : Mem} {r : Nat} {x : Rc} (hv : m.var r = some x.row) : evLoad Tryz.prog m 3 (.ptr r 3) = some (iv x.weights) := by
  unfold evLoad
  simp only [ptrCells, hv, Option.map_some]
  rw [show tAgg Tryz.prog 3 = some false by kernel_rfl, show tSize Tryz.prog 3 = some 1 by kernel_rfl]
  rfl
theorem fpRcMetrics {r : Nat} : evFieldAddr Tryz.prog 37 (.ptr r 0) 4 = some (.ptr r 4) := by kernel_rfl
theorem lpRcMetrics {m : Mem} {r : Nat} {x : Rc} (hv : m.var r = some x.row) : evLoad Tryz.prog m 22 (.ptr r 4) = some (.lst .no 1 (rowsS x.metrics)) := by
  unfold evLoad
  simp only [ptrCells, hv, Option.map_some]
  rw [show tAgg Tryz.prog 22 = some false by kernel_rfl, show tSize Tryz.prog 22 = some 1 by kernel_rfl]
  rfl
theorem fpRcGroups {r : Nat} : evFieldAddr Tryz.prog 37 (.ptr r 0) 5 = some (.ptr r 5) := by kernel_rfl
theorem lpRcGroups {m : Mem} {r : Nat} {x : Rc} (hv : m.var r = some x.row) : evLoad Tryz.prog m 22 (.ptr r 5) = some (.lst .no 1 (rowsS x.groups)) := by
  unfold evLoad
  simp only [ptrCells, hv, Option.map_some]
  rw [show tAgg Tryz.prog 22 = some false by kernel_rfl, show tSize Tryz.prog 22 = some 1 by kernel_rfl]
  rfl
theorem fpRcEval {r : Nat} : evFieldAddr Tryz.prog 37 (.ptr r 0) 6 = some (.ptr r 6) := by kernel_rfl
theorem lpRcEval {m : Mem} {r : Nat} {x : Rc} (hv : m.var r = some x.row) : evLoad Tryz.prog m 3 (.ptr r 6) = some (iv x.eval) := by
  unfold evLoad
  simp only [ptrCells, hv, Option.map_some]
  rw [show tAgg Tryz.prog 3 = some false by kernel_rfl, show tSize Tryz.prog 3 = some 1 by kernel_rfl]
  rfl
theorem fpRcPhases {r : Nat} : evFieldAddr Tryz.prog 37 (.ptr r 0) 7 = some (.ptr r 7) := by kernel_rfl
theorem lpRcPhases {m : Mem} {r : Nat} {x : Rc} (hv : m.var r = some x.row) : evLoad Tryz.prog m 23 (.ptr r 7) = some (.lst .no 5 (rowsPh x.phases)) := by
  unfold evLoad
  simp only [ptrCells, hv, Option.map_some]
  rw [show tAgg Tryz.prog 23 = some false by kernel_rfl, show tSize Tryz.prog 23 = some 1 by kernel_rfl]
  rfl
theorem fpRcStop {r : Nat} : evFieldAddr Tryz.prog 37 (.ptr r 0) 8 = some (.ptr r 8) := by kernel_rfl
theorem lpRcStop {m : Mem} {r : Nat} {x : Rc} (hv : m.var r = some x.row) : evLoad Tryz.prog m 25 (.ptr r 8) = some (.agg [.v (.bool x.stopOn), .v (.string x.stopMetric), .v (.bool x.stopMax), iv x.stopPatience, iv x.stopDelta, .v (.bool x.stopRel)]) := by
  unfold evLoad
  simp only [ptrCells, hv, Option.map_some]
  rw [show tAgg Tryz.prog 25 = some true by kernel_rfl, show tSize Tryz.prog 25 = some 6 by kernel_rfl]
  rfl
theorem fpRcStopOn {r : Nat} : evFieldAddr Tryz.prog 25 (.ptr r 8) 0 = some (.ptr r 8) := by kernel_rfl
theorem lpRcStopOn {m : Mem} {r : Nat} {x : Rc} (hv : m.var r = some x.row) : evLoad Tryz.prog m 4 (.ptr r 8) = some (.v (.bool x.stopOn)) := by
  unfold evLoad
  simp only [ptrCells, hv, Option.map_some]
  rw [show tAgg Tryz.prog 4 = some false by kernel_rfl, show tSize Tryz.prog 4 = some 1 by kernel_rfl]
  rfl
theorem fpRcStopMetric {r : Nat} : evFieldAddr Tryz.prog 25 (.ptr r 8) 1 = some (.ptr r 9) := by kernel_rfl
theorem lpRcStopMetric {m : Mem} {r : Nat} {x : Rc} (hv : m.var r = some x.row) : evLoad Tryz.prog m 9 (.ptr r 9) = some (.v (.string x.stopMetric)) := by
  unfold evLoad
  simp only [ptrCells, hv, Option.map_some]
  rw [show tAgg Tryz.prog 9 = some false by kernel_rfl, show tSize Tryz.prog 9 = some 1 by kernel_rfl]
  rfl
theorem fpRcStopPatience {r : Nat} : evFieldAddr Tryz.prog 25 (.ptr r 8) 3 = some (.ptr r 11) := by kernel_rfl
theorem lpRcStopPatience {m : Mem} {r : Nat} {x : Rc} (hv : m.var r = some x.row) : evLoad Tryz.prog m 3 (.ptr r 11) = some (iv x.stopPatience) := by
  unfold evLoad
  simp only [ptrCells, hv, Option.map_some]
  rw [show tAgg Tryz.prog 3 = some false by kernel_rfl, show tSize Tryz.prog 3 = some 1 by kernel_rfl]
  rfl
theorem fpRcStopDelta {r : Nat} : evFieldAddr Tryz.prog 25 (.ptr r 8) 4 = some (.ptr r 12) := by kernel_rfl
theorem lpRcStopDelta {m : Mem} {r : Nat} {x : Rc} (hv : m.var r = some x.row) : evLoad Tryz.prog m 3 (.ptr r 12) = some (iv x.stopDelta) := by
  unfold evLoad
  simp only [ptrCells, hv, Option.map_some]
  rw [show tAgg Tryz.prog 3 = some false by kernel_rfl, show tSize Tryz.prog 3 = some 1 by kernel_rfl]
  rfl
theorem fpRcPlateau {r : Nat} : evFieldAddr Tryz.prog 37 (.ptr r 0) 9 = some (.ptr r 14) := by kernel_rfl
theorem lpRcPlateau {m : Mem} {r : Nat} {x : Rc} (hv : m.var r = some x.row) : evLoad Tryz.prog m 27 (.ptr r 14) = some (.agg [.v (.bool x.plateauOn), .v (.string x.plateauMetric), .v (.bool x.plateauMax), iv x.plateauFactor, iv x.plateauPatience, iv x.plateauCooldown, iv x.plateauFloor, iv x.plateauDelta]) := by
  unfold evLoad
  simp only [ptrCells, hv, Option.map_some]
  rw [show tAgg Tryz.prog 27 = some true by kernel_rfl, show tSize Tryz.prog 27 = some 8 by kernel_rfl]
  rfl
theorem fpRcPlateauOn {r : Nat} : evFieldAddr Tryz.prog 27 (.ptr r 14) 0 = some (.ptr r 14) := by kernel_rfl
theorem lpRcPlateauOn {m : Mem} {r : Nat} {x : Rc} (hv : m.var r = some x.row) : evLoad Tryz.prog m 4 (.ptr r 14) = some (.v (.bool x.plateauOn)) := by
  unfold evLoad
  simp only [ptrCells, hv, Option.map_some]
  rw [show tAgg Tryz.prog 4 = some false by kernel_rfl, show tSize Tryz.prog 4 = some 1 by kernel_rfl]
  rfl
theorem fpRcPlateauMetric {r : Nat} : evFieldAddr Tryz.prog 27 (.ptr r 14) 1 = some (.ptr r 15) := by kernel_rfl
theorem lpRcPlateauMetric {m : Mem} {r : Nat} {x : Rc} (hv : m.var r = some x.row) : evLoad Tryz.prog m 9 (.ptr r 15) = some (.v (.string x.plateauMetric)) := by
  unfold evLoad
  simp only [ptrCells, hv, Option.map_some]
  rw [show tAgg Tryz.prog 9 = some false by kernel_rfl, show tSize Tryz.prog 9 = some 1 by kernel_rfl]
  rfl
theorem fpRcPlateauFactor {r : Nat} : evFieldAddr Tryz.prog 27 (.ptr r 14) 3 = some (.ptr r 17) := by kernel_rfl
theorem lpRcPlateauFactor {m : Mem} {r : Nat} {x : Rc} (hv : m.var r = some x.row) : evLoad Tryz.prog m 3 (.ptr r 17) = some (iv x.plateauFactor) := by
  unfold evLoad
  simp only [ptrCells, hv, Option.map_some]
  rw [show tAgg Tryz.prog 3 = some false by kernel_rfl, show tSize Tryz.prog 3 = some 1 by kernel_rfl]
  rfl
theorem fpRcPlateauPatience {r : Nat} : evFieldAddr Tryz.prog 27 (.ptr r 14) 4 = some (.ptr r 18) := by kernel_rfl
theorem lpRcPlateauPatience {m : Mem} {r : Nat} {x : Rc} (hv : m.var r = some x.row) : evLoad Tryz.prog m 3 (.ptr r 18) = some (iv x.plateauPatience) := by
  unfold evLoad
  simp only [ptrCells, hv, Option.map_some]
  rw [show tAgg Tryz.prog 3 = some false by kernel_rfl, show tSize Tryz.prog 3 = some 1 by kernel_rfl]
  rfl
theorem fpRcPlateauCooldown {r : Nat} : evFieldAddr Tryz.prog 27 (.ptr r 14) 5 = some (.ptr r 19) := by kernel_rfl
theorem lpRcPlateauCooldown {m : Mem} {r : Nat} {x : Rc} (hv : m.var r = some x.row) : evLoad Tryz.prog m 3 (.ptr r 19) = some (iv x.plateauCooldown) := by
  unfold evLoad
  simp only [ptrCells, hv, Option.map_some]
  rw [show tAgg Tryz.prog 3 = some false by kernel_rfl, show tSize Tryz.prog 3 = some 1 by kernel_rfl]
  rfl
theorem fpRcPlateauFloor {r : Nat} : evFieldAddr Tryz.prog 27 (.ptr r 14) 6 = some (.ptr r 20) := by kernel_rfl
theorem lpRcPlateauFloor {m : Mem} {r : Nat} {x : Rc} (hv : m.var r = some x.row) : evLoad Tryz.prog m 3 (.ptr r 20) = some (iv x.plateauFloor) := by
  unfold evLoad
  simp only [ptrCells, hv, Option.map_some]
  rw [show tAgg Tryz.prog 3 = some false by kernel_rfl, show tSize Tryz.prog 3 = some 1 by kernel_rfl]
  rfl
theorem fpRcPlateauDelta {r : Nat} : evFieldAddr Tryz.prog 27 (.ptr r 14) 7 = some (.ptr r 21) := by kernel_rfl
theorem lpRcPlateauDelta {m : Mem} {r : Nat} {x : Rc} (hv : m.var r = some x.row) : evLoad Tryz.prog m 3 (.ptr r 21) = some (iv x.plateauDelta) := by
  unfold evLoad
  simp only [ptrCells, hv, Option.map_some]
  rw [show tAgg Tryz.prog 3 = some false by kernel_rfl, show tSize Tryz.prog 3 = some 1 by kernel_rfl]
  rfl
theorem fpRcKeep {r : Nat} : evFieldAddr Tryz.prog 37 (.ptr r 0) 10 = some (.ptr r 22) := by kernel_rfl
theorem lpRcKeep {m : Mem} {r : Nat} {x : Rc} (hv : m.var r = some x.row) : evLoad Tryz.prog m 29 (.ptr r 22) = some (.agg [.v (.bool x.keepOn), .v (.string x.keepMetric), .v (.bool x.keepMax), iv x.keepCount]) := by
  unfold evLoad
  simp only [ptrCells, hv, Option.map_some]
  rw [show tAgg Tryz.prog 29 = some true by kernel_rfl, show tSize Tryz.prog 29 = some 4 by kernel_rfl]
  rfl
theorem fpRcKeepOn {r : Nat} : evFieldAddr Tryz.prog 29 (.ptr r 22) 0 = some (.ptr r 22) := by kernel_rfl
theorem lpRcKeepOn {m : Mem} {r : Nat} {x : Rc} (hv : m.var r = some x.row) : evLoad Tryz.prog m 4 (.ptr r 22) = some (.v (.bool x.keepOn)) := by
  unfold evLoad
  simp only [ptrCells, hv, Option.map_some]
  rw [show tAgg Tryz.prog 4 = some false by kernel_rfl, show tSize Tryz.prog 4 = some 1 by kernel_rfl]
  rfl
theorem fpRcKeepMetric {r : Nat} : evFieldAddr Tryz.prog 29 (.ptr r 22) 1 = some (.ptr r 23) := by kernel_rfl
theorem lpRcKeepMetric {m : Mem} {r : Nat} {x : Rc} (hv : m.var r = some x.row) : evLoad Tryz.prog m 9 (.ptr r 23) = some (.v (.string x.keepMetric)) := by
  unfold evLoad
  simp only [ptrCells, hv, Option.map_some]
  rw [show tAgg Tryz.prog 9 = some false by kernel_rfl, show tSize Tryz.prog 9 = some 1 by kernel_rfl]
  rfl
theorem fpRcKeepCount {r : Nat} : evFieldAddr Tryz.prog 29 (.ptr r 22) 3 = some (.ptr r 25) := by kernel_rfl
theorem lpRcKeepCount {m : Mem} {r : Nat} {x : Rc} (hv : m.var r = some x.row) : evLoad Tryz.prog m 3 (.ptr r 25) = some (iv x.keepCount) := by
  unfold evLoad
  simp only [ptrCells, hv, Option.map_some]
  rw [show tAgg Tryz.prog 3 = some false by kernel_rfl, show tSize Tryz.prog 3 = some 1 by kernel_rfl]
  rfl
theorem fpRcEma {r : Nat} : evFieldAddr Tryz.prog 37 (.ptr r 0) 11 = some (.ptr r 26) := by kernel_rfl
theorem lpRcEma {m : Mem} {r : Nat} {x : Rc} (hv : m.var r = some x.row) : evLoad Tryz.prog m 31 (.ptr r 26) = some (.agg [.v (.bool x.emaOn), iv x.emaDecay]) := by
  unfold evLoad
  simp only [ptrCells, hv, Option.map_some]
  rw [show tAgg Tryz.prog 31 = some true by kernel_rfl, show tSize Tryz.prog 31 = some 2 by kernel_rfl]
  rfl
theorem fpRcEmaOn {r : Nat} : evFieldAddr Tryz.prog 31 (.ptr r 26) 0 = some (.ptr r 26) := by kernel_rfl
theorem lpRcEmaOn {m : Mem} {r : Nat} {x : Rc} (hv : m.var r = some x.row) : evLoad Tryz.prog m 4 (.ptr r 26) = some (.v (.bool x.emaOn)) := by
  unfold evLoad
  simp only [ptrCells, hv, Option.map_some]
  rw [show tAgg Tryz.prog 4 = some false by kernel_rfl, show tSize Tryz.prog 4 = some 1 by kernel_rfl]
  rfl
theorem fpRcEmaDecay {r : Nat} : evFieldAddr Tryz.prog 31 (.ptr r 26) 1 = some (.ptr r 27) := by kernel_rfl
theorem lpRcEmaDecay {m : Mem} {r : Nat} {x : Rc} (hv : m.var r = some x.row) : evLoad Tryz.prog m 3 (.ptr r 27) = some (iv x.emaDecay) := by
  unfold evLoad
  simp only [ptrCells, hv, Option.map_some]
  rw [show tAgg Tryz.prog 3 = some false by kernel_rfl, show tSize Tryz.prog 3 = some 1 by kernel_rfl]
  rfl
theorem fpRcSwa {r : Nat} : evFieldAddr Tryz.prog 37 (.ptr r 0) 12 = some (.ptr r 28) := by kernel_rfl
theorem lpRcSwa {m : Mem} {r : Nat} {x : Rc} (hv : m.var r = some x.row) : evLoad Tryz.prog m 35 (.ptr r 28) = some (.agg [.v (.bool x.swaOn), iv x.swaFromU, iv x.swaFromN, iv x.swaEvery]) := by
  unfold evLoad
  simp only [ptrCells, hv, Option.map_some]
  rw [show tAgg Tryz.prog 35 = some true by kernel_rfl, show tSize Tryz.prog 35 = some 4 by kernel_rfl]
  rfl
theorem fpRcSwaOn {r : Nat} : evFieldAddr Tryz.prog 35 (.ptr r 28) 0 = some (.ptr r 28) := by kernel_rfl
theorem lpRcSwaOn {m : Mem} {r : Nat} {x : Rc} (hv : m.var r = some x.row) : evLoad Tryz.prog m 4 (.ptr r 28) = some (.v (.bool x.swaOn)) := by
  unfold evLoad
  simp only [ptrCells, hv, Option.map_some]
  rw [show tAgg Tryz.prog 4 = some false by kernel_rfl, show tSize Tryz.prog 4 = some 1 by kernel_rfl]
  rfl
theorem fpRcSwaFrom {r : Nat} : evFieldAddr Tryz.prog 35 (.ptr r 28) 1 = some (.ptr r 29) := by kernel_rfl
theorem lpRcSwaFrom {m : Mem} {r : Nat} {x : Rc} (hv : m.var r = some x.row) : evLoad Tryz.prog m 33 (.ptr r 29) = some (.agg [iv x.swaFromU, iv x.swaFromN]) := by
  unfold evLoad
  simp only [ptrCells, hv, Option.map_some]
  rw [show tAgg Tryz.prog 33 = some true by kernel_rfl, show tSize Tryz.prog 33 = some 2 by kernel_rfl]
  rfl
theorem fpRcSwaFromU {r : Nat} : evFieldAddr Tryz.prog 33 (.ptr r 29) 0 = some (.ptr r 29) := by kernel_rfl
theorem lpRcSwaFromU {m : Mem} {r : Nat} {x : Rc} (hv : m.var r = some x.row) : evLoad Tryz.prog m 3 (.ptr r 29) = some (iv x.swaFromU) := by
  unfold evLoad
  simp only [ptrCells, hv, Option.map_some]
  rw [show tAgg Tryz.prog 3 = some false by kernel_rfl, show tSize Tryz.prog 3 = some 1 by kernel_rfl]
  rfl
theorem fpRcSwaEvery {r : Nat} : evFieldAddr Tryz.prog 35 (.ptr r 28) 2 = some (.ptr r 31) := by kernel_rfl
theorem lpRcSwaEvery {m : Mem} {r : Nat} {x : Rc} (hv : m.var r = some x.row) : evLoad Tryz.prog m 3 (.ptr r 31) = some (iv x.swaEvery) := by
  unfold evLoad
  simp only [ptrCells, hv, Option.map_some]
  rw [show tAgg Tryz.prog 3 = some false by kernel_rfl, show tSize Tryz.prog 3 = some 1 by kernel_rfl]
  rfl
end Go.Proofs.YtojaokhkbmiidaaGreat.Ev

namespace Go.Proofs.YtojaokhkbmiidaaGreat.Ev
open Go Go.Proofs
set_option maxRecDepth 10000
set_option maxHeartbeats 8000000
set_option linter.unusedVariables false
set_option linter.unusedSimpArgs false
attribute [local irreducible] Next Inside Runs Ops table
/-! ### api.Stop -/
structure Tp where
  On : Bool
  Metric : ByteArray
  Max : Bool
  Patience : Int
  Delta : Int
  Rel : Bool
def tp0 : Tp := ⟨false, ⟨#[]⟩, false, 0, 0, false⟩
def Tp.row (x : Tp) : List AV := [.v (.bool x.On), .v (.string x.Metric), .v (.bool x.Max), iv x.Patience, iv x.Delta, .v (.bool x.Rel)]
theorem szTp : tSize Tryz.prog 25 = some 6 := by kernel_rfl
theorem agTp : tAgg Tryz.prog 25 = some true := by kernel_rfl
theorem vrTp {m : Mem} {r : Nat} {x : Tp} (hv : m.var r = some x.row) : evLoad Tryz.prog m 25 (.ptr r 0) = some (.agg x.row) := by
  unfold evLoad
  simp only [ptrCells, hv, Option.map_some, szTp, agTp]
  rfl
def zeroTp : List AV := [.v (.bool false), .v (.string ⟨#[]⟩), .v (.bool false), .v (.int .i64 0), .v (.int .i64 0), .v (.bool false)]
theorem zrTp : zeroCells Tryz.prog 25 = some zeroTp := by kernel_rfl
theorem zoTp : zeroTp.all okCell = true := rfl
theorem znTp {m : Mem} : newVar m m.vars.length zeroTp = some (m.push zeroTp) := newVar_push rfl
theorem niTp : noIface Tryz.prog 8 25 = true := by kernel_rfl
theorem eqTp {x y : Tp} : eqTy Tryz.prog 8 25 (.agg x.row) (.agg y.row) = some ((x.On == y.On) && ((x.Metric == y.Metric) && ((x.Max == y.Max) && ((x.Patience == y.Patience) && ((x.Delta == y.Delta) && ((x.Rel == y.Rel) && true)))))) := by kernel_rfl
theorem mk0Tp : evBuild Tryz.prog 25 [] = some (.agg tp0.row) := by kernel_rfl
theorem fpTpOn {r : Nat} : evFieldAddr Tryz.prog 25 (.ptr r 0) 0 = some (.ptr r 0) := by kernel_rfl
theorem lpTpOn {m : Mem} {r : Nat} {x : Tp} (hv : m.var r = some x.row) : evLoad Tryz.prog m 4 (.ptr r 0) = some (.v (.bool x.On)) := by
  unfold evLoad
  simp only [ptrCells, hv, Option.map_some]
  rw [show tAgg Tryz.prog 4 = some false by kernel_rfl, show tSize Tryz.prog 4 = some 1 by kernel_rfl]
  rfl
theorem fpTpMetric {r : Nat} : evFieldAddr Tryz.prog 25 (.ptr r 0) 1 = some (.ptr r 1) := by kernel_rfl
theorem lpTpMetric {m : Mem} {r : Nat} {x : Tp} (hv : m.var r = some x.row) : evLoad Tryz.prog m 9 (.ptr r 1) = some (.v (.string x.Metric)) := by
  unfold evLoad
  simp only [ptrCells, hv, Option.map_some]
  rw [show tAgg Tryz.prog 9 = some false by kernel_rfl, show tSize Tryz.prog 9 = some 1 by kernel_rfl]
  rfl
theorem fpTpPatience {r : Nat} : evFieldAddr Tryz.prog 25 (.ptr r 0) 3 = some (.ptr r 3) := by kernel_rfl
theorem lpTpPatience {m : Mem} {r : Nat} {x : Tp} (hv : m.var r = some x.row) : evLoad Tryz.prog m 3 (.ptr r 3) = some (iv x.Patience) := by
  unfold evLoad
  simp only [ptrCells, hv, Option.map_some]
  rw [show tAgg Tryz.prog 3 = some false by kernel_rfl, show tSize Tryz.prog 3 = some 1 by kernel_rfl]
  rfl
theorem fpTpDelta {r : Nat} : evFieldAddr Tryz.prog 25 (.ptr r 0) 4 = some (.ptr r 4) := by kernel_rfl
theorem lpTpDelta {m : Mem} {r : Nat} {x : Tp} (hv : m.var r = some x.row) : evLoad Tryz.prog m 3 (.ptr r 4) = some (iv x.Delta) := by
  unfold evLoad
  simp only [ptrCells, hv, Option.map_some]
  rw [show tAgg Tryz.prog 3 = some false by kernel_rfl, show tSize Tryz.prog 3 = some 1 by kernel_rfl]
  rfl
/-! ### api.Plateau -/
structure Pt where
  On : Bool
  Metric : ByteArray
  Max : Bool
  Factor : Int
  Patience : Int
  Cooldown : Int
  Floor : Int
  Delta : Int
def pt0 : Pt := ⟨false, ⟨#[]⟩, false, 0, 0, 0, 0, 0⟩
def Pt.row (x : Pt) : List AV := [.v (.bool x.On), .v (.string x.Metric), .v (.bool x.Max), iv x.Factor, iv x.Patience, iv x.Cooldown, iv x.Floor, iv x.Delta]
theorem szPt : tSize Tryz.prog 27 = some 8 := by kernel_rfl
theorem agPt : tAgg Tryz.prog 27 = some true := by kernel_rfl
theorem vrPt {m : Mem} {r : Nat} {x : Pt} (hv : m.var r = some x.row) : evLoad Tryz.prog m 27 (.ptr r 0) = some (.agg x.row) := by
  unfold evLoad
  simp only [ptrCells, hv, Option.map_some, szPt, agPt]
  rfl
def zeroPt : List AV := [.v (.bool false), .v (.string ⟨#[]⟩), .v (.bool false), .v (.int .i64 0), .v (.int .i64 0), .v (.int .i64 0), .v (.int .i64 0), .v (.int .i64 0)]
theorem zrPt : zeroCells Tryz.prog 27 = some zeroPt := by kernel_rfl
theorem zoPt : zeroPt.all okCell = true := rfl
theorem znPt {m : Mem} : newVar m m.vars.length zeroPt = some (m.push zeroPt) := newVar_push rfl
theorem niPt : noIface Tryz.prog 8 27 = true := by kernel_rfl
theorem eqPt {x y : Pt} : eqTy Tryz.prog 8 27 (.agg x.row) (.agg y.row) = some ((x.On == y.On) && ((x.Metric == y.Metric) && ((x.Max == y.Max) && ((x.Factor == y.Factor) && ((x.Patience == y.Patience) && ((x.Cooldown == y.Cooldown) && ((x.Floor == y.Floor) && ((x.Delta == y.Delta) && true)))))))) := by kernel_rfl
theorem mk0Pt : evBuild Tryz.prog 27 [] = some (.agg pt0.row) := by kernel_rfl
theorem fpPtOn {r : Nat} : evFieldAddr Tryz.prog 27 (.ptr r 0) 0 = some (.ptr r 0) := by kernel_rfl
theorem lpPtOn {m : Mem} {r : Nat} {x : Pt} (hv : m.var r = some x.row) : evLoad Tryz.prog m 4 (.ptr r 0) = some (.v (.bool x.On)) := by
  unfold evLoad
  simp only [ptrCells, hv, Option.map_some]
  rw [show tAgg Tryz.prog 4 = some false by kernel_rfl, show tSize Tryz.prog 4 = some 1 by kernel_rfl]
  rfl
theorem fpPtMetric {r : Nat} : evFieldAddr Tryz.prog 27 (.ptr r 0) 1 = some (.ptr r 1) := by kernel_rfl
theorem lpPtMetric {m : Mem} {r : Nat} {x : Pt} (hv : m.var r = some x.row) : evLoad Tryz.prog m 9 (.ptr r 1) = some (.v (.string x.Metric)) := by
  unfold evLoad
  simp only [ptrCells, hv, Option.map_some]
  rw [show tAgg Tryz.prog 9 = some false by kernel_rfl, show tSize Tryz.prog 9 = some 1 by kernel_rfl]
  rfl
theorem fpPtFactor {r : Nat} : evFieldAddr Tryz.prog 27 (.ptr r 0) 3 = some (.ptr r 3) := by kernel_rfl
theorem lpPtFactor {m : Mem} {r : Nat} {x : Pt} (hv : m.var r = some x.row) : evLoad Tryz.prog m 3 (.ptr r 3) = some (iv x.Factor) := by
  unfold evLoad
  simp only [ptrCells, hv, Option.map_some]
  rw [show tAgg Tryz.prog 3 = some false by kernel_rfl, show tSize Tryz.prog 3 = some 1 by kernel_rfl]
  rfl
theorem fpPtPatience {r : Nat} : evFieldAddr Tryz.prog 27 (.ptr r 0) 4 = some (.ptr r 4) := by kernel_rfl
theorem lpPtPatience {m : Mem} {r : Nat} {x : Pt} (hv : m.var r = some x.row) : evLoad Tryz.prog m 3 (.ptr r 4) = some (iv x.Patience) := by
  unfold evLoad
  simp only [ptrCells, hv, Option.map_some]
  rw [show tAgg Tryz.prog 3 = some false by kernel_rfl, show tSize Tryz.prog 3 = some 1 by kernel_rfl]
  rfl
theorem fpPtCooldown {r : Nat} : evFieldAddr Tryz.prog 27 (.ptr r 0) 5 = some (.ptr r 5) := by kernel_rfl
theorem lpPtCooldown {m : Mem} {r : Nat} {x : Pt} (hv : m.var r = some x.row) : evLoad Tryz.prog m 3 (.ptr r 5) = some (iv x.Cooldown) := by
  unfold evLoad
  simp only [ptrCells, hv, Option.map_some]
  rw [show tAgg Tryz.prog 3 = some false by kernel_rfl, show tSize Tryz.prog 3 = some 1 by kernel_rfl]
  rfl
theorem fpPtFloor {r : Nat} : evFieldAddr Tryz.prog 27 (.ptr r 0) 6 = some (.ptr r 6) := by kernel_rfl
theorem lpPtFloor {m : Mem} {r : Nat} {x : Pt} (hv : m.var r = some x.row) : evLoad Tryz.prog m 3 (.ptr r 6) = some (iv x.Floor) := by
  unfold evLoad
  simp only [ptrCells, hv, Option.map_some]
  rw [show tAgg Tryz.prog 3 = some false by kernel_rfl, show tSize Tryz.prog 3 = some 1 by kernel_rfl]
  rfl
theorem fpPtDelta {r : Nat} : evFieldAddr Tryz.prog 27 (.ptr r 0) 7 = some (.ptr r 7) := by kernel_rfl
theorem lpPtDelta {m : Mem} {r : Nat} {x : Pt} (hv : m.var r = some x.row) : evLoad Tryz.prog m 3 (.ptr r 7) = some (iv x.Delta) := by
  unfold evLoad
  simp only [ptrCells, hv, Option.map_some]
  rw [show tAgg Tryz.prog 3 = some false by kernel_rfl, show tSize Tryz.prog 3 = some 1 by kernel_rfl]
  rfl
/-! ### api.Keep -/
structure Kp where
  On : Bool
  Metric : ByteArray
  Max : Bool
  Count : Int
def kp0 : Kp := ⟨false, ⟨#[]⟩, false, 0⟩
def Kp.row (x : Kp) : List AV := [.v (.bool x.On), .v (.string x.Metric), .v (.bool x.Max), iv x.Count]
theorem szKp : tSize Tryz.prog 29 = some 4 := by kernel_rfl
theorem agKp : tAgg Tryz.prog 29 = some true := by kernel_rfl
theorem vrKp {m : Mem} {r : Nat} {x : Kp} (hv : m.var r = some x.row) : evLoad Tryz.prog m 29 (.ptr r 0) = some (.agg x.row) := by
  unfold evLoad
  simp only [ptrCells, hv, Option.map_some, szKp, agKp]
  rfl
def zeroKp : List AV := [.v (.bool false), .v (.string ⟨#[]⟩), .v (.bool false), .v (.int .i64 0)]
theorem zrKp : zeroCells Tryz.prog 29 = some zeroKp := by kernel_rfl
theorem zoKp : zeroKp.all okCell = true := rfl
theorem znKp {m : Mem} : newVar m m.vars.length zeroKp = some (m.push zeroKp) := newVar_push rfl
theorem niKp : noIface Tryz.prog 8 29 = true := by kernel_rfl
theorem eqKp {x y : Kp} : eqTy Tryz.prog 8 29 (.agg x.row) (.agg y.row) = some ((x.On == y.On) && ((x.Metric == y.Metric) && ((x.Max == y.Max) && ((x.Count == y.Count) && true)))) := by kernel_rfl
theorem mk0Kp : evBuild Tryz.prog 29 [] = some (.agg kp0.row) := by kernel_rfl
theorem fpKpOn {r : Nat} : evFieldAddr Tryz.prog 29 (.ptr r 0) 0 = some (.ptr r 0) := by kernel_rfl
theorem lpKpOn {m : Mem} {r : Nat} {x : Kp} (hv : m.var r = some x.row) : evLoad Tryz.prog m 4 (.ptr r 0) = some (.v (.bool x.On)) := by
  unfold evLoad
  simp only [ptrCells, hv, Option.map_some]
  rw [show tAgg Tryz.prog 4 = some false by kernel_rfl, show tSize Tryz.prog 4 = some 1 by kernel_rfl]
  rfl
theorem fpKpMetric {r : Nat} : evFieldAddr Tryz.prog 29 (.ptr r 0) 1 = some (.ptr r 1) := by kernel_rfl
theorem lpKpMetric {m : Mem} {r : Nat} {x : Kp} (hv : m.var r = some x.row) : evLoad Tryz.prog m 9 (.ptr r 1) = some (.v (.string x.Metric)) := by
  unfold evLoad
  simp only [ptrCells, hv, Option.map_some]
  rw [show tAgg Tryz.prog 9 = some false by kernel_rfl, show tSize Tryz.prog 9 = some 1 by kernel_rfl]
  rfl
theorem fpKpCount {r : Nat} : evFieldAddr Tryz.prog 29 (.ptr r 0) 3 = some (.ptr r 3) := by kernel_rfl
theorem lpKpCount {m : Mem} {r : Nat} {x : Kp} (hv : m.var r = some x.row) : evLoad Tryz.prog m 3 (.ptr r 3) = some (iv x.Count) := by
  unfold evLoad
  simp only [ptrCells, hv, Option.map_some]
  rw [show tAgg Tryz.prog 3 = some false by kernel_rfl, show tSize Tryz.prog 3 = some 1 by kernel_rfl]
  rfl
/-! ### api.Ema -/
structure Em where
  On : Bool
  Decay : Int
def em0 : Em := ⟨false, 0⟩
def Em.row (x : Em) : List AV := [.v (.bool x.On), iv x.Decay]
theorem niEm : noIface Tryz.prog 8 31 = true := by kernel_rfl
theorem eqEm {x y : Em} : eqTy Tryz.prog 8 31 (.agg x.row) (.agg y.row) = some ((x.On == y.On) && ((x.Decay == y.Decay) && true)) := by kernel_rfl
theorem mk0Em : evBuild Tryz.prog 31 [] = some (.agg em0.row) := by kernel_rfl
/-! ### api.Swa -/
structure Sw where
  On : Bool
  FromU : Int
  FromN : Int
  Every : Int
def sw0 : Sw := ⟨false, 0, 0, 0⟩
def Sw.row (x : Sw) : List AV := [.v (.bool x.On), iv x.FromU, iv x.FromN, iv x.Every]
theorem niSw : noIface Tryz.prog 8 35 = true := by kernel_rfl
theorem eqSw {x y : Sw} : eqTy Tryz.prog 8 35 (.agg x.row) (.agg y.row) = some ((x.On == y.On) && (((x.FromU == y.FromU) && ((x.FromN == y.FromN) && true)) && ((x.Every == y.Every) && true))) := by kernel_rfl
theorem mk0Sw : evBuild Tryz.prog 35 [] = some (.agg sw0.row) := by kernel_rfl
end Go.Proofs.YtojaokhkbmiidaaGreat.Ev

namespace Go.Proofs.YtojaokhkbmiidaaGreat.Ev
open Go Go.Proofs
set_option maxRecDepth 10000
set_option linter.unusedVariables false
set_option linter.unusedSimpArgs false
theorem agInt : tAgg Tryz.prog 3 = some false := by simp only [tAgg, Tryz.underlying3]
def big40 : Nat := 1099511627776
def strCells (l : List ByteArray) : List AV := l.map fun (s : ByteArray) => .v (.string s)
theorem loadVarS {m : Mem} {cs : List AV} {off : Nat} : evLoad Tryz.prog (m.push cs) 9 (.ptr m.vars.length off) = (cs.drop off).head? := by
  unfold evLoad
  simp only [ptrCells, push_var, Option.map_some, szStr]
  rw [show tAgg Tryz.prog 9 = some false by simp only [tAgg, Tryz.underlying9]]
/-! ### the first one that .. -/
def firstBy {α : Type} (p : α → Bool) : List α → Nat → Int
  | [], _ => -1
  | s :: l, i => if p s then (i : Int) else firstBy p l (i + 1)
theorem firstBy_any {α : Type} (p : α → Bool) : ∀ (l : List α) (i : Nat), decide (0 ≤ firstBy p l i) = l.any p
  | [], i => by simp [firstBy]
  | s :: l, i => by
    rw [firstBy]
    cases h : p s with
    | true => simp [h]
    | false => simp only [Bool.false_eq_true, if_false, firstBy_any p l (i + 1), List.any_cons, h, Bool.false_or]
theorem by_no {α : Type} {d : α} {p : α → Bool} {l : List α} {i : Nat} (hi : i < l.length) (hp : p (l.getD i d) = false) (h : firstBy p (l.drop i) i = firstBy p l 0) : firstBy p (l.drop (i + 1)) (i + 1) = firstBy p l 0 := by
  rw [drop_next (d := d) hi, firstBy, hp, if_neg (by simp)] at h
  exact h
theorem by_yes {α : Type} {d : α} {p : α → Bool} {l : List α} {i : Nat} (hi : i < l.length) (hp : p (l.getD i d) = true) (h : firstBy p (l.drop i) i = firstBy p l 0) : firstBy p l 0 = (i : Int) := by
  rw [drop_next (d := d) hi, firstBy, hp, if_pos rfl] at h
  exact h.symm
theorem by_end {α : Type} {p : α → Bool} {l : List α} (h : firstBy p (l.drop l.length) l.length = firstBy p l 0) : firstBy p l 0 = -1 := by
  rw [List.drop_length] at h
  exact h.symm
/-- Variables of one's own, above. -/
def Above (m m' : Mem) : Prop := ∃ L, m' = { vars := m.vars ++ L, toks := m.toks }
theorem above_self (m : Mem) : Above m m := ⟨[], by simp⟩
theorem above_push {m m' : Mem} {cs : List AV} (h : Above m m') : Above m (m'.push cs) := by
  obtain ⟨L, rfl⟩ := h
  exact ⟨L ++ [some cs], by simp [Mem.push]⟩
theorem above_fin {m m' : Mem} (h : Above m m') : finMem m m' = m := by
  obtain ⟨L, rfl⟩ := h
  unfold finMem
  rw [if_pos (by simp)]
  simp
def yesG : List AV → Mem → Option (AV × Mem)
  | [], m => some (.v (.bool true), m)
  | _, _ => none
theorem yes_eq : ∀ mm, yesG [] mm = some (.v (.bool true), mm) := fun _ => rfl
end Go.Proofs.YtojaokhkbmiidaaGreat.Ev

namespace Go.Proofs.YtojaokhkbmiidaaGreat.Ev
open Go Go.Proofs
set_option maxRecDepth 10000
set_option maxHeartbeats 8000000
set_option linter.unusedVariables false
set_option linter.unusedSimpArgs false
theorem ops_case {P : Program} {call : CallF} {nt : Nat} {ops : Array Oper} {pu : Bool} {e : Env} {m : Mem} {K : Env → Mem → Prop} {o : Oper} {rest : List Oper} {j g : Nat} {want B : Bool} (hg : o.guard = some (j, want)) (hj : (ops[j]?).bind (·.dst) = some g) (hb : get e g = .v (.bool B))
    (ht : B = true → Ops P call nt ops pu (o :: rest) e m K) (hf : B = false → Ops P call nt ops pu (o :: rest) e m K) : Ops P call nt ops pu (o :: rest) e m K := by
  cases B with
  | true => exact ht rfl
  | false => exact hf rfl
theorem ops_here {P : Program} {call : CallF} {nt : Nat} {ops : Array Oper} {pu : Bool} {l : List Oper} {e : Env} {m : Mem} {K : Env → Mem → Prop} (h : Ops P call nt ops pu l e m K) : Ops P call nt ops pu l e m K := h
theorem runs_here {P : Program} {call : CallF} {nt : Nat} {kp : Nat → Option (List Nat)} {c : Code} {e : Env} {m : Mem} {Q : Ex → Env → Mem → Prop} (h : Runs P call nt kp c e m Q) : Runs P call nt kp c e m Q := h
attribute [local irreducible] Next Inside Runs Ops table
attribute [local go_sem] szStr szInt Option.getD_some isNil loadStr loadInt mkInts0 mkInts1 mkStrs0 mkStrs1 rowsS_len rowsI_len rowsN_len evStr fldOp ldOp evMinMax evFoldI
def upTo (c : Int) : List AV → Mem → Option (AV × Mem)
  | [.v (.int .i64 x)], m => some (.v (.bool (decide (0 ≤ x ∧ x ≤ c))), m)
  | _, _ => none
def kpQ : Nat → Option (List Nat) := fun _ => some [0, 2]
attribute [go_sem] kpQ
theorem refQ_ok : FunOk Tryz.prog 136 (upTo 4503599627370496) := by
  have hC := table_ok (P := Tryz.prog) (l := []) table_nil
  refine fun_ok mixed hC Tryz.func136 rfl kpQ false rfl fun args m r h => ?_
  unfold upTo at h
  split at h
  · rename_i x
    simp only [Option.some.injEq] at h
    subst h
    refine ⟨Nat.le_of_ble_eq_true rfl, ?_⟩
    simp only [entry, List.length_cons, List.length_nil, List.range, List.range.loop, List.zip_cons_cons, List.zip_nil_right]
    have fin : ∀ (e : Env) (b : Bool), Ev.get e 2 = .v (.bool b) → b = decide (0 ≤ x ∧ x ≤ 4503599627370496) → Leaves Tryz.prog false Tryz.f136 m (.v (.bool (decide (0 ≤ x ∧ x ≤ 4503599627370496))), m) .ret e m := fun e b h1 h2 => by rw [← h2]; exact leaves_v rfl h1
    repeat' (first | refine gos0 ?_ | (refine ops_here ?_; (fail_if_success (refine ops_case (B := true) rfl rfl rfl ?_ ?_)); (fail_if_success (refine ops_case (B := false) rfl rfl rfl ?_ ?_)); refine ops_case rfl rfl rfl (fun hB => ?_) (fun hB => ?_) <;> rw [hB]) | (refine runs_here ?_; refine runs_cond rfl (fun hc => ?_) (fun hc => ?_) <;> first | (cases hc; done) | skip))
    all_goals exact fin _ _ rfl (by rw [Bool.eq_iff_iff]; simp only [decide_eq_true_eq, decide_eq_false_iff_not, Bool.false_eq_true, false_iff, true_iff] at *; omega)
  · cases h
theorem number_ok : FunOk Tryz.prog 158 (upTo 4503599627370496) := by
  have hC := table_ok (P := Tryz.prog) (l := []) table_nil
  refine fun_ok mixed hC Tryz.func158 rfl kpQ false rfl fun args m r h => ?_
  unfold upTo at h
  split at h
  · rename_i x
    simp only [Option.some.injEq] at h
    subst h
    refine ⟨Nat.le_of_ble_eq_true rfl, ?_⟩
    simp only [entry, List.length_cons, List.length_nil, List.range, List.range.loop, List.zip_cons_cons, List.zip_nil_right]
    have fin : ∀ (e : Env) (b : Bool), Ev.get e 2 = .v (.bool b) → b = decide (0 ≤ x ∧ x ≤ 4503599627370496) → Leaves Tryz.prog false Tryz.f158 m (.v (.bool (decide (0 ≤ x ∧ x ≤ 4503599627370496))), m) .ret e m := fun e b h1 h2 => by rw [← h2]; exact leaves_v rfl h1
    repeat' (first | refine gos0 ?_ | (refine ops_here ?_; (fail_if_success (refine ops_case (B := true) rfl rfl rfl ?_ ?_)); (fail_if_success (refine ops_case (B := false) rfl rfl rfl ?_ ?_)); refine ops_case rfl rfl rfl (fun hB => ?_) (fun hB => ?_) <;> rw [hB]) | (refine runs_here ?_; refine runs_cond rfl (fun hc => ?_) (fun hc => ?_) <;> first | (cases hc; done) | skip))
    all_goals exact fin _ _ rfl (by rw [Bool.eq_iff_iff]; simp only [decide_eq_true_eq, decide_eq_false_iff_not, Bool.false_eq_true, false_iff, true_iff] at *; omega)
  · cases h
theorem count_ok : FunOk Tryz.prog 160 (upTo 1099511627776) := by
  have hC := table_ok (P := Tryz.prog) (l := []) table_nil
  refine fun_ok mixed hC Tryz.func160 rfl kpQ false rfl fun args m r h => ?_
  unfold upTo at h
  split at h
  · rename_i x
    simp only [Option.some.injEq] at h
    subst h
    refine ⟨Nat.le_of_ble_eq_true rfl, ?_⟩
    simp only [entry, List.length_cons, List.length_nil, List.range, List.range.loop, List.zip_cons_cons, List.zip_nil_right]
    have fin : ∀ (e : Env) (b : Bool), Ev.get e 2 = .v (.bool b) → b = decide (0 ≤ x ∧ x ≤ 1099511627776) → Leaves Tryz.prog false Tryz.f160 m (.v (.bool (decide (0 ≤ x ∧ x ≤ 1099511627776))), m) .ret e m := fun e b h1 h2 => by rw [← h2]; exact leaves_v rfl h1
    repeat' (first | refine gos0 ?_ | (refine ops_here ?_; (fail_if_success (refine ops_case (B := true) rfl rfl rfl ?_ ?_)); (fail_if_success (refine ops_case (B := false) rfl rfl rfl ?_ ?_)); refine ops_case rfl rfl rfl (fun hB => ?_) (fun hB => ?_) <;> rw [hB]) | (refine runs_here ?_; refine runs_cond rfl (fun hc => ?_) (fun hc => ?_) <;> first | (cases hc; done) | skip))
    all_goals exact fin _ _ rfl (by rw [Bool.eq_iff_iff]; simp only [decide_eq_true_eq, decide_eq_false_iff_not, Bool.false_eq_true, false_iff, true_iff] at *; omega)
  · cases h
/-! ### lengths -/
def lenMay (u n : Int) : Prop := 0 ≤ n ∧ n ≤ 1099511627776 ∧ 0 ≤ u ∧ u ≤ 3 ∧ (u = 2 → n ≤ 100) ∧ (u = 3 → n = 0)
instance (u n : Int) : Decidable (lenMay u n) := by unfold lenMay; exact inferInstance
def lenMayG : List AV → Mem → Option (AV × Mem)
  | [.agg [.v (.int .i64 u), .v (.int .i64 n)]], m => some (.v (.bool (decide (lenMay u n))), m)
  | _, _ => none
theorem len0 {r : Nat} : evFieldAddr Tryz.prog 33 (.ptr r 0) 0 = some (.ptr r 0) := by kernel_rfl
theorem len1 {r : Nat} : evFieldAddr Tryz.prog 33 (.ptr r 0) 1 = some (.ptr r (0 + 1)) := by kernel_rfl
theorem loadOne {m : Mem} {cs : List AV} {off : Nat} : evLoad Tryz.prog (m.push cs) 3 (.ptr m.vars.length off) = (cs.drop off).head? := by
  unfold evLoad
  simp only [ptrCells, push_var, Option.map_some, szInt, agInt]
theorem loadLen {m : Mem} {u n : Int} : evLoad Tryz.prog (m.push [.v (.int .i64 u), .v (.int .i64 n)]) 33 (.ptr m.vars.length 0) = some (.agg [.v (.int .i64 u), .v (.int .i64 n)]) := by
  unfold evLoad
  simp only [ptrCells, push_var, Option.map_some]
  rw [show tAgg Tryz.prog 33 = some true by kernel_rfl, show tSize Tryz.prog 33 = some 2 by kernel_rfl]
  rfl
theorem cellsLen {u n : Int} : cellsOf (.agg [.v (.int .i64 u), .v (.int .i64 n)]) = some [.v (.int .i64 u), .v (.int .i64 n)] := rfl
theorem newLen {m : Mem} {u n : Int} : newVar m m.vars.length [.v (.int .i64 u), .v (.int .i64 n)] = some (m.push [.v (.int .i64 u), .v (.int .i64 n)]) := newVar_push rfl
attribute [local go_sem] len0 len1 loadOne loadLen cellsLen newLen Nat.zero_add List.drop_zero List.drop_succ_cons List.head?_cons
def kpRefLen : Nat → Option (List Nat) := fun _ => some [0, 1, 2, 20]
attribute [go_sem] kpRefLen
theorem refLenMay_ok : FunOk Tryz.prog 43 lenMayG := by
  have hC := table_ok (P := Tryz.prog) (l := []) table_nil
  refine fun_ok mixed hC Tryz.func43 rfl kpRefLen false rfl fun args m r h => ?_
  unfold lenMayG at h
  split at h
  · rename_i u n
    simp only [Option.some.injEq] at h
    subst h
    refine ⟨Nat.le_of_ble_eq_true rfl, ?_⟩
    simp only [entry, List.length_cons, List.length_nil, List.range, List.range.loop, List.zip_cons_cons, List.zip_nil_right]
    have fin : ∀ (e : Env) (m' : Mem) (b : Bool), Ev.get e 2 = .v (.bool b) → finMem m m' = m → (b = true ↔ lenMay u n) → Leaves Tryz.prog false Tryz.f43 m (.v (.bool (decide (lenMay u n))), m) .ret e m' := fun e m' b h1 h2 h3 => by
      have : b = decide (lenMay u n) := by rw [Bool.eq_iff_iff, decide_eq_true_eq]; exact h3
      rw [← this]
      exact leaves_fin rfl h1 h2
    repeat' (first | refine gos0 ?_ | (refine ops_here ?_; (fail_if_success (refine ops_case (B := true) rfl rfl rfl ?_ ?_)); (fail_if_success (refine ops_case (B := false) rfl rfl rfl ?_ ?_)); refine ops_case rfl rfl rfl (fun hB => ?_) (fun hB => ?_) <;> rw [hB]) | (refine runs_here ?_; refine runs_cond rfl (fun hc => ?_) (fun hc => ?_) <;> first | (cases hc; done) | skip))
    all_goals exact fin _ _ _ rfl fin_push (by unfold lenMay; simp only [decide_eq_true_eq, decide_eq_false_iff_not, Bool.false_eq_true, false_iff, true_iff, beq_iff_eq, bne_iff_ne, beq_eq_false_iff_ne, bne_eq_false_iff_eq, ne_eq, Int.reduceEq, true_and, false_and, or_false, false_or, and_true, and_false] at *; omega)
  · cases h
def kpWithin : Nat → Option (List Nat) := fun _ => some [0, 1, 2, 6]
attribute [go_sem] kpWithin
def withinG : List AV → Mem → Option (AV × Mem)
  | [.v (.int .i64 x), .v (.int .i64 lo), .v (.int .i64 hi)], m => some (.v (.bool (decide (lo ≤ x ∧ x ≤ hi))), m)
  | _, _ => none
theorem lenWithin_ok : FunOk Tryz.prog 105 withinG := by
  have hC := table_ok (P := Tryz.prog) (l := []) table_nil
  refine fun_ok mixed hC Tryz.func105 rfl kpWithin false rfl fun args m r h => ?_
  unfold withinG at h
  split at h
  · rename_i x lo hi
    simp only [Option.some.injEq] at h
    subst h
    refine ⟨Nat.le_of_ble_eq_true rfl, ?_⟩
    simp only [entry, List.length_cons, List.length_nil, List.range, List.range.loop, List.zip_cons_cons, List.zip_nil_right]
    have fin : ∀ (e : Env) (b : Bool), Ev.get e 6 = .v (.bool b) → b = decide (lo ≤ x ∧ x ≤ hi) → Leaves Tryz.prog false Tryz.f105 m (.v (.bool (decide (lo ≤ x ∧ x ≤ hi))), m) .ret e m := fun e b h1 h2 => by rw [← h2]; exact leaves_v rfl h1
    repeat' (first | refine gos0 ?_ | (refine ops_here ?_; (fail_if_success (refine ops_case (B := true) rfl rfl rfl ?_ ?_)); (fail_if_success (refine ops_case (B := false) rfl rfl rfl ?_ ?_)); refine ops_case rfl rfl rfl (fun hB => ?_) (fun hB => ?_) <;> rw [hB]) | (refine runs_here ?_; refine runs_cond rfl (fun hc => ?_) (fun hc => ?_) <;> first | (cases hc; done) | skip))
    all_goals exact fin _ _ rfl (by rw [Bool.eq_iff_iff]; simp only [decide_eq_true_eq, decide_eq_false_iff_not, Bool.false_eq_true, false_iff, true_iff] at *; omega)
  · cases h
def lenCheckG : List AV → Mem → Option (AV × Mem)
  | [.agg [.v (.int .i64 u), .v (.int .i64 n)]], m => some (.v (.int .i64 (if lenMay u n then 0 else 1)), m)
  | _, _ => none
def kpLenCheck : Nat → Option (List Nat) := fun _ => some [0, 1, 2, 3, 5, 6, 9, 11, 17]
attribute [go_sem] kpLenCheck
theorem lenCheck_ok : FunOk Tryz.prog 104 lenCheckG := by
  have hC := table_ok (P := Tryz.prog) (l := [(105, withinG)]) (table_more lenWithin_ok table_nil)
  have t1 := fun args mm => table_at (l := [(105, withinG)]) (f := 105) (args := args) (m := mm) rfl
  refine fun_ok mixed hC Tryz.func104 rfl kpLenCheck false rfl fun args m r h => ?_
  unfold lenCheckG at h
  split at h
  · rename_i u n
    simp only [Option.some.injEq] at h
    subst h
    refine ⟨Nat.le_of_ble_eq_true rfl, ?_⟩
    simp only [entry, List.length_cons, List.length_nil, List.range, List.range.loop, List.zip_cons_cons, List.zip_nil_right]
    have fw : ∀ x lo hi mm, withinG [.v (.int .i64 x), .v (.int .i64 lo), .v (.int .i64 hi)] mm = some (.v (.bool (decide (lo ≤ x ∧ x ≤ hi))), mm) := fun _ _ _ _ => rfl
    have fin : ∀ (e : Env) (m' : Mem) (b : Int), Ev.get e 2 = .v (.int .i64 b) → finMem m m' = m → ((b = 0 ∧ lenMay u n) ∨ (b = 1 ∧ ¬ lenMay u n)) → Leaves Tryz.prog false Tryz.f104 m (.v (.int .i64 (if lenMay u n then 0 else 1)), m) .ret e m' := fun e m' b h1 h2 h3 => by
      have : b = (if lenMay u n then 0 else 1) := by
        rcases h3 with ⟨rfl, h⟩ | ⟨rfl, h⟩
        · rw [if_pos h]
        · rw [if_neg h]
      rw [← this]
      exact leaves_fin rfl h1 h2
    repeat' (first | refine gos1 (jn @t1 @fw) ?_ | (refine ops_here ?_; (fail_if_success (refine ops_case (B := true) rfl rfl rfl ?_ ?_)); (fail_if_success (refine ops_case (B := false) rfl rfl rfl ?_ ?_)); refine ops_case rfl rfl rfl (fun hB => ?_) (fun hB => ?_) <;> rw [hB]) | (refine runs_here ?_; refine runs_cond rfl (fun hc => ?_) (fun hc => ?_) <;> first | (cases hc; done) | skip))
    all_goals exact fin _ _ _ rfl fin_push (by unfold lenMay; simp only [Bool.not_eq_true', Bool.not_eq_false', decide_eq_true_eq, decide_eq_false_iff_not, Bool.false_eq_true, false_iff, true_iff, beq_iff_eq, bne_iff_ne, beq_eq_false_iff_ne, bne_eq_false_iff_eq, ne_eq, Int.reduceEq, true_and, false_and, or_false, false_or, and_true, and_false] at *; omega)
  · cases h
end Go.Proofs.YtojaokhkbmiidaaGreat.Ev

namespace Go.Proofs.YtojaokhkbmiidaaGreat.Ev
open Go Go.Proofs
set_option maxRecDepth 10000
set_option linter.unusedVariables false
set_option linter.unusedSimpArgs false
attribute [local irreducible] Next Inside Runs Ops table
attribute [local go_sem] szStr szInt Option.getD_some isNil loadStr loadInt mkInts0 mkInts1 mkStrs0 mkStrs1 rowsS_len rowsI_len evStr
/-! ### the first text that .. -/
def firstAt (p : ByteArray → Bool) : List ByteArray → Nat → Int
  | [], _ => -1
  | s :: l, i => if p s then (i : Int) else firstAt p l (i + 1)
theorem firstAt_in (p : ByteArray → Bool) : ∀ (l : List ByteArray) (i : Nat), -1 ≤ firstAt p l i ∧ firstAt p l i < (i + l.length : Nat)
  | [], i => by simp [firstAt]; omega
  | s :: l, i => by
    rw [firstAt]
    split
    · simp only [List.length_cons]; omega
    · have := firstAt_in p l (i + 1)
      simp only [List.length_cons]; omega
theorem firstAt_any (p : ByteArray → Bool) : ∀ (l : List ByteArray) (i : Nat), decide (0 ≤ firstAt p l i) = l.any p
  | [], i => by simp [firstAt]
  | s :: l, i => by
    rw [firstAt]
    cases h : p s with
    | true => simp [h]
    | false => simp only [Bool.false_eq_true, if_false, firstAt_any p l (i + 1), List.any_cons, h, Bool.false_or]
def placeOf (l : List ByteArray) (s : ByteArray) : Int := firstAt (fun x => decide (x = s)) l 0
def placeG : List AV → Mem → Option (AV × Mem)
  | [.lst _ 1 rows, .v (.string s)], m =>
    match unS rows with
    | some l => if l.length ≤ 9223372036854775807 then some (.v (.int .i64 (placeOf l s)), m) else none
    | none => none
  | _, _ => none
theorem placeG_eq {m : Mem} {g : Grow} {l : List ByteArray} {s : ByteArray} (hl : l.length ≤ 9223372036854775807) : placeG [.lst g 1 (rowsS l), .v (.string s)] m = some (.v (.int .i64 (placeOf l s)), m) := by
  simp only [placeG, unS_rowsS]
  rw [if_pos hl]
theorem first_no {p : ByteArray → Bool} {l : List ByteArray} {i : Nat} (hi : i < l.length) (hp : p (l.getD i ⟨#[]⟩) = false) (h : firstAt p (l.drop i) i = firstAt p l 0) : firstAt p (l.drop (i + 1)) (i + 1) = firstAt p l 0 := by
  rw [drop_next (d := ⟨#[]⟩) hi, firstAt, hp, if_neg (by simp)] at h
  exact h
theorem first_yes {p : ByteArray → Bool} {l : List ByteArray} {i : Nat} (hi : i < l.length) (hp : p (l.getD i ⟨#[]⟩) = true) (h : firstAt p (l.drop i) i = firstAt p l 0) : firstAt p l 0 = (i : Int) := by
  rw [drop_next (d := ⟨#[]⟩) hi, firstAt, hp, if_pos rfl] at h
  exact h.symm
theorem first_end {p : ByteArray → Bool} {l : List ByteArray} (h : firstAt p (l.drop l.length) l.length = firstAt p l 0) : firstAt p l 0 = -1 := by
  rw [List.drop_length] at h
  exact h.symm
def kpRefPlace : Nat → Option (List Nat) := fun _ => some [0, 1, 4, 5, 9, 17]
attribute [go_sem] kpRefPlace
theorem refPlace_ok : FunOk Tryz.prog 93 placeG := by
  have hC := table_ok (P := Tryz.prog) (l := []) table_nil
  refine fun_ok mixed hC Tryz.func93 rfl kpRefPlace false rfl fun args m r h => ?_
  unfold placeG at h
  split at h
  · rename_i g rows s
    split at h
    · rename_i l hl0
      obtain rfl := unS_some hl0
      split at h
      · rename_i hlen
        simp only [Option.some.injEq] at h
        subst h
        refine ⟨Nat.le_of_ble_eq_true rfl, ?_⟩
        simp only [entry, List.length_cons, List.length_nil, List.range, List.range.loop, List.zip_cons_cons, List.zip_nil_right]
        refine go0 ?_
        refine runs_loop (fun k e m' => ∃ (i : Nat) (x9 x17 : AV), i ≤ l.length ∧ firstAt (fun x => decide (x = s)) (l.drop i) i = placeOf l s ∧ m = m' ∧ k = l.length - i ∧
          e = [(0, AV.lst g 1 (rowsS l)), (1, .v (.string s)), (4, .v (.int .i64 0)), (5, .v (.int .i64 (i : Int))), (9, x9), (17, x17)]) (k := l.length) ⟨0, _, _, Nat.zero_le _, rfl, rfl, rfl, rfl⟩ ?_
        rintro k e m' ⟨i, x9, x17, hi, hf, rfl, rfl, rfl⟩
        refine go0 ?_
        refine runs_cond rfl (fun hc => ?_) (fun hc => ?_)
        · have hi1 : i < l.length := by have := of_decide_eq_true hc; omega
          have f1 := atStrs (g := g) (kk := .i64) hi1
          refine go1 @f1 ?_
          refine runs_cond rfl (fun hc => ?_) (fun hc => ?_)
          · have : placeOf l s = (i : Int) := first_yes hi1 (decide_eq_true (bytes_same.1 hc)) hf
            rw [this]
            refine go0 ?_
            exact leaves_v rfl rfl
          · have r6 := next_i64 (i := i) (by omega)
            refine go1 @r6 ?_
            exact ⟨l.length - (i + 1), by omega, i + 1, _, _, hi1, first_no hi1 (decide_eq_false (bytes_not.1 hc)) hf, rfl, rfl, rfl⟩
        · have hi1 : i = l.length := by have := of_decide_eq_false hc; omega
          subst hi1
          have : placeOf l s = -1 := first_end hf
          rw [this]
          refine go0 ?_
          exact leaves_v rfl rfl
      · cases h
    · cases h
  · cases h
def kpIndex : Nat → Option (List Nat) := fun _ => some [0, 1, 4, 5, 7, 8, 9, 16]
attribute [go_sem] kpIndex
theorem index_ok : FunOk Tryz.prog 130 placeG := by
  have hC := table_ok (P := Tryz.prog) (l := []) table_nil
  refine fun_ok mixed hC Tryz.func130 rfl kpIndex false rfl fun args m r h => ?_
  unfold placeG at h
  split at h
  · rename_i g rows s
    split at h
    · rename_i l hl0
      obtain rfl := unS_some hl0
      split at h
      · rename_i hlen
        simp only [Option.some.injEq] at h
        subst h
        refine ⟨Nat.le_of_ble_eq_true rfl, ?_⟩
        simp only [entry, List.length_cons, List.length_nil, List.range, List.range.loop, List.zip_cons_cons, List.zip_nil_right]
        refine go0 ?_
        refine runs_loop (fun k e m' => ∃ (i : Nat) (x5 x9 x16 : AV), i ≤ l.length ∧ firstAt (fun x => decide (x = s)) (l.drop i) i = placeOf l s ∧ m = m' ∧ k = l.length - i ∧
          e = [(0, AV.lst g 1 (rowsS l)), (1, .v (.string s)), (4, .v (.int .i64 0)), (5, x5), (7, .v (.int .i64 l.length)), (8, .v (.int .i64 (i : Int))), (9, x9), (16, x16)]) (k := l.length) ⟨0, _, _, _, Nat.zero_le _, rfl, rfl, rfl, rfl⟩ ?_
        rintro k e m' ⟨i, x5, x9, x16, hi, hf, rfl, rfl, rfl⟩
        refine go0 ?_
        refine runs_cond rfl (fun hc => ?_) (fun hc => ?_)
        · have hi1 : i < l.length := by have := of_decide_eq_true hc; omega
          have f1 := atStrs (g := g) (kk := .i64) hi1
          refine go1 @f1 ?_
          refine runs_cond rfl (fun hc => ?_) (fun hc => ?_)
          · have : placeOf l s = (i : Int) := first_yes hi1 (decide_eq_true (bytes_same.1 hc).symm) hf
            rw [this]
            refine go0 ?_
            exact leaves_v rfl rfl
          · have r6 := next_i64 (i := i) (by omega)
            refine go1 @r6 ?_
            exact ⟨l.length - (i + 1), by omega, i + 1, _, _, _, hi1, first_no hi1 (decide_eq_false fun h => bytes_not.1 hc h.symm) hf, rfl, rfl, rfl⟩
        · have hi1 : i = l.length := by have := of_decide_eq_false hc; omega
          subst hi1
          have : placeOf l s = -1 := first_end hf
          rw [this]
          refine go0 ?_
          exact leaves_v rfl rfl
      · cases h
    · cases h
  · cases h
def kpPlace : Nat → Option (List Nat) := fun _ => some [0, 1, 4]
attribute [go_sem] kpPlace
/-! ### keywords -/
def kwRef : List ByteArray := [⟨#[114, 101, 99, 105, 112, 101]⟩, ⟨#[115, 116, 101, 112, 115]⟩, ⟨#[101, 112, 111, 99, 104]⟩, ⟨#[119, 101, 105, 103, 104, 116, 115]⟩, ⟨#[109, 101, 116, 114, 105, 99]⟩, ⟨#[103, 114, 111, 117, 112]⟩, ⟨#[101, 118, 97, 108]⟩, ⟨#[112, 104, 97, 115, 101]⟩, ⟨#[114, 101, 115, 116]⟩, ⟨#[102, 114, 101, 101, 122, 101]⟩, ⟨#[115, 101, 116]⟩, ⟨#[108, 114]⟩, ⟨#[109, 111, 109]⟩, ⟨#[119, 100]⟩, ⟨#[99, 111, 110, 115, 116]⟩, ⟨#[108, 105, 110, 101]⟩, ⟨#[112, 111, 108, 121]⟩, ⟨#[101, 120, 112]⟩, ⟨#[119, 97, 118, 101]⟩, ⟨#[99, 121, 99, 108, 101]⟩, ⟨#[114, 101, 115, 116, 97, 114, 116]⟩, ⟨#[119, 97, 114, 109]⟩, ⟨#[116, 104, 101, 110]⟩, ⟨#[115, 116, 111, 112]⟩, ⟨#[112, 108, 97, 116, 101, 97, 117]⟩, ⟨#[107, 101, 101, 112]⟩, ⟨#[101, 109, 97]⟩, ⟨#[115, 119, 97]⟩, ⟨#[109, 105, 110]⟩, ⟨#[109, 97, 120]⟩, ⟨#[97, 98, 115]⟩, ⟨#[114, 101, 108]⟩, ⟨#[101, 112, 111, 99, 104, 115]⟩]
def kwOwn : List ByteArray := [⟨#[114, 101, 99, 105, 112, 101]⟩, ⟨#[115, 116, 101, 112, 115]⟩, ⟨#[101, 112, 111, 99, 104]⟩, ⟨#[101, 112, 111, 99, 104, 115]⟩, ⟨#[119, 101, 105, 103, 104, 116, 115]⟩, ⟨#[109, 101, 116, 114, 105, 99]⟩, ⟨#[103, 114, 111, 117, 112]⟩, ⟨#[101, 118, 97, 108]⟩, ⟨#[112, 104, 97, 115, 101]⟩, ⟨#[114, 101, 115, 116]⟩, ⟨#[102, 114, 101, 101, 122, 101]⟩, ⟨#[115, 101, 116]⟩, ⟨#[108, 114]⟩, ⟨#[109, 111, 109]⟩, ⟨#[119, 100]⟩, ⟨#[99, 111, 110, 115, 116]⟩, ⟨#[108, 105, 110, 101]⟩, ⟨#[112, 111, 108, 121]⟩, ⟨#[101, 120, 112]⟩, ⟨#[119, 97, 118, 101]⟩, ⟨#[99, 121, 99, 108, 101]⟩, ⟨#[114, 101, 115, 116, 97, 114, 116]⟩, ⟨#[119, 97, 114, 109]⟩, ⟨#[116, 104, 101, 110]⟩, ⟨#[115, 116, 111, 112]⟩, ⟨#[112, 108, 97, 116, 101, 97, 117]⟩, ⟨#[107, 101, 101, 112]⟩, ⟨#[101, 109, 97]⟩, ⟨#[115, 119, 97]⟩, ⟨#[109, 105, 110]⟩, ⟨#[109, 97, 120]⟩, ⟨#[97, 98, 115]⟩, ⟨#[114, 101, 108]⟩]
theorem mkKw : evBuildSlice Tryz.prog 22 33 [(0, .v (.string ⟨#[114, 101, 99, 105, 112, 101]⟩)), (1, .v (.string ⟨#[115, 116, 101, 112, 115]⟩)), (2, .v (.string ⟨#[101, 112, 111, 99, 104]⟩)), (3, .v (.string ⟨#[119, 101, 105, 103, 104, 116, 115]⟩)), (4, .v (.string ⟨#[109, 101, 116, 114, 105, 99]⟩)), (5, .v (.string ⟨#[103, 114, 111, 117, 112]⟩)), (6, .v (.string ⟨#[101, 118, 97, 108]⟩)), (7, .v (.string ⟨#[112, 104, 97, 115, 101]⟩)), (8, .v (.string ⟨#[114, 101, 115, 116]⟩)), (9, .v (.string ⟨#[102, 114, 101, 101, 122, 101]⟩)), (10, .v (.string ⟨#[115, 101, 116]⟩)), (11, .v (.string ⟨#[108, 114]⟩)), (12, .v (.string ⟨#[109, 111, 109]⟩)), (13, .v (.string ⟨#[119, 100]⟩)), (14, .v (.string ⟨#[99, 111, 110, 115, 116]⟩)), (15, .v (.string ⟨#[108, 105, 110, 101]⟩)), (16, .v (.string ⟨#[112, 111, 108, 121]⟩)), (17, .v (.string ⟨#[101, 120, 112]⟩)), (18, .v (.string ⟨#[119, 97, 118, 101]⟩)), (19, .v (.string ⟨#[99, 121, 99, 108, 101]⟩)), (20, .v (.string ⟨#[114, 101, 115, 116, 97, 114, 116]⟩)), (21, .v (.string ⟨#[119, 97, 114, 109]⟩)), (22, .v (.string ⟨#[116, 104, 101, 110]⟩)), (23, .v (.string ⟨#[115, 116, 111, 112]⟩)), (24, .v (.string ⟨#[112, 108, 97, 116, 101, 97, 117]⟩)), (25, .v (.string ⟨#[107, 101, 101, 112]⟩)), (26, .v (.string ⟨#[101, 109, 97]⟩)), (27, .v (.string ⟨#[115, 119, 97]⟩)), (28, .v (.string ⟨#[109, 105, 110]⟩)), (29, .v (.string ⟨#[109, 97, 120]⟩)), (30, .v (.string ⟨#[97, 98, 115]⟩)), (31, .v (.string ⟨#[114, 101, 108]⟩)), (32, .v (.string ⟨#[101, 112, 111, 99, 104, 115]⟩))] = some (.lst .full 1 (rowsS kwRef)) := build_rows appStrs (by rfl) rfl (by decide)
def keyword (s : ByteArray) : Bool := kwRef.any fun x => decide (x = s)
theorem kw_own {s : ByteArray} {w : ByteArray} (h : (s == w) = true) (hw : keyword w = true) : keyword s = true := by
  rw [bytes_same.1 h]
  exact hw
theorem kw_place (s : ByteArray) : decide (0 ≤ placeOf kwRef s) = keyword s := firstAt_any _ _ _
theorem kw_none {s : ByteArray} (h : ∀ w ∈ kwOwn, (s == w) = false) : keyword s = false := by
  unfold keyword
  rw [List.any_eq_false]
  intro x hx hd
  have : x ∈ kwOwn := by
    have sub : (kwRef.all fun x => kwOwn.any fun y => decide (y = x)) = true := by decide
    obtain ⟨y, h1, h2⟩ := List.any_eq_true.1 (List.all_eq_true.1 sub x hx)
    rw [← of_decide_eq_true h2]
    exact h1
  exact bytes_not.1 (h x this) (of_decide_eq_true hd).symm
def keywordsG : List AV → Mem → Option (AV × Mem)
  | [], m => some (.lst .no 1 (rowsS kwRef), m)
  | _, _ => none
def kpKeywords : Nat → Option (List Nat) := fun _ => some [0]
attribute [go_sem] kpKeywords
theorem keywords_ok : FunOk Tryz.prog 94 keywordsG := by
  have hC := table_ok (P := Tryz.prog) (l := []) table_nil
  refine fun_ok mixed hC Tryz.func94 rfl kpKeywords false rfl fun args m r h => ?_
  unfold keywordsG at h
  split at h
  · simp only [Option.some.injEq] at h
    subst h
    refine ⟨Nat.le_of_ble_eq_true rfl, ?_⟩
    simp only [entry, List.length_cons, List.length_nil, List.range, List.range.loop, List.zip_cons_cons, List.zip_nil_right]
    refine go1 @mkKw ?_
    exact leaves_lst rfl rfl (finMem_self _)
  · cases h
def keywordG : List AV → Mem → Option (AV × Mem)
  | [.v (.string s)], m => some (.v (.bool (keyword s)), m)
  | _, _ => none
def kpKeyword : Nat → Option (List Nat) := fun _ => some [0, 2, 3, 4, 17, 30]
attribute [go_sem] kpKeyword
set_option maxHeartbeats 1000000 in
theorem keyword_ok : FunOk Tryz.prog 155 keywordG := by
  have hC := table_ok (P := Tryz.prog) (l := []) table_nil
  refine fun_ok mixed hC Tryz.func155 rfl kpKeyword false rfl fun args m r h => ?_
  unfold keywordG at h
  split at h
  · rename_i s
    simp only [Option.some.injEq] at h
    subst h
    refine ⟨Nat.le_of_ble_eq_true rfl, ?_⟩
    simp only [entry, List.length_cons, List.length_nil, List.range, List.range.loop, List.zip_cons_cons, List.zip_nil_right]
    have fin : ∀ e, Ev.get e 2 = .v (.bool true) → keyword s = true → Leaves Tryz.prog false Tryz.f155 m (.v (.bool (keyword s)), m) .ret e m := fun e h1 h2 => by rw [h2]; exact leaves_v rfl h1
    repeat (first
      | (first | refine runs_seq ?_ | refine runs_block ?_ | refine next_normal ?_ | refine inside_normal ?_ | refine next_exit ?_ | refine inside_exit ?_ | refine inside_other (by decide) ?_ | refine next_ret ?_ | refine inside_ret ?_ | refine runs_ops_kept ?_ | refine runs_skip ?_ | refine runs_exit ?_ | refine runs_ret ?_ | ((first | refine' ops_op rfl rfl (by decide) ?_ ?_ ?_ | refine' ops_yes rfl rfl (by simp only [Ev.get, reduceIte, Nat.reduceEqDiff]; first | done | rfl) rfl (by decide) ?_ ?_ ?_); rotate_left 2; (focus (simp only [evOp, opd, constAV, constCell, Ev.get, reduceIte, Nat.reduceEqDiff, reduceCtorEq, evBinN, nilCmp, evBin, evInt, evUn, evConvert, evBuiltin, evLen, evField, evPart, tStr, tInt, tElem, tArr, tBool, tAgg, tField, Tryz.underlying9, Tryz.underlying3, Tryz.underlying4, Tryz.underlying5, Tryz.underlying21, Tryz.underlying22, Tryz.underlying2, Tryz.underlying102, Tryz.underlying33, List.zipWith, Option.map_some, Option.map_none, List.length_cons, List.length_nil, ne_eq, Int.reduceEq, not_false_eq_true, and_self, and_true, true_and]; first | done | rfl)); exact (fun h => rfl)) | refine ops_no rfl rfl (by simp only [Ev.get, reduceIte, Nat.reduceEqDiff]; first | done | rfl) (by decide) rfl (by decide) ?_ | (refine ops_nil ?_; intro e2 h2; simp only [restr, kpKeyword, List.map_cons, List.map_nil, Ev.get, reduceIte, Nat.reduceEqDiff] at h2; subst h2))
      | (refine runs_cond rfl (fun hc => by
          have hk := kw_own hc (by decide)
          repeat ((first | refine runs_seq ?_ | refine runs_block ?_ | refine next_normal ?_ | refine inside_normal ?_ | refine next_exit ?_ | refine inside_exit ?_ | refine inside_other (by decide) ?_ | refine next_ret ?_ | refine inside_ret ?_ | refine runs_ops_kept ?_ | refine runs_skip ?_ | refine runs_exit ?_ | refine runs_ret ?_ | ((first | refine' ops_op rfl rfl (by decide) ?_ ?_ ?_ | refine' ops_yes rfl rfl (by simp only [Ev.get, reduceIte, Nat.reduceEqDiff]; first | done | rfl) rfl (by decide) ?_ ?_ ?_); rotate_left 2; (focus (simp only [evOp, opd, constAV, constCell, Ev.get, reduceIte, Nat.reduceEqDiff, reduceCtorEq, evBinN, nilCmp, evBin, evInt, evUn, evConvert, evBuiltin, evLen, evField, evPart, tStr, tInt, tElem, tArr, tBool, tAgg, tField, Tryz.underlying9, Tryz.underlying3, Tryz.underlying4, Tryz.underlying5, Tryz.underlying21, Tryz.underlying22, Tryz.underlying2, Tryz.underlying102, Tryz.underlying33, List.zipWith, Option.map_some, Option.map_none, List.length_cons, List.length_nil, ne_eq, Int.reduceEq, not_false_eq_true, and_self, and_true, true_and]; first | done | rfl)); exact (fun h => rfl)) | refine ops_no rfl rfl (by simp only [Ev.get, reduceIte, Nat.reduceEqDiff]; first | done | rfl) (by decide) rfl (by decide) ?_ | (refine ops_nil ?_; intro e2 h2; simp only [restr, kpKeyword, List.map_cons, List.map_nil, Ev.get, reduceIte, Nat.reduceEqDiff] at h2; subst h2)))
          first
            | exact fin _ rfl hk
            | (refine runs_cond rfl (fun _ => ?_) (fun hf => absurd (hc.symm.trans hf) (by decide))
               repeat ((first | refine runs_seq ?_ | refine runs_block ?_ | refine next_normal ?_ | refine inside_normal ?_ | refine next_exit ?_ | refine inside_exit ?_ | refine inside_other (by decide) ?_ | refine next_ret ?_ | refine inside_ret ?_ | refine runs_ops_kept ?_ | refine runs_skip ?_ | refine runs_exit ?_ | refine runs_ret ?_ | ((first | refine' ops_op rfl rfl (by decide) ?_ ?_ ?_ | refine' ops_yes rfl rfl (by simp only [Ev.get, reduceIte, Nat.reduceEqDiff]; first | done | rfl) rfl (by decide) ?_ ?_ ?_); rotate_left 2; (focus (simp only [evOp, opd, constAV, constCell, Ev.get, reduceIte, Nat.reduceEqDiff, reduceCtorEq, evBinN, nilCmp, evBin, evInt, evUn, evConvert, evBuiltin, evLen, evField, evPart, tStr, tInt, tElem, tArr, tBool, tAgg, tField, Tryz.underlying9, Tryz.underlying3, Tryz.underlying4, Tryz.underlying5, Tryz.underlying21, Tryz.underlying22, Tryz.underlying2, Tryz.underlying102, Tryz.underlying33, List.zipWith, Option.map_some, Option.map_none, List.length_cons, List.length_nil, ne_eq, Int.reduceEq, not_false_eq_true, and_self, and_true, true_and]; first | done | rfl)); exact (fun h => rfl)) | refine ops_no rfl rfl (by simp only [Ev.get, reduceIte, Nat.reduceEqDiff]; first | done | rfl) (by decide) rfl (by decide) ?_ | (refine ops_nil ?_; intro e2 h2; simp only [restr, kpKeyword, List.map_cons, List.map_nil, Ev.get, reduceIte, Nat.reduceEqDiff] at h2; subst h2)))
               exact fin _ rfl hk)) (fun hc => ?_)))
    have hk : keyword s = false := by
      refine kw_none ?_
      simp only [kwOwn, List.mem_cons, List.not_mem_nil, or_false, forall_eq_or_imp, forall_eq]
      simp only [*, and_self]
    rw [hk]
    exact leaves_v rfl rfl
  · cases h
def kpParamWord : Nat → Option (List Nat) := fun _ => some [0, 2, 3, 4, 6, 8]
attribute [go_sem] kpParamWord
def kpParam : Nat → Option (List Nat) := fun _ => some [0, 2, 3, 4, 5, 6, 11]
attribute [go_sem] kpParam
end Go.Proofs.YtojaokhkbmiidaaGreat.Ev

namespace Go.Proofs.YtojaokhkbmiidaaGreat.Ev
open Go Go.Proofs
set_option maxRecDepth 10000
set_option maxHeartbeats 8000000
set_option linter.unusedVariables false
set_option linter.unusedSimpArgs false
attribute [local irreducible] Next Inside Runs Ops table
/-! ### the list's cells -/
theorem fpRlRule {r : Nat} : evFieldAddr Tryz.prog 119 (.ptr r 0) 0 = some (.ptr r 0) := by kernel_rfl
theorem fpRlList {r : Nat} : evFieldAddr Tryz.prog 119 (.ptr r 0) 1 = some (.ptr r 1) := by kernel_rfl
theorem agFlaws : tAgg Tryz.prog 40 = some false := by kernel_rfl
theorem szFlaws : tSize Tryz.prog 40 = some 1 := by kernel_rfl
theorem lpRlRule {m : Mem} {r : Nat} {rule : Int} {l : AV} (hv : m.var r = some [.v (.int .i64 rule), l]) : evLoad Tryz.prog m 3 (.ptr r 0) = some (.v (.int .i64 rule)) := by
  unfold evLoad
  simp only [ptrCells, hv, Option.map_some, szInt, agInt]
  rfl
theorem lpRlList {m : Mem} {r : Nat} {rule : Int} {l : AV} (hv : m.var r = some [.v (.int .i64 rule), l]) : evLoad Tryz.prog m 40 (.ptr r 1) = some l := by
  unfold evLoad
  simp only [ptrCells, hv, Option.map_some, szFlaws, agFlaws]
  rfl
theorem mkFl {a b c : Int} : evBuild Tryz.prog 83 [(0, .v (.int .i64 a)), (1, .v (.int .i64 b)), (2, .v (.int .i64 c))] = some (.agg [.v (.int .i64 a), .v (.int .i64 b), .v (.int .i64 c)]) := by kernel_rfl
theorem mkFls1 {a b c : Int} : evBuildSlice Tryz.prog 40 1 [(0, .agg [.v (.int .i64 a), .v (.int .i64 b), .v (.int .i64 c)])] = some (.lst .full 3 [[.v (.int .i64 a), .v (.int .i64 b), .v (.int .i64 c)]]) := build_rows appFl rfl rfl (by decide)
theorem putList {m : Mem} {r : Nat} {rule : Int} {l : AV} {g : Grow} {rows : List (List AV)} (hv : m.var r = some [.v (.int .i64 rule), l]) :
    evStore Tryz.prog m 40 (.ptr r 1) (.lst g 3 rows) = some { m with vars := m.vars.set r (some [.v (.int .i64 rule), .lst g 3 rows]) } := by
  unfold evStore
  simp only [cellsOf, flat, List.all_cons, List.all_nil, okCell, Bool.and_true, if_true, szFlaws, hv]
  rfl
theorem var_lt {m : Mem} {r : Nat} {cs : List AV} (h : m.var r = some cs) : r < m.vars.length ∧ m.vars[r]? = some (some cs) := by
  unfold Mem.var at h
  cases hx : m.vars[r]? with
  | none => rw [hx] at h; cases h
  | some y => rw [hx] at h; cases y with
    | none => cases h
    | some z =>
      cases h
      exact ⟨(List.getElem?_eq_some_iff.1 hx).1, rfl⟩
theorem var_of {m : Mem} {r : Nat} {cs : List AV} (h : m.vars[r]? = some (some cs)) : m.var r = some cs := by
  unfold Mem.var
  rw [h]
  rfl
/-- Behind a change of a variable that was there. -/
theorem fin_set {m : Mem} {r : Nat} {cs cs' : List AV} {T : List Nat} (h : m.var r = some cs) (hne : cs ≠ cs') : finMem m { vars := m.vars.set r (some cs'), toks := T } = { vars := m.vars.set r (some cs'), toks := T } := by
  obtain ⟨hlt, hx⟩ := var_lt h
  unfold finMem
  have e : (m.vars.set r (some cs')).take m.vars.length = m.vars.set r (some cs') := List.take_of_length_le (by simp)
  rw [if_neg]
  · simp only [e]
  · simp only [e]
    intro he
    have : (m.vars.set r (some cs'))[r]? = m.vars[r]? := by rw [he]
    rw [List.getElem?_set_self hlt, hx] at this
    cases this
    exact hne rfl
def noteG : List AV → Mem → Option (AV × Mem)
  | [.ptr r 0, .v (.bool b), .v (.int .i64 i), .v (.int .i64 p)], m =>
    if b = true then
      match m.var r with
      | some [.v (.int .i64 rule), .lst .full 3 rows] =>
        if rows.length + 1 ≤ lim then some (.tup [], { vars := m.vars.set r (some [.v (.int .i64 rule), .lst (.tok m.toks.length 0) 3 (rows ++ [[.v (.int .i64 rule), .v (.int .i64 i), .v (.int .i64 p)]])]), toks := m.toks ++ [0] }) else none
      | some [.v (.int .i64 rule), .lst (.tok id v) 3 rows] =>
        if rows.length + 1 ≤ lim ∧ m.toks[id]? = some v then some (.tup [], { vars := m.vars.set r (some [.v (.int .i64 rule), .lst (.tok id (v + 1)) 3 (rows ++ [[.v (.int .i64 rule), .v (.int .i64 i), .v (.int .i64 p)]])]), toks := m.toks.set id (v + 1) }) else none
      | _ => none
    else some (.tup [], m)
  | _, _ => none
theorem leaves_none {P : Program} {fn : Func} {m m' m2 : Mem} {e : Env} (h : fn.results = #[]) (hm : finMem m m' = m2) : Leaves P false fn m (.tup [], m2) .normal e m' := by
  show evRet P false fn m e m' = _
  unfold evRet
  rw [h]
  simp [hm]
attribute [local go_sem] szStr szInt Option.getD_some isNil evStr loadStr loadInt fpRlRule fpRlList mkFl mkFls1
def kpNote : Nat → Option (List Nat) := fun
  | 0 => some [0, 2, 3, 8]
  | 1 => some []
  | _ => none
attribute [go_sem] kpNote
theorem note_ok : FunOk Tryz.prog 78 noteG := by
  have hC := table_ok (P := Tryz.prog) (l := []) table_nil
  refine fun_ok mixed hC Tryz.func78 rfl kpNote false rfl fun args m r h => ?_
  unfold noteG at h
  split at h
  · rename_i r b i p
    split at h
    · rename_i hb
      subst hb
      have app := fun (mm : Mem) (g : Grow) (rows : List (List AV)) (row : List AV) (hl : rows.length + 1 ≤ lim) => app_of (m := mm) (g := g) (xs := rows) (ys := [row]) appFl asList_lst (asList_lst (g := .full)) hl
      split at h
      · rename_i rule rows hv
        split at h
        · rename_i hl
          simp only [Option.some.injEq] at h
          subst h
          refine ⟨Nat.le_of_ble_eq_true rfl, ?_⟩
          simp only [entry, List.length_cons, List.length_nil, List.range, List.range.loop, List.zip_cons_cons, List.zip_nil_right]
          have v1 := lpRlRule (rule := rule) hv
          have v2 := lpRlList (rule := rule) hv
          have v3 := app m .full rows [.v (.int .i64 rule), .v (.int .i64 i), .v (.int .i64 p)] hl
          have v4 := putList (m := { m with toks := m.toks ++ [0] }) (g := .tok m.toks.length 0) (rows := rows ++ [[.v (.int .i64 rule), .v (.int .i64 i), .v (.int .i64 p)]]) (l := .lst .full 3 rows) (rule := rule) (r := r) hv
          refine go0 ?_
          refine runs_cond rfl (fun hc => ?_) (fun hc => by cases hc)
          refine runs_ops_drawn_kept (by kernel_rfl) ?_
          refine go1 (jn @v1 (jn @v2 (jn @v3 @v4))) ?_
          refine leaves_none rfl (fin_set hv ?_)
          simp
        · cases h
      · rename_i rule id v rows hv
        split at h
        · rename_i hl
          obtain ⟨hl, hid⟩ := hl
          simp only [Option.some.injEq] at h
          subst h
          refine ⟨Nat.le_of_ble_eq_true rfl, ?_⟩
          simp only [entry, List.length_cons, List.length_nil, List.range, List.range.loop, List.zip_cons_cons, List.zip_nil_right]
          have v1 := lpRlRule (rule := rule) hv
          have v2 := lpRlList (rule := rule) hv
          have v3 := app m (.tok id v) rows [.v (.int .i64 rule), .v (.int .i64 i), .v (.int .i64 p)] hl
          simp only [hid, if_true] at v3
          have v4 := putList (m := { m with toks := m.toks.set id (v + 1) }) (g := .tok id (v + 1)) (rows := rows ++ [[.v (.int .i64 rule), .v (.int .i64 i), .v (.int .i64 p)]]) (l := .lst (.tok id v) 3 rows) (rule := rule) (r := r) hv
          refine go0 ?_
          refine runs_cond rfl (fun hc => ?_) (fun hc => by cases hc)
          refine runs_ops_drawn_kept (by kernel_rfl) ?_
          refine go1 (jn @v1 (jn @v2 (jn @v3 @v4))) ?_
          refine leaves_none rfl (fin_set hv ?_)
          simp
        · cases h
      · cases h
    · rename_i hb
      simp only [Option.some.injEq] at h
      subst h
      obtain rfl : b = false := by simpa using hb
      refine ⟨Nat.le_of_ble_eq_true rfl, ?_⟩
      simp only [entry, List.length_cons, List.length_nil, List.range, List.range.loop, List.zip_cons_cons, List.zip_nil_right]
      refine go0 ?_
      refine runs_cond rfl (fun hc => by cases hc) (fun hc => ?_)
      refine go0 ?_
      exact leaves_none rfl (finMem_self m)
  · cases h
/-! ### a list of flaws that grows from nothing -/
def flLst (m : Mem) (fl : List Fl) : AV := if fl = [] then .lst .full 3 [] else .lst (.tok m.toks.length (fl.length - 1)) 3 (rowsFl fl)
def flMem (m : Mem) (r : Nat) (rule : Int) (fl : List Fl) : Mem := if fl = [] then m else { vars := m.vars.set r (some [.v (.int .i64 rule), .lst (.tok m.toks.length (fl.length - 1)) 3 (rowsFl fl)]), toks := m.toks ++ [fl.length - 1] }
theorem flMem_nil {m : Mem} {r : Nat} {rule : Int} : flMem m r rule [] = m := if_pos rfl
theorem above_var {m m' : Mem} (h : Above m m') {r : Nat} {cs : List AV} (hv : m.var r = some cs) : m'.var r = some cs := by
  obtain ⟨L, rfl⟩ := h
  obtain ⟨hlt, hx⟩ := var_lt hv
  apply var_of
  show (m.vars ++ L)[r]? = _
  rw [List.getElem?_append_left hlt, hx]
theorem above_set {m m' : Mem} (h : Above m m') {r : Nat} {cs : List AV} {T : List Nat} (hr : r < m.vars.length) : Above { vars := m.vars.set r (some cs), toks := T } { vars := m'.vars.set r (some cs), toks := T } := by
  obtain ⟨L, rfl⟩ := h
  refine ⟨L, ?_⟩
  simp only [List.set_append_left _ _ hr]
theorem above_toks {m m' : Mem} (h : Above m m') : m'.toks = m.toks := by obtain ⟨L, rfl⟩ := h; rfl
theorem flMem_var {m : Mem} {r : Nat} {rule : Int} {fl : List Fl} (hv : m.var r = some [.v (.int .i64 rule), .lst .full 3 []]) : (flMem m r rule fl).var r = some [.v (.int .i64 rule), flLst m fl] := by
  unfold flMem flLst
  by_cases h : fl = []
  · rw [if_pos h, if_pos h]; exact hv
  · rw [if_neg h, if_neg h]
    apply var_of
    rw [List.getElem?_set_self (var_lt hv).1]
theorem flMem_len {m : Mem} {r : Nat} {rule : Int} {fl : List Fl} : (flMem m r rule fl).vars.length = m.vars.length := by
  unfold flMem
  split
  · rfl
  · simp
theorem fin_flMem {m m' : Mem} {r : Nat} {rule : Int} {fl : List Fl} (hv : m.var r = some [.v (.int .i64 rule), .lst .full 3 []]) (h : Above (flMem m r rule fl) m') : finMem m m' = flMem m r rule fl := by
  by_cases hn : fl = []
  · subst hn
    rw [flMem_nil] at h ⊢
    exact above_fin h
  · unfold flMem at h ⊢
    rw [if_neg hn] at h ⊢
    obtain ⟨L, rfl⟩ := h
    obtain ⟨hlt, hx⟩ := var_lt hv
    unfold finMem
    have e : (m.vars.set r (some [.v (.int .i64 rule), .lst (.tok m.toks.length (fl.length - 1)) 3 (rowsFl fl)]) ++ L).take m.vars.length = m.vars.set r (some [.v (.int .i64 rule), .lst (.tok m.toks.length (fl.length - 1)) 3 (rowsFl fl)]) := by
      rw [List.take_append_of_le_length (by simp)]
      exact List.take_of_length_le (by simp)
    rw [if_neg]
    · simp only [e]
    · simp only [e]
      intro he
      have : (m.vars.set r (some [.v (.int .i64 rule), .lst (.tok m.toks.length (fl.length - 1)) 3 (rowsFl fl)]))[r]? = m.vars[r]? := by rw [he]
      rw [List.getElem?_set_self hlt, hx] at this
      simp at this
theorem var_set_ne {m : Mem} {r q : Nat} {cs cs' : List AV} {T : List Nat} (hq : q ≠ r) (h : m.var q = some cs) : ({ vars := m.vars.set r (some cs'), toks := T } : Mem).var q = some cs := by
  apply var_of
  show (m.vars.set r _)[q]? = _
  rw [List.getElem?_set_ne (fun h => hq h.symm), (var_lt h).2]
theorem push_old {m : Mem} {q : Nat} {cs cs' : List AV} (h : m.var q = some cs) : (m.push cs').var q = some cs := by
  apply var_of
  show (m.vars ++ [_])[q]? = _
  rw [List.getElem?_append_left (var_lt h).1, (var_lt h).2]
theorem above_len {m m' : Mem} (h : Above m m') : m.vars.length ≤ m'.vars.length := by
  obtain ⟨L, rfl⟩ := h
  simp
theorem note_step {m m' : Mem} {r : Nat} {rule : Int} {fl : List Fl} (hv : m.var r = some [.v (.int .i64 rule), .lst .full 3 []]) (h : Above (flMem m r rule fl) m') (hl : fl.length < 4294967295) (b : Bool) (i p : Int) :
    ∃ m'', noteG [.ptr r 0, .v (.bool b), .v (.int .i64 i), .v (.int .i64 p)] m' = some (.tup [], m'') ∧ Above (flMem m r rule (if b then fl ++ [⟨rule, i, p⟩] else fl)) m'' ∧ (∀ q cs, q ≠ r → m'.var q = some cs → m''.var q = some cs) := by
  have hv' := above_var h (flMem_var (fl := fl) hv)
  have ht := above_toks h
  have hlt := (var_lt hv).1
  cases b with
  | false => exact ⟨m', rfl, h, fun q cs _ h => h⟩
  | true =>
    by_cases hn : fl = []
    · subst hn
      rw [flMem_nil] at h ht
      have e1 : flLst m [] = .lst .full 3 [] := if_pos rfl
      rw [e1] at hv'
      refine ⟨{ vars := m'.vars.set r (some [.v (.int .i64 rule), .lst (.tok m'.toks.length 0) 3 [[.v (.int .i64 rule), .v (.int .i64 i), .v (.int .i64 p)]]]), toks := m'.toks ++ [0] }, ?_, ?_, fun q cs hq hc => var_set_ne hq hc⟩
      · simp only [noteG, if_true, hv', List.length_nil, List.nil_append]
        rw [if_pos (by decide)]
      · have e2 : flMem m r rule ([] ++ [⟨rule, i, p⟩]) = { vars := m.vars.set r (some [.v (.int .i64 rule), .lst (.tok m.toks.length 0) 3 [[.v (.int .i64 rule), .v (.int .i64 i), .v (.int .i64 p)]]]), toks := m.toks ++ [0] } := if_neg (by simp)
        rw [if_pos rfl, e2, ht]
        exact above_set h hlt
    · have e1 : flLst m fl = .lst (.tok m.toks.length (fl.length - 1)) 3 (rowsFl fl) := if_neg hn
      have e0 : flMem m r rule fl = { vars := m.vars.set r (some [.v (.int .i64 rule), .lst (.tok m.toks.length (fl.length - 1)) 3 (rowsFl fl)]), toks := m.toks ++ [fl.length - 1] } := if_neg hn
      have hpos : 0 < fl.length := by cases fl with | nil => exact absurd rfl hn | cons a b => simp
      rw [e1] at hv'
      rw [e0] at h ht
      simp only at ht
      have hid : m'.toks[m.toks.length]? = some (fl.length - 1) := by rw [ht]; simp
      refine ⟨{ vars := m'.vars.set r (some [.v (.int .i64 rule), .lst (.tok m.toks.length (fl.length - 1 + 1)) 3 (rowsFl fl ++ [[.v (.int .i64 rule), .v (.int .i64 i), .v (.int .i64 p)]])]), toks := m'.toks.set m.toks.length (fl.length - 1 + 1) }, ?_, ?_, fun q cs hq hc => var_set_ne hq hc⟩
      · simp only [noteG, if_true, hv']
        rw [if_pos ⟨by rw [rowsFl_len]; unfold lim; omega, hid⟩]
      · have e2 : flMem m r rule (fl ++ [⟨rule, i, p⟩]) = { vars := m.vars.set r (some [.v (.int .i64 rule), .lst (.tok m.toks.length (fl.length - 1 + 1)) 3 (rowsFl fl ++ [[.v (.int .i64 rule), .v (.int .i64 i), .v (.int .i64 p)]])]), toks := m.toks ++ [fl.length - 1 + 1] } := by
          unfold flMem
          rw [if_neg (by simp)]
          have : (fl ++ [(⟨rule, i, p⟩ : Fl)]).length - 1 = fl.length - 1 + 1 := by simp; omega
          rw [this, ← rowsFl_app]
          rfl
        rw [if_pos rfl, e2, ht, show (m.toks ++ [fl.length - 1]).set m.toks.length (fl.length - 1 + 1) = m.toks ++ [fl.length - 1 + 1] by simp [List.set_append]]
        have := above_set (T := m.toks ++ [fl.length - 1 + 1]) (cs := [.v (.int .i64 rule), .lst (.tok m.toks.length (fl.length - 1 + 1)) 3 (rowsFl fl ++ [[.v (.int .i64 rule), .v (.int .i64 i), .v (.int .i64 p)]])]) h (r := r) (by simpa using hlt)
        simpa using this
/-! ### is a text among others? -/
def among (l : List ByteArray) (s : ByteArray) : Bool := l.any fun x => decide (x = s)
def amongG : List AV → Mem → Option (AV × Mem)
  | [.lst _ 1 rows, .v (.string s)], m =>
    match unS rows with
    | some l => if l.length ≤ 9223372036854775807 then some (.v (.bool (among l s)), m) else none
    | none => none
  | _, _ => none
theorem amongG_eq {m : Mem} {g : Grow} {l : List ByteArray} {s : ByteArray} (hl : l.length ≤ 9223372036854775807) : amongG [.lst g 1 (rowsS l), .v (.string s)] m = some (.v (.bool (among l s)), m) := by
  simp only [amongG, unS_rowsS]
  rw [if_pos hl]
theorem place_in (l : List ByteArray) (s : ByteArray) : decide (placeOf l s ≥ 0) = among l s := firstAt_any (fun x => decide (x = s)) l 0
attribute [local go_sem] rowsS_len
def kpAmong : Nat → Option (List Nat) := fun
  | 0 => some [0, 1]
  | 1 => some [4]
  | _ => none
attribute [go_sem] kpAmong
def tab_among_ok : List (FuncId × (List AV → Mem → Option (AV × Mem))) := [(130, placeG)]
theorem among_ok : FunOk Tryz.prog 132 amongG := by
  have hC := table_ok (P := Tryz.prog) (l := tab_among_ok) (table_more index_ok table_nil)
  have t1 := fun args mm => table_at (l := tab_among_ok) (f := 130) (args := args) (m := mm) rfl
  refine fun_ok mixed hC Tryz.func132 rfl kpAmong false rfl fun args m r h => ?_
  unfold amongG at h
  split at h
  · rename_i g rows s
    split at h
    · rename_i l hl0
      obtain rfl := unS_some hl0
      split at h
      · rename_i hl
        simp only [Option.some.injEq] at h
        subst h
        refine ⟨Nat.le_of_ble_eq_true rfl, ?_⟩
        simp only [entry, List.length_cons, List.length_nil, List.range, List.range.loop, List.zip_cons_cons, List.zip_nil_right]
        have f1 := fun mm => placeG_eq (m := mm) (g := .no) (s := s) hl
        have f2 := place_in l s
        refine go1 (jn @t1 (jn @f1 @f2)) ?_
        exact leaves_v rfl rfl
      · cases h
    · cases h
  · cases h
end Go.Proofs.YtojaokhkbmiidaaGreat.Ev

namespace Go.Proofs.YtojaokhkbmiidaaGreat.Ev
open Go Go.Proofs
set_option maxRecDepth 10000
set_option maxHeartbeats 8000000
set_option linter.unusedVariables false
set_option linter.unusedSimpArgs false
attribute [local irreducible] Next Inside Runs Ops table
attribute [local irreducible] XRuns XOps XNext XInside XAny XStep
/-! ### flaws place by place -/
def upto (n : Nat) (f : Nat → List Fl) : List Fl := (List.range n).flatMap f
theorem upto_zero {f : Nat → List Fl} : upto 0 f = [] := rfl
theorem upto_next {n : Nat} {f : Nat → List Fl} : upto (n + 1) f = upto n f ++ f n := by
  unfold upto
  rw [List.range_succ, List.flatMap_append]
  simp
theorem upto_len {f : Nat → List Fl} {c : Nat} : ∀ (n : Nat), (∀ i, i < n → (f i).length ≤ c) → (upto n f).length ≤ n * c
  | 0, _ => by simp [upto]
  | n + 1, h => by
    rw [upto_next, List.length_append, Nat.add_mul]
    have := upto_len n fun i hi => h i (by omega)
    have := h n (by omega)
    omega
def flawIf (b : Bool) (rule i k : Int) : List Fl := if b then [⟨rule, i, k⟩] else []
theorem flawIf_len (b : Bool) (rule i k : Int) : (flawIf b rule i k).length ≤ 1 := by unfold flawIf; split <;> simp
theorem flawIf_app (fl : List Fl) (b : Bool) (rule i k : Int) : (if b then fl ++ [⟨rule, i, k⟩] else fl) = fl ++ flawIf b rule i k := by unfold flawIf; cases b <;> simp
/-- Recipes that are not great. -/
def Rc.small (r : Rc) : Prop := r.metrics.length ≤ 64 ∧ r.groups.length ≤ 64 ∧ r.phases.length ≤ 64 ∧ ∀ p ∈ r.phases, p.frozen.length ≤ 64 ∧ p.sets.length ≤ 64 ∧ ∀ s ∈ p.sets, s.nodes.length ≤ 100
instance (r : Rc) : Decidable r.small := by unfold Rc.small; exact inferInstance
theorem Rc.small.phase {r : Rc} (h : r.small) (i : Nat) : (r.phases.getD i ph0).frozen.length ≤ 64 ∧ (r.phases.getD i ph0).sets.length ≤ 64 ∧ ∀ s ∈ (r.phases.getD i ph0).sets, s.nodes.length ≤ 100 := by
  rw [List.getD]
  cases hp : r.phases[i]? with
  | none => simp [ph0]
  | some p => exact h.2.2.2 p (List.mem_of_getElem? hp)
/-! ### whose hyperparameter -/
def encPl (k : ByteArray × Int) : Value := .agg #[.string k.1, .int .i64 k.2]
theorem placeKey : KeyOk Tryz.prog 148 (ByteArray × Int) encPl where
  ck em k w := by kernel_rfl
  eq a b w := by
    have h : eqTy Tryz.prog 8 148 (.agg [.v (.string a.1), .v (.int .i64 a.2)]) (.agg [.v (.string b.1), .v (.int .i64 b.2)]) = some ((a.1 == b.1) && ((a.2 == b.2) && true)) := by kernel_rfl
    have rep : ∀ c : ByteArray × Int, Rep (phiW w) ⟨[], []⟩ w (.agg [.v (.string c.1), .v (.int .i64 c.2)]) (encPl c) := fun c => .agg _ _ rfl fun i x u e1 e2 => by
      match i, e1, e2 with
      | 0, e1, e2 => cases e1; cases e2; exact .v _
      | 1, e1, e2 => cases e1; cases e2; exact .v _
      | i + 2, e1, e2 => simp at e1
    have := eqTy_sound (φ := phiW w) (m := ⟨[], []⟩) (w := w) 9992 8 _ _ _ _ _ _ h (rep a) (rep b)
    have e : ((a.1 == b.1) && ((a.2 == b.2) && true)) = decide (a = b) := by
      rw [bytes_dec, Bool.and_true, Bool.eq_iff_iff]
      obtain ⟨a1, a2⟩ := a
      obtain ⟨b1, b2⟩ := b
      simp
    rw [e] at this
    exact this
  wide := by kernel_rfl
  stay k := by
    obtain ⟨g, p⟩ := k
    simp [encPl, Instr.sameBits, bytes_self]
theorem x_icut {P : Program} {φ₀ : Phi} {m₀ : Mem} {w₀ : World} {nt : Nat} {x : Code} {e : Env} {m : Mem} {F : Objs} {Q : PostF} (I : Env → Mem → Objs → Prop) (h : XRuns P φ₀ m₀ w₀ nt x e m F fun z e m F => match z with | .normal => I e m F | _ => False) (hk : ∀ e m F, I e m F → Q .normal e m F) :
    XRuns P φ₀ m₀ w₀ nt x e m F Q :=
  x_mono h fun z e m F hz => by
    cases z with
    | normal => exact hk e m F hz
    | exit id => exact hz.elim
    | ret => exact hz.elim
theorem x_ncut {P : Program} {φ₀ : Phi} {m₀ : Mem} {w₀ : World} {nt : Nat} {x : Code} {e : Env} {m : Mem} {F : Objs} {Q : PostF} {K : Env → Mem → Objs → Prop} (I : Env → Mem → Objs → Prop) (h : XRuns P φ₀ m₀ w₀ nt x e m F fun z e m F => match z with | .normal => I e m F | _ => False) (hk : ∀ e m F, I e m F → K e m F) :
    XRuns P φ₀ m₀ w₀ nt x e m F (XNext K Q) :=
  x_mono h fun z e m F hz => by
    cases z with
    | normal => exact xn_normal (hk e m F hz)
    | exit id => exact hz.elim
    | ret => exact hz.elim
/-! ### sets -/
def keyOf (s : Gs) : ByteArray × Int := (s.group, s.param)
def cnt (l : List Gs) (q : ByteArray × Int) : Nat := (l.filter fun s => decide (keyOf s = q)).length
theorem cnt_next {l : List Gs} {k : Nat} (hk : k < l.length) (q : ByteArray × Int) : cnt (l.take (k + 1)) q = cnt (l.take k) q + if q = keyOf (l.getD k gs0) then 1 else 0 := by
  unfold cnt
  rw [take_next (d := gs0) hk, List.filter_append, List.length_append]
  congr 1
  generalize l.getD k gs0 = s
  by_cases h : keyOf s = q
  · rw [if_pos h.symm]
    simp [h]
  · rw [if_neg (fun e => h e.symm)]
    simp [h]
theorem cnt_le (l : List Gs) (q : ByteArray × Int) : cnt l q ≤ l.length := List.length_filter_le ..
def dupAt (l : List Gs) (k : Nat) : Bool := decide (0 < cnt (l.take k) (keyOf (l.getD k gs0)))
def setBad (R : Rc) (p : Ph) (k : Nat) : Bool := !among R.groups (p.sets.getD k gs0).group || (among p.frozen (p.sets.getD k gs0).group || dupAt p.sets k)
def setsFl (rule : Int) (R : Rc) : List Fl := upto R.phases.length fun i => upto (R.phases.getD i ph0).sets.length fun k => flawIf (setBad R (R.phases.getD i ph0) k) rule i k
def setsG : List AV → Mem → Option (AV × Mem)
  | [.ptr r 0, .agg cs], m =>
    match unRc cs, m.var r with
    | some R, some [.v (.int .i64 rule), .lst .full 3 []] => if R.small then some (.tup [], flMem m r rule (setsFl rule R)) else none
    | _, _ => none
  | _, _ => none
theorem mem_setObjs {F : Objs} {b : Nat} {o o' : Obj} (h : (b, o) ∈ F) : (b, o') ∈ setObjs F b o' := List.mem_map.2 ⟨(b, o), h, if_pos rfl⟩
theorem zeroInt_run (w : World) : (zeroValue 3).run Tryz.prog w = .ok (.int .i64 0) w := by kernel_rfl
theorem underMap : Tryz.prog.underlying 146 = some (.map 148 3) := by simp only [Tryz.underlying146]
theorem mkPl {g : ByteArray} {p : Int} : evBuild Tryz.prog 148 [(0, .v (.string g)), (1, .v (.int .i64 p))] = some (.agg [.v (.string g), .v (.int .i64 p)]) := by kernel_rfl
theorem zrPl : zeroCells Tryz.prog 148 = some [.v (.string ⟨#[]⟩), .v (.int .i64 0)] := by kernel_rfl
theorem zoPl : ([AV.v (.string ⟨#[]⟩), .v (.int .i64 0)].all okCell) = true := rfl
theorem znPl {m : Mem} : newVar m m.vars.length [.v (.string ⟨#[]⟩), .v (.int .i64 0)] = some (m.push [.v (.string ⟨#[]⟩), .v (.int .i64 0)]) := newVar_push rfl
theorem zsPl {m : Mem} {g : ByteArray} {p : Int} : evStore Tryz.prog (m.push [.v (.string ⟨#[]⟩), .v (.int .i64 0)]) 148 (.ptr m.vars.length 0) (.agg [.v (.string g), .v (.int .i64 p)]) = some (m.push [.v (.string g), .v (.int .i64 p)]) := by
  rw [store_push (cs := [.v (.string g), .v (.int .i64 p)]) rfl (show tSize Tryz.prog 148 = some 2 by kernel_rfl) (Nat.le_refl _) rfl]
  rfl
theorem lpPl {m : Mem} {r : Nat} {cs : List AV} {g : ByteArray} {p : Int} (hv : m.var r = some [.v (.string g), .v (.int .i64 p)]) : evLoad Tryz.prog m 148 (.ptr r 0) = some (.agg [.v (.string g), .v (.int .i64 p)]) := by
  unfold evLoad
  simp only [ptrCells, hv, Option.map_some]
  rw [show tAgg Tryz.prog 148 = some true by kernel_rfl, show tSize Tryz.prog 148 = some 2 by kernel_rfl]
  rfl
attribute [local go_sem] szStr szInt Option.getD_some isNil evStr loadStr loadInt rowsS_len rowsPh_len rowsGs_len fpRcPhases fpRcGroups fpPhSets fpPhFrozen fpGsGroup fpGsParam cellsRc newRc mapRc zrPh zoPh znPh zsPh ldPh zrGs zoGs znGs zsGs ldGs mkPl zrPl zoPl znPl zsPl
def kpSets : Nat → Option (List Nat) := fun
  | 0 => some [0, 3]
  | 1 => some [0, 3, 11, 12, 13]
  | 2 => some [0, 3, 11, 12, 13, 14]
  | 3 => some [0, 3, 4, 5, 11, 12, 13]
  | 4 => some [0, 3, 4, 5, 6, 11, 12, 13]
  | 5 => some [0, 3, 4, 5, 6, 11, 12, 13, 20, 21, 22]
  | 6 => some [0, 3, 4, 5, 6, 11, 12, 13, 20, 21, 22, 23]
  | 7 => some [0, 3, 4, 5, 6, 7, 8, 11, 12, 13, 20, 21, 22]
  | 8 => some [0, 3, 4, 5, 6, 7, 8, 9, 11, 12, 13, 20, 21, 22]
  | 9 => some [0, 3, 4, 5, 6, 9, 11, 12, 13, 20, 21, 22]
  | 10 => some [0, 3, 4, 5, 6, 11, 12, 13, 20, 21, 22]
  | 11 => some [0, 3, 4, 5, 6, 11, 12, 13, 20, 21, 22]
  | 12 => some [0, 3, 11, 12, 13]
  | _ => none
attribute [go_sem] kpSets
def tab_sets : List (FuncId × (List AV → Mem → Option (AV × Mem))) := [(132, amongG), (78, noteG)]
theorem sets_ok : FunOk Tryz.prog 86 setsG := by
  have hC := table_ok (P := Tryz.prog) (l := tab_sets) (table_more among_ok (table_more note_ok table_nil))
  have t1 := fun args mm => table_at (l := tab_sets) (f := 132) (args := args) (m := mm) rfl
  have t2 := fun args mm => table_at (l := tab_sets) (f := 78) (args := args) (m := mm) rfl
  refine fun_okX Tryz.func86 rfl false rfl fun args m r h => ?_
  unfold setsG at h
  split at h
  · rename_i r0 cs
    split at h
    · rename_i R rule hR hv
      obtain rfl := unRc_some hR
      split at h
      · rename_i hsm
        simp only [Option.some.injEq] at h
        subst h
        have hr0 := (var_lt hv).1
        have hP64 := hsm.2.2.1
        refine ⟨Nat.le_of_ble_eq_true rfl, fun φ w => ?_⟩
        simp only [entry, List.length_cons, List.length_nil, List.range, List.range.loop, List.zip_cons_cons, List.zip_nil_right]
        repeat (first | refine x_seq ?_ | refine x_block ?_ | refine xn_normal ?_ | refine xi_normal ?_ | refine xn_exit ?_ | refine xi_exit ?_ | refine xi_other (by decide) ?_ | refine xn_ret ?_ | refine xi_ret ?_ | refine x_skip ?_ | refine x_exit ?_ | refine x_ret ?_)
        refine x_region (kp := kpSets) mixed hC ?_
        refine go0 ?_
        repeat (first | refine x_seq ?_ | refine x_block ?_ | refine xn_normal ?_ | refine xi_normal ?_ | refine xn_exit ?_ | refine xi_exit ?_ | refine xi_other (by decide) ?_ | refine xn_ret ?_ | refine xi_ret ?_ | refine x_skip ?_ | refine x_exit ?_ | refine x_ret ?_)
        have hv3 : (m.push R.row).var m.vars.length = some R.row := push_var
        have f1 := lpRcPhases hv3
        refine x_region (kp := kpSets) mixed hC ?_
        refine go1 @f1 ?_
        repeat (first | refine x_seq ?_ | refine x_block ?_ | refine xn_normal ?_ | refine xi_normal ?_ | refine xn_exit ?_ | refine xi_exit ?_ | refine xi_other (by decide) ?_ | refine xn_ret ?_ | refine xi_ret ?_ | refine x_skip ?_ | refine x_exit ?_ | refine x_ret ?_)
        refine x_loop (fun k e m' F => ∃ (i : Nat), i ≤ R.phases.length ∧ Above (flMem m r0 rule (upto i fun i => upto (R.phases.getD i ph0).sets.length fun k => flawIf (setBad R (R.phases.getD i ph0) k) rule i k)) m' ∧ m'.var m.vars.length = some R.row ∧ k = R.phases.length - i ∧
          e = [(0, .ptr r0 0), (3, .ptr m.vars.length 0), (11, .lst .no 5 (rowsPh R.phases)), (12, .v (.int .i64 (R.phases.length : Int))), (13, .v (.int .i64 (i : Int)))]) (k := R.phases.length) ⟨0, Nat.zero_le _, by rw [upto_zero, flMem_nil]; exact above_push (above_self m), hv3, rfl, rfl⟩ ?_
        rintro k e m' F ⟨i, hi0, hA, hv3, rfl, rfl⟩
        repeat (first | refine x_seq ?_ | refine x_block ?_ | refine xn_normal ?_ | refine xi_normal ?_ | refine xn_exit ?_ | refine xi_exit ?_ | refine xi_other (by decide) ?_ | refine xn_ret ?_ | refine xi_ret ?_ | refine x_skip ?_ | refine x_exit ?_ | refine x_ret ?_)
        refine x_region (kp := kpSets) mixed hC ?_
        refine go0 ?_
        repeat (first | refine x_seq ?_ | refine x_block ?_ | refine xn_normal ?_ | refine xi_normal ?_ | refine xn_exit ?_ | refine xi_exit ?_ | refine xi_other (by decide) ?_ | refine xn_ret ?_ | refine xi_ret ?_ | refine x_skip ?_ | refine x_exit ?_ | refine x_ret ?_)
        refine x_cond rfl (fun hc => ?_) (fun hc => ?_)
        · have hi1 : i < R.phases.length := by have := of_decide_eq_true hc; omega
          have f2 := atPh (g := .no) (kk := .i64) hi1
          have hp := hsm.phase i
          have hN := @upto_next i (fun i => upto (R.phases.getD i ph0).sets.length fun k => flawIf (setBad R (R.phases.getD i ph0) k) rule i k)
          have hB := @upto_len (fun i => upto (R.phases.getD i ph0).sets.length fun k => flawIf (setBad R (R.phases.getD i ph0) k) rule i k) 64 i (fun j _ => by
            have := @upto_len (fun k => flawIf (setBad R (R.phases.getD j ph0) k) rule j k) 1 (R.phases.getD j ph0).sets.length fun k _ => flawIf_len ..
            have := (hsm.phase j).2.1
            omega)
          generalize hfl : (upto i fun i => upto (R.phases.getD i ph0).sets.length fun k => flawIf (setBad R (R.phases.getD i ph0) k) rule i k) = fl at hA hN hB
          generalize R.phases.getD i ph0 = p at f2 hp hN
          repeat (first | refine x_seq ?_ | refine x_block ?_ | refine xn_normal ?_ | refine xi_normal ?_ | refine xn_exit ?_ | refine xi_exit ?_ | refine xi_other (by decide) ?_ | refine xn_ret ?_ | refine xi_ret ?_ | refine x_skip ?_ | refine x_exit ?_ | refine x_ret ?_)
          refine x_region (kp := kpSets) mixed hC ?_
          refine go1 @f2 ?_
          repeat (first | refine x_seq ?_ | refine x_block ?_ | refine xn_normal ?_ | refine xi_normal ?_ | refine xn_exit ?_ | refine xi_exit ?_ | refine xi_other (by decide) ?_ | refine xn_ret ?_ | refine xi_ret ?_ | refine x_skip ?_ | refine x_exit ?_ | refine x_ret ?_)
          refine x_ops (l2 := kpSets 4) ?_
          refine xops_step (xs_makeMap (enc := encPl) rfl rfl (by decide) rfl fun b hb => ?_)
          refine gox0 hC ?_
          repeat (first | refine x_seq ?_ | refine x_block ?_ | refine xn_normal ?_ | refine xi_normal ?_ | refine xn_exit ?_ | refine xi_exit ?_ | refine xi_other (by decide) ?_ | refine xn_ret ?_ | refine xi_ret ?_ | refine x_skip ?_ | refine x_exit ?_ | refine x_ret ?_)
          have hq5 : m'.vars.length ≠ r0 := by have := above_len hA; rw [flMem_len] at this; omega
          have hq3 : m.vars.length ≠ r0 := by omega
          have hA1 := above_push (cs := p.row) hA
          have hv5 : (m'.push p.row).var m'.vars.length = some p.row := push_var
          have hv3' : (m'.push p.row).var m.vars.length = some R.row := push_old hv3
          generalize m'.vars.length = n5 at hq5 hv5
          generalize m'.push p.row = m5 at hA1 hv5 hv3'
          have f3 := lpPhSets hv5
          refine x_region (kp := kpSets) mixed hC ?_
          refine go1 @f3 ?_
          repeat (first | refine x_seq ?_ | refine x_block ?_ | refine xn_normal ?_ | refine xi_normal ?_ | refine xn_exit ?_ | refine xi_exit ?_ | refine xi_other (by decide) ?_ | refine xn_ret ?_ | refine xi_ret ?_ | refine x_skip ?_ | refine x_exit ?_ | refine x_ret ?_)
          refine x_loop (fun k e m' F => ∃ (j : Nat) (ml : List ((ByteArray × Int) × Value)), j ≤ p.sets.length ∧ (∀ q, valAt (.int .i64 0) q ml = .int .i64 ((cnt (p.sets.take j) q : Nat) : Int)) ∧ (b, mapOb encPl ml) ∈ F ∧ Above (flMem m r0 rule (fl ++ upto j fun k => flawIf (setBad R p k) rule i k)) m' ∧ m'.var m.vars.length = some R.row ∧ m'.var n5 = some p.row ∧ k = p.sets.length - j ∧
            e = [(0, .ptr r0 0), (3, .ptr m.vars.length 0), (4, .v (.int .i64 (i : Int))), (5, .ptr n5 0), (6, .v (.map (some b))), (11, .lst .no 5 (rowsPh R.phases)), (12, .v (.int .i64 (R.phases.length : Int))), (13, .v (.int .i64 (i : Int))), (20, .lst .no 3 (rowsGs p.sets)), (21, .v (.int .i64 (p.sets.length : Int))), (22, .v (.int .i64 (j : Int)))])
            (k := p.sets.length) ⟨0, [], Nat.zero_le _, fun q => rfl, List.mem_cons_self .., by rw [upto_zero, List.append_nil]; exact hA1, hv3', hv5, rfl, rfl⟩ ?_
          rintro k e m'' F2 ⟨j, ml, hj0, hml, hbF, hA2, hw3, hw5, rfl, rfl⟩
          repeat (first | refine x_seq ?_ | refine x_block ?_ | refine xn_normal ?_ | refine xi_normal ?_ | refine xn_exit ?_ | refine xi_exit ?_ | refine xi_other (by decide) ?_ | refine xn_ret ?_ | refine xi_ret ?_ | refine x_skip ?_ | refine x_exit ?_ | refine x_ret ?_)
          refine x_region (kp := kpSets) mixed hC ?_
          refine go0 ?_
          repeat (first | refine x_seq ?_ | refine x_block ?_ | refine xn_normal ?_ | refine xi_normal ?_ | refine xn_exit ?_ | refine xi_exit ?_ | refine xi_other (by decide) ?_ | refine xn_ret ?_ | refine xi_ret ?_ | refine x_skip ?_ | refine x_exit ?_ | refine x_ret ?_)
          refine x_cond rfl (fun hc => ?_) (fun hc => ?_)
          · have hj1 : j < p.sets.length := by have := of_decide_eq_true hc; omega
            have f4 := atGs (g := .no) (kk := .i64) hj1
            have hcn := fun q => cnt_next hj1 q
            have hcl : cnt (p.sets.take j) (keyOf (p.sets.getD j gs0)) ≤ 64 := by have := cnt_le (p.sets.take j) (keyOf (p.sets.getD j gs0)); rw [List.length_take] at this; omega
            have hN2 := @upto_next j (fun k => flawIf (setBad R p k) rule i k)
            have hB2 := @upto_len (fun k => flawIf (setBad R p k) rule i k) 1 j fun k _ => flawIf_len ..
            have hbad : setBad R p j = (!among R.groups (p.sets.getD j gs0).group || (among p.frozen (p.sets.getD j gs0).group || decide (0 < cnt (p.sets.take j) (keyOf (p.sets.getD j gs0))))) := rfl
            generalize (upto j fun k => flawIf (setBad R p k) rule i k) = fl2 at hA2 hN2 hB2
            generalize p.sets.getD j gs0 = s at f4 hcn hcl hbad
            have hkey : (s.group, s.param) = keyOf s := rfl
            generalize hc0 : cnt (p.sets.take j) (keyOf s) = c at hcl hbad
            repeat (first | refine x_seq ?_ | refine x_block ?_ | refine xn_normal ?_ | refine xi_normal ?_ | refine xn_exit ?_ | refine xi_exit ?_ | refine xi_other (by decide) ?_ | refine xn_ret ?_ | refine xi_ret ?_ | refine x_skip ?_ | refine x_exit ?_ | refine x_ret ?_)
            refine x_region (kp := kpSets) mixed hC ?_
            refine go1 @f4 ?_
            repeat (first | refine x_seq ?_ | refine x_block ?_ | refine xn_normal ?_ | refine xi_normal ?_ | refine xn_exit ?_ | refine xi_exit ?_ | refine xi_other (by decide) ?_ | refine xn_ret ?_ | refine xi_ret ?_ | refine x_skip ?_ | refine x_exit ?_ | refine x_ret ?_)
            have hB1 := above_push (cs := s.row) hA2
            have hu8 : (m''.push s.row).var m''.vars.length = some s.row := push_var
            have hu3 : (m''.push s.row).var m.vars.length = some R.row := push_old hw3
            have hu5 : (m''.push s.row).var n5 = some p.row := push_old hw5
            generalize m''.vars.length = n8 at hu8
            generalize m''.push s.row = m8 at hB1 hu8 hu3 hu5
            have f5 := lpGsGroup hu8
            have f6 := lpGsParam hu8
            simp only [iv] at f6
            refine x_region (kp := kpSets) mixed hC ?_
            refine go1 (jn @f5 @f6) ?_
            repeat (first | refine x_seq ?_ | refine x_block ?_ | refine xn_normal ?_ | refine xi_normal ?_ | refine xn_exit ?_ | refine xi_exit ?_ | refine xi_other (by decide) ?_ | refine xn_ret ?_ | refine xi_ret ?_ | refine x_skip ?_ | refine x_exit ?_ | refine x_ret ?_)
            have hB9 := above_push (cs := [.v (.string s.group), .v (.int .i64 s.param)]) hB1
            have hz9 : (m8.push [.v (.string s.group), .v (.int .i64 s.param)]).var m8.vars.length = some [.v (.string s.group), .v (.int .i64 s.param)] := push_var
            have hz3 : (m8.push [.v (.string s.group), .v (.int .i64 s.param)]).var m.vars.length = some R.row := push_old hu3
            have hz5 : (m8.push [.v (.string s.group), .v (.int .i64 s.param)]).var n5 = some p.row := push_old hu5
            have hz8 : (m8.push [.v (.string s.group), .v (.int .i64 s.param)]).var n8 = some s.row := push_old hu8
            have hq9 : m8.vars.length ≠ r0 := by have := above_len hB1; rw [flMem_len] at this; omega
            generalize m8.vars.length = n9 at hz9 hq9
            generalize m8.push [.v (.string s.group), .v (.int .i64 s.param)] = m9 at hB9 hz9 hz3 hz5 hz8
            refine x_ncut (fun e m10 F => (b, mapOb encPl ml) ∈ F ∧ Above (flMem m r0 rule (fl ++ upto (j + 1) fun k => flawIf (setBad R p k) rule i k)) m10 ∧ m10.var m.vars.length = some R.row ∧ m10.var n5 = some p.row ∧ m10.var n9 = some [.v (.string s.group), .v (.int .i64 s.param)] ∧
              e = [(0, .ptr r0 0), (3, .ptr m.vars.length 0), (4, .v (.int .i64 (i : Int))), (5, .ptr n5 0), (6, .v (.map (some b))), (9, .ptr n9 0), (11, .lst .no 5 (rowsPh R.phases)), (12, .v (.int .i64 (R.phases.length : Int))), (13, .v (.int .i64 (i : Int))), (20, .lst .no 3 (rowsGs p.sets)), (21, .v (.int .i64 (p.sets.length : Int))), (22, .v (.int .i64 (j : Int)))]) ?_ ?_
            · have g1 := lpRcGroups hz3
              have g2 := lpGsGroup hz8
              have g3 := lpPhFrozen hz5
              have g4 := lpPl (cs := []) hz9
              have a1 := fun mm => amongG_eq (m := mm) (g := .no) (l := R.groups) (s := s.group) (by have := hsm.2.1; omega)
              have a2 := fun mm => amongG_eq (m := mm) (g := .no) (l := p.frozen) (s := s.group) (by have := hp.1; omega)
              obtain ⟨m10, hn10, hA10, ho10⟩ := note_step hv hB9 (by rw [List.length_append]; omega) (setBad R p j) (i : Int) (j : Int)
              rw [flawIf_app, List.append_assoc, ← hN2] at hA10
              have hl : valAt (.int .i64 0) (s.group, s.param) ml = .int .i64 ((c : Nat) : Int) := by rw [hml, hkey, hc0]
              have hcb : decide (((c : Nat) : Int) > 0) = decide (0 < c) := by rw [Bool.eq_iff_iff, decide_eq_true_eq, decide_eq_true_eq]; omega
              have done : ∀ (x : AV), (b, mapOb encPl ml) ∈ F2 ∧ Above (flMem m r0 rule (fl ++ upto (j + 1) fun k => flawIf (setBad R p k) rule i k)) m10 ∧ m10.var m.vars.length = some R.row ∧ m10.var n5 = some p.row ∧ m10.var n9 = some [.v (.string s.group), .v (.int .i64 s.param)] ∧ x = x :=
                fun x => ⟨hbF, hA10, ho10 _ _ hq3 hz3, ho10 _ _ hq5 hz5, ho10 _ _ hq9 hz9, rfl⟩
              refine x_ops (l2 := kpSets 9) ?_
              rw [hbad] at hn10
              cases hG : among R.groups s.group with
              | false =>
                rw [hG] at a1 hn10
                have b1 : (!false) = true := rfl
                rw [b1, Bool.true_or] at hn10
                refine gox1 hC (jn @g1 (jn @g2 (jn @g3 (jn @g4 (jn @t1 (jn @a1 (jn @b1 (jn @t2 @hn10)))))))) ?_
                exact ⟨hbF, hA10, ho10 _ _ hq3 hz3, ho10 _ _ hq5 hz5, ho10 _ _ hq9 hz9, rfl⟩
              | true =>
                rw [hG] at a1 hn10
                have b1 : (!true) = false := rfl
                rw [b1, Bool.false_or] at hn10
                cases hf : among p.frozen s.group with
                | true =>
                  rw [hf] at a2 hn10
                  rw [Bool.true_or] at hn10
                  refine gox1 hC (jn @g1 (jn @g2 (jn @g3 (jn @g4 (jn @t1 (jn @a1 (jn @a2 (jn @b1 (jn @t2 @hn10))))))))) ?_
                  exact ⟨hbF, hA10, ho10 _ _ hq3 hz3, ho10 _ _ hq5 hz5, ho10 _ _ hq9 hz9, rfl⟩
                | false =>
                  rw [hf] at a2 hn10
                  rw [Bool.false_or] at hn10
                  refine gox1 hC (jn @g1 (jn @g2 (jn @g3 (jn @g4 (jn @t1 (jn @a1 (jn @a2 @b1))))))) ?_
                  refine xops_step (xs_lookup (t := 0) placeKey underMap zeroInt_run hbF (s.group, s.param) rfl rfl rfl rfl rfl ?_)
                  refine gox1 hC (jn @hl (jn @hcb (jn @t2 @hn10))) ?_
                  exact ⟨hbF, hA10, ho10 _ _ hq3 hz3, ho10 _ _ hq5 hz5, ho10 _ _ hq9 hz9, rfl⟩
            · rintro e m10 F3 ⟨hb3, hA10, hu3, hu5, hu9, rfl⟩
              have g4 := lpPl (cs := []) hu9
              have hl : valAt (.int .i64 0) (s.group, s.param) ml = .int .i64 ((c : Nat) : Int) := by rw [hml, hkey, hc0]
              have hl2 : valAt (.int .i64 0) (s.group, s.param) (mapWith (.int .i64 0) (s.group, s.param) ml) = .int .i64 ((c : Nat) : Int) := by rw [valAt_eq, vAt_with, ← valAt_eq, hl]
              have r1 : IntKind.i64.wrap (((c : Nat) : Int) + 1) = ((c + 1 : Nat) : Int) := next_i64 (by omega)
              repeat (first | refine x_seq ?_ | refine x_block ?_ | refine xn_normal ?_ | refine xi_normal ?_ | refine xn_exit ?_ | refine xi_exit ?_ | refine xi_other (by decide) ?_ | refine xn_ret ?_ | refine xi_ret ?_ | refine x_skip ?_ | refine x_exit ?_ | refine x_ret ?_)
              refine x_icut (fun e m11 F => (b, mapOb encPl (putK (s.group, s.param) (.int .i64 ((c + 1 : Nat) : Int)) ml)) ∈ F ∧ m11 = m10 ∧
                e = [(0, .ptr r0 0), (3, .ptr m.vars.length 0), (4, .v (.int .i64 (i : Int))), (5, .ptr n5 0), (6, .v (.map (some b))), (11, .lst .no 5 (rowsPh R.phases)), (12, .v (.int .i64 (R.phases.length : Int))), (13, .v (.int .i64 (i : Int))), (20, .lst .no 3 (rowsGs p.sets)), (21, .v (.int .i64 (p.sets.length : Int))), (22, .v (.int .i64 (j : Int)))]) ?_ ?_
              · refine x_any (n := 7) (l2 := kpSets 10) mixed rfl ?_
                have hin : ∀ {F : Objs}, (b, mapOb encPl ml) ∈ F → (b, mapOb encPl (putK (s.group, s.param) (.int .i64 ((c + 1 : Nat) : Int)) ml)) ∈ setObjs (setObjs F b (mapOb encPl (mapWith (.int .i64 0) (s.group, s.param) ml))) b (mapOb encPl (setV (mapWith (.int .i64 0) (s.group, s.param) ml) (stampOf (s.group, s.param) ml) (.int .i64 ((c + 1 : Nat) : Int)))) := fun h => by
                  rw [← putK_eq (.int .i64 0)]
                  exact mem_setObjs (mem_setObjs h)
                repeat' (first | refine xany_one (i := 0) (by decide +kernel) rfl rfl ?_ | refine xany_one (i := 1) (by decide +kernel) rfl rfl ?_ | refine xany_one (i := 2) (by decide +kernel) rfl rfl ?_ | refine xany_one (i := 3) (by decide +kernel) rfl rfl ?_ | refine xany_one (i := 4) (by decide +kernel) rfl rfl ?_ | refine xany_one (i := 5) (by decide +kernel) rfl rfl ?_ | refine xany_one (i := 6) (by decide +kernel) rfl rfl ?_ | refine xany_two (i := 0) (j := 1) (by decide +kernel) rfl rfl rfl rfl ?_ ?_ | refine xany_two (i := 2) (j := 4) (by decide +kernel) rfl rfl rfl rfl ?_ ?_ | refine xany_two (i := 2) (j := 5) (by decide +kernel) rfl rfl rfl rfl ?_ ?_ | refine xany_two (i := 3) (j := 4) (by decide +kernel) rfl rfl rfl rfl ?_ ?_ | refine xany_two (i := 3) (j := 5) (by decide +kernel) rfl rfl rfl rfl ?_ ?_ | refine xs_op hC rfl (by simp only [go_sem, reduceIte, Nat.reduceEqDiff, reduceCtorEq, Int.reduceEq, g4, hl, hl2, r1]; rfl) rfl ?_ | refine xs_lookup (t := 0) placeKey underMap zeroInt_run hb3 (s.group, s.param) rfl rfl rfl rfl rfl ?_ | refine xs_lookup (t := 0) placeKey underMap zeroInt_run (mem_setObjs hb3) (s.group, s.param) rfl rfl rfl rfl rfl ?_ | refine xs_entry (t := 0) placeKey underMap zeroInt_run hb3 (s.group, s.param) rfl rfl rfl rfl rfl (by decide) ?_ | refine xs_entryStore (t := 0) (t2 := 0) (v := .int .i64 ((c + 1 : Nat) : Int)) (mem_setObjs hb3) (stamp_lt (.int .i64 0) (s.group, s.param) ml) rfl rfl rfl rfl rfl rfl ?_ | refine xany_done (by decide +kernel) ?_)
                all_goals (intro e2 h2; simp only [restr, kpSets, List.map_cons, List.map_nil, Ev.get, reduceIte, Nat.reduceEqDiff] at h2; subst h2; exact ⟨hin hb3, rfl, rfl⟩)
              · rintro e m11 F4 ⟨hb4, rfl, rfl⟩
                have r6 := next_i64 (i := j) (by omega)
                repeat (first | refine x_seq ?_ | refine x_block ?_ | refine xn_normal ?_ | refine xi_normal ?_ | refine xn_exit ?_ | refine xi_exit ?_ | refine xi_other (by decide) ?_ | refine xn_ret ?_ | refine xi_ret ?_ | refine x_skip ?_ | refine x_exit ?_ | refine x_ret ?_)
                refine x_region (kp := kpSets) mixed hC ?_
                refine go1 @r6 ?_
                refine xn_normal ⟨p.sets.length - (j + 1), by omega, j + 1, _, hj1, fun q => ?_, hb4, hA10, hu3, hu5, rfl, rfl⟩
                rw [valAt_eq, vAt_put, hcn q, hkey]
                by_cases hq : q = keyOf s
                · rw [if_pos hq, if_pos hq, hq, hc0]
                  rfl
                · rw [if_neg hq, if_neg hq, ← valAt_eq, hml]
                  rfl
          · have hj1 : j = p.sets.length := by have := of_decide_eq_false hc; omega
            subst hj1
            have r6 := next_i64 (i := i) (by omega)
            repeat (first | refine x_seq ?_ | refine x_block ?_ | refine xn_normal ?_ | refine xi_normal ?_ | refine xn_exit ?_ | refine xi_exit ?_ | refine xi_other (by decide) ?_ | refine xn_ret ?_ | refine xi_ret ?_ | refine x_skip ?_ | refine x_exit ?_ | refine x_ret ?_)
            refine x_region (kp := kpSets) mixed hC ?_
            refine go1 @r6 ?_
            refine xn_normal ⟨R.phases.length - (i + 1), by omega, i + 1, hi1, ?_, hw3, rfl, rfl⟩
            rw [hN]
            exact hA2
        · have hi1 : i = R.phases.length := by have := of_decide_eq_false hc; omega
          subst hi1
          repeat (first | refine x_seq ?_ | refine x_block ?_ | refine xn_normal ?_ | refine xi_normal ?_ | refine xn_exit ?_ | refine xi_exit ?_ | refine xi_other (by decide) ?_ | refine xn_ret ?_ | refine xi_ret ?_ | refine x_skip ?_ | refine x_exit ?_ | refine x_ret ?_)
          exact leaves_none rfl (fin_flMem hv hA)
      · cases h
    · cases h
  · cases h
end Go.Proofs.YtojaokhkbmiidaaGreat.Ev

namespace Go.Proofs.YtojaokhkbmiidaaGreat.Ev
open Go Go.Proofs
set_option maxRecDepth 10000
set_option linter.unusedVariables false
set_option linter.unusedSimpArgs false
attribute [local irreducible] Next Inside Runs Ops table XRuns XOps XNext XInside
attribute [local go_sem] szStr szInt Option.getD_some isNil loadStr loadInt mkInts0 mkInts1 mkStrs0 mkStrs1 rowsS_len rowsI_len evStr
/-! ### letters -/
def letterB (c : Int) (first : Bool) : Bool := (decide (97 ≤ c) && decide (c ≤ 122)) || (!first && ((decide (48 ≤ c) && decide (c ≤ 57)) || decide (c = 95)))
def letterG : List AV → Mem → Option (AV × Mem)
  | [.v (.int .i32 c), .v (.bool f)], m => some (.v (.bool (letterB c f)), m)
  | _, _ => none
def kpLetter : Nat → Option (List Nat) := fun _ => some [0, 1, 4, 5, 12]
attribute [go_sem] kpLetter
theorem letter_ok : FunOk Tryz.prog 154 letterG := by
  have hC := table_ok (P := Tryz.prog) (l := []) table_nil
  refine fun_ok mixed hC Tryz.func154 rfl kpLetter false rfl fun args m r h => ?_
  unfold letterG at h
  split at h
  · rename_i c f
    simp only [Option.some.injEq] at h
    subst h
    refine ⟨Nat.le_of_ble_eq_true rfl, ?_⟩
    simp only [entry, List.length_cons, List.length_nil, List.range, List.range.loop, List.zip_cons_cons, List.zip_nil_right]
    by_cases h1 : 97 ≤ c
    · have d1 : decide (c ≥ 97) = true := decide_eq_true h1
      by_cases h2 : c ≤ 122
      · have d2 : decide (c ≤ 122) = true := decide_eq_true h2
        refine go1 (jn @d1 @d2) ?_
        refine runs_cond rfl (fun hc => ?_) (fun hc => by cases hc)
        refine go0 ?_
        exact leaves_v rfl (by simp [letterB, h1, h2]; rfl)
      · have d2 : decide (c ≤ 122) = false := decide_eq_false h2
        refine go1 (jn @d1 @d2) ?_
        refine runs_cond rfl (fun hc => by cases hc) (fun hc => ?_)
        refine go0 ?_
        refine runs_cond rfl (fun hc => ?_) (fun hc => ?_)
        · refine go0 ?_
          exact leaves_v rfl (by simp [letterB, h2, hc]; rfl)
        · have d3 : decide (c ≥ 48) = true := decide_eq_true (by omega)
          have d4 : decide (c ≤ 57) = false := decide_eq_false (by omega)
          have d5 : (c == 95) = false := beq_eq_false_iff_ne.2 (by omega)
          refine go1 (jn @d3 (jn @d4 @d5)) ?_
          exact leaves_v rfl (by simp [letterB, h2, hc, show ¬ c ≤ 57 by omega, show ¬ c = 95 by omega]; rfl)
    · have d1 : decide (c ≥ 97) = false := decide_eq_false h1
      refine go1 @d1 ?_
      refine runs_cond rfl (fun hc => by cases hc) (fun hc => ?_)
      refine go0 ?_
      refine runs_cond rfl (fun hc => ?_) (fun hc => ?_)
      · refine go0 ?_
        exact leaves_v rfl (by simp [letterB, h1, hc]; rfl)
      · by_cases h3 : 48 ≤ c
        · have d3 : decide (c ≥ 48) = true := decide_eq_true h3
          by_cases h4 : c ≤ 57
          · have d4 : decide (c ≤ 57) = true := decide_eq_true h4
            refine go1 (jn @d3 @d4) ?_
            exact leaves_v rfl (by simp [letterB, h1, hc, h3, h4]; rfl)
          · have d4 : decide (c ≤ 57) = false := decide_eq_false h4
            refine go1 (jn @d3 @d4) ?_
            exact leaves_v rfl (by simp [letterB, h1, hc, h4]; rfl)
        · have d3 : decide (c ≥ 48) = false := decide_eq_false h3
          refine go1 @d3 ?_
          exact leaves_v rfl (by simp [letterB, h1, hc, h3]; rfl)
  · cases h
end Go.Proofs.YtojaokhkbmiidaaGreat.Ev

namespace Go.Proofs.YtojaokhkbmiidaaGreat.Ev
open Go Go.Proofs
set_option maxRecDepth 10000
set_option linter.unusedVariables false
set_option linter.unusedSimpArgs false
attribute [local irreducible] Next Inside Runs Ops table XRuns XOps XNext XInside
attribute [local go_sem] szStr szInt Option.getD_some isNil loadStr loadInt mkInts0 mkInts1 mkStrs0 mkStrs1 rowsS_len rowsI_len evStr
def lettersTo (s : ByteArray) : Nat → Bool
  | 0 => true
  | n + 1 => lettersTo s n && letterB ((s.get! n).toNat : Nat) (n == 0)
theorem letters_no {s : ByteArray} {i : Nat} (h : letterB ((s.get! i).toNat : Nat) (i == 0) = false) : ∀ {n : Nat}, i < n → lettersTo s n = false
  | 0, hn => by omega
  | n + 1, hn => by
    unfold lettersTo
    rcases Nat.lt_succ_iff_lt_or_eq.1 hn with hn | rfl
    · rw [letters_no h hn]; rfl
    · rw [h, Bool.and_false]
def isName (s : ByteArray) : Bool := lettersTo s s.size && (decide (1 ≤ s.size) && decide (s.size ≤ 16) && !keyword s)
theorem name_no {s : ByteArray} {i : Nat} (hi : i < s.size) (h : letterB ((s.get! i).toNat : Nat) (i == 0) = false) : isName s = false := by
  unfold isName
  rw [letters_no h hi]
  rfl
theorem letter_high {c : Nat} (h : 128 ≤ c) (f : Bool) : letterB (c : Int) f = false := by
  unfold letterB
  rw [decide_eq_false (by omega : ¬ (c : Int) ≤ 122), decide_eq_false (by omega : ¬ (c : Int) ≤ 57), decide_eq_false (by omega : ¬ (c : Int) = 95)]
  simp
theorem get_bang {s : ByteArray} {i : Nat} (h : i < s.size) : s.get! i = s[i]'h := by
  show s.get! i = _
  simp [ByteArray.get!, getElem!_pos, h]
  rfl
theorem size_zero {s : ByteArray} : (s != ⟨#[]⟩) = decide (1 ≤ s.size) := by
  by_cases h : s = ⟨#[]⟩
  · subst h; rfl
  · rw [bytes_ne.2 h]
    refine (decide_eq_true ?_).symm
    rcases Nat.eq_zero_or_pos s.size with h0 | h0
    · exfalso
      apply h
      obtain ⟨a⟩ := s
      have : a.size = 0 := h0
      rw [Array.eq_empty_of_size_eq_zero this]
    · exact h0
def isNameG : List AV → Mem → Option (AV × Mem)
  | [.v (.string s)], m => if s.size ≤ 9223372036854775807 then some (.v (.bool (isName s)), m) else none
  | _, _ => none
theorem isNameG_eq {s : ByteArray} {m : Mem} (h : s.size ≤ 9223372036854775807) : isNameG [.v (.string s)] m = some (.v (.bool (isName s)), m) := if_pos h
def kpIs : Nat → Option (List Nat) := fun _ => some [0, 2, 3, 4, 6, 7, 8, 15]
attribute [go_sem] kpIs
def tabIs : List (FuncId × (List AV → Mem → Option (AV × Mem))) := [(154, letterG), (155, keywordG)]
theorem is_ok : FunOk Tryz.prog 122 isNameG := by
  have hC := table_ok (P := Tryz.prog) (l := tabIs) (table_more letter_ok (table_more keyword_ok table_nil))
  have t1 := fun args mm => table_at (l := tabIs) (f := 154) (args := args) (m := mm) rfl
  have t2 := fun args mm => table_at (l := tabIs) (f := 155) (args := args) (m := mm) rfl
  refine fun_okX Tryz.func122 rfl false rfl fun args m r h => ?_
  unfold isNameG at h
  split at h
  · rename_i s
    split at h
    · rename_i hlen
      simp only [Option.some.injEq] at h
      subst h
      refine ⟨Nat.le_of_ble_eq_true rfl, fun φ w => ?_⟩
      simp only [entry, List.length_cons, List.length_nil, List.range, List.range.loop, List.zip_cons_cons, List.zip_nil_right]
      repeat (first | refine x_seq ?_ | refine x_block ?_ | refine xn_normal ?_ | refine xi_normal ?_ | refine xn_exit ?_ | refine xi_exit ?_ | refine xi_other (by decide) ?_ | refine xn_ret ?_ | refine xi_ret ?_ | refine x_skip ?_ | refine x_exit ?_ | refine x_ret ?_)
      refine x_region (kp := kpIs) mixed hC ?_
      refine go0 ?_
      repeat (first | refine x_seq ?_ | refine x_block ?_ | refine xn_normal ?_ | refine xi_normal ?_ | refine xn_exit ?_ | refine xi_exit ?_ | refine xi_other (by decide) ?_ | refine xn_ret ?_ | refine xi_ret ?_ | refine x_skip ?_ | refine x_exit ?_ | refine x_ret ?_)
      refine x_ops (l2 := some [0, 2, 3, 4, 6, 7, 8, 15]) ?_
      refine xo_op hC rfl rfl (by decide) (by simp only [go_sem, reduceIte, Nat.reduceEqDiff, reduceCtorEq, Int.reduceEq]; rfl) ?_
      refine xo_range rfl rfl (by decide) rfl strS rfl fun b => ?_
      refine xo_nil ?_
      intro e2 h2
      simp only [restr, List.map_cons, List.map_nil, Ev.get, reduceIte, Nat.reduceEqDiff] at h2
      subst h2
      repeat (first | refine x_seq ?_ | refine x_block ?_ | refine xn_normal ?_ | refine xi_normal ?_ | refine xn_exit ?_ | refine xi_exit ?_ | refine xi_other (by decide) ?_ | refine xn_ret ?_ | refine xi_ret ?_ | refine x_skip ?_ | refine x_exit ?_ | refine x_ret ?_)
      refine x_loop (fun k e m' F => ∃ (pos : Nat) (x3 x4 x7 x8 x15 : AV), pos ≤ s.size ∧ lettersTo s pos = true ∧ m = m' ∧ F = [(b, .stringIter s pos)] ∧ k = s.size - pos ∧
        e = [(0, AV.v (.string s)), (2, .v (.bool false)), (3, x3), (4, x4), (6, .v (.pointer (some ⟨b, 0, none⟩))), (7, x7), (8, x8), (15, x15)]) (k := s.size) ⟨0, _, _, _, _, _, Nat.zero_le _, rfl, rfl, rfl, rfl, rfl⟩ ?_
      rintro k e m' F ⟨pos, x3, x4, x7, x8, x15, hpos, hok, rfl, rfl, rfl, rfl⟩
      repeat (first | refine x_seq ?_ | refine x_block ?_ | refine xn_normal ?_ | refine xi_normal ?_ | refine xn_exit ?_ | refine xi_exit ?_ | refine xi_other (by decide) ?_ | refine xn_ret ?_ | refine xi_ret ?_ | refine x_skip ?_ | refine x_exit ?_ | refine x_ret ?_)
      refine x_ops (l2 := some [0, 2, 3, 4, 6, 7, 8, 15]) ?_
      refine xo_next rfl rfl (by decide) rfl rfl (List.mem_singleton.2 rfl) (fun hp => ?_) (fun hp => ?_)
      · refine xo_op hC rfl rfl (by decide) (by simp only [go_sem, reduceIte, Nat.reduceEqDiff, reduceCtorEq, Int.reduceEq]; rfl) ?_
        refine xo_nil ?_
        intro e2 h2
        simp only [restr, List.map_cons, List.map_nil, Ev.get, reduceIte, Nat.reduceEqDiff] at h2
        subst h2
        repeat (first | refine x_seq ?_ | refine x_block ?_ | refine xn_normal ?_ | refine xi_normal ?_ | refine xn_exit ?_ | refine xi_exit ?_ | refine xi_other (by decide) ?_ | refine xn_ret ?_ | refine xi_ret ?_ | refine x_skip ?_ | refine x_exit ?_ | refine x_ret ?_)
        refine x_cond rfl (fun hc => ?_) (fun hc => by cases hc)
        repeat (first | refine x_seq ?_ | refine x_block ?_ | refine xn_normal ?_ | refine xi_normal ?_ | refine xn_exit ?_ | refine xi_exit ?_ | refine xi_other (by decide) ?_ | refine xn_ret ?_ | refine xi_ret ?_ | refine x_skip ?_ | refine x_exit ?_ | refine x_ret ?_)
        refine x_region (kp := kpIs) mixed hC ?_
        refine go0 ?_
        repeat (first | refine x_seq ?_ | refine x_block ?_ | refine xn_normal ?_ | refine xi_normal ?_ | refine xn_exit ?_ | refine xi_exit ?_ | refine xi_other (by decide) ?_ | refine xn_ret ?_ | refine xi_ret ?_ | refine x_skip ?_ | refine x_exit ?_ | refine x_ret ?_)
        have hgb := get_bang hp
        have fl : ∀ c f mm, letterG [.v (.int .i32 c), .v (.bool f)] mm = some (.v (.bool (letterB c f)), mm) := fun _ _ _ => rfl
        refine x_region (kp := kpIs) mixed hC ?_
        have hz : ((pos : Int) == 0) = (pos == 0) := by
          cases pos <;> rfl
        refine go1 (jn @t1 @fl) ?_
        repeat (first | refine x_seq ?_ | refine x_block ?_ | refine xn_normal ?_ | refine xi_normal ?_ | refine xn_exit ?_ | refine xi_exit ?_ | refine xi_other (by decide) ?_ | refine xn_ret ?_ | refine xi_ret ?_ | refine x_skip ?_ | refine x_exit ?_ | refine x_ret ?_)
        refine x_cond rfl (fun hc => ?_) (fun hc => ?_)
        · have hbad : letterB ((s.get! pos).toNat : Nat) (pos == 0) = false := by
            rcases Nat.lt_or_ge (s.get! pos).toNat 128 with ha | ha
            · rw [hgb] at ha ⊢
              rw [decode_ascii s pos hp ha, hz] at hc
              simpa using hc
            · exact letter_high ha _
          rw [name_no hp hbad]
          repeat (first | refine x_seq ?_ | refine x_block ?_ | refine xn_normal ?_ | refine xi_normal ?_ | refine xn_exit ?_ | refine xi_exit ?_ | refine xi_other (by decide) ?_ | refine xn_ret ?_ | refine xi_ret ?_ | refine x_skip ?_ | refine x_exit ?_ | refine x_ret ?_)
          refine x_region (kp := kpIs) mixed hC ?_
          refine go0 ?_
          repeat (first | refine x_seq ?_ | refine x_block ?_ | refine xn_normal ?_ | refine xi_normal ?_ | refine xn_exit ?_ | refine xi_exit ?_ | refine xi_other (by decide) ?_ | refine xn_ret ?_ | refine xi_ret ?_ | refine x_skip ?_ | refine x_exit ?_ | refine x_ret ?_)
          exact x_leaves (leaves_v rfl rfl)
        · have ha : (s.get! pos).toNat < 128 := by
            rcases Nat.lt_or_ge (s.get! pos).toNat 128 with ha | ha
            · exact ha
            · rw [hgb] at ha
              have := letter_high (decode_high s pos hp ha).1 ((pos : Int) == 0)
              rw [this] at hc
              cases hc
          have hgood : letterB ((s.get! pos).toNat : Nat) (pos == 0) = true := by
            rw [hgb] at ha ⊢
            rw [decode_ascii s pos hp ha, hz] at hc
            simpa using hc
          rw [hgb] at ha
          repeat (first | refine x_seq ?_ | refine x_block ?_ | refine xn_normal ?_ | refine xi_normal ?_ | refine xn_exit ?_ | refine xi_exit ?_ | refine xi_other (by decide) ?_ | refine xn_ret ?_ | refine xi_ret ?_ | refine x_skip ?_ | refine x_exit ?_ | refine x_ret ?_)
          rw [decode_ascii s pos hp ha]
          exact ⟨s.size - (pos + 1), by omega, pos + 1, _, _, _, _, _, hp, by rw [lettersTo, hok, hgood]; rfl, rfl, by simp [setObjs], rfl, rfl⟩
      · refine xo_op hC rfl rfl (by decide) (by simp only [go_sem, reduceIte, Nat.reduceEqDiff, reduceCtorEq, Int.reduceEq]; rfl) ?_
        refine xo_nil ?_
        intro e2 h2
        simp only [restr, List.map_cons, List.map_nil, Ev.get, reduceIte, Nat.reduceEqDiff] at h2
        subst h2
        have hend : pos = s.size := by omega
        subst hend
        repeat (first | refine x_seq ?_ | refine x_block ?_ | refine xn_normal ?_ | refine xi_normal ?_ | refine xn_exit ?_ | refine xi_exit ?_ | refine xi_other (by decide) ?_ | refine xn_ret ?_ | refine xi_ret ?_ | refine x_skip ?_ | refine x_exit ?_ | refine x_ret ?_)
        refine x_cond rfl (fun hc => by cases hc) (fun hc => ?_)
        repeat (first | refine x_seq ?_ | refine x_block ?_ | refine xn_normal ?_ | refine xi_normal ?_ | refine xn_exit ?_ | refine xi_exit ?_ | refine xi_other (by decide) ?_ | refine xn_ret ?_ | refine xi_ret ?_ | refine x_skip ?_ | refine x_exit ?_ | refine x_ret ?_)
        refine x_region (kp := kpIs) mixed hC ?_
        have hz := size_zero (s := s)
        have fk : ∀ s mm, keywordG [.v (.string s)] mm = some (.v (.bool (keyword s)), mm) := fun _ _ => rfl
        by_cases h1 : 1 ≤ s.size
        · have b1 : (s != ⟨#[]⟩) = true := hz.trans (decide_eq_true h1)
          by_cases h2 : s.size ≤ 16
          · have b2 : decide ((s.size : Int) ≤ 16) = true := decide_eq_true (by omega)
            refine go1 (jn @b1 (jn @b2 (jn @t2 @fk))) ?_
            repeat (first | refine x_seq ?_ | refine x_block ?_ | refine xn_normal ?_ | refine xi_normal ?_ | refine xn_exit ?_ | refine xi_exit ?_ | refine xi_other (by decide) ?_ | refine xn_ret ?_ | refine xi_ret ?_ | refine x_skip ?_ | refine x_exit ?_ | refine x_ret ?_)
            exact x_leaves (leaves_v rfl (by simp [isName, hok, h1, h2]; rfl))
          · have b2 : decide ((s.size : Int) ≤ 16) = false := decide_eq_false (by omega)
            refine go1 (jn @b1 (jn @b2 (jn @t2 @fk))) ?_
            repeat (first | refine x_seq ?_ | refine x_block ?_ | refine xn_normal ?_ | refine xi_normal ?_ | refine xn_exit ?_ | refine xi_exit ?_ | refine xi_other (by decide) ?_ | refine xn_ret ?_ | refine xi_ret ?_ | refine x_skip ?_ | refine x_exit ?_ | refine x_ret ?_)
            exact x_leaves (leaves_v rfl (by simp [isName, h2]; rfl))
        · have b1 : (s != ⟨#[]⟩) = false := hz.trans (decide_eq_false h1)
          refine go1 (jn @b1 (jn @t2 @fk)) ?_
          repeat (first | refine x_seq ?_ | refine x_block ?_ | refine xn_normal ?_ | refine xi_normal ?_ | refine xn_exit ?_ | refine xi_exit ?_ | refine xi_other (by decide) ?_ | refine xn_ret ?_ | refine xi_ret ?_ | refine x_skip ?_ | refine x_exit ?_ | refine x_ret ?_)
          exact x_leaves (leaves_v rfl (by simp [isName, h1]; rfl))
    · cases h
  · cases h
end Go.Proofs.YtojaokhkbmiidaaGreat.Ev

namespace Go.Proofs.YtojaokhkbmiidaaGreat.Ev
open Go Go.Proofs
set_option maxRecDepth 10000
set_option maxHeartbeats 8000000
set_option linter.unusedVariables false
set_option linter.unusedSimpArgs false
attribute [local irreducible] Next Inside Runs Ops table
attribute [local irreducible] XRuns XOps XNext XInside XAny XStep
attribute [local go_sem] szStr szInt Option.getD_some isNil evStr
def kpPCount : Nat → Option (List Nat) := fun
  | 0 => some [0]
  | 1 => some [2]
  | _ => none
attribute [go_sem] kpPCount
theorem pcount_ok : FunOk Tryz.prog 72 (upTo 1099511627776) := by
  have hC := table_ok (P := Tryz.prog) (l := []) table_nil
  refine fun_ok mixed hC Tryz.func72 rfl kpPCount false rfl fun args m r h => ?_
  unfold upTo at h
  split at h
  · rename_i x
    simp only [Option.some.injEq] at h
    subst h
    refine ⟨Nat.le_of_ble_eq_true rfl, ?_⟩
    simp only [entry, List.length_cons, List.length_nil, List.range, List.range.loop, List.zip_cons_cons, List.zip_nil_right]
    have fin : ∀ (e : Env) (b : Bool), Ev.get e 2 = .v (.bool b) → b = decide (0 ≤ x ∧ x ≤ 1099511627776) → Leaves Tryz.prog false Tryz.f72 m (.v (.bool (decide (0 ≤ x ∧ x ≤ 1099511627776))), m) .ret e m := fun e b h1 h2 => by rw [← h2]; exact leaves_v rfl h1
    repeat' (first | refine gos0 ?_ | (refine ops_here ?_; (fail_if_success (refine ops_case (B := true) rfl rfl rfl ?_ ?_)); (fail_if_success (refine ops_case (B := false) rfl rfl rfl ?_ ?_)); refine ops_case rfl rfl rfl (fun hB => ?_) (fun hB => ?_) <;> rw [hB]) | (refine runs_here ?_; refine runs_cond rfl (fun hc => ?_) (fun hc => ?_) <;> first | (cases hc; done) | skip))
    all_goals exact fin _ _ rfl (by rw [Bool.eq_iff_iff]; simp only [decide_eq_true_eq, decide_eq_false_iff_not, Bool.false_eq_true, false_iff, true_iff] at *; omega)
  · cases h
def kpPValue : Nat → Option (List Nat) := fun
  | 0 => some [0]
  | 1 => some [2]
  | _ => none
attribute [go_sem] kpPValue
theorem pvalue_ok : FunOk Tryz.prog 126 (upTo 4503599627370496) := by
  have hC := table_ok (P := Tryz.prog) (l := []) table_nil
  refine fun_ok mixed hC Tryz.func126 rfl kpPValue false rfl fun args m r h => ?_
  unfold upTo at h
  split at h
  · rename_i x
    simp only [Option.some.injEq] at h
    subst h
    refine ⟨Nat.le_of_ble_eq_true rfl, ?_⟩
    simp only [entry, List.length_cons, List.length_nil, List.range, List.range.loop, List.zip_cons_cons, List.zip_nil_right]
    have fin : ∀ (e : Env) (b : Bool), Ev.get e 2 = .v (.bool b) → b = decide (0 ≤ x ∧ x ≤ 4503599627370496) → Leaves Tryz.prog false Tryz.f126 m (.v (.bool (decide (0 ≤ x ∧ x ≤ 4503599627370496))), m) .ret e m := fun e b h1 h2 => by rw [← h2]; exact leaves_v rfl h1
    repeat' (first | refine gos0 ?_ | (refine ops_here ?_; (fail_if_success (refine ops_case (B := true) rfl rfl rfl ?_ ?_)); (fail_if_success (refine ops_case (B := false) rfl rfl rfl ?_ ?_)); refine ops_case rfl rfl rfl (fun hB => ?_) (fun hB => ?_) <;> rw [hB]) | (refine runs_here ?_; refine runs_cond rfl (fun hc => ?_) (fun hc => ?_) <;> first | (cases hc; done) | skip))
    all_goals exact fin _ _ rfl (by rw [Bool.eq_iff_iff]; simp only [decide_eq_true_eq, decide_eq_false_iff_not, Bool.false_eq_true, false_iff, true_iff] at *; omega)
  · cases h
/-! ### the parts of a recipe -/
def Rc.tp (R : Rc) : Tp := ⟨R.stopOn, R.stopMetric, R.stopMax, R.stopPatience, R.stopDelta, R.stopRel⟩
def Rc.pt (R : Rc) : Pt := ⟨R.plateauOn, R.plateauMetric, R.plateauMax, R.plateauFactor, R.plateauPatience, R.plateauCooldown, R.plateauFloor, R.plateauDelta⟩
def Rc.kp (R : Rc) : Kp := ⟨R.keepOn, R.keepMetric, R.keepMax, R.keepCount⟩
def Rc.em (R : Rc) : Em := ⟨R.emaOn, R.emaDecay⟩
def Rc.sw (R : Rc) : Sw := ⟨R.swaOn, R.swaFromU, R.swaFromN, R.swaEvery⟩
def countB (x : Int) : Bool := decide (0 ≤ x ∧ x ≤ 1099511627776)
def valueB (x : Int) : Bool := decide (0 ≤ x ∧ x ≤ 4503599627370496)
def tpEq (x y : Tp) : Bool := (x.On == y.On) && ((x.Metric == y.Metric) && ((x.Max == y.Max) && ((x.Patience == y.Patience) && ((x.Delta == y.Delta) && ((x.Rel == y.Rel) && true)))))
def ptEq (x y : Pt) : Bool := (x.On == y.On) && ((x.Metric == y.Metric) && ((x.Max == y.Max) && ((x.Factor == y.Factor) && ((x.Patience == y.Patience) && ((x.Cooldown == y.Cooldown) && ((x.Floor == y.Floor) && ((x.Delta == y.Delta) && true)))))))
def kpEq (x y : Kp) : Bool := (x.On == y.On) && ((x.Metric == y.Metric) && ((x.Max == y.Max) && ((x.Count == y.Count) && true)))
def emEq (x y : Em) : Bool := (x.On == y.On) && ((x.Decay == y.Decay) && true)
def swEq (x y : Sw) : Bool := (x.On == y.On) && (((x.FromU == y.FromU) && ((x.FromN == y.FromN) && true)) && ((x.Every == y.Every) && true))
theorem eqTp' {x y : Tp} : eqTy Tryz.prog 8 25 (.agg x.row) (.agg y.row) = some (tpEq x y) := eqTp
theorem eqPt' {x y : Pt} : eqTy Tryz.prog 8 27 (.agg x.row) (.agg y.row) = some (ptEq x y) := eqPt
theorem eqKp' {x y : Kp} : eqTy Tryz.prog 8 29 (.agg x.row) (.agg y.row) = some (kpEq x y) := eqKp
theorem eqEm' {x y : Em} : eqTy Tryz.prog 8 31 (.agg x.row) (.agg y.row) = some (emEq x y) := eqEm
theorem eqSw' {x y : Sw} : eqTy Tryz.prog 8 35 (.agg x.row) (.agg y.row) = some (swEq x y) := eqSw
def Tp.bad (x : Tp) : Bool := x.On && !(isName x.Metric && (countB x.Patience && valueB x.Delta))
def Pt.bad (x : Pt) : Bool := x.On && !(isName x.Metric && (valueB x.Factor && (countB x.Patience && (countB x.Cooldown && (valueB x.Floor && valueB x.Delta)))))
def Kp.bad (x : Kp) : Bool := x.On && !(isName x.Metric && countB x.Count)
def Em.bad (x : Em) : Bool := x.On && !valueB x.Decay
def Sw.bad (x : Sw) : Bool := x.On && (!decide (lenMay x.FromU x.FromN) || (x.FromU == 3 || !countB x.Every))
def Tp.may (x : Tp) : Bool := !x.bad && (x.On || tpEq x tp0)
def Pt.may (x : Pt) : Bool := !x.bad && (x.On || ptEq x pt0)
def Kp.may (x : Kp) : Bool := !x.bad && (x.On || kpEq x kp0)
def Em.may (x : Em) : Bool := !x.bad && (x.On || emEq x em0)
def Sw.may (x : Sw) : Bool := !x.bad && (x.On || swEq x sw0)
def Rc.endsMay (R : Rc) : Bool := R.tp.may && (R.pt.may && (R.kp.may && (R.em.may && R.sw.may)))
def endsRG : List AV → Mem → Option (AV × Mem)
  | [.agg cs], m =>
    match unRc cs with
    | some R => if R.stopMetric.size ≤ 9223372036854775807 ∧ R.plateauMetric.size ≤ 9223372036854775807 ∧ R.keepMetric.size ≤ 9223372036854775807 then some (.v (.bool R.endsMay), m) else none
    | none => none
  | _, _ => none
theorem runs_rcut {P : Program} {call : CallF} {nt : Nat} {kp : Nat → Option (List Nat)} {c : Code} {e : Env} {m : Mem} {Q : Ex → Env → Mem → Prop} (E : Env) (M : Mem) (h : Runs P call nt kp c e m fun x e2 m2 => x = .normal ∧ e2 = E ∧ m2 = M) (hk : Q .normal E M) : Runs P call nt kp c e m Q :=
  runs_mono h fun x e2 m2 ⟨h1, h2, h3⟩ => by rw [h1, h2, h3]; exact hk
def setv (m : Mem) (q : Nat) (cs : List AV) : Mem := { m with vars := m.vars.set q (some cs) }
theorem setv_self {m : Mem} {q : Nat} {cs old : List AV} (h : m.var q = some old) : (setv m q cs).var q = some cs := by
  apply var_of
  show (m.vars.set q _)[q]? = _
  rw [List.getElem?_set_self (var_lt h).1]
theorem above_setv {m m' : Mem} {q : Nat} {cs : List AV} (h : Above m m') (hq : m.vars.length ≤ q) : Above m (setv m' q cs) := by
  obtain ⟨L, rfl⟩ := h
  refine ⟨L.set (q - m.vars.length) (some cs), ?_⟩
  unfold setv
  simp only [List.set_append_right _ _ hq]
theorem store_var {P : Program} {m : Mem} {t : TypeId} {q : Nat} {x : AV} {old cs : List AV} (hc : cellsOf x = some cs) (ht : tSize P t = some cs.length) (hv : m.var q = some old) (ho : old.length = cs.length) (hr : cs.all (refLe q) = true) : evStore P m t (.ptr q 0) x = some (setv m q cs) := by
  unfold evStore
  simp only [hc, ht, hv]
  rw [if_pos ⟨trivial, by omega, hr⟩]
  have : splice old 0 cs = cs := by
    unfold splice
    simp [ho]
  rw [this]
  rfl
theorem push_len {m : Mem} {cs : List AV} : (m.push cs).vars.length = m.vars.length + 1 := by simp [Mem.push]
theorem newVar_hole {m : Mem} {p : Nat} {cs : List AV} (h : cs.all (refLe p) = true) (hp : m.vars[p]? = some none) : newVar m p cs = some (setv m p cs) := by
  have hlt : p < m.vars.length := (List.getElem?_eq_some_iff.1 hp).1
  unfold newVar
  rw [if_pos h, if_neg (by omega), hp]
  rfl
theorem setv_app {V L : List (Option (List AV))} {T : List Nat} {q : Nat} {cs : List AV} : setv { vars := V ++ L, toks := T } (V.length + q) cs = { vars := V ++ L.set q (some cs), toks := T } := by
  unfold setv
  simp only [List.set_append_right _ _ (Nat.le_add_right V.length q), Nat.add_sub_cancel_left]
def slotS (a b : Bool) (z r : List AV) : Option (List AV) := if a then some (if b then r else z) else none
def kpEndsR : Nat → Option (List Nat) := fun
  | 0 => some [1]
  | 1 => some [1, 3, 4, 5]
  | 2 => some [1, 3, 4, 5, 12]
  | 3 => some [1, 3, 4, 5, 12]
  | 5 => some [1, 4, 5, 39]
  | 6 => some [1, 4, 5, 39]
  | 8 => some [1, 5, 81]
  | 9 => some [1, 5, 81]
  | 11 => some [1, 103]
  | 12 => some [1, 103]
  | 14 => some [1, 124]
  | _ => some [2]
attribute [go_sem] kpEndsR
attribute [local go_sem] iv fpRcStop fpRcPlateau fpRcKeep cellsRc newRc zrTp zoTp znTp zrPt zoPt znPt zrKp zoKp znKp fpTpOn fpTpMetric fpTpPatience fpTpDelta mk0Tp niTp eqTp' fpPtOn fpPtMetric fpPtFactor fpPtPatience fpPtCooldown fpPtFloor fpPtDelta mk0Pt niPt eqPt' fpKpOn fpKpMetric fpKpCount mk0Kp niKp eqKp' fpRcEma fpRcEmaOn fpRcEmaDecay mk0Em niEm eqEm' fpRcSwa fpRcSwaOn fpRcSwaFrom fpRcSwaFromU fpRcSwaEvery mk0Sw niSw eqSw'
theorem endsR_ok : FunOk Tryz.prog 77 endsRG := by
  have hC := table_ok (P := Tryz.prog) (l := [(122, isNameG), (72, upTo 1099511627776), (126, upTo 4503599627370496), (104, lenCheckG)]) (table_more is_ok (table_more pcount_ok (table_more pvalue_ok (table_more lenCheck_ok table_nil))))
  have t1 := fun args mm => table_at (l := [(122, isNameG), (72, upTo 1099511627776), (126, upTo 4503599627370496), (104, lenCheckG)]) (f := 122) (args := args) (m := mm) rfl
  have t2 := fun args mm => table_at (l := [(122, isNameG), (72, upTo 1099511627776), (126, upTo 4503599627370496), (104, lenCheckG)]) (f := 72) (args := args) (m := mm) rfl
  have t3 := fun args mm => table_at (l := [(122, isNameG), (72, upTo 1099511627776), (126, upTo 4503599627370496), (104, lenCheckG)]) (f := 126) (args := args) (m := mm) rfl
  have t4 := fun args mm => table_at (l := [(122, isNameG), (72, upTo 1099511627776), (126, upTo 4503599627370496), (104, lenCheckG)]) (f := 104) (args := args) (m := mm) rfl
  refine fun_okX Tryz.func77 rfl false rfl fun args m r h => ?_
  unfold endsRG at h
  split at h
  · rename_i cs
    split at h
    · rename_i R hR
      obtain rfl := unRc_some hR
      split at h
      · rename_i hs
        simp only [Option.some.injEq] at h
        subst h
        refine ⟨Nat.le_of_ble_eq_true rfl, fun φ w => ?_⟩
        simp only [entry, List.length_cons, List.length_nil, List.range, List.range.loop, List.zip_cons_cons, List.zip_nil_right]
        repeat (first | refine x_seq ?_ | refine x_block ?_ | refine xn_normal ?_ | refine xi_normal ?_ | refine xn_exit ?_ | refine xi_exit ?_ | refine xi_other (by decide) ?_ | refine xn_ret ?_ | refine xi_ret ?_ | refine x_skip ?_ | refine x_exit ?_ | refine x_ret ?_)
        refine x_region (kp := kpEndsR) mixed hC ?_
        refine go0 ?_
        have hA := above_push (cs := R.row) (above_self m)
        have hv1 : (m.push R.row).var m.vars.length = some R.row := push_var
        have hlt : m.vars.length < (m.push R.row).vars.length := by rw [push_len]; omega
        generalize m.push R.row = m1 at hA hv1 hlt
        generalize hn : m.vars.length = n1 at hv1 hlt
        repeat (first | refine x_seq ?_ | refine x_block ?_ | refine xn_normal ?_ | refine xi_normal ?_ | refine xn_exit ?_ | refine xi_exit ?_ | refine xi_other (by decide) ?_ | refine xn_ret ?_ | refine xi_ret ?_ | refine x_skip ?_ | refine x_exit ?_ | refine x_ret ?_)
        refine x_icut (fun e m2 F => ∃ n3 n4 n5, Above m m2 ∧ m2.var n1 = some R.row ∧ m2.var n3 = some R.tp.row ∧ m2.var n4 = some R.pt.row ∧ m2.var n5 = some R.kp.row ∧ e = [(1, .ptr n1 0), (3, .ptr n3 0), (4, .ptr n4 0), (5, .ptr n5 0)]) ?_ ?_
        · let MS : (Nat → Bool) → Mem := fun S => { vars := m1.vars ++ [slotS (S 6) (S 9) zeroTp R.tp.row, slotS (S 7) (S 10) zeroPt R.pt.row, slotS (S 8) (S 11) zeroKp R.kp.row], toks := m1.toks }
          have hMv : ∀ S, (MS S).var n1 = some R.row := fun S => by
            apply var_of
            show (m1.vars ++ _)[n1]? = _
            rw [List.getElem?_append_left hlt, (var_lt hv1).2]
          have hQ : ∀ S (q : Nat), (MS S).var (m1.vars.length + q) = ([slotS (S 6) (S 9) zeroTp R.tp.row, slotS (S 7) (S 10) zeroPt R.pt.row, slotS (S 8) (S 11) zeroKp R.kp.row][q]?).join := fun S q => by
            show ((m1.vars ++ _)[m1.vars.length + q]?).join = _
            rw [List.getElem?_append_right (by omega), Nat.add_sub_cancel_left]
          refine x_sets0 (l2 := kpEndsR 1) mixed hC (by decide +kernel) (by decide +kernel) (fun i => [.ptr n1 8, .agg R.tp.row, .ptr n1 14, .agg R.pt.row, .ptr n1 22, .agg R.kp.row, .ptr (m1.vars.length + 0) 0, .ptr (m1.vars.length + 1) 0, .ptr (m1.vars.length + 2) 0, .v (.tuple #[]), .v (.tuple #[]), .v (.tuple #[])].getD i .junk) MS
            (m' := { vars := m1.vars ++ [some R.tp.row, some R.pt.row, some R.kp.row], toks := m1.toks }) ?_ rfl ?_ ?_ ?_
          · intro r
            show (m1.vars[r]?).join = ((m1.vars ++ [none, none, none])[r]?).join
            by_cases h : r < m1.vars.length
            · rw [List.getElem?_append_left h]
            · rw [List.getElem?_append_right (by omega), List.getElem?_eq_none (by omega)]
              match r - m1.vars.length with
              | 0 => rfl
              | 1 => rfl
              | 2 => rfl
              | n + 3 => rfl
          · intro S i o ho hc hi hr
            match i, ho with
            | 0, ho =>
              cases ho
              refine .inl ?_
              show _ = some (_, MS S)
              simp only [go_sem, reduceIte, Nat.reduceEqDiff, reduceCtorEq, Int.reduceEq, envOf, List.getElem?_cons_zero, List.getElem?_cons_succ, Option.bind_some, List.getD_cons_zero, List.getD_cons_succ, List.getElem?_toArray]
              try rfl
            | 1, ho =>
              cases ho
              refine .inl ?_
              show _ = some (_, MS S)
              have l1 := lpRcStop (hMv S)
              simp only [go_sem, reduceIte, Nat.reduceEqDiff, reduceCtorEq, Int.reduceEq, envOf, List.getElem?_cons_zero, List.getElem?_cons_succ, Option.bind_some, List.getD_cons_zero, List.getD_cons_succ, List.getElem?_toArray, l1]
              try rfl
            | 2, ho =>
              cases ho
              refine .inl ?_
              show _ = some (_, MS S)
              simp only [go_sem, reduceIte, Nat.reduceEqDiff, reduceCtorEq, Int.reduceEq, envOf, List.getElem?_cons_zero, List.getElem?_cons_succ, Option.bind_some, List.getD_cons_zero, List.getD_cons_succ, List.getElem?_toArray]
              try rfl
            | 3, ho =>
              cases ho
              refine .inl ?_
              show _ = some (_, MS S)
              have l1 := lpRcPlateau (hMv S)
              simp only [go_sem, reduceIte, Nat.reduceEqDiff, reduceCtorEq, Int.reduceEq, envOf, List.getElem?_cons_zero, List.getElem?_cons_succ, Option.bind_some, List.getD_cons_zero, List.getD_cons_succ, List.getElem?_toArray, l1]
              try rfl
            | 4, ho =>
              cases ho
              refine .inl ?_
              show _ = some (_, MS S)
              simp only [go_sem, reduceIte, Nat.reduceEqDiff, reduceCtorEq, Int.reduceEq, envOf, List.getElem?_cons_zero, List.getElem?_cons_succ, Option.bind_some, List.getD_cons_zero, List.getD_cons_succ, List.getElem?_toArray]
              try rfl
            | 5, ho =>
              cases ho
              refine .inl ?_
              show _ = some (_, MS S)
              have l1 := lpRcKeep (hMv S)
              simp only [go_sem, reduceIte, Nat.reduceEqDiff, reduceCtorEq, Int.reduceEq, envOf, List.getElem?_cons_zero, List.getElem?_cons_succ, Option.bind_some, List.getD_cons_zero, List.getD_cons_succ, List.getElem?_toArray, l1]
              try rfl
            | 6, ho =>
              cases ho
              have h9 : S 9 = false := by
                cases h : S 9 with
                | false => rfl
                | true =>
                  have := hc 9 _ rfl h ⟨6, .data⟩ (by simp) rfl
                  rw [this] at hi
                  cases hi
              refine .inr ⟨_, zeroTp, m1.vars.length + 0, rfl, zrTp, zoTp, ?_, rfl⟩
              rw [newVar_hole rfl (by show (m1.vars ++ _)[m1.vars.length + 0]? = _; rw [List.getElem?_append_right (by omega), Nat.add_sub_cancel_left]; show some (slotS (S 6) (S 9) zeroTp _) = _; rw [hi]; rfl)]
              show some (setv { vars := _ ++ _, toks := _ } _ _) = _
              rw [setv_app]
              show some ({ vars := _ ++ [_, _, _], toks := _ } : Mem) = some { vars := _ ++ [_, _, _], toks := _ }
              simp only [ins, slotS, h9]
              rfl
            | 7, ho =>
              cases ho
              have h9 : S 10 = false := by
                cases h : S 10 with
                | false => rfl
                | true =>
                  have := hc 10 _ rfl h ⟨7, .data⟩ (by simp) rfl
                  rw [this] at hi
                  cases hi
              refine .inr ⟨_, zeroPt, m1.vars.length + 1, rfl, zrPt, zoPt, ?_, rfl⟩
              rw [newVar_hole rfl (by show (m1.vars ++ _)[m1.vars.length + 1]? = _; rw [List.getElem?_append_right (by omega), Nat.add_sub_cancel_left]; show some (slotS (S 7) (S 10) zeroPt _) = _; rw [hi]; rfl)]
              show some (setv { vars := _ ++ _, toks := _ } _ _) = _
              rw [setv_app]
              show some ({ vars := _ ++ [_, _, _], toks := _ } : Mem) = some { vars := _ ++ [_, _, _], toks := _ }
              simp only [ins, slotS, h9]
              rfl
            | 8, ho =>
              cases ho
              have h9 : S 11 = false := by
                cases h : S 11 with
                | false => rfl
                | true =>
                  have := hc 11 _ rfl h ⟨8, .data⟩ (by simp) rfl
                  rw [this] at hi
                  cases hi
              refine .inr ⟨_, zeroKp, m1.vars.length + 2, rfl, zrKp, zoKp, ?_, rfl⟩
              rw [newVar_hole rfl (by show (m1.vars ++ _)[m1.vars.length + 2]? = _; rw [List.getElem?_append_right (by omega), Nat.add_sub_cancel_left]; show some (slotS (S 8) (S 11) zeroKp _) = _; rw [hi]; rfl)]
              show some (setv { vars := _ ++ _, toks := _ } _ _) = _
              rw [setv_app]
              show some ({ vars := _ ++ [_, _, _], toks := _ } : Mem) = some { vars := _ ++ [_, _, _], toks := _ }
              simp only [ins, slotS, h9]
              rfl
            | 9, ho =>
              cases ho
              have h6 : S 6 = true := hr ⟨6, .data⟩ (by simp) rfl
              refine .inl ?_
              have hv := hQ S 0
              have hs : ([slotS (S 6) (S 9) zeroTp R.tp.row, slotS (S 7) (S 10) zeroPt R.pt.row, slotS (S 8) (S 11) zeroKp R.kp.row][0]?).join = some zeroTp := by
                show (some (slotS (S 6) (S 9) zeroTp _)).join = _
                rw [h6, hi]
                rfl
              rw [hs] at hv
              have st := store_var (P := Tryz.prog) (t := 25) (x := .agg R.tp.row) (cs := R.tp.row) rfl szTp hv rfl rfl
              simp only [go_sem, reduceIte, Nat.reduceEqDiff, reduceCtorEq, Int.reduceEq, envOf, List.getElem?_cons_zero, List.getElem?_cons_succ, Option.bind_some, List.getD_cons_zero, List.getD_cons_succ, List.getElem?_toArray, st]
              show some (_, setv { vars := _ ++ _, toks := _ } _ _) = _
              rw [setv_app]
              show some (_, ({ vars := _ ++ [_, _, _], toks := _ } : Mem)) = some (_, { vars := _ ++ [_, _, _], toks := _ })
              simp only [ins, slotS, h6]
              rfl
            | 10, ho =>
              cases ho
              have h6 : S 7 = true := hr ⟨7, .data⟩ (by simp) rfl
              refine .inl ?_
              have hv := hQ S 1
              have hs : ([slotS (S 6) (S 9) zeroTp R.tp.row, slotS (S 7) (S 10) zeroPt R.pt.row, slotS (S 8) (S 11) zeroKp R.kp.row][1]?).join = some zeroPt := by
                show (some (slotS (S 7) (S 10) zeroPt _)).join = _
                rw [h6, hi]
                rfl
              rw [hs] at hv
              have st := store_var (P := Tryz.prog) (t := 27) (x := .agg R.pt.row) (cs := R.pt.row) rfl szPt hv rfl rfl
              simp only [go_sem, reduceIte, Nat.reduceEqDiff, reduceCtorEq, Int.reduceEq, envOf, List.getElem?_cons_zero, List.getElem?_cons_succ, Option.bind_some, List.getD_cons_zero, List.getD_cons_succ, List.getElem?_toArray, st]
              show some (_, setv { vars := _ ++ _, toks := _ } _ _) = _
              rw [setv_app]
              show some (_, ({ vars := _ ++ [_, _, _], toks := _ } : Mem)) = some (_, { vars := _ ++ [_, _, _], toks := _ })
              simp only [ins, slotS, h6]
              rfl
            | 11, ho =>
              cases ho
              have h6 : S 8 = true := hr ⟨8, .data⟩ (by simp) rfl
              refine .inl ?_
              have hv := hQ S 2
              have hs : ([slotS (S 6) (S 9) zeroTp R.tp.row, slotS (S 7) (S 10) zeroPt R.pt.row, slotS (S 8) (S 11) zeroKp R.kp.row][2]?).join = some zeroKp := by
                show (some (slotS (S 8) (S 11) zeroKp _)).join = _
                rw [h6, hi]
                rfl
              rw [hs] at hv
              have st := store_var (P := Tryz.prog) (t := 29) (x := .agg R.kp.row) (cs := R.kp.row) rfl szKp hv rfl rfl
              simp only [go_sem, reduceIte, Nat.reduceEqDiff, reduceCtorEq, Int.reduceEq, envOf, List.getElem?_cons_zero, List.getElem?_cons_succ, Option.bind_some, List.getD_cons_zero, List.getD_cons_succ, List.getElem?_toArray, st]
              show some (_, setv { vars := _ ++ _, toks := _ } _ _) = _
              rw [setv_app]
              show some (_, ({ vars := _ ++ [_, _, _], toks := _ } : Mem)) = some (_, { vars := _ ++ [_, _, _], toks := _ })
              simp only [ins, slotS, h6]
              rfl
            | n + 12, ho => simp at ho
          · intro S hS
            have h6 := hS 6 (by decide)
            have h7 := hS 7 (by decide)
            have h8 := hS 8 (by decide)
            have h9 := hS 9 (by decide)
            have h10 := hS 10 (by decide)
            have h11 := hS 11 (by decide)
            show ({ vars := _, toks := _ } : Mem) = _
            simp only [h6, h7, h8, h9, h10, h11]
            rfl
          · rintro e2 rfl
            refine ⟨m1.vars.length + 0, m1.vars.length + 1, m1.vars.length + 2, ?_, ?_, ?_, ?_, ?_, rfl⟩
            · obtain ⟨L, rfl⟩ := hA
              exact ⟨L ++ [some R.tp.row, some R.pt.row, some R.kp.row], by simp⟩
            · exact var_of (by show (m1.vars ++ _)[n1]? = _; rw [List.getElem?_append_left hlt, (var_lt hv1).2])
            · exact var_of (by show (m1.vars ++ _)[m1.vars.length + 0]? = _; rw [List.getElem?_append_right (by omega), Nat.add_sub_cancel_left]; rfl)
            · exact var_of (by show (m1.vars ++ _)[m1.vars.length + 1]? = _; rw [List.getElem?_append_right (by omega), Nat.add_sub_cancel_left]; rfl)
            · exact var_of (by show (m1.vars ++ _)[m1.vars.length + 2]? = _; rw [List.getElem?_append_right (by omega), Nat.add_sub_cancel_left]; rfl)
        · rintro e m2 F ⟨n3, n4, n5, hA2, h1, h3, h4, h5, rfl⟩
          have fin := above_fin hA2
          have ct : ∀ x mm, upTo 1099511627776 [.v (.int .i64 x)] mm = some (.v (.bool (countB x)), mm) := fun _ _ => rfl
          have vt : ∀ x mm, upTo 4503599627370496 [.v (.int .i64 x)] mm = some (.v (.bool (valueB x)), mm) := fun _ _ => rfl
          have a1 := lpTpOn h3
          have a2 := lpTpMetric h3
          have a3 := lpTpPatience h3
          have a4 := lpTpDelta h3
          have a5 := vrTp h3
          have i1 := fun mm => isNameG_eq (s := R.tp.Metric) (m := mm) hs.1
          refine xn_normal ?_
          refine x_lift (kp := kpEndsR) mixed hC ?_
          refine runs_seq ?_
          refine runs_block ?_
          refine runs_seq ?_
          refine runs_rcut [(1, .ptr n1 0), (3, .ptr n3 0), (4, .ptr n4 0), (5, .ptr n5 0), (12, .v (.bool (!R.tp.may)))] m2 ?_ ?_
          · repeat' (first | refine gos1 (jn @a1 (jn @a2 (jn @a3 (jn @a4 (jn @a5 (jn @t1 (jn @t2 (jn @t3 (jn @i1 (jn @ct @vt)))))))))) ?_ | (refine ops_here ?_; (fail_if_success (refine ops_case (B := true) rfl rfl rfl ?_ ?_)); (fail_if_success (refine ops_case (B := false) rfl rfl rfl ?_ ?_)); refine ops_case rfl rfl rfl (fun hB => ?_) (fun hB => ?_) <;> rw [hB]) | (refine runs_here ?_; refine runs_cond rfl (fun hc => ?_) (fun hc => ?_) <;> first | (cases hc; done) | skip))
            all_goals refine ⟨rfl, ?_, rfl⟩
            all_goals simp_all [Tp.bad, Tp.may]
          · refine next_normal ?_
            refine runs_cond rfl (fun hc => ?_) (fun hc => ?_)
            · have e1 : R.endsMay = false := by simp only [Bool.not_eq_true'] at hc; simp [Rc.endsMay, hc]
              rw [e1]
              refine go0 ?_
              exact leaves_fin rfl rfl fin
            have m1' : R.tp.may = true := by simpa using hc
            have b1 := lpPtOn h4
            have b2 := lpPtMetric h4
            have b3 := lpPtFactor h4
            have b4 := lpPtPatience h4
            have b5 := lpPtCooldown h4
            have b6 := lpPtFloor h4
            have b7 := lpPtDelta h4
            have b8 := vrPt h4
            have i2 := fun mm => isNameG_eq (s := R.pt.Metric) (m := mm) hs.2.1
            refine runs_seq ?_
            refine runs_rcut [(1, .ptr n1 0), (4, .ptr n4 0), (5, .ptr n5 0), (39, .v (.bool (!R.pt.may)))] m2 ?_ ?_
            · repeat' (first | refine gos1 (jn @b1 (jn @b2 (jn @b3 (jn @b4 (jn @b5 (jn @b6 (jn @b7 (jn @b8 (jn @t1 (jn @t2 (jn @t3 (jn @i2 (jn @ct @vt))))))))))))) ?_ | (refine ops_here ?_; (fail_if_success (refine ops_case (B := true) rfl rfl rfl ?_ ?_)); (fail_if_success (refine ops_case (B := false) rfl rfl rfl ?_ ?_)); refine ops_case rfl rfl rfl (fun hB => ?_) (fun hB => ?_) <;> rw [hB]) | (refine runs_here ?_; refine runs_cond rfl (fun hc => ?_) (fun hc => ?_) <;> first | (cases hc; done) | skip))
              all_goals refine ⟨rfl, ?_, rfl⟩
              all_goals simp_all [Pt.bad, Pt.may]
            refine next_normal ?_
            refine runs_cond rfl (fun hc => ?_) (fun hc => ?_)
            · have e1 : R.endsMay = false := by simp only [Bool.not_eq_true'] at hc; simp [Rc.endsMay, hc]
              rw [e1]
              refine go0 ?_
              exact leaves_fin rfl rfl fin
            have m2' : R.pt.may = true := by simpa using hc
            have c1 := lpKpOn h5
            have c2 := lpKpMetric h5
            have c3 := lpKpCount h5
            have c4 := vrKp h5
            have i3 := fun mm => isNameG_eq (s := R.kp.Metric) (m := mm) hs.2.2
            refine runs_seq ?_
            refine runs_rcut [(1, .ptr n1 0), (5, .ptr n5 0), (81, .v (.bool (!R.kp.may)))] m2 ?_ ?_
            · repeat' (first | refine gos1 (jn @c1 (jn @c2 (jn @c3 (jn @c4 (jn @t1 (jn @t2 (jn @t3 (jn @i3 (jn @ct @vt))))))))) ?_ | (refine ops_here ?_; (fail_if_success (refine ops_case (B := true) rfl rfl rfl ?_ ?_)); (fail_if_success (refine ops_case (B := false) rfl rfl rfl ?_ ?_)); refine ops_case rfl rfl rfl (fun hB => ?_) (fun hB => ?_) <;> rw [hB]) | (refine runs_here ?_; refine runs_cond rfl (fun hc => ?_) (fun hc => ?_) <;> first | (cases hc; done) | skip))
              all_goals refine ⟨rfl, ?_, rfl⟩
              all_goals simp_all [Kp.bad, Kp.may]
            refine next_normal ?_
            refine runs_cond rfl (fun hc => ?_) (fun hc => ?_)
            · have e1 : R.endsMay = false := by simp only [Bool.not_eq_true'] at hc; simp [Rc.endsMay, hc]
              rw [e1]
              refine go0 ?_
              exact leaves_fin rfl rfl fin
            have m3' : R.kp.may = true := by simpa using hc
            have d1 : evLoad Tryz.prog m2 4 (.ptr n1 26) = some (.v (.bool R.em.On)) := lpRcEmaOn h1
            have d2 : evLoad Tryz.prog m2 3 (.ptr n1 27) = some (.v (.int .i64 R.em.Decay)) := lpRcEmaDecay h1
            have d3 : evLoad Tryz.prog m2 31 (.ptr n1 26) = some (.agg R.em.row) := lpRcEma h1
            refine runs_seq ?_
            refine runs_rcut [(1, .ptr n1 0), (103, .v (.bool (!R.em.may)))] m2 ?_ ?_
            · repeat' (first | refine gos1 (jn @d1 (jn @d2 (jn @d3 (jn @t1 (jn @t2 (jn @t3 (jn @ct @vt))))))) ?_ | (refine ops_here ?_; (fail_if_success (refine ops_case (B := true) rfl rfl rfl ?_ ?_)); (fail_if_success (refine ops_case (B := false) rfl rfl rfl ?_ ?_)); refine ops_case rfl rfl rfl (fun hB => ?_) (fun hB => ?_) <;> rw [hB]) | (refine runs_here ?_; refine runs_cond rfl (fun hc => ?_) (fun hc => ?_) <;> first | (cases hc; done) | skip))
              all_goals refine ⟨rfl, ?_, rfl⟩
              all_goals simp_all [Em.bad, Em.may]
            refine next_normal ?_
            refine runs_cond rfl (fun hc => ?_) (fun hc => ?_)
            · have e1 : R.endsMay = false := by simp only [Bool.not_eq_true'] at hc; simp [Rc.endsMay, hc]
              rw [e1]
              refine go0 ?_
              exact leaves_fin rfl rfl fin
            have m4' : R.em.may = true := by simpa using hc
            have f1 : evLoad Tryz.prog m2 4 (.ptr n1 28) = some (.v (.bool R.sw.On)) := lpRcSwaOn h1
            have f2 : evLoad Tryz.prog m2 33 (.ptr n1 29) = some (.agg [.v (.int .i64 R.sw.FromU), .v (.int .i64 R.sw.FromN)]) := lpRcSwaFrom h1
            have f3 : evLoad Tryz.prog m2 3 (.ptr n1 29) = some (.v (.int .i64 R.sw.FromU)) := lpRcSwaFromU h1
            have f4 : evLoad Tryz.prog m2 3 (.ptr n1 31) = some (.v (.int .i64 R.sw.Every)) := lpRcSwaEvery h1
            have f5 : evLoad Tryz.prog m2 35 (.ptr n1 28) = some (.agg R.sw.row) := lpRcSwa h1
            have lc : ∀ u n mm, lenCheckG [.agg [.v (.int .i64 u), .v (.int .i64 n)]] mm = some (.v (.int .i64 (if lenMay u n then 0 else 1)), mm) := fun _ _ _ => rfl
            have le : ∀ u n, ((if lenMay u n then (0 : Int) else 1) != 0) = !decide (lenMay u n) := fun u n => by
              by_cases h : lenMay u n
              · rw [if_pos h, decide_eq_true h]; rfl
              · rw [if_neg h, decide_eq_false h]; rfl
            refine runs_seq ?_
            refine runs_rcut [(1, .ptr n1 0), (124, .v (.bool R.sw.bad))] m2 ?_ ?_
            · repeat' (first | refine gos1 (jn @f1 (jn @f2 (jn @f3 (jn @f4 (jn @t1 (jn @t2 (jn @t3 (jn @t4 (jn @ct (jn @vt (jn @lc @le))))))))))) ?_ | (refine ops_here ?_; (fail_if_success (refine ops_case (B := true) rfl rfl rfl ?_ ?_)); (fail_if_success (refine ops_case (B := false) rfl rfl rfl ?_ ?_)); refine ops_case rfl rfl rfl (fun hB => ?_) (fun hB => ?_) <;> rw [hB]) | (refine runs_here ?_; refine runs_cond rfl (fun hc => ?_) (fun hc => ?_) <;> first | (cases hc; done) | skip))
              all_goals refine ⟨rfl, ?_, rfl⟩
              all_goals simp_all [Sw.bad]
            refine next_normal ?_
            refine runs_cond rfl (fun hc => ?_) (fun hc => ?_)
            · have e1 : R.endsMay = false := by simp [Rc.endsMay, Sw.may, hc]
              rw [e1]
              refine go0 ?_
              exact leaves_fin rfl rfl fin
            refine go0 ?_
            cases ho : R.sw.On with
            | true =>
              have e1 : R.endsMay = true := by simp [Rc.endsMay, Sw.may, m1', m2', m3', m4', hc, ho]
              rw [ho] at f1
              rw [e1]
              refine go1 (jn @f1 @f5) ?_
              exact leaves_fin rfl rfl fin
            | false =>
              have e1 : R.endsMay = swEq R.sw sw0 := by simp [Rc.endsMay, Sw.may, m1', m2', m3', m4', hc, ho]
              rw [ho] at f1
              rw [e1]
              refine go1 (jn @f1 @f5) ?_
              exact leaves_fin rfl rfl fin
      · cases h
    · cases h
  · cases h
end Go.Proofs.YtojaokhkbmiidaaGreat.Ev

namespace Go.Proofs.YtojaokhkbmiidaaGreat.Ev
open Go Go.Proofs
set_option maxRecDepth 10000
set_option maxHeartbeats 16000000
set_option linter.unusedVariables false
set_option linter.unusedSimpArgs false
def inQ (x : Int) : Prop := 0 ≤ x ∧ x ≤ 4503599627370496
instance (x : Int) : Decidable (inQ x) := by unfold inQ; exact inferInstance
def mayN (x : Nd) : Prop := 1 ≤ x.op ∧ x.op ≤ 9 ∧ inQ x.a ∧ inQ x.b ∧ inQ x.c ∧ 0 ≤ x.k ∧ (x.op = 9 → x.a = 0) ∧ ((x.op < 2 ∨ 7 < x.op) → x.b = 0) ∧ (x.op ≠ 6 → x.c = 0) ∧
  ((x.op ≠ 3 ∧ x.op ≠ 4 ∧ x.op ≠ 6 ∧ x.op ≠ 7) → x.k = 0) ∧ (x.op < 7 → x.u = 0 ∧ x.n = 0) ∧ ((x.op = 3 ∨ x.op = 7) → x.k ≤ 1099511627776) ∧ (x.op = 4 → x.k ≤ 4503599627370496) ∧ (x.op = 6 → x.k ≤ 100) ∧ lenMay x.u x.n ∧ x.u ≠ 3
instance (x : Nd) : Decidable (mayN x) := by unfold mayN; exact inferInstance
def mayAt (p : Int → Bool) : List AV → Mem → Option (AV × Mem)
  | [.agg cs], m =>
    match unNd cs with
    | some x => if p x.op = true then some (.v (.bool (decide (mayN x))), m) else none
    | none => none
  | _, _ => none
def mayG : List AV → Mem → Option (AV × Mem) := mayAt fun _ => true
theorem may_all {P : Program} {f : FuncId} (h : ∀ op, ∃ p : Int → Bool, p op = true ∧ FunOk P f (mayAt p)) : FunOk P f mayG := by
  intro args m r m' hg
  unfold mayG mayAt at hg
  split at hg
  · rename_i cs
    split at hg
    · rename_i x hx
      obtain ⟨p, hp, hok⟩ := h x.op
      refine hok _ m r m' ?_
      simp only [mayAt, hx]
      rw [if_pos hp]
      simpa using hg
    · cases hg
  · cases hg
theorem nf0 {r : Nat} : evFieldAddr Tryz.prog 102 (.ptr r 0) 0 = some (.ptr r 0) := by kernel_rfl
theorem nf1 {r : Nat} : evFieldAddr Tryz.prog 102 (.ptr r 0) 1 = some (.ptr r (0 + 1)) := by kernel_rfl
theorem nf2 {r : Nat} : evFieldAddr Tryz.prog 102 (.ptr r 0) 2 = some (.ptr r (0 + 2)) := by kernel_rfl
theorem nf3 {r : Nat} : evFieldAddr Tryz.prog 102 (.ptr r 0) 3 = some (.ptr r (0 + 3)) := by kernel_rfl
theorem nf4 {r : Nat} : evFieldAddr Tryz.prog 102 (.ptr r 0) 4 = some (.ptr r (0 + 4)) := by kernel_rfl
theorem nf5 {r : Nat} : evFieldAddr Tryz.prog 102 (.ptr r 0) 5 = some (.ptr r (0 + 5)) := by kernel_rfl
theorem lf0 {r : Nat} : evFieldAddr Tryz.prog 33 (.ptr r 5) 0 = some (.ptr r 5) := by kernel_rfl
def nrow (op a b c k u n : Int) : List AV := [.v (.int .i64 op), .v (.int .i64 a), .v (.int .i64 b), .v (.int .i64 c), .v (.int .i64 k), .v (.int .i64 u), .v (.int .i64 n)]
theorem nh0 {op a b c k u n : Int} : ((nrow op a b c k u n).drop 0).head? = some (.v (.int .i64 op)) := rfl
theorem nh1 {op a b c k u n : Int} : ((nrow op a b c k u n).drop 1).head? = some (.v (.int .i64 a)) := rfl
theorem nh2 {op a b c k u n : Int} : ((nrow op a b c k u n).drop 2).head? = some (.v (.int .i64 b)) := rfl
theorem nh3 {op a b c k u n : Int} : ((nrow op a b c k u n).drop 3).head? = some (.v (.int .i64 c)) := rfl
theorem nh4 {op a b c k u n : Int} : ((nrow op a b c k u n).drop 4).head? = some (.v (.int .i64 k)) := rfl
theorem nh5 {op a b c k u n : Int} : ((nrow op a b c k u n).drop 5).head? = some (.v (.int .i64 u)) := rfl
theorem newNode {m : Mem} {op a b c k u n : Int} : newVar m m.vars.length (nrow op a b c k u n) = some (m.push (nrow op a b c k u n)) := newVar_push rfl
theorem cellsNode {op a b c k u n : Int} : cellsOf (.agg (nrow op a b c k u n)) = some (nrow op a b c k u n) := rfl
theorem loadNodeLen {m : Mem} {op a b c k u n : Int} : evLoad Tryz.prog (m.push (nrow op a b c k u n)) 33 (.ptr m.vars.length 5) = some (.agg [.v (.int .i64 u), .v (.int .i64 n)]) := by
  unfold evLoad
  simp only [ptrCells, push_var, Option.map_some]
  rw [show tAgg Tryz.prog 33 = some true by kernel_rfl, show tSize Tryz.prog 33 = some 2 by kernel_rfl]
  rfl
theorem zeroLen : evBuild Tryz.prog 33 [] = some (.agg [.v (.int .i64 0), .v (.int .i64 0)]) := by kernel_rfl
theorem niLen : noIface Tryz.prog 8 33 = true := by kernel_rfl
theorem eqLen {u n u2 n2 : Int} : eqTy Tryz.prog 8 33 (.agg [.v (.int .i64 u), .v (.int .i64 n)]) (.agg [.v (.int .i64 u2), .v (.int .i64 n2)]) = some ((u == u2) && ((n == n2) && true)) := by kernel_rfl
theorem unNd_row {cs : List AV} {x : Nd} (h : unNd cs = some x) : cs = nrow x.op x.a x.b x.c x.k x.u x.n := unNd_some h
attribute [local irreducible] Next Inside Runs Ops table nrow
attribute [local go_sem] szStr szInt Option.getD_some isNil evStr loadOne newNode cellsNode nf0 nf1 nf2 nf3 nf4 nf5 lf0 nh0 nh1 nh2 nh3 nh4 nh5 loadNodeLen zeroLen niLen eqLen Nat.zero_add
def kpRefMay : Nat → Option (List Nat) := fun _ => some [0, 1, 2, 3, 4, 5, 65, 111, 145]
attribute [go_sem] kpRefMay
def tabRefMay : List (FuncId × (List AV → Mem → Option (AV × Mem))) := [(136, upTo 4503599627370496), (43, lenMayG)]
theorem q_eq (c x : Int) (mm : Mem) : upTo c [.v (.int .i64 x)] mm = some (.v (.bool (decide (0 ≤ x ∧ x ≤ c))), mm) := rfl
theorem lm_eq (u n : Int) (mm : Mem) : lenMayG [.agg [.v (.int .i64 u), .v (.int .i64 n)]] mm = some (.v (.bool (decide (lenMay u n))), mm) := rfl
end Go.Proofs.YtojaokhkbmiidaaGreat.Ev

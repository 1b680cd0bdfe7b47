/- Words for all walks: types, numbers, texts, lists of texts. -/
import Derived.Test.YtojaokhkbmiidaaGreatMa5
import Derived.Test.YtojaokhkbmiidaaGreatChecked
import Derived.KernelRfl
namespace Go.Proofs.YtojaokhkbmiidaaGreat.Ev
open Go Go.Proofs
set_option maxRecDepth 10000
set_option maxHeartbeats 8000000
set_option linter.unusedVariables false
set_option linter.unusedSimpArgs false
section
attribute [go_sem] Tryz.underlying9 Tryz.underlying3 Tryz.underlying4 Tryz.underlying5 Tryz.underlying21 Tryz.underlying160 Tryz.underlying22 Tryz.underlying77 Tryz.underlying165 Tryz.underlying41 Tryz.underlying2 Tryz.underlying173 Tryz.underlying70 Tryz.underlying102 Tryz.underlying33
theorem mixed : Tryz.prog.follows .mixedOrders = true := Tryz.checked.mixed
theorem strS : tStr Tryz.prog 9 = true := by simp only [tStr, Tryz.underlying9]
theorem szInt : tSize Tryz.prog 3 = some 1 := by kernel_rfl
theorem szStr : tSize Tryz.prog 9 = some 1 := by kernel_rfl
theorem elStrs : tElem Tryz.prog 22 = some 9 := by simp only [tElem, Tryz.underlying22]
theorem naStrs : tArr Tryz.prog 22 = none := by simp only [tArr, Tryz.underlying22]
theorem appStrs : appB Tryz.prog 22 22 1 = true := by kernel_rfl
theorem elInts : tElem Tryz.prog 77 = some 3 := by simp only [tElem, Tryz.underlying77]
theorem naInts : tArr Tryz.prog 77 = none := by simp only [tArr, Tryz.underlying77]
theorem appInts : appB Tryz.prog 77 77 1 = true := by kernel_rfl
theorem loadStr {m : Mem} {c : AV} {cs : List AV} : evLoad Tryz.prog m 9 (.eptr (c :: cs)) = some c := load_one (by simp only [tAgg, Tryz.underlying9]) szStr
theorem loadInt {m : Mem} {c : AV} {cs : List AV} : evLoad Tryz.prog m 3 (.eptr (c :: cs)) = some c := load_one (by simp only [tAgg, Tryz.underlying3]) szInt
theorem mkInts0 : evBuildSlice Tryz.prog 77 0 [] = some (.lst .full 1 []) := build_nil appInts
theorem mkInts1 {b : Int} : evBuildSlice Tryz.prog 77 1 [(0, .v (.int .i64 b))] = some (.lst .full 1 [[.v (.int .i64 b)]]) := build_one appInts (by decide) rfl rfl
theorem mkStrs0 : evBuildSlice Tryz.prog 22 0 [] = some (.lst .full 1 []) := build_nil appStrs
theorem mkStrs1 {b : ByteArray} : evBuildSlice Tryz.prog 22 1 [(0, .v (.string b))] = some (.lst .full 1 [[.v (.string b)]]) := build_one appStrs (by decide) rfl rfl
theorem i64_wrap {n : Int} (h0 : -9223372036854775808 ≤ n) (h : n ≤ 9223372036854775807) : IntKind.i64.wrap n = n := wrap_i64 h0 h
def inI (n : Int) : Prop := -9223372036854775808 ≤ n ∧ n ≤ 9223372036854775807
instance (n : Int) : Decidable (inI n) := by unfold inI; exact inferInstance
theorem next_i64 {i : Nat} (h : i < 9223372036854775807) : IntKind.i64.wrap ((i : Int) + 1) = ((i + 1 : Nat) : Int) := i64_wrap (n := ((i + 1 : Nat) : Int)) (by omega) (by omega)
/-! ### lists -/
theorem getD_ext {α : Type} {d : α} {l1 l2 : List α} (hl : l1.length = l2.length) (h : ∀ i, i < l1.length → l1.getD i d = l2.getD i d) : l1 = l2 := by
 apply List.ext_getElem hl
 intro i h1 h2
 have := h i h1
 simpa [List.getD, List.getElem?_eq_getElem h1, List.getElem?_eq_getElem h2] using this
theorem take_next {α : Type} {d : α} {l : List α} {i : Nat} (hi : i < l.length) : l.take (i + 1) = l.take i ++ [l.getD i d] := by
 rw [List.take_add_one, List.getElem?_eq_getElem hi]
 simp [List.getD, List.getElem?_eq_getElem hi]
theorem drop_next {α : Type} {d : α} {l : List α} {i : Nat} (hi : i < l.length) : l.drop i = l.getD i d :: l.drop (i + 1) := by
 rw [List.drop_eq_getElem_cons hi]
 simp [List.getD, List.getElem?_eq_getElem hi]
/-! ### texts -/
theorem bytes_same {a b : ByteArray} : (a == b) = true ↔ a = b := by
 obtain ⟨a⟩ := a
 obtain ⟨b⟩ := b
 have e : ((⟨a⟩ : ByteArray) == ⟨b⟩) = (a == b) := rfl
 rw [e, beq_iff_eq]
 constructor
 ·rintro rfl; rfl
 ·intro h; cases h; rfl
theorem bytes_not {a b : ByteArray} : (a == b) = false ↔ a ≠ b := by
 rw [← Bool.not_eq_true, bytes_same]
theorem bytes_ne {a b : ByteArray} : (a != b) = true ↔ a ≠ b := by
 unfold bne
 rw [Bool.not_eq_true', bytes_not]
theorem bytes_self (a : ByteArray) : (a == a) = true := bytes_same.mpr rfl
theorem bytes_dec {a b : ByteArray} : (a == b) = decide (a = b) := by
 by_cases h : a = b
 ·rw [decide_eq_true h, bytes_same.2 h]
 ·rw [decide_eq_false h, bytes_not.2 h]
def rowsS (l : List ByteArray) : List (List AV) := l.map fun (s : ByteArray) => [.v (.string s)]
theorem rowsS_len (l : List ByteArray) : (rowsS l).length = l.length := List.length_map ..
theorem rowsS_app (l l2 : List ByteArray) : rowsS l ++ rowsS l2 = rowsS (l ++ l2) := List.map_append.symm
theorem rowsS_get {l : List ByteArray} {i : Nat} (hi : i < l.length) : (rowsS l)[i]? = some [.v (.string (l.getD i ⟨#[]⟩))] := by
 simp [rowsS, List.getD, List.getElem?_eq_getElem hi]
def unS : List (List AV) → Option (List ByteArray)
 | [] => some []
 | [.v (.string s)] :: r => (unS r).map fun l => s :: l
 | _ => none
theorem unS_some : ∀ {rows : List (List AV)} {l : List ByteArray}, unS rows = some l → rows = rowsS l
 | [], l, h => by simp only [unS, Option.some.injEq] at h; subst h; rfl
 | row :: r, l, h => by
  unfold unS at h
  split at h
  ·rename_i heq; cases heq
  ·rename_i b r' heq
   cases heq
   cases hr : unS r with
   | none => simp [hr] at h
   | some l' =>
    simp only [hr, Option.map_some, Option.some.injEq] at h
    subst h
    rw [unS_some hr]
    rfl
  ·cases h
theorem unS_rowsS : ∀ (l : List ByteArray), unS (rowsS l) = some l
 | [] => rfl
 | s :: l => by
  have e : rowsS (s :: l) = [.v (.string s)] :: rowsS l := rfl
  rw [e, unS, unS_rowsS l]
  rfl
theorem atStrs {g : Grow} {kk : IntKind} {l : List ByteArray} {i : Nat} (hi : i < l.length) : evIndexAddr Tryz.prog 22 (.lst g 1 (rowsS l)) (.v (.int kk (i : Int))) = some (.eptr [.v (.string (l.getD i ⟨#[]⟩))]) := at_list elStrs naStrs szStr (rowsS_get hi)
theorem atInts {g : Grow} {kk : IntKind} {l : List Int} {i : Nat} (hi : i < l.length) : evIndexAddr Tryz.prog 77 (.lst g 1 (rowsI l)) (.v (.int kk (i : Int))) = some (.eptr [.v (.int .i64 (l.getD i 0))]) := at_list elInts naInts szInt (rowsI_get hi)
end
section
structure Nd where
 op : Int
 a : Int
 b : Int
 c : Int
 k : Int
 u : Int
 n : Int
 deriving DecidableEq
instance : Inhabited Nd := ⟨⟨0, 0, 0, 0, 0, 0, 0⟩⟩
def iv (n : Int) : AV := .v (.int .i64 n)
def Nd.row (x : Nd) : List AV := [iv x.op, iv x.a, iv x.b, iv x.c, iv x.k, iv x.u, iv x.n]
def Nd.ok (x : Nd) : Prop := inI x.op ∧ inI x.a ∧ inI x.b ∧ inI x.c ∧ inI x.k ∧ inI x.u ∧ inI x.n
instance (x : Nd) : Decidable x.ok := by unfold Nd.ok; exact inferInstance
def nd0 : Nd := ⟨0, 0, 0, 0, 0, 0, 0⟩
theorem nd0_ok : nd0.ok := by decide
def rowsN (l : List Nd) : List (List AV) := l.map Nd.row
theorem rowsN_len (l : List Nd) : (rowsN l).length = l.length := List.length_map ..
theorem rowsN_get {l : List Nd} {i : Nat} (hi : i < l.length) : (rowsN l)[i]? = some (l.getD i nd0).row := by
 simp [rowsN, List.getD, List.getElem?_eq_getElem hi]
def OkN (l : List Nd) : Prop := ∀ x ∈ l, x.ok
instance (l : List Nd) : Decidable (OkN l) := by unfold OkN; exact inferInstance
theorem OkN.getD {l : List Nd} (h : OkN l) (i : Nat) : (l.getD i nd0).ok := by
 simp only [List.getD]
 cases hi : l[i]? with
 | none => exact nd0_ok
 | some b => exact h b (List.mem_of_getElem? hi)
theorem OkN.take {l : List Nd} (h : OkN l) (i : Nat) : OkN (l.take i) := fun b hb => h b (List.mem_of_mem_take hb)
theorem OkN.drop {l : List Nd} (h : OkN l) (i : Nat) : OkN (l.drop i) := fun b hb => h b (List.mem_of_mem_drop hb)
def unNd : List AV → Option Nd
 | [.v (.int .i64 op), .v (.int .i64 a), .v (.int .i64 b), .v (.int .i64 c), .v (.int .i64 k), .v (.int .i64 u), .v (.int .i64 n)] => some ⟨op, a, b, c, k, u, n⟩
 | _ => none
def unN : List (List AV) → Option (List Nd)
 | [] => some []
 | row :: r =>
  match unNd row, unN r with
  | some x, some l => some (x :: l)
  | _, _ => none
theorem unNd_some {row : List AV} {x : Nd} (h : unNd row = some x) : row = x.row := by
 unfold unNd at h
 split at h
 ·cases h; rfl
 ·cases h
theorem unN_some : ∀ {rows : List (List AV)} {l : List Nd}, unN rows = some l → rows = rowsN l
 | [], l, h => by simp only [unN, Option.some.injEq] at h; subst h; rfl
 | row :: r, l, h => by
  unfold unN at h
  split at h
  ·rename_i x l' h1 h2
   cases h
   rw [unNd_some h1, unN_some h2]
   rfl
  ·cases h
theorem unN_rowsN : ∀ (l : List Nd), unN (rowsN l) = some l
 | [] => rfl
 | x :: l => by
  have e : rowsN (x :: l) = x.row :: rowsN l := rfl
  rw [e, unN, unN_rowsN l]
  rfl
theorem szNode : tSize Tryz.prog 102 = some 7 := by kernel_rfl
theorem elNodes : tElem Tryz.prog 70 = some 102 := by simp only [tElem, Tryz.underlying70]
theorem naNodes : tArr Tryz.prog 70 = none := by simp only [tArr, Tryz.underlying70]
theorem atNodes {g : Grow} {kk : IntKind} {l : List Nd} {i : Nat} (hi : i < l.length) : evIndexAddr Tryz.prog 70 (.lst g 7 (rowsN l)) (.v (.int kk (i : Int))) = some (.eptr (l.getD i nd0).row) := at_list elNodes naNodes szNode (rowsN_get hi)
theorem fldOp {x : Nd} : evFieldAddr Tryz.prog 102 (.eptr x.row) 0 = some (.eptr x.row) := by kernel_rfl
theorem ldOp {m : Mem} {x : Nd} : evLoad Tryz.prog m 3 (.eptr x.row) = some (.v (.int .i64 x.op)) := loadInt
theorem ldNode {m : Mem} {x : Nd} : evLoad Tryz.prog m 102 (.eptr x.row) = some (.agg x.row) := by kernel_rfl
/-- A law's argument. -/
theorem typed_node {d : Nat} {row : List AV} (h : Typed Tryz.prog (d + 3) 102 row) : ∃ x : Nd, x.ok ∧ row = x.row := by
 unfold Typed at h
 rw [Tryz.underlying102] at h
 obtain ⟨parts, rfl, hl, h⟩ := h
 match parts, hl with
 | [p0, p1, p2, p3, p4, p5], _ =>
  have h0 := h 0 _ p0 rfl rfl
  have h1 := h 1 _ p1 rfl rfl
  have h2 := h 2 _ p2 rfl rfl
  have h3 := h 3 _ p3 rfl rfl
  have h4 := h 4 _ p4 rfl rfl
  have h5 := h 5 _ p5 rfl rfl
  have num : ∀ {d : Nat} {p : List AV}, Typed Tryz.prog (d + 1) 3 p → ∃ n, inI n ∧ p = [iv n] := by
   intro d p h
   unfold Typed at h
   rw [Tryz.underlying3] at h
   obtain ⟨n, rfl, n0, n1⟩ := h
   simp [IntKind.min, IntKind.max, IntKind.signed, IntKind.bits] at n0 n1
   exact ⟨n, ⟨n0, n1⟩, rfl⟩
  obtain ⟨op, o0, rfl⟩ := num h0
  obtain ⟨a, o1, rfl⟩ := num h1
  obtain ⟨b, o2, rfl⟩ := num h2
  obtain ⟨c, o3, rfl⟩ := num h3
  obtain ⟨k, o4, rfl⟩ := num h4
  have h5' : Typed Tryz.prog (d + 2) 33 p5 := h5
  unfold Typed at h5'
  rw [Tryz.underlying33] at h5'
  obtain ⟨q, rfl, hq, h6⟩ := h5'
  match q, hq with
  | [q0, q1], _ =>
   have g0 := h6 0 _ q0 rfl rfl
   have g1 := h6 1 _ q1 rfl rfl
   obtain ⟨u, o5, rfl⟩ := num g0
   obtain ⟨n, o6, rfl⟩ := num g1
   exact ⟨⟨op, a, b, c, k, u, n⟩, ⟨o0, o1, o2, o3, o4, o5, o6⟩, rfl⟩
theorem rows_nodes {d : Nat} : ∀ {rows : List (List AV)}, (∀ row ∈ rows, Typed Tryz.prog (d + 3) 102 row) → ∃ l, OkN l ∧ rows = rowsN l
 | [], _ => ⟨[], (fun x h => by simp at h), rfl⟩
 | row :: rows, h => by
  obtain ⟨l, h1, rfl⟩ := rows_nodes fun r hr => h r (List.mem_cons_of_mem _ hr)
  obtain ⟨x, h2, rfl⟩ := typed_node (h row (List.mem_cons_self ..))
  refine ⟨x :: l, fun y hy => ?_, rfl⟩
  rcases List.mem_cons.1 hy with rfl | hy
  ·exact h2
  ·exact h1 y hy
end
section
attribute [local irreducible] Next Inside Runs Ops table
/-! ### api.Flaw -/
structure Fl where
 rule : Int
 item : Int
 part : Int
def fl0 : Fl := ⟨0, 0, 0⟩
def Fl.row (x : Fl) : List AV := [iv x.rule, iv x.item, iv x.part]
def unFl : List AV → Option Fl
 | [.v (.int .i64 c0), .v (.int .i64 c1), .v (.int .i64 c2)] => some ⟨c0, c1, c2⟩
 | _ => none
theorem unFl_some {cs : List AV} {x : Fl} (h : unFl cs = some x) : cs = x.row := by
 unfold unFl at h
 split at h
 ·cases h; rfl
 ·cases h
theorem unFl_row (x : Fl) : unFl x.row = some x := by
 rfl
def rowsFl (l : List Fl) : List (List AV) := l.map Fl.row
theorem rowsFl_len (l : List Fl) : (rowsFl l).length = l.length := List.length_map ..
theorem rowsFl_app (l l2 : List Fl) : rowsFl l ++ rowsFl l2 = rowsFl (l ++ l2) := List.map_append.symm
theorem rowsFl_get {l : List Fl} {i : Nat} (hi : i < l.length) : (rowsFl l)[i]? = some (l.getD i fl0).row := by
 simp [rowsFl, List.getD, List.getElem?_eq_getElem hi]
def unsFl : List (List AV) → Option (List Fl)
 | [] => some []
 | row :: r =>
  match unFl row, unsFl r with
  | some x, some l => some (x :: l)
  | _, _ => none
theorem unsFl_some : ∀ {rs : List (List AV)} {l : List Fl}, unsFl rs = some l → rs = rowsFl l
 | [], l, h => by simp only [unsFl, Option.some.injEq] at h; subst h; rfl
 | row :: r, l, h => by
  unfold unsFl at h
  split at h
  ·rename_i x l' h1 h2
   cases h
   rw [unFl_some h1, unsFl_some h2]
   rfl
  ·cases h
theorem unsFl_rowsFl : ∀ (l : List Fl), unsFl (rowsFl l) = some l
 | [] => rfl
 | x :: l => by
  have e : rowsFl (x :: l) = x.row :: rowsFl l := rfl
  rw [e, unsFl, unFl_row, unsFl_rowsFl l]
theorem elFl : tElem Tryz.prog 40 = some 83 := by simp only [tElem, Tryz.underlying40]
theorem naFl : tArr Tryz.prog 40 = none := by simp only [tArr, Tryz.underlying40]
theorem appFl : appB Tryz.prog 40 40 3 = true := by kernel_rfl
theorem szFl : tSize Tryz.prog 83 = some 3 := by kernel_rfl
theorem atFl {g : Grow} {kk : IntKind} {l : List Fl} {i : Nat} (hi : i < l.length) : evIndexAddr Tryz.prog 40 (.lst g 3 (rowsFl l)) (.v (.int kk (i : Int))) = some (.eptr (l.getD i fl0).row) := at_list elFl naFl szFl (rowsFl_get hi)
theorem ldFl {m : Mem} {x : Fl} : evLoad Tryz.prog m 83 (.eptr x.row) = some (.agg x.row) := by kernel_rfl
theorem niFl : noIface Tryz.prog 8 83 = true := by kernel_rfl
theorem eqFl {x y : Fl} : eqTy Tryz.prog 8 83 (.agg x.row) (.agg y.row) = some ((x.rule == y.rule) && ((x.item == y.item) && ((x.part == y.part) && true))) := by kernel_rfl
theorem feFlItem {x : Fl} : evFieldAddr Tryz.prog 83 (.eptr x.row) 1 = some (.eptr (x.row.drop 1)) := by kernel_rfl
theorem leFlItem {m : Mem} {x : Fl} : evLoad Tryz.prog m 3 (.eptr (x.row.drop 1)) = some (iv x.item) := by kernel_rfl
/-! ### api.Span -/
structure Sp where
 from_ : Int
 to_ : Int
def sp0 : Sp := ⟨0, 0⟩
def Sp.row (x : Sp) : List AV := [iv x.from_, iv x.to_]
def unSp : List AV → Option Sp
 | [.v (.int .i64 c0), .v (.int .i64 c1)] => some ⟨c0, c1⟩
 | _ => none
theorem unSp_some {cs : List AV} {x : Sp} (h : unSp cs = some x) : cs = x.row := by
 unfold unSp at h
 split at h
 ·cases h; rfl
 ·cases h
theorem unSp_row (x : Sp) : unSp x.row = some x := by
 rfl
def rowsSp (l : List Sp) : List (List AV) := l.map Sp.row
theorem rowsSp_len (l : List Sp) : (rowsSp l).length = l.length := List.length_map ..
theorem rowsSp_app (l l2 : List Sp) : rowsSp l ++ rowsSp l2 = rowsSp (l ++ l2) := List.map_append.symm
theorem rowsSp_get {l : List Sp} {i : Nat} (hi : i < l.length) : (rowsSp l)[i]? = some (l.getD i sp0).row := by
 simp [rowsSp, List.getD, List.getElem?_eq_getElem hi]
theorem elSp : tElem Tryz.prog 46 = some 51 := by simp only [tElem, Tryz.underlying46]
theorem naSp : tArr Tryz.prog 46 = none := by simp only [tArr, Tryz.underlying46]
theorem appSp : appB Tryz.prog 46 46 2 = true := by kernel_rfl
theorem szSp : tSize Tryz.prog 51 = some 2 := by kernel_rfl
theorem agSp : tAgg Tryz.prog 51 = some true := by kernel_rfl
theorem atSp {g : Grow} {kk : IntKind} {l : List Sp} {i : Nat} (hi : i < l.length) : evIndexAddr Tryz.prog 46 (.lst g 2 (rowsSp l)) (.v (.int kk (i : Int))) = some (.eptr (l.getD i sp0).row) := at_list elSp naSp szSp (rowsSp_get hi)
theorem mapSp {x : Sp} : List.map argCell x.row = x.row := rfl
theorem cellsSp {x : Sp} : cellsOf (.agg x.row) = some x.row := rfl
theorem newSp {m : Mem} {x : Sp} : newVar m m.vars.length x.row = some (m.push x.row) := newVar_push rfl
theorem ldSp {m : Mem} {x : Sp} : evLoad Tryz.prog m 51 (.eptr x.row) = some (.agg x.row) := by kernel_rfl
theorem vrSp {m : Mem} {r : Nat} {x : Sp} (hv : m.var r = some x.row) : evLoad Tryz.prog m 51 (.ptr r 0) = some (.agg x.row) := by
 unfold evLoad
 simp only [ptrCells, hv, Option.map_some, szSp, agSp]
 rfl
theorem feSpFrom_ {x : Sp} : evFieldAddr Tryz.prog 51 (.eptr x.row) 0 = some (.eptr x.row) := by kernel_rfl
theorem fpSpFrom_ {r : Nat} : evFieldAddr Tryz.prog 51 (.ptr r 0) 0 = some (.ptr r 0) := by kernel_rfl
theorem leSpFrom_ {m : Mem} {x : Sp} : evLoad Tryz.prog m 3 (.eptr x.row) = some (iv x.from_) := by kernel_rfl
theorem lpSpFrom_ {m : Mem} {r : Nat} {x : Sp} (hv : m.var r = some x.row) : evLoad Tryz.prog m 3 (.ptr r 0) = some (iv x.from_) := by
 unfold evLoad
 simp only [ptrCells, hv, Option.map_some]
 rw [show tAgg Tryz.prog 3 = some false by kernel_rfl, show tSize Tryz.prog 3 = some 1 by kernel_rfl]
 rfl
theorem feSpTo_ {x : Sp} : evFieldAddr Tryz.prog 51 (.eptr x.row) 1 = some (.eptr (x.row.drop 1)) := by kernel_rfl
theorem fpSpTo_ {r : Nat} : evFieldAddr Tryz.prog 51 (.ptr r 0) 1 = some (.ptr r 1) := by kernel_rfl
theorem leSpTo_ {m : Mem} {x : Sp} : evLoad Tryz.prog m 3 (.eptr (x.row.drop 1)) = some (iv x.to_) := by kernel_rfl
theorem lpSpTo_ {m : Mem} {r : Nat} {x : Sp} (hv : m.var r = some x.row) : evLoad Tryz.prog m 3 (.ptr r 1) = some (iv x.to_) := by
 unfold evLoad
 simp only [ptrCells, hv, Option.map_some]
 rw [show tAgg Tryz.prog 3 = some false by kernel_rfl, show tSize Tryz.prog 3 = some 1 by kernel_rfl]
 rfl
/-! ### api.Set -/
structure Gs where
 group : ByteArray
 param : Int
 nodes : List Nd
def gs0 : Gs := ⟨⟨#[]⟩, 0, []⟩
def Gs.row (x : Gs) : List AV := [.v (.string x.group), iv x.param, .lst .no 7 (rowsN x.nodes)]
def unGs : List AV → Option Gs
 | [.v (.string c0), .v (.int .i64 c1), .lst .no 7 c2] =>
  match unN c2 with
  | some l2 => some ⟨c0, c1, l2⟩
  | _ => none
 | _ => none
theorem unGs_some {cs : List AV} {x : Gs} (h : unGs cs = some x) : cs = x.row := by
 unfold unGs at h
 split at h
 ·split at h
  ·rename_i h2
   cases h
   obtain rfl := unN_some h2
   rfl
  ·cases h
 ·cases h
theorem unGs_row (x : Gs) : unGs x.row = some x := by
 simp only [unGs, Gs.row, iv, unN_rowsN]
def rowsGs (l : List Gs) : List (List AV) := l.map Gs.row
theorem rowsGs_len (l : List Gs) : (rowsGs l).length = l.length := List.length_map ..
theorem rowsGs_get {l : List Gs} {i : Nat} (hi : i < l.length) : (rowsGs l)[i]? = some (l.getD i gs0).row := by
 simp [rowsGs, List.getD, List.getElem?_eq_getElem hi]
def unsGs : List (List AV) → Option (List Gs)
 | [] => some []
 | row :: r =>
  match unGs row, unsGs r with
  | some x, some l => some (x :: l)
  | _, _ => none
theorem unsGs_some : ∀ {rs : List (List AV)} {l : List Gs}, unsGs rs = some l → rs = rowsGs l
 | [], l, h => by simp only [unsGs, Option.some.injEq] at h; subst h; rfl
 | row :: r, l, h => by
  unfold unsGs at h
  split at h
  ·rename_i x l' h1 h2
   cases h
   rw [unGs_some h1, unsGs_some h2]
   rfl
  ·cases h
theorem unsGs_rowsGs : ∀ (l : List Gs), unsGs (rowsGs l) = some l
 | [] => rfl
 | x :: l => by
  have e : rowsGs (x :: l) = x.row :: rowsGs l := rfl
  rw [e, unsGs, unGs_row, unsGs_rowsGs l]
theorem elGs : tElem Tryz.prog 67 = some 72 := by simp only [tElem, Tryz.underlying67]
theorem naGs : tArr Tryz.prog 67 = none := by simp only [tArr, Tryz.underlying67]
theorem szGs : tSize Tryz.prog 72 = some 3 := by kernel_rfl
theorem agGs : tAgg Tryz.prog 72 = some true := by kernel_rfl
theorem atGs {g : Grow} {kk : IntKind} {l : List Gs} {i : Nat} (hi : i < l.length) : evIndexAddr Tryz.prog 67 (.lst g 3 (rowsGs l)) (.v (.int kk (i : Int))) = some (.eptr (l.getD i gs0).row) := at_list elGs naGs szGs (rowsGs_get hi)
theorem mapGs {x : Gs} : List.map argCell x.row = x.row := rfl
theorem cellsGs {x : Gs} : cellsOf (.agg x.row) = some x.row := rfl
theorem newGs {m : Mem} {x : Gs} : newVar m m.vars.length x.row = some (m.push x.row) := newVar_push rfl
theorem ldGs {m : Mem} {x : Gs} : evLoad Tryz.prog m 72 (.eptr x.row) = some (.agg x.row) := by kernel_rfl
theorem vrGs {m : Mem} {r : Nat} {x : Gs} (hv : m.var r = some x.row) : evLoad Tryz.prog m 72 (.ptr r 0) = some (.agg x.row) := by
 unfold evLoad
 simp only [ptrCells, hv, Option.map_some, szGs, agGs]
 rfl
def zeroGs : List AV := [.v (.string ⟨#[]⟩), .v (.int .i64 0), .lst .full 7 []]
theorem zrGs : zeroCells Tryz.prog 72 = some zeroGs := by kernel_rfl
theorem zoGs : zeroGs.all okCell = true := rfl
theorem znGs {m : Mem} : newVar m m.vars.length zeroGs = some (m.push zeroGs) := newVar_push rfl
theorem zsGs {m : Mem} {x : Gs} : evStore Tryz.prog (m.push zeroGs) 72 (.ptr m.vars.length 0) (.agg x.row) = some (m.push x.row) := by
 rw [store_push (cs := x.row) rfl szGs (Nat.le_refl _) rfl]
 rfl
theorem feGsGroup {x : Gs} : evFieldAddr Tryz.prog 72 (.eptr x.row) 0 = some (.eptr x.row) := by kernel_rfl
theorem fpGsGroup {r : Nat} : evFieldAddr Tryz.prog 72 (.ptr r 0) 0 = some (.ptr r 0) := by kernel_rfl
theorem leGsGroup {m : Mem} {x : Gs} : evLoad Tryz.prog m 9 (.eptr x.row) = some (.v (.string x.group)) := by kernel_rfl
theorem lpGsGroup {m : Mem} {r : Nat} {x : Gs} (hv : m.var r = some x.row) : evLoad Tryz.prog m 9 (.ptr r 0) = some (.v (.string x.group)) := by
 unfold evLoad
 simp only [ptrCells, hv, Option.map_some]
 rw [show tAgg Tryz.prog 9 = some false by kernel_rfl, show tSize Tryz.prog 9 = some 1 by kernel_rfl]
 rfl
theorem feGsParam {x : Gs} : evFieldAddr Tryz.prog 72 (.eptr x.row) 1 = some (.eptr (x.row.drop 1)) := by kernel_rfl
theorem fpGsParam {r : Nat} : evFieldAddr Tryz.prog 72 (.ptr r 0) 1 = some (.ptr r 1) := by kernel_rfl
theorem leGsParam {m : Mem} {x : Gs} : evLoad Tryz.prog m 3 (.eptr (x.row.drop 1)) = some (iv x.param) := by kernel_rfl
theorem lpGsParam {m : Mem} {r : Nat} {x : Gs} (hv : m.var r = some x.row) : evLoad Tryz.prog m 3 (.ptr r 1) = some (iv x.param) := by
 unfold evLoad
 simp only [ptrCells, hv, Option.map_some]
 rw [show tAgg Tryz.prog 3 = some false by kernel_rfl, show tSize Tryz.prog 3 = some 1 by kernel_rfl]
 rfl
theorem feGsNodes {x : Gs} : evFieldAddr Tryz.prog 72 (.eptr x.row) 2 = some (.eptr (x.row.drop 2)) := by kernel_rfl
theorem fpGsNodes {r : Nat} : evFieldAddr Tryz.prog 72 (.ptr r 0) 2 = some (.ptr r 2) := by kernel_rfl
theorem leGsNodes {m : Mem} {x : Gs} : evLoad Tryz.prog m 70 (.eptr (x.row.drop 2)) = some (.lst .no 7 (rowsN x.nodes)) := by kernel_rfl
theorem lpGsNodes {m : Mem} {r : Nat} {x : Gs} (hv : m.var r = some x.row) : evLoad Tryz.prog m 70 (.ptr r 2) = some (.lst .no 7 (rowsN x.nodes)) := by
 unfold evLoad
 simp only [ptrCells, hv, Option.map_some]
 rw [show tAgg Tryz.prog 70 = some false by kernel_rfl, show tSize Tryz.prog 70 = some 1 by kernel_rfl]
 rfl
/-! ### api.Phase -/
structure Ph where
 name : ByteArray
 lenU : Int
 lenN : Int
 frozen : List ByteArray
 sets : List Gs
def ph0 : Ph := ⟨⟨#[]⟩, 0, 0, [], []⟩
def Ph.row (x : Ph) : List AV := [.v (.string x.name), iv x.lenU, iv x.lenN, .lst .no 1 (rowsS x.frozen), .lst .no 3 (rowsGs x.sets)]
def unPh : List AV → Option Ph
 | [.v (.string c0), .v (.int .i64 c1), .v (.int .i64 c2), .lst .no 1 c3, .lst .no 3 c4] =>
  match unS c3, unsGs c4 with
  | some l3, some l4 => some ⟨c0, c1, c2, l3, l4⟩
  | _, _ => none
 | _ => none
theorem unPh_some {cs : List AV} {x : Ph} (h : unPh cs = some x) : cs = x.row := by
 unfold unPh at h
 split at h
 ·split at h
  ·rename_i h3 h4
   cases h
   obtain rfl := unS_some h3
   obtain rfl := unsGs_some h4
   rfl
  ·cases h
 ·cases h
theorem unPh_row (x : Ph) : unPh x.row = some x := by
 simp only [unPh, Ph.row, iv, unsGs_rowsGs, unS_rowsS]
def rowsPh (l : List Ph) : List (List AV) := l.map Ph.row
theorem rowsPh_len (l : List Ph) : (rowsPh l).length = l.length := List.length_map ..
theorem rowsPh_get {l : List Ph} {i : Nat} (hi : i < l.length) : (rowsPh l)[i]? = some (l.getD i ph0).row := by
 simp [rowsPh, List.getD, List.getElem?_eq_getElem hi]
def unsPh : List (List AV) → Option (List Ph)
 | [] => some []
 | row :: r =>
  match unPh row, unsPh r with
  | some x, some l => some (x :: l)
  | _, _ => none
theorem unsPh_some : ∀ {rs : List (List AV)} {l : List Ph}, unsPh rs = some l → rs = rowsPh l
 | [], l, h => by simp only [unsPh, Option.some.injEq] at h; subst h; rfl
 | row :: r, l, h => by
  unfold unsPh at h
  split at h
  ·rename_i x l' h1 h2
   cases h
   rw [unPh_some h1, unsPh_some h2]
   rfl
  ·cases h
theorem unsPh_rowsPh : ∀ (l : List Ph), unsPh (rowsPh l) = some l
 | [] => rfl
 | x :: l => by
  have e : rowsPh (x :: l) = x.row :: rowsPh l := rfl
  rw [e, unsPh, unPh_row, unsPh_rowsPh l]
theorem elPh : tElem Tryz.prog 23 = some 69 := by simp only [tElem, Tryz.underlying23]
theorem naPh : tArr Tryz.prog 23 = none := by simp only [tArr, Tryz.underlying23]
theorem szPh : tSize Tryz.prog 69 = some 5 := by kernel_rfl
theorem agPh : tAgg Tryz.prog 69 = some true := by kernel_rfl
theorem atPh {g : Grow} {kk : IntKind} {l : List Ph} {i : Nat} (hi : i < l.length) : evIndexAddr Tryz.prog 23 (.lst g 5 (rowsPh l)) (.v (.int kk (i : Int))) = some (.eptr (l.getD i ph0).row) := at_list elPh naPh szPh (rowsPh_get hi)
theorem mapPh {x : Ph} : List.map argCell x.row = x.row := rfl
theorem cellsPh {x : Ph} : cellsOf (.agg x.row) = some x.row := rfl
theorem newPh {m : Mem} {x : Ph} : newVar m m.vars.length x.row = some (m.push x.row) := newVar_push rfl
theorem ldPh {m : Mem} {x : Ph} : evLoad Tryz.prog m 69 (.eptr x.row) = some (.agg x.row) := by kernel_rfl
theorem vrPh {m : Mem} {r : Nat} {x : Ph} (hv : m.var r = some x.row) : evLoad Tryz.prog m 69 (.ptr r 0) = some (.agg x.row) := by
 unfold evLoad
 simp only [ptrCells, hv, Option.map_some, szPh, agPh]
 rfl
def zeroPh : List AV := [.v (.string ⟨#[]⟩), .v (.int .i64 0), .v (.int .i64 0), .lst .full 1 [], .lst .full 3 []]
theorem zrPh : zeroCells Tryz.prog 69 = some zeroPh := by kernel_rfl
theorem zoPh : zeroPh.all okCell = true := rfl
theorem znPh {m : Mem} : newVar m m.vars.length zeroPh = some (m.push zeroPh) := newVar_push rfl
theorem zsPh {m : Mem} {x : Ph} : evStore Tryz.prog (m.push zeroPh) 69 (.ptr m.vars.length 0) (.agg x.row) = some (m.push x.row) := by
 rw [store_push (cs := x.row) rfl szPh (Nat.le_refl _) rfl]
 rfl
theorem fePhName {x : Ph} : evFieldAddr Tryz.prog 69 (.eptr x.row) 0 = some (.eptr x.row) := by kernel_rfl
theorem fpPhName {r : Nat} : evFieldAddr Tryz.prog 69 (.ptr r 0) 0 = some (.ptr r 0) := by kernel_rfl
theorem lePhName {m : Mem} {x : Ph} : evLoad Tryz.prog m 9 (.eptr x.row) = some (.v (.string x.name)) := by kernel_rfl
theorem lpPhName {m : Mem} {r : Nat} {x : Ph} (hv : m.var r = some x.row) : evLoad Tryz.prog m 9 (.ptr r 0) = some (.v (.string x.name)) := by
 unfold evLoad
 simp only [ptrCells, hv, Option.map_some]
 rw [show tAgg Tryz.prog 9 = some false by kernel_rfl, show tSize Tryz.prog 9 = some 1 by kernel_rfl]
 rfl
theorem fePhLen {x : Ph} : evFieldAddr Tryz.prog 69 (.eptr x.row) 1 = some (.eptr (x.row.drop 1)) := by kernel_rfl
theorem fpPhLen {r : Nat} : evFieldAddr Tryz.prog 69 (.ptr r 0) 1 = some (.ptr r 1) := by kernel_rfl
theorem lePhLen {m : Mem} {x : Ph} : evLoad Tryz.prog m 33 (.eptr (x.row.drop 1)) = some (.agg [iv x.lenU, iv x.lenN]) := by kernel_rfl
theorem lpPhLen {m : Mem} {r : Nat} {x : Ph} (hv : m.var r = some x.row) : evLoad Tryz.prog m 33 (.ptr r 1) = some (.agg [iv x.lenU, iv x.lenN]) := by
 unfold evLoad
 simp only [ptrCells, hv, Option.map_some]
 rw [show tAgg Tryz.prog 33 = some true by kernel_rfl, show tSize Tryz.prog 33 = some 2 by kernel_rfl]
 rfl
theorem fpPhLenU {r : Nat} : evFieldAddr Tryz.prog 33 (.ptr r 1) 0 = some (.ptr r 1) := by kernel_rfl
theorem lpPhLenU {m : Mem} {r : Nat} {x : Ph} (hv : m.var r = some x.row) : evLoad Tryz.prog m 3 (.ptr r 1) = some (iv x.lenU) := by
 unfold evLoad
 simp only [ptrCells, hv, Option.map_some]
 rw [show tAgg Tryz.prog 3 = some false by kernel_rfl, show tSize Tryz.prog 3 = some 1 by kernel_rfl]
 rfl
theorem fePhFrozen {x : Ph} : evFieldAddr Tryz.prog 69 (.eptr x.row) 2 = some (.eptr (x.row.drop 3)) := by kernel_rfl
theorem fpPhFrozen {r : Nat} : evFieldAddr Tryz.prog 69 (.ptr r 0) 2 = some (.ptr r 3) := by kernel_rfl
theorem lePhFrozen {m : Mem} {x : Ph} : evLoad Tryz.prog m 22 (.eptr (x.row.drop 3)) = some (.lst .no 1 (rowsS x.frozen)) := by kernel_rfl
theorem lpPhFrozen {m : Mem} {r : Nat} {x : Ph} (hv : m.var r = some x.row) : evLoad Tryz.prog m 22 (.ptr r 3) = some (.lst .no 1 (rowsS x.frozen)) := by
 unfold evLoad
 simp only [ptrCells, hv, Option.map_some]
 rw [show tAgg Tryz.prog 22 = some false by kernel_rfl, show tSize Tryz.prog 22 = some 1 by kernel_rfl]
 rfl
theorem fePhSets {x : Ph} : evFieldAddr Tryz.prog 69 (.eptr x.row) 3 = some (.eptr (x.row.drop 4)) := by kernel_rfl
theorem fpPhSets {r : Nat} : evFieldAddr Tryz.prog 69 (.ptr r 0) 3 = some (.ptr r 4) := by kernel_rfl
theorem lePhSets {m : Mem} {x : Ph} : evLoad Tryz.prog m 67 (.eptr (x.row.drop 4)) = some (.lst .no 3 (rowsGs x.sets)) := by kernel_rfl
theorem lpPhSets {m : Mem} {r : Nat} {x : Ph} (hv : m.var r = some x.row) : evLoad Tryz.prog m 67 (.ptr r 4) = some (.lst .no 3 (rowsGs x.sets)) := by
 unfold evLoad
 simp only [ptrCells, hv, Option.map_some]
 rw [show tAgg Tryz.prog 67 = some false by kernel_rfl, show tSize Tryz.prog 67 = some 1 by kernel_rfl]
 rfl
/-! ### api.Recipe -/
structure Rc where
 name : ByteArray
 steps : Int
 epoch : Int
 weights : Int
 metrics : List ByteArray
 groups : List ByteArray
 eval : Int
 phases : List Ph
 stopOn : Bool
 stopMetric : ByteArray
 stopMax : Bool
 stopPatience : Int
 stopDelta : Int
 stopRel : Bool
 plateauOn : Bool
 plateauMetric : ByteArray
 plateauMax : Bool
 plateauFactor : Int
 plateauPatience : Int
 plateauCooldown : Int
 plateauFloor : Int
 plateauDelta : Int
 keepOn : Bool
 keepMetric : ByteArray
 keepMax : Bool
 keepCount : Int
 emaOn : Bool
 emaDecay : Int
 swaOn : Bool
 swaFromU : Int
 swaFromN : Int
 swaEvery : Int
def Rc.row (x : Rc) : List AV := [.v (.string x.name), iv x.steps, iv x.epoch, iv x.weights, .lst .no 1 (rowsS x.metrics), .lst .no 1 (rowsS x.groups), iv x.eval, .lst .no 5 (rowsPh x.phases), .v (.bool x.stopOn), .v (.string x.stopMetric), .v (.bool x.stopMax), iv x.stopPatience, iv x.stopDelta, .v (.bool x.stopRel), .v (.bool x.plateauOn), .v (.string x.plateauMetric), .v (.bool x.plateauMax), iv x.plateauFactor, iv x.plateauPatience, iv x.plateauCooldown, iv x.plateauFloor, iv x.plateauDelta, .v (.bool x.keepOn), .v (.string x.keepMetric), .v (.bool x.keepMax), iv x.keepCount, .v (.bool x.emaOn), iv x.emaDecay, .v (.bool x.swaOn), iv x.swaFromU, iv x.swaFromN, iv x.swaEvery]
def unRc : List AV → Option Rc
 | [.v (.string c0), .v (.int .i64 c1), .v (.int .i64 c2), .v (.int .i64 c3), .lst .no 1 c4, .lst .no 1 c5, .v (.int .i64 c6), .lst .no 5 c7, .v (.bool c8), .v (.string c9), .v (.bool c10), .v (.int .i64 c11), .v (.int .i64 c12), .v (.bool c13), .v (.bool c14), .v (.string c15), .v (.bool c16), .v (.int .i64 c17), .v (.int .i64 c18), .v (.int .i64 c19), .v (.int .i64 c20), .v (.int .i64 c21), .v (.bool c22), .v (.string c23), .v (.bool c24), .v (.int .i64 c25), .v (.bool c26), .v (.int .i64 c27), .v (.bool c28), .v (.int .i64 c29), .v (.int .i64 c30), .v (.int .i64 c31)] =>
  match unS c4, unS c5, unsPh c7 with
  | some l4, some l5, some l7 => some ⟨c0, c1, c2, c3, l4, l5, c6, l7, c8, c9, c10, c11, c12, c13, c14, c15, c16, c17, c18, c19, c20, c21, c22, c23, c24, c25, c26, c27, c28, c29, c30, c31⟩
  | _, _, _ => none
 | _ => none
theorem unRc_some {cs : List AV} {x : Rc} (h : unRc cs = some x) : cs = x.row := by
 unfold unRc at h
 split at h
 ·split at h
  ·rename_i h4 h5 h7
   cases h
   obtain rfl := unS_some h4
   obtain rfl := unS_some h5
   obtain rfl := unsPh_some h7
   rfl
  ·cases h
 ·cases h
theorem unRc_row (x : Rc) : unRc x.row = some x := by
 simp only [unRc, Rc.row, iv, unsPh_rowsPh, unS_rowsS]
theorem szRc : tSize Tryz.prog 37 = some 32 := by kernel_rfl
theorem agRc : tAgg Tryz.prog 37 = some true := by kernel_rfl
theorem mapRc {x : Rc} : List.map argCell x.row = x.row := rfl
theorem cellsRc {x : Rc} : cellsOf (.agg x.row) = some x.row := rfl
theorem newRc {m : Mem} {x : Rc} : newVar m m.vars.length x.row = some (m.push x.row) := newVar_push rfl
theorem vrRc {m : Mem} {r : Nat} {x : Rc} (hv : m.var r = some x.row) : evLoad Tryz.prog m 37 (.ptr r 0) = some (.agg x.row) := by
 unfold evLoad
 simp only [ptrCells, hv, Option.map_some, szRc, agRc]
 rfl
def zeroRc : List AV := [.v (.string ⟨#[]⟩), .v (.int .i64 0), .v (.int .i64 0), .v (.int .i64 0), .lst .full 1 [], .lst .full 1 [], .v (.int .i64 0), .lst .full 5 [], .v (.bool false), .v (.string ⟨#[]⟩), .v (.bool false), .v (.int .i64 0), .v (.int .i64 0), .v (.bool false), .v (.bool false), .v (.string ⟨#[]⟩), .v (.bool false), .v (.int .i64 0), .v (.int .i64 0), .v (.int .i64 0), .v (.int .i64 0), .v (.int .i64 0), .v (.bool false), .v (.string ⟨#[]⟩), .v (.bool false), .v (.int .i64 0), .v (.bool false), .v (.int .i64 0), .v (.bool false), .v (.int .i64 0), .v (.int .i64 0), .v (.int .i64 0)]
theorem fpRcName {r : Nat} : evFieldAddr Tryz.prog 37 (.ptr r 0) 0 = some (.ptr r 0) := by kernel_rfl
theorem lpRcName {m : Mem} {r : Nat} {x : Rc} (hv : m.var r = some x.row) : evLoad Tryz.prog m 9 (.ptr r 0) = some (.v (.string x.name)) := by
 unfold evLoad
 simp only [ptrCells, hv, Option.map_some]
 rw [show tAgg Tryz.prog 9 = some false by kernel_rfl, show tSize Tryz.prog 9 = some 1 by kernel_rfl]
 rfl
theorem fpRcSteps {r : Nat} : evFieldAddr Tryz.prog 37 (.ptr r 0) 1 = some (.ptr r 1) := by kernel_rfl
theorem lpRcSteps {m : Mem} {r : Nat} {x : Rc} (hv : m.var r = some x.row) : evLoad Tryz.prog m 3 (.ptr r 1) = some (iv x.steps) := by
 unfold evLoad
 simp only [ptrCells, hv, Option.map_some]
 rw [show tAgg Tryz.prog 3 = some false by kernel_rfl, show tSize Tryz.prog 3 = some 1 by kernel_rfl]
 rfl
theorem fpRcEpoch {r : Nat} : evFieldAddr Tryz.prog 37 (.ptr r 0) 2 = some (.ptr r 2) := by kernel_rfl
theorem lpRcEpoch {m : Mem} {r : Nat} {x : Rc} (hv : m.var r = some x.row) : evLoad Tryz.prog m 3 (.ptr r 2) = some (iv x.epoch) := by
 unfold evLoad
 simp only [ptrCells, hv, Option.map_some]
 rw [show tAgg Tryz.prog 3 = some false by kernel_rfl, show tSize Tryz.prog 3 = some 1 by kernel_rfl]
 rfl
theorem fpRcWeights {r : Nat} : evFieldAddr Tryz.prog 37 (.ptr r 0) 3 = some (.ptr r 3) := by kernel_rfl
theorem lpRcWeights {m : Mem} {r : Nat} {x : Rc} (hv : m.var r = some x.row) : evLoad Tryz.prog m 3 (.ptr r 3) = some (iv x.weights) := by
 unfold evLoad
 simp only [ptrCells, hv, Option.map_some]
 rw [show tAgg Tryz.prog 3 = some false by kernel_rfl, show tSize Tryz.prog 3 = some 1 by kernel_rfl]
 rfl
theorem fpRcMetrics {r : Nat} : evFieldAddr Tryz.prog 37 (.ptr r 0) 4 = some (.ptr r 4) := by kernel_rfl
theorem lpRcMetrics {m : Mem} {r : Nat} {x : Rc} (hv : m.var r = some x.row) : evLoad Tryz.prog m 22 (.ptr r 4) = some (.lst .no 1 (rowsS x.metrics)) := by
 unfold evLoad
 simp only [ptrCells, hv, Option.map_some]
 rw [show tAgg Tryz.prog 22 = some false by kernel_rfl, show tSize Tryz.prog 22 = some 1 by kernel_rfl]
 rfl
theorem fpRcGroups {r : Nat} : evFieldAddr Tryz.prog 37 (.ptr r 0) 5 = some (.ptr r 5) := by kernel_rfl
theorem lpRcGroups {m : Mem} {r : Nat} {x : Rc} (hv : m.var r = some x.row) : evLoad Tryz.prog m 22 (.ptr r 5) = some (.lst .no 1 (rowsS x.groups)) := by
 unfold evLoad
 simp only [ptrCells, hv, Option.map_some]
 rw [show tAgg Tryz.prog 22 = some false by kernel_rfl, show tSize Tryz.prog 22 = some 1 by kernel_rfl]
 rfl
theorem fpRcEval {r : Nat} : evFieldAddr Tryz.prog 37 (.ptr r 0) 6 = some (.ptr r 6) := by kernel_rfl
theorem lpRcEval {m : Mem} {r : Nat} {x : Rc} (hv : m.var r = some x.row) : evLoad Tryz.prog m 3 (.ptr r 6) = some (iv x.eval) := by
 unfold evLoad
 simp only [ptrCells, hv, Option.map_some]
 rw [show tAgg Tryz.prog 3 = some false by kernel_rfl, show tSize Tryz.prog 3 = some 1 by kernel_rfl]
 rfl
theorem fpRcPhases {r : Nat} : evFieldAddr Tryz.prog 37 (.ptr r 0) 7 = some (.ptr r 7) := by kernel_rfl
theorem lpRcPhases {m : Mem} {r : Nat} {x : Rc} (hv : m.var r = some x.row) : evLoad Tryz.prog m 23 (.ptr r 7) = some (.lst .no 5 (rowsPh x.phases)) := by
 unfold evLoad
 simp only [ptrCells, hv, Option.map_some]
 rw [show tAgg Tryz.prog 23 = some false by kernel_rfl, show tSize Tryz.prog 23 = some 1 by kernel_rfl]
 rfl
theorem fpRcStop {r : Nat} : evFieldAddr Tryz.prog 37 (.ptr r 0) 8 = some (.ptr r 8) := by kernel_rfl
theorem lpRcStop {m : Mem} {r : Nat} {x : Rc} (hv : m.var r = some x.row) : evLoad Tryz.prog m 25 (.ptr r 8) = some (.agg [.v (.bool x.stopOn), .v (.string x.stopMetric), .v (.bool x.stopMax), iv x.stopPatience, iv x.stopDelta, .v (.bool x.stopRel)]) := by
 unfold evLoad
 simp only [ptrCells, hv, Option.map_some]
 rw [show tAgg Tryz.prog 25 = some true by kernel_rfl, show tSize Tryz.prog 25 = some 6 by kernel_rfl]
 rfl
theorem fpRcStopOn {r : Nat} : evFieldAddr Tryz.prog 25 (.ptr r 8) 0 = some (.ptr r 8) := by kernel_rfl
theorem lpRcStopOn {m : Mem} {r : Nat} {x : Rc} (hv : m.var r = some x.row) : evLoad Tryz.prog m 4 (.ptr r 8) = some (.v (.bool x.stopOn)) := by
 unfold evLoad
 simp only [ptrCells, hv, Option.map_some]
 rw [show tAgg Tryz.prog 4 = some false by kernel_rfl, show tSize Tryz.prog 4 = some 1 by kernel_rfl]
 rfl
theorem fpRcStopMetric {r : Nat} : evFieldAddr Tryz.prog 25 (.ptr r 8) 1 = some (.ptr r 9) := by kernel_rfl
theorem lpRcStopMetric {m : Mem} {r : Nat} {x : Rc} (hv : m.var r = some x.row) : evLoad Tryz.prog m 9 (.ptr r 9) = some (.v (.string x.stopMetric)) := by
 unfold evLoad
 simp only [ptrCells, hv, Option.map_some]
 rw [show tAgg Tryz.prog 9 = some false by kernel_rfl, show tSize Tryz.prog 9 = some 1 by kernel_rfl]
 rfl
theorem fpRcStopPatience {r : Nat} : evFieldAddr Tryz.prog 25 (.ptr r 8) 3 = some (.ptr r 11) := by kernel_rfl
theorem lpRcStopPatience {m : Mem} {r : Nat} {x : Rc} (hv : m.var r = some x.row) : evLoad Tryz.prog m 3 (.ptr r 11) = some (iv x.stopPatience) := by
 unfold evLoad
 simp only [ptrCells, hv, Option.map_some]
 rw [show tAgg Tryz.prog 3 = some false by kernel_rfl, show tSize Tryz.prog 3 = some 1 by kernel_rfl]
 rfl
theorem fpRcStopDelta {r : Nat} : evFieldAddr Tryz.prog 25 (.ptr r 8) 4 = some (.ptr r 12) := by kernel_rfl
theorem lpRcStopDelta {m : Mem} {r : Nat} {x : Rc} (hv : m.var r = some x.row) : evLoad Tryz.prog m 3 (.ptr r 12) = some (iv x.stopDelta) := by
 unfold evLoad
 simp only [ptrCells, hv, Option.map_some]
 rw [show tAgg Tryz.prog 3 = some false by kernel_rfl, show tSize Tryz.prog 3 = some 1 by kernel_rfl]
 rfl
theorem fpRcPlateau {r : Nat} : evFieldAddr Tryz.prog 37 (.ptr r 0) 9 = some (.ptr r 14) := by kernel_rfl
theorem lpRcPlateau {m : Mem} {r : Nat} {x : Rc} (hv : m.var r = some x.row) : evLoad Tryz.prog m 27 (.ptr r 14) = some (.agg [.v (.bool x.plateauOn), .v (.string x.plateauMetric), .v (.bool x.plateauMax), iv x.plateauFactor, iv x.plateauPatience, iv x.plateauCooldown, iv x.plateauFloor, iv x.plateauDelta]) := by
 unfold evLoad
 simp only [ptrCells, hv, Option.map_some]
 rw [show tAgg Tryz.prog 27 = some true by kernel_rfl, show tSize Tryz.prog 27 = some 8 by kernel_rfl]
 rfl
theorem fpRcPlateauOn {r : Nat} : evFieldAddr Tryz.prog 27 (.ptr r 14) 0 = some (.ptr r 14) := by kernel_rfl
theorem lpRcPlateauOn {m : Mem} {r : Nat} {x : Rc} (hv : m.var r = some x.row) : evLoad Tryz.prog m 4 (.ptr r 14) = some (.v (.bool x.plateauOn)) := by
 unfold evLoad
 simp only [ptrCells, hv, Option.map_some]
 rw [show tAgg Tryz.prog 4 = some false by kernel_rfl, show tSize Tryz.prog 4 = some 1 by kernel_rfl]
 rfl
theorem fpRcPlateauMetric {r : Nat} : evFieldAddr Tryz.prog 27 (.ptr r 14) 1 = some (.ptr r 15) := by kernel_rfl
theorem lpRcPlateauMetric {m : Mem} {r : Nat} {x : Rc} (hv : m.var r = some x.row) : evLoad Tryz.prog m 9 (.ptr r 15) = some (.v (.string x.plateauMetric)) := by
 unfold evLoad
 simp only [ptrCells, hv, Option.map_some]
 rw [show tAgg Tryz.prog 9 = some false by kernel_rfl, show tSize Tryz.prog 9 = some 1 by kernel_rfl]
 rfl
theorem fpRcPlateauFactor {r : Nat} : evFieldAddr Tryz.prog 27 (.ptr r 14) 3 = some (.ptr r 17) := by kernel_rfl
theorem lpRcPlateauFactor {m : Mem} {r : Nat} {x : Rc} (hv : m.var r = some x.row) : evLoad Tryz.prog m 3 (.ptr r 17) = some (iv x.plateauFactor) := by
 unfold evLoad
 simp only [ptrCells, hv, Option.map_some]
 rw [show tAgg Tryz.prog 3 = some false by kernel_rfl, show tSize Tryz.prog 3 = some 1 by kernel_rfl]
 rfl
theorem fpRcPlateauPatience {r : Nat} : evFieldAddr Tryz.prog 27 (.ptr r 14) 4 = some (.ptr r 18) := by kernel_rfl
theorem lpRcPlateauPatience {m : Mem} {r : Nat} {x : Rc} (hv : m.var r = some x.row) : evLoad Tryz.prog m 3 (.ptr r 18) = some (iv x.plateauPatience) := by
 unfold evLoad
 simp only [ptrCells, hv, Option.map_some]
 rw [show tAgg Tryz.prog 3 = some false by kernel_rfl, show tSize Tryz.prog 3 = some 1 by kernel_rfl]
 rfl
theorem fpRcPlateauCooldown {r : Nat} : evFieldAddr Tryz.prog 27 (.ptr r 14) 5 = some (.ptr r 19) := by kernel_rfl
theorem lpRcPlateauCooldown {m : Mem} {r : Nat} {x : Rc} (hv : m.var r = some x.row) : evLoad Tryz.prog m 3 (.ptr r 19) = some (iv x.plateauCooldown) := by
 unfold evLoad
 simp only [ptrCells, hv, Option.map_some]
 rw [show tAgg Tryz.prog 3 = some false by kernel_rfl, show tSize Tryz.prog 3 = some 1 by kernel_rfl]
 rfl
theorem fpRcPlateauFloor {r : Nat} : evFieldAddr Tryz.prog 27 (.ptr r 14) 6 = some (.ptr r 20) := by kernel_rfl
theorem lpRcPlateauFloor {m : Mem} {r : Nat} {x : Rc} (hv : m.var r = some x.row) : evLoad Tryz.prog m 3 (.ptr r 20) = some (iv x.plateauFloor) := by
 unfold evLoad
 simp only [ptrCells, hv, Option.map_some]
 rw [show tAgg Tryz.prog 3 = some false by kernel_rfl, show tSize Tryz.prog 3 = some 1 by kernel_rfl]
 rfl
theorem fpRcPlateauDelta {r : Nat} : evFieldAddr Tryz.prog 27 (.ptr r 14) 7 = some (.ptr r 21) := by kernel_rfl
theorem lpRcPlateauDelta {m : Mem} {r : Nat} {x : Rc} (hv : m.var r = some x.row) : evLoad Tryz.prog m 3 (.ptr r 21) = some (iv x.plateauDelta) := by
 unfold evLoad
 simp only [ptrCells, hv, Option.map_some]
 rw [show tAgg Tryz.prog 3 = some false by kernel_rfl, show tSize Tryz.prog 3 = some 1 by kernel_rfl]
 rfl
theorem fpRcKeep {r : Nat} : evFieldAddr Tryz.prog 37 (.ptr r 0) 10 = some (.ptr r 22) := by kernel_rfl
theorem lpRcKeep {m : Mem} {r : Nat} {x : Rc} (hv : m.var r = some x.row) : evLoad Tryz.prog m 29 (.ptr r 22) = some (.agg [.v (.bool x.keepOn), .v (.string x.keepMetric), .v (.bool x.keepMax), iv x.keepCount]) := by
 unfold evLoad
 simp only [ptrCells, hv, Option.map_some]
 rw [show tAgg Tryz.prog 29 = some true by kernel_rfl, show tSize Tryz.prog 29 = some 4 by kernel_rfl]
 rfl
theorem fpRcKeepOn {r : Nat} : evFieldAddr Tryz.prog 29 (.ptr r 22) 0 = some (.ptr r 22) := by kernel_rfl
theorem lpRcKeepOn {m : Mem} {r : Nat} {x : Rc} (hv : m.var r = some x.row) : evLoad Tryz.prog m 4 (.ptr r 22) = some (.v (.bool x.keepOn)) := by
 unfold evLoad
 simp only [ptrCells, hv, Option.map_some]
 rw [show tAgg Tryz.prog 4 = some false by kernel_rfl, show tSize Tryz.prog 4 = some 1 by kernel_rfl]
 rfl
theorem fpRcKeepMetric {r : Nat} : evFieldAddr Tryz.prog 29 (.ptr r 22) 1 = some (.ptr r 23) := by kernel_rfl
theorem lpRcKeepMetric {m : Mem} {r : Nat} {x : Rc} (hv : m.var r = some x.row) : evLoad Tryz.prog m 9 (.ptr r 23) = some (.v (.string x.keepMetric)) := by
 unfold evLoad
 simp only [ptrCells, hv, Option.map_some]
 rw [show tAgg Tryz.prog 9 = some false by kernel_rfl, show tSize Tryz.prog 9 = some 1 by kernel_rfl]
 rfl
theorem fpRcKeepCount {r : Nat} : evFieldAddr Tryz.prog 29 (.ptr r 22) 3 = some (.ptr r 25) := by kernel_rfl
theorem lpRcKeepCount {m : Mem} {r : Nat} {x : Rc} (hv : m.var r = some x.row) : evLoad Tryz.prog m 3 (.ptr r 25) = some (iv x.keepCount) := by
 unfold evLoad
 simp only [ptrCells, hv, Option.map_some]
 rw [show tAgg Tryz.prog 3 = some false by kernel_rfl, show tSize Tryz.prog 3 = some 1 by kernel_rfl]
 rfl
theorem fpRcEma {r : Nat} : evFieldAddr Tryz.prog 37 (.ptr r 0) 11 = some (.ptr r 26) := by kernel_rfl
theorem lpRcEma {m : Mem} {r : Nat} {x : Rc} (hv : m.var r = some x.row) : evLoad Tryz.prog m 31 (.ptr r 26) = some (.agg [.v (.bool x.emaOn), iv x.emaDecay]) := by
 unfold evLoad
 simp only [ptrCells, hv, Option.map_some]
 rw [show tAgg Tryz.prog 31 = some true by kernel_rfl, show tSize Tryz.prog 31 = some 2 by kernel_rfl]
 rfl
theorem fpRcEmaOn {r : Nat} : evFieldAddr Tryz.prog 31 (.ptr r 26) 0 = some (.ptr r 26) := by kernel_rfl
theorem lpRcEmaOn {m : Mem} {r : Nat} {x : Rc} (hv : m.var r = some x.row) : evLoad Tryz.prog m 4 (.ptr r 26) = some (.v (.bool x.emaOn)) := by
 unfold evLoad
 simp only [ptrCells, hv, Option.map_some]
 rw [show tAgg Tryz.prog 4 = some false by kernel_rfl, show tSize Tryz.prog 4 = some 1 by kernel_rfl]
 rfl
theorem fpRcEmaDecay {r : Nat} : evFieldAddr Tryz.prog 31 (.ptr r 26) 1 = some (.ptr r 27) := by kernel_rfl
theorem lpRcEmaDecay {m : Mem} {r : Nat} {x : Rc} (hv : m.var r = some x.row) : evLoad Tryz.prog m 3 (.ptr r 27) = some (iv x.emaDecay) := by
 unfold evLoad
 simp only [ptrCells, hv, Option.map_some]
 rw [show tAgg Tryz.prog 3 = some false by kernel_rfl, show tSize Tryz.prog 3 = some 1 by kernel_rfl]
 rfl
theorem fpRcSwa {r : Nat} : evFieldAddr Tryz.prog 37 (.ptr r 0) 12 = some (.ptr r 28) := by kernel_rfl
theorem lpRcSwa {m : Mem} {r : Nat} {x : Rc} (hv : m.var r = some x.row) : evLoad Tryz.prog m 35 (.ptr r 28) = some (.agg [.v (.bool x.swaOn), iv x.swaFromU, iv x.swaFromN, iv x.swaEvery]) := by
 unfold evLoad
 simp only [ptrCells, hv, Option.map_some]
 rw [show tAgg Tryz.prog 35 = some true by kernel_rfl, show tSize Tryz.prog 35 = some 4 by kernel_rfl]
 rfl
theorem fpRcSwaOn {r : Nat} : evFieldAddr Tryz.prog 35 (.ptr r 28) 0 = some (.ptr r 28) := by kernel_rfl
theorem lpRcSwaOn {m : Mem} {r : Nat} {x : Rc} (hv : m.var r = some x.row) : evLoad Tryz.prog m 4 (.ptr r 28) = some (.v (.bool x.swaOn)) := by
 unfold evLoad
 simp only [ptrCells, hv, Option.map_some]
 rw [show tAgg Tryz.prog 4 = some false by kernel_rfl, show tSize Tryz.prog 4 = some 1 by kernel_rfl]
 rfl
theorem fpRcSwaFrom {r : Nat} : evFieldAddr Tryz.prog 35 (.ptr r 28) 1 = some (.ptr r 29) := by kernel_rfl
theorem lpRcSwaFrom {m : Mem} {r : Nat} {x : Rc} (hv : m.var r = some x.row) : evLoad Tryz.prog m 33 (.ptr r 29) = some (.agg [iv x.swaFromU, iv x.swaFromN]) := by
 unfold evLoad
 simp only [ptrCells, hv, Option.map_some]
 rw [show tAgg Tryz.prog 33 = some true by kernel_rfl, show tSize Tryz.prog 33 = some 2 by kernel_rfl]
 rfl
theorem fpRcSwaFromU {r : Nat} : evFieldAddr Tryz.prog 33 (.ptr r 29) 0 = some (.ptr r 29) := by kernel_rfl
theorem lpRcSwaFromU {m : Mem} {r : Nat} {x : Rc} (hv : m.var r = some x.row) : evLoad Tryz.prog m 3 (.ptr r 29) = some (iv x.swaFromU) := by
 unfold evLoad
 simp only [ptrCells, hv, Option.map_some]
 rw [show tAgg Tryz.prog 3 = some false by kernel_rfl, show tSize Tryz.prog 3 = some 1 by kernel_rfl]
 rfl
theorem fpRcSwaEvery {r : Nat} : evFieldAddr Tryz.prog 35 (.ptr r 28) 2 = some (.ptr r 31) := by kernel_rfl
theorem lpRcSwaEvery {m : Mem} {r : Nat} {x : Rc} (hv : m.var r = some x.row) : evLoad Tryz.prog m 3 (.ptr r 31) = some (iv x.swaEvery) := by
 unfold evLoad
 simp only [ptrCells, hv, Option.map_some]
 rw [show tAgg Tryz.prog 3 = some false by kernel_rfl, show tSize Tryz.prog 3 = some 1 by kernel_rfl]
 rfl
end
end Go.Proofs.YtojaokhkbmiidaaGreat.Ev

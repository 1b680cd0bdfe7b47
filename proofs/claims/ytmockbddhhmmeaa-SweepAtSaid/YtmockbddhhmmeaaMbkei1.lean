/- Words for all walks: types, numbers, texts, lists of texts. -/
import Derived.Test.YtmockbddhhmmeaaMa5
import Derived.Test.YtmockbddhhmmeaaChecked
import Derived.KernelRfl
namespace Go.Proofs.Ytmockbddhhmmeaa.Ev
open Go Go.Proofs
set_option maxRecDepth 10000
set_option maxHeartbeats 8000000
set_option linter.unusedVariables false
set_option linter.unusedSimpArgs false
section
attribute [go_sem] Try.underlying9 Try.underlying3 Try.underlying4 Try.underlying5 Try.underlying21 Try.underlying22 Try.underlying51 Try.underlying42 Try.underlying2 Try.underlying99 Try.underlying67 Try.underlying71 Try.underlying33
theorem mixed : Try.prog.follows .mixedOrders = true := Try.checked.mixed
theorem szInt : tSize Try.prog 3 = some 1 := by kernel_rfl
theorem szStr : tSize Try.prog 9 = some 1 := by kernel_rfl
theorem elStrs : tElem Try.prog 22 = some 9 := by simp only [tElem, Try.underlying22]
theorem naStrs : tArr Try.prog 22 = none := by simp only [tArr, Try.underlying22]
theorem appStrs : appB Try.prog 22 22 1 = true := by kernel_rfl
theorem elInts : tElem Try.prog 51 = some 3 := by simp only [tElem, Try.underlying51]
theorem naInts : tArr Try.prog 51 = none := by simp only [tArr, Try.underlying51]
theorem appInts : appB Try.prog 51 51 1 = true := by kernel_rfl
theorem loadStr {m : Mem} {c : AV} {cs : List AV} : evLoad Try.prog m 9 (.eptr (c :: cs)) = some c := load_one (by simp only [tAgg, Try.underlying9]) szStr
theorem loadInt {m : Mem} {c : AV} {cs : List AV} : evLoad Try.prog m 3 (.eptr (c :: cs)) = some c := load_one (by simp only [tAgg, Try.underlying3]) szInt
theorem mkInts0 : evBuildSlice Try.prog 51 0 [] = some (.lst .full 1 []) := build_nil appInts
theorem mkInts1 {b : Int} : evBuildSlice Try.prog 51 1 [(0, .v (.int .i64 b))] = some (.lst .full 1 [[.v (.int .i64 b)]]) := build_one appInts (by decide) rfl rfl
theorem mkStrs0 : evBuildSlice Try.prog 22 0 [] = some (.lst .full 1 []) := build_nil appStrs
theorem mkStrs1 {b : ByteArray} : evBuildSlice Try.prog 22 1 [(0, .v (.string b))] = some (.lst .full 1 [[.v (.string b)]]) := build_one appStrs (by decide) rfl rfl
theorem i64_wrap {n : Int} (h0 : -9223372036854775808 ≤ n) (h : n ≤ 9223372036854775807) : IntKind.i64.wrap n = n := wrap_i64 h0 h
theorem tmod_nat (a b : Nat) : (a : Int).tmod (b : Int) = (a % b : Nat) := by rfl
def inI (n : Int) : Prop := -9223372036854775808 ≤ n ∧ n ≤ 9223372036854775807
instance (n : Int) : Decidable (inI n) := by unfold inI; exact inferInstance
theorem next_i64 {i : Nat} (h : i < 9223372036854775807) : IntKind.i64.wrap ((i : Int) + 1) = ((i + 1 : Nat) : Int) := i64_wrap (n := ((i + 1 : Nat) : Int)) (by omega) (by omega)
/-! ### lists -/
theorem getD_ext {α : Type} {d : α} {l1 l2 : List α} (hl : l1.length = l2.length) (h : ∀ i, i < l1.length → l1.getD i d = l2.getD i d) : l1 = l2 := by
 apply List.ext_getElem hl
 intro i h1 h2
 have := h i h1
 simpa [List.getD, List.getElem?_eq_getElem h1, List.getElem?_eq_getElem h2] using this
theorem take_next {α : Type} {d : α} {l : List α} {i : Nat} (hi : i < l.length) : l.take (i + 1) = l.take i ++ [l.getD i d] := by
 rw [List.take_add_one, List.getElem?_eq_getElem hi]
 simp [List.getD, List.getElem?_eq_getElem hi]
theorem drop_next {α : Type} {d : α} {l : List α} {i : Nat} (hi : i < l.length) : l.drop i = l.getD i d :: l.drop (i + 1) := by
 rw [List.drop_eq_getElem_cons hi]
 simp [List.getD, List.getElem?_eq_getElem hi]
/-! ### texts -/
theorem bytes_same {a b : ByteArray} : (a == b) = true ↔ a = b := by
 obtain ⟨a⟩ := a
 obtain ⟨b⟩ := b
 have e : ((⟨a⟩ : ByteArray) == ⟨b⟩) = (a == b) := rfl
 rw [e, beq_iff_eq]
 constructor
 ·rintro rfl; rfl
 ·intro h; cases h; rfl
theorem bytes_self (a : ByteArray) : (a == a) = true := bytes_same.mpr rfl
def rowsS (l : List ByteArray) : List (List AV) := l.map fun (s : ByteArray) => [.v (.string s)]
theorem rowsS_len (l : List ByteArray) : (rowsS l).length = l.length := List.length_map ..
theorem rowsS_get {l : List ByteArray} {i : Nat} (hi : i < l.length) : (rowsS l)[i]? = some [.v (.string (l.getD i ⟨#[]⟩))] := by
 simp [rowsS, List.getD, List.getElem?_eq_getElem hi]
def unS : List (List AV) → Option (List ByteArray)
 | [] => some []
 | [.v (.string s)] :: r => (unS r).map fun l => s :: l
 | _ => none
theorem unS_some : ∀ {rows : List (List AV)} {l : List ByteArray}, unS rows = some l → rows = rowsS l
 | [], l, h => by simp only [unS, Option.some.injEq] at h; subst h; rfl
 | row :: r, l, h => by
  unfold unS at h
  split at h
  ·rename_i heq; cases heq
  ·rename_i b r' heq
   cases heq
   cases hr : unS r with
   | none => simp [hr] at h
   | some l' =>
    simp only [hr, Option.map_some, Option.some.injEq] at h
    subst h
    rw [unS_some hr]
    rfl
  ·cases h
theorem unS_rowsS : ∀ (l : List ByteArray), unS (rowsS l) = some l
 | [] => rfl
 | s :: l => by
  have e : rowsS (s :: l) = [.v (.string s)] :: rowsS l := rfl
  rw [e, unS, unS_rowsS l]
  rfl
theorem atStrs {g : Grow} {kk : IntKind} {l : List ByteArray} {i : Nat} (hi : i < l.length) : evIndexAddr Try.prog 22 (.lst g 1 (rowsS l)) (.v (.int kk (i : Int))) = some (.eptr [.v (.string (l.getD i ⟨#[]⟩))]) := at_list elStrs naStrs szStr (rowsS_get hi)
theorem atInts {g : Grow} {kk : IntKind} {l : List Int} {i : Nat} (hi : i < l.length) : evIndexAddr Try.prog 51 (.lst g 1 (rowsI l)) (.v (.int kk (i : Int))) = some (.eptr [.v (.int .i64 (l.getD i 0))]) := at_list elInts naInts szInt (rowsI_get hi)
end
section
structure Nd where
 op : Int
 a : Int
 b : Int
 c : Int
 k : Int
 u : Int
 n : Int
 deriving DecidableEq
instance : Inhabited Nd := ⟨⟨0, 0, 0, 0, 0, 0, 0⟩⟩
def iv (n : Int) : AV := .v (.int .i64 n)
def Nd.row (x : Nd) : List AV := [iv x.op, iv x.a, iv x.b, iv x.c, iv x.k, iv x.u, iv x.n]
def Nd.ok (x : Nd) : Prop := inI x.op ∧ inI x.a ∧ inI x.b ∧ inI x.c ∧ inI x.k ∧ inI x.u ∧ inI x.n
instance (x : Nd) : Decidable x.ok := by unfold Nd.ok; exact inferInstance
def nd0 : Nd := ⟨0, 0, 0, 0, 0, 0, 0⟩
theorem nd0_ok : nd0.ok := by decide
def rowsN (l : List Nd) : List (List AV) := l.map Nd.row
theorem rowsN_len (l : List Nd) : (rowsN l).length = l.length := List.length_map ..
theorem rowsN_get {l : List Nd} {i : Nat} (hi : i < l.length) : (rowsN l)[i]? = some (l.getD i nd0).row := by
 simp [rowsN, List.getD, List.getElem?_eq_getElem hi]
def OkN (l : List Nd) : Prop := ∀ x ∈ l, x.ok
instance (l : List Nd) : Decidable (OkN l) := by unfold OkN; exact inferInstance
theorem OkN.getD {l : List Nd} (h : OkN l) (i : Nat) : (l.getD i nd0).ok := by
 simp only [List.getD]
 cases hi : l[i]? with
 | none => exact nd0_ok
 | some b => exact h b (List.mem_of_getElem? hi)
theorem OkN.take {l : List Nd} (h : OkN l) (i : Nat) : OkN (l.take i) := fun b hb => h b (List.mem_of_mem_take hb)
theorem OkN.drop {l : List Nd} (h : OkN l) (i : Nat) : OkN (l.drop i) := fun b hb => h b (List.mem_of_mem_drop hb)
def unNd : List AV → Option Nd
 | [.v (.int .i64 op), .v (.int .i64 a), .v (.int .i64 b), .v (.int .i64 c), .v (.int .i64 k), .v (.int .i64 u), .v (.int .i64 n)] => some ⟨op, a, b, c, k, u, n⟩
 | _ => none
def unN : List (List AV) → Option (List Nd)
 | [] => some []
 | row :: r =>
  match unNd row, unN r with
  | some x, some l => some (x :: l)
  | _, _ => none
theorem unNd_some {row : List AV} {x : Nd} (h : unNd row = some x) : row = x.row := by
 unfold unNd at h
 split at h
 ·cases h; rfl
 ·cases h
theorem unN_some : ∀ {rows : List (List AV)} {l : List Nd}, unN rows = some l → rows = rowsN l
 | [], l, h => by simp only [unN, Option.some.injEq] at h; subst h; rfl
 | row :: r, l, h => by
  unfold unN at h
  split at h
  ·rename_i x l' h1 h2
   cases h
   rw [unNd_some h1, unN_some h2]
   rfl
  ·cases h
theorem unN_rowsN : ∀ (l : List Nd), unN (rowsN l) = some l
 | [] => rfl
 | x :: l => by
  have e : rowsN (x :: l) = x.row :: rowsN l := rfl
  rw [e, unN, unN_rowsN l]
  rfl
theorem szNode : tSize Try.prog 71 = some 7 := by kernel_rfl
theorem elNodes : tElem Try.prog 67 = some 71 := by simp only [tElem, Try.underlying67]
theorem naNodes : tArr Try.prog 67 = none := by simp only [tArr, Try.underlying67]
theorem atNodes {g : Grow} {kk : IntKind} {l : List Nd} {i : Nat} (hi : i < l.length) : evIndexAddr Try.prog 67 (.lst g 7 (rowsN l)) (.v (.int kk (i : Int))) = some (.eptr (l.getD i nd0).row) := at_list elNodes naNodes szNode (rowsN_get hi)
theorem fldOp {x : Nd} : evFieldAddr Try.prog 71 (.eptr x.row) 0 = some (.eptr x.row) := by kernel_rfl
theorem ldOp {m : Mem} {x : Nd} : evLoad Try.prog m 3 (.eptr x.row) = some (.v (.int .i64 x.op)) := loadInt
theorem ldNode {m : Mem} {x : Nd} : evLoad Try.prog m 71 (.eptr x.row) = some (.agg x.row) := by kernel_rfl
/-- A law's argument. -/
theorem typed_node {d : Nat} {row : List AV} (h : Typed Try.prog (d + 3) 71 row) : ∃ x : Nd, x.ok ∧ row = x.row := by
 unfold Typed at h
 rw [Try.underlying71] at h
 obtain ⟨parts, rfl, hl, h⟩ := h
 match parts, hl with
 | [p0, p1, p2, p3, p4, p5], _ =>
  have h0 := h 0 _ p0 rfl rfl
  have h1 := h 1 _ p1 rfl rfl
  have h2 := h 2 _ p2 rfl rfl
  have h3 := h 3 _ p3 rfl rfl
  have h4 := h 4 _ p4 rfl rfl
  have h5 := h 5 _ p5 rfl rfl
  have num : ∀ {d : Nat} {p : List AV}, Typed Try.prog (d + 1) 3 p → ∃ n, inI n ∧ p = [iv n] := by
   intro d p h
   unfold Typed at h
   rw [Try.underlying3] at h
   obtain ⟨n, rfl, n0, n1⟩ := h
   simp [IntKind.min, IntKind.max, IntKind.signed, IntKind.bits] at n0 n1
   exact ⟨n, ⟨n0, n1⟩, rfl⟩
  obtain ⟨op, o0, rfl⟩ := num h0
  obtain ⟨a, o1, rfl⟩ := num h1
  obtain ⟨b, o2, rfl⟩ := num h2
  obtain ⟨c, o3, rfl⟩ := num h3
  obtain ⟨k, o4, rfl⟩ := num h4
  have h5' : Typed Try.prog (d + 2) 33 p5 := h5
  unfold Typed at h5'
  rw [Try.underlying33] at h5'
  obtain ⟨q, rfl, hq, h6⟩ := h5'
  match q, hq with
  | [q0, q1], _ =>
   have g0 := h6 0 _ q0 rfl rfl
   have g1 := h6 1 _ q1 rfl rfl
   obtain ⟨u, o5, rfl⟩ := num g0
   obtain ⟨n, o6, rfl⟩ := num g1
   exact ⟨⟨op, a, b, c, k, u, n⟩, ⟨o0, o1, o2, o3, o4, o5, o6⟩, rfl⟩
theorem rows_nodes {d : Nat} : ∀ {rows : List (List AV)}, (∀ row ∈ rows, Typed Try.prog (d + 3) 71 row) → ∃ l, OkN l ∧ rows = rowsN l
 | [], _ => ⟨[], (fun x h => by simp at h), rfl⟩
 | row :: rows, h => by
  obtain ⟨l, h1, rfl⟩ := rows_nodes fun r hr => h r (List.mem_cons_of_mem _ hr)
  obtain ⟨x, h2, rfl⟩ := typed_node (h row (List.mem_cons_self ..))
  refine ⟨x :: l, fun y hy => ?_, rfl⟩
  rcases List.mem_cons.1 hy with rfl | hy
  ·exact h2
  ·exact h1 y hy
end
section
attribute [local irreducible] Next Inside Runs Ops table
def unJ : List (List AV) → Option (List Int)
 | [] => some []
 | [.v (.int .i64 n)] :: r => (unJ r).map (n :: ·)
 | _ => none
theorem unJ_some : ∀ {rows : List (List AV)} {l : List Int}, unJ rows = some l → rows = rowsI l
 | [], l, h => by cases h; rfl
 | [.v (.int .i64 n)] :: r, l, h => by
  simp only [unJ, Option.map_eq_some_iff] at h
  obtain ⟨l', h1, rfl⟩ := h
  rw [unJ_some h1]
  rfl
theorem unJ_rowsI : ∀ l : List Int, unJ (rowsI l) = some l
 | [] => rfl
 | n :: l => by
  have e : rowsI (n :: l) = [.v (.int .i64 n)] :: rowsI l := rfl
  rw [e, unJ, unJ_rowsI l]
  rfl
end
section
attribute [local irreducible] Next Inside Runs Ops table
/-! ### api.Place -/
structure Pl where
 phase : Int
 set : Int
 node : Int
 field : Int
def Pl.row (x : Pl) : List AV := [iv x.phase, iv x.set, iv x.node, iv x.field]
def unPl : List AV → Option Pl
 | [.v (.int .i64 c0), .v (.int .i64 c1), .v (.int .i64 c2), .v (.int .i64 c3)] => some ⟨c0, c1, c2, c3⟩
 | _ => none
theorem unPl_some {cs : List AV} {x : Pl} (h : unPl cs = some x) : cs = x.row := by
 unfold unPl at h
 split at h
 ·cases h; rfl
 ·cases h
theorem unPl_row (x : Pl) : unPl x.row = some x := by
 rfl
theorem szPl : tSize Try.prog 50 = some 4 := by kernel_rfl
theorem agPl : tAgg Try.prog 50 = some true := by kernel_rfl
theorem mapPl {x : Pl} : List.map argCell x.row = x.row := rfl
theorem cellsPl {x : Pl} : cellsOf (.agg x.row) = some x.row := rfl
theorem newPl {m : Mem} {x : Pl} : newVar m m.vars.length x.row = some (m.push x.row) := newVar_push rfl
theorem vrPl {m : Mem} {r : Nat} {x : Pl} (hv : m.var r = some x.row) : evLoad Try.prog m 50 (.ptr r 0) = some (.agg x.row) := by
 unfold evLoad
 simp only [ptrCells, hv, Option.map_some, szPl, agPl]
 rfl
def zeroPl : List AV := [.v (.int .i64 0), .v (.int .i64 0), .v (.int .i64 0), .v (.int .i64 0)]
theorem zrPl : zeroCells Try.prog 50 = some zeroPl := by kernel_rfl
theorem zoPl : zeroPl.all okCell = true := rfl
theorem znPl {m : Mem} : newVar m m.vars.length zeroPl = some (m.push zeroPl) := newVar_push rfl
theorem zsPl {m : Mem} {x : Pl} : evStore Try.prog (m.push zeroPl) 50 (.ptr m.vars.length 0) (.agg x.row) = some (m.push x.row) := by
 rw [store_push (cs := x.row) rfl szPl (Nat.le_refl _) rfl]
 rfl
theorem niPl : noIface Try.prog 8 50 = true := by kernel_rfl
theorem eqPl {x y : Pl} : eqTy Try.prog 8 50 (.agg x.row) (.agg y.row) = some ((x.phase == y.phase) && ((x.set == y.set) && ((x.node == y.node) && ((x.field == y.field) && true)))) := by kernel_rfl
theorem fpPlPhase {r : Nat} : evFieldAddr Try.prog 50 (.ptr r 0) 0 = some (.ptr r 0) := by kernel_rfl
theorem lpPlPhase {m : Mem} {r : Nat} {x : Pl} (hv : m.var r = some x.row) : evLoad Try.prog m 3 (.ptr r 0) = some (iv x.phase) := by
 unfold evLoad
 simp only [ptrCells, hv, Option.map_some]
 rw [show tAgg Try.prog 3 = some false by kernel_rfl, show tSize Try.prog 3 = some 1 by kernel_rfl]
 rfl
theorem fpPlSet {r : Nat} : evFieldAddr Try.prog 50 (.ptr r 0) 1 = some (.ptr r 1) := by kernel_rfl
theorem lpPlSet {m : Mem} {r : Nat} {x : Pl} (hv : m.var r = some x.row) : evLoad Try.prog m 3 (.ptr r 1) = some (iv x.set) := by
 unfold evLoad
 simp only [ptrCells, hv, Option.map_some]
 rw [show tAgg Try.prog 3 = some false by kernel_rfl, show tSize Try.prog 3 = some 1 by kernel_rfl]
 rfl
theorem fpPlNode {r : Nat} : evFieldAddr Try.prog 50 (.ptr r 0) 2 = some (.ptr r 2) := by kernel_rfl
theorem lpPlNode {m : Mem} {r : Nat} {x : Pl} (hv : m.var r = some x.row) : evLoad Try.prog m 3 (.ptr r 2) = some (iv x.node) := by
 unfold evLoad
 simp only [ptrCells, hv, Option.map_some]
 rw [show tAgg Try.prog 3 = some false by kernel_rfl, show tSize Try.prog 3 = some 1 by kernel_rfl]
 rfl
theorem fpPlField {r : Nat} : evFieldAddr Try.prog 50 (.ptr r 0) 3 = some (.ptr r 3) := by kernel_rfl
theorem lpPlField {m : Mem} {r : Nat} {x : Pl} (hv : m.var r = some x.row) : evLoad Try.prog m 3 (.ptr r 3) = some (iv x.field) := by
 unfold evLoad
 simp only [ptrCells, hv, Option.map_some]
 rw [show tAgg Try.prog 3 = some false by kernel_rfl, show tSize Try.prog 3 = some 1 by kernel_rfl]
 rfl
/-! ### api.Axis -/
structure Ax where
 atPhase : Int
 atSet : Int
 atNode : Int
 atField : Int
 vals : List Int
def ax0 : Ax := ⟨0, 0, 0, 0, []⟩
def Ax.row (x : Ax) : List AV := [iv x.atPhase, iv x.atSet, iv x.atNode, iv x.atField, .lst .no 1 (rowsI x.vals)]
def unAx : List AV → Option Ax
 | [.v (.int .i64 c0), .v (.int .i64 c1), .v (.int .i64 c2), .v (.int .i64 c3), .lst .no 1 c4] =>
  match unJ c4 with
  | some l4 => some ⟨c0, c1, c2, c3, l4⟩
  | _ => none
 | _ => none
theorem unAx_some {cs : List AV} {x : Ax} (h : unAx cs = some x) : cs = x.row := by
 unfold unAx at h
 split at h
 ·split at h
  ·rename_i h4
   cases h
   obtain rfl := unJ_some h4
   rfl
  ·cases h
 ·cases h
theorem unAx_row (x : Ax) : unAx x.row = some x := by
 simp only [unAx, Ax.row, iv, unJ_rowsI]
def rowsAx (l : List Ax) : List (List AV) := l.map Ax.row
theorem rowsAx_len (l : List Ax) : (rowsAx l).length = l.length := List.length_map ..
theorem rowsAx_get {l : List Ax} {i : Nat} (hi : i < l.length) : (rowsAx l)[i]? = some (l.getD i ax0).row := by
 simp [rowsAx, List.getD, List.getElem?_eq_getElem hi]
def unsAx : List (List AV) → Option (List Ax)
 | [] => some []
 | row :: r =>
  match unAx row, unsAx r with
  | some x, some l => some (x :: l)
  | _, _ => none
theorem unsAx_some : ∀ {rs : List (List AV)} {l : List Ax}, unsAx rs = some l → rs = rowsAx l
 | [], l, h => by simp only [unsAx, Option.some.injEq] at h; subst h; rfl
 | row :: r, l, h => by
  unfold unsAx at h
  split at h
  ·rename_i x l' h1 h2
   cases h
   rw [unAx_some h1, unsAx_some h2]
   rfl
  ·cases h
theorem unsAx_rowsAx : ∀ (l : List Ax), unsAx (rowsAx l) = some l
 | [] => rfl
 | x :: l => by
  have e : rowsAx (x :: l) = x.row :: rowsAx l := rfl
  rw [e, unsAx, unAx_row, unsAx_rowsAx l]
theorem elAx : tElem Try.prog 38 = some 53 := by simp only [tElem, Try.underlying38]
theorem naAx : tArr Try.prog 38 = none := by simp only [tArr, Try.underlying38]
theorem szAx : tSize Try.prog 53 = some 5 := by kernel_rfl
theorem agAx : tAgg Try.prog 53 = some true := by kernel_rfl
theorem atAx {g : Grow} {kk : IntKind} {l : List Ax} {i : Nat} (hi : i < l.length) : evIndexAddr Try.prog 38 (.lst g 5 (rowsAx l)) (.v (.int kk (i : Int))) = some (.eptr (l.getD i ax0).row) := at_list elAx naAx szAx (rowsAx_get hi)
theorem mapAx {x : Ax} : List.map argCell x.row = x.row := rfl
theorem cellsAx {x : Ax} : cellsOf (.agg x.row) = some x.row := rfl
theorem newAx {m : Mem} {x : Ax} : newVar m m.vars.length x.row = some (m.push x.row) := newVar_push rfl
theorem ldAx {m : Mem} {x : Ax} : evLoad Try.prog m 53 (.eptr x.row) = some (.agg x.row) := by kernel_rfl
theorem vrAx {m : Mem} {r : Nat} {x : Ax} (hv : m.var r = some x.row) : evLoad Try.prog m 53 (.ptr r 0) = some (.agg x.row) := by
 unfold evLoad
 simp only [ptrCells, hv, Option.map_some, szAx, agAx]
 rfl
def zeroAx : List AV := [.v (.int .i64 0), .v (.int .i64 0), .v (.int .i64 0), .v (.int .i64 0), .lst .full 1 []]
theorem zrAx : zeroCells Try.prog 53 = some zeroAx := by kernel_rfl
theorem zoAx : zeroAx.all okCell = true := rfl
theorem znAx {m : Mem} : newVar m m.vars.length zeroAx = some (m.push zeroAx) := newVar_push rfl
theorem zsAx {m : Mem} {x : Ax} : evStore Try.prog (m.push zeroAx) 53 (.ptr m.vars.length 0) (.agg x.row) = some (m.push x.row) := by
 rw [store_push (cs := x.row) rfl szAx (Nat.le_refl _) rfl]
 rfl
theorem feAxAt {x : Ax} : evFieldAddr Try.prog 53 (.eptr x.row) 0 = some (.eptr x.row) := by kernel_rfl
theorem fpAxAt {r : Nat} : evFieldAddr Try.prog 53 (.ptr r 0) 0 = some (.ptr r 0) := by kernel_rfl
theorem leAxAt {m : Mem} {x : Ax} : evLoad Try.prog m 50 (.eptr x.row) = some (.agg [iv x.atPhase, iv x.atSet, iv x.atNode, iv x.atField]) := by kernel_rfl
theorem lpAxAt {m : Mem} {r : Nat} {x : Ax} (hv : m.var r = some x.row) : evLoad Try.prog m 50 (.ptr r 0) = some (.agg [iv x.atPhase, iv x.atSet, iv x.atNode, iv x.atField]) := by
 unfold evLoad
 simp only [ptrCells, hv, Option.map_some]
 rw [show tAgg Try.prog 50 = some true by kernel_rfl, show tSize Try.prog 50 = some 4 by kernel_rfl]
 rfl
theorem feAxVals {x : Ax} : evFieldAddr Try.prog 53 (.eptr x.row) 1 = some (.eptr (x.row.drop 4)) := by kernel_rfl
theorem fpAxVals {r : Nat} : evFieldAddr Try.prog 53 (.ptr r 0) 1 = some (.ptr r 4) := by kernel_rfl
theorem leAxVals {m : Mem} {x : Ax} : evLoad Try.prog m 51 (.eptr (x.row.drop 4)) = some (.lst .no 1 (rowsI x.vals)) := by kernel_rfl
theorem lpAxVals {m : Mem} {r : Nat} {x : Ax} (hv : m.var r = some x.row) : evLoad Try.prog m 51 (.ptr r 4) = some (.lst .no 1 (rowsI x.vals)) := by
 unfold evLoad
 simp only [ptrCells, hv, Option.map_some]
 rw [show tAgg Try.prog 51 = some false by kernel_rfl, show tSize Try.prog 51 = some 1 by kernel_rfl]
 rfl
end
section
attribute [local irreducible] Next Inside Runs Ops table
/-! ### api.Flaw -/
structure Fl where
 rule : Int
 item : Int
 part : Int
def Fl.row (x : Fl) : List AV := [iv x.rule, iv x.item, iv x.part]
/-! ### api.Span -/
structure Sp where
 from_ : Int
 to_ : Int
def Sp.row (x : Sp) : List AV := [iv x.from_, iv x.to_]
/-! ### api.Set -/
structure Gs where
 group : ByteArray
 param : Int
 nodes : List Nd
def gs0 : Gs := ⟨⟨#[]⟩, 0, []⟩
def Gs.row (x : Gs) : List AV := [.v (.string x.group), iv x.param, .lst .no 7 (rowsN x.nodes)]
def unGs : List AV → Option Gs
 | [.v (.string c0), .v (.int .i64 c1), .lst .no 7 c2] =>
  match unN c2 with
  | some l2 => some ⟨c0, c1, l2⟩
  | _ => none
 | _ => none
theorem unGs_some {cs : List AV} {x : Gs} (h : unGs cs = some x) : cs = x.row := by
 unfold unGs at h
 split at h
 ·split at h
  ·rename_i h2
   cases h
   obtain rfl := unN_some h2
   rfl
  ·cases h
 ·cases h
theorem unGs_row (x : Gs) : unGs x.row = some x := by
 simp only [unGs, Gs.row, iv, unN_rowsN]
def rowsGs (l : List Gs) : List (List AV) := l.map Gs.row
theorem rowsGs_len (l : List Gs) : (rowsGs l).length = l.length := List.length_map ..
theorem rowsGs_app (l l2 : List Gs) : rowsGs l ++ rowsGs l2 = rowsGs (l ++ l2) := List.map_append.symm
theorem rowsGs_get {l : List Gs} {i : Nat} (hi : i < l.length) : (rowsGs l)[i]? = some (l.getD i gs0).row := by
 simp [rowsGs, List.getD, List.getElem?_eq_getElem hi]
def unsGs : List (List AV) → Option (List Gs)
 | [] => some []
 | row :: r =>
  match unGs row, unsGs r with
  | some x, some l => some (x :: l)
  | _, _ => none
theorem unsGs_some : ∀ {rs : List (List AV)} {l : List Gs}, unsGs rs = some l → rs = rowsGs l
 | [], l, h => by simp only [unsGs, Option.some.injEq] at h; subst h; rfl
 | row :: r, l, h => by
  unfold unsGs at h
  split at h
  ·rename_i x l' h1 h2
   cases h
   rw [unGs_some h1, unsGs_some h2]
   rfl
  ·cases h
theorem unsGs_rowsGs : ∀ (l : List Gs), unsGs (rowsGs l) = some l
 | [] => rfl
 | x :: l => by
  have e : rowsGs (x :: l) = x.row :: rowsGs l := rfl
  rw [e, unsGs, unGs_row, unsGs_rowsGs l]
theorem elGs : tElem Try.prog 64 = some 69 := by simp only [tElem, Try.underlying64]
theorem naGs : tArr Try.prog 64 = none := by simp only [tArr, Try.underlying64]
theorem appGs : appB Try.prog 64 64 3 = true := by kernel_rfl
theorem szGs : tSize Try.prog 69 = some 3 := by kernel_rfl
theorem agGs : tAgg Try.prog 69 = some true := by kernel_rfl
theorem atGs {g : Grow} {kk : IntKind} {l : List Gs} {i : Nat} (hi : i < l.length) : evIndexAddr Try.prog 64 (.lst g 3 (rowsGs l)) (.v (.int kk (i : Int))) = some (.eptr (l.getD i gs0).row) := at_list elGs naGs szGs (rowsGs_get hi)
theorem mapGs {x : Gs} : List.map argCell x.row = x.row := rfl
theorem cellsGs {x : Gs} : cellsOf (.agg x.row) = some x.row := rfl
theorem ldGs {m : Mem} {x : Gs} : evLoad Try.prog m 69 (.eptr x.row) = some (.agg x.row) := by kernel_rfl
theorem vrGs {m : Mem} {r : Nat} {x : Gs} (hv : m.var r = some x.row) : evLoad Try.prog m 69 (.ptr r 0) = some (.agg x.row) := by
 unfold evLoad
 simp only [ptrCells, hv, Option.map_some, szGs, agGs]
 rfl
def zeroGs : List AV := [.v (.string ⟨#[]⟩), .v (.int .i64 0), .lst .full 7 []]
theorem zrGs : zeroCells Try.prog 69 = some zeroGs := by kernel_rfl
theorem zoGs : zeroGs.all okCell = true := rfl
theorem znGs {m : Mem} : newVar m m.vars.length zeroGs = some (m.push zeroGs) := newVar_push rfl
theorem zsGs {m : Mem} {x : Gs} : evStore Try.prog (m.push zeroGs) 69 (.ptr m.vars.length 0) (.agg x.row) = some (m.push x.row) := by
 rw [store_push (cs := x.row) rfl szGs (Nat.le_refl _) rfl]
 rfl
theorem feGsGroup {x : Gs} : evFieldAddr Try.prog 69 (.eptr x.row) 0 = some (.eptr x.row) := by kernel_rfl
theorem fpGsGroup {r : Nat} : evFieldAddr Try.prog 69 (.ptr r 0) 0 = some (.ptr r 0) := by kernel_rfl
theorem leGsGroup {m : Mem} {x : Gs} : evLoad Try.prog m 9 (.eptr x.row) = some (.v (.string x.group)) := by kernel_rfl
theorem lpGsGroup {m : Mem} {r : Nat} {x : Gs} (hv : m.var r = some x.row) : evLoad Try.prog m 9 (.ptr r 0) = some (.v (.string x.group)) := by
 unfold evLoad
 simp only [ptrCells, hv, Option.map_some]
 rw [show tAgg Try.prog 9 = some false by kernel_rfl, show tSize Try.prog 9 = some 1 by kernel_rfl]
 rfl
theorem fpGsParam {r : Nat} : evFieldAddr Try.prog 69 (.ptr r 0) 1 = some (.ptr r 1) := by kernel_rfl
theorem lpGsParam {m : Mem} {r : Nat} {x : Gs} (hv : m.var r = some x.row) : evLoad Try.prog m 3 (.ptr r 1) = some (iv x.param) := by
 unfold evLoad
 simp only [ptrCells, hv, Option.map_some]
 rw [show tAgg Try.prog 3 = some false by kernel_rfl, show tSize Try.prog 3 = some 1 by kernel_rfl]
 rfl
theorem feGsNodes {x : Gs} : evFieldAddr Try.prog 69 (.eptr x.row) 2 = some (.eptr (x.row.drop 2)) := by kernel_rfl
theorem fpGsNodes {r : Nat} : evFieldAddr Try.prog 69 (.ptr r 0) 2 = some (.ptr r 2) := by kernel_rfl
theorem leGsNodes {m : Mem} {x : Gs} : evLoad Try.prog m 67 (.eptr (x.row.drop 2)) = some (.lst .no 7 (rowsN x.nodes)) := by kernel_rfl
theorem lpGsNodes {m : Mem} {r : Nat} {x : Gs} (hv : m.var r = some x.row) : evLoad Try.prog m 67 (.ptr r 2) = some (.lst .no 7 (rowsN x.nodes)) := by
 unfold evLoad
 simp only [ptrCells, hv, Option.map_some]
 rw [show tAgg Try.prog 67 = some false by kernel_rfl, show tSize Try.prog 67 = some 1 by kernel_rfl]
 rfl
/-! ### api.Phase -/
structure Ph where
 name : ByteArray
 lenU : Int
 lenN : Int
 frozen : List ByteArray
 sets : List Gs
def ph0 : Ph := ⟨⟨#[]⟩, 0, 0, [], []⟩
def Ph.row (x : Ph) : List AV := [.v (.string x.name), iv x.lenU, iv x.lenN, .lst .no 1 (rowsS x.frozen), .lst .no 3 (rowsGs x.sets)]
def unPh : List AV → Option Ph
 | [.v (.string c0), .v (.int .i64 c1), .v (.int .i64 c2), .lst .no 1 c3, .lst .no 3 c4] =>
  match unS c3, unsGs c4 with
  | some l3, some l4 => some ⟨c0, c1, c2, l3, l4⟩
  | _, _ => none
 | _ => none
theorem unPh_some {cs : List AV} {x : Ph} (h : unPh cs = some x) : cs = x.row := by
 unfold unPh at h
 split at h
 ·split at h
  ·rename_i h3 h4
   cases h
   obtain rfl := unS_some h3
   obtain rfl := unsGs_some h4
   rfl
  ·cases h
 ·cases h
theorem unPh_row (x : Ph) : unPh x.row = some x := by
 simp only [unPh, Ph.row, iv, unsGs_rowsGs, unS_rowsS]
def rowsPh (l : List Ph) : List (List AV) := l.map Ph.row
theorem rowsPh_len (l : List Ph) : (rowsPh l).length = l.length := List.length_map ..
theorem rowsPh_app (l l2 : List Ph) : rowsPh l ++ rowsPh l2 = rowsPh (l ++ l2) := List.map_append.symm
theorem rowsPh_get {l : List Ph} {i : Nat} (hi : i < l.length) : (rowsPh l)[i]? = some (l.getD i ph0).row := by
 simp [rowsPh, List.getD, List.getElem?_eq_getElem hi]
def unsPh : List (List AV) → Option (List Ph)
 | [] => some []
 | row :: r =>
  match unPh row, unsPh r with
  | some x, some l => some (x :: l)
  | _, _ => none
theorem unsPh_some : ∀ {rs : List (List AV)} {l : List Ph}, unsPh rs = some l → rs = rowsPh l
 | [], l, h => by simp only [unsPh, Option.some.injEq] at h; subst h; rfl
 | row :: r, l, h => by
  unfold unsPh at h
  split at h
  ·rename_i x l' h1 h2
   cases h
   rw [unPh_some h1, unsPh_some h2]
   rfl
  ·cases h
theorem unsPh_rowsPh : ∀ (l : List Ph), unsPh (rowsPh l) = some l
 | [] => rfl
 | x :: l => by
  have e : rowsPh (x :: l) = x.row :: rowsPh l := rfl
  rw [e, unsPh, unPh_row, unsPh_rowsPh l]
theorem elPh : tElem Try.prog 23 = some 66 := by simp only [tElem, Try.underlying23]
theorem naPh : tArr Try.prog 23 = none := by simp only [tArr, Try.underlying23]
theorem appPh : appB Try.prog 23 23 5 = true := by kernel_rfl
theorem szPh : tSize Try.prog 66 = some 5 := by kernel_rfl
theorem atPh {g : Grow} {kk : IntKind} {l : List Ph} {i : Nat} (hi : i < l.length) : evIndexAddr Try.prog 23 (.lst g 5 (rowsPh l)) (.v (.int kk (i : Int))) = some (.eptr (l.getD i ph0).row) := at_list elPh naPh szPh (rowsPh_get hi)
theorem mapPh {x : Ph} : List.map argCell x.row = x.row := rfl
theorem cellsPh {x : Ph} : cellsOf (.agg x.row) = some x.row := rfl
theorem ldPh {m : Mem} {x : Ph} : evLoad Try.prog m 66 (.eptr x.row) = some (.agg x.row) := by kernel_rfl
def zeroPh : List AV := [.v (.string ⟨#[]⟩), .v (.int .i64 0), .v (.int .i64 0), .lst .full 1 [], .lst .full 3 []]
theorem zrPh : zeroCells Try.prog 66 = some zeroPh := by kernel_rfl
theorem zoPh : zeroPh.all okCell = true := rfl
theorem znPh {m : Mem} : newVar m m.vars.length zeroPh = some (m.push zeroPh) := newVar_push rfl
theorem zsPh {m : Mem} {x : Ph} : evStore Try.prog (m.push zeroPh) 66 (.ptr m.vars.length 0) (.agg x.row) = some (m.push x.row) := by
 rw [store_push (cs := x.row) rfl szPh (Nat.le_refl _) rfl]
 rfl
theorem fePhName {x : Ph} : evFieldAddr Try.prog 66 (.eptr x.row) 0 = some (.eptr x.row) := by kernel_rfl
theorem fpPhName {r : Nat} : evFieldAddr Try.prog 66 (.ptr r 0) 0 = some (.ptr r 0) := by kernel_rfl
theorem lePhName {m : Mem} {x : Ph} : evLoad Try.prog m 9 (.eptr x.row) = some (.v (.string x.name)) := by kernel_rfl
theorem lpPhName {m : Mem} {r : Nat} {x : Ph} (hv : m.var r = some x.row) : evLoad Try.prog m 9 (.ptr r 0) = some (.v (.string x.name)) := by
 unfold evLoad
 simp only [ptrCells, hv, Option.map_some]
 rw [show tAgg Try.prog 9 = some false by kernel_rfl, show tSize Try.prog 9 = some 1 by kernel_rfl]
 rfl
theorem fePhLen {x : Ph} : evFieldAddr Try.prog 66 (.eptr x.row) 1 = some (.eptr (x.row.drop 1)) := by kernel_rfl
theorem lePhLen {m : Mem} {x : Ph} : evLoad Try.prog m 33 (.eptr (x.row.drop 1)) = some (.agg [iv x.lenU, iv x.lenN]) := by kernel_rfl
theorem fePhFrozen {x : Ph} : evFieldAddr Try.prog 66 (.eptr x.row) 2 = some (.eptr (x.row.drop 3)) := by kernel_rfl
theorem fpPhFrozen {r : Nat} : evFieldAddr Try.prog 66 (.ptr r 0) 2 = some (.ptr r 3) := by kernel_rfl
theorem lePhFrozen {m : Mem} {x : Ph} : evLoad Try.prog m 22 (.eptr (x.row.drop 3)) = some (.lst .no 1 (rowsS x.frozen)) := by kernel_rfl
theorem lpPhFrozen {m : Mem} {r : Nat} {x : Ph} (hv : m.var r = some x.row) : evLoad Try.prog m 22 (.ptr r 3) = some (.lst .no 1 (rowsS x.frozen)) := by
 unfold evLoad
 simp only [ptrCells, hv, Option.map_some]
 rw [show tAgg Try.prog 22 = some false by kernel_rfl, show tSize Try.prog 22 = some 1 by kernel_rfl]
 rfl
theorem fePhSets {x : Ph} : evFieldAddr Try.prog 66 (.eptr x.row) 3 = some (.eptr (x.row.drop 4)) := by kernel_rfl
theorem fpPhSets {r : Nat} : evFieldAddr Try.prog 66 (.ptr r 0) 3 = some (.ptr r 4) := by kernel_rfl
theorem lePhSets {m : Mem} {x : Ph} : evLoad Try.prog m 64 (.eptr (x.row.drop 4)) = some (.lst .no 3 (rowsGs x.sets)) := by kernel_rfl
theorem lpPhSets {m : Mem} {r : Nat} {x : Ph} (hv : m.var r = some x.row) : evLoad Try.prog m 64 (.ptr r 4) = some (.lst .no 3 (rowsGs x.sets)) := by
 unfold evLoad
 simp only [ptrCells, hv, Option.map_some]
 rw [show tAgg Try.prog 64 = some false by kernel_rfl, show tSize Try.prog 64 = some 1 by kernel_rfl]
 rfl
/-! ### api.Recipe -/
structure Rc where
 name : ByteArray
 steps : Int
 epoch : Int
 weights : Int
 metrics : List ByteArray
 groups : List ByteArray
 eval : Int
 phases : List Ph
 stopOn : Bool
 stopMetric : ByteArray
 stopMax : Bool
 stopPatience : Int
 stopDelta : Int
 stopRel : Bool
 plateauOn : Bool
 plateauMetric : ByteArray
 plateauMax : Bool
 plateauFactor : Int
 plateauPatience : Int
 plateauCooldown : Int
 plateauFloor : Int
 plateauDelta : Int
 keepOn : Bool
 keepMetric : ByteArray
 keepMax : Bool
 keepCount : Int
 emaOn : Bool
 emaDecay : Int
 swaOn : Bool
 swaFromU : Int
 swaFromN : Int
 swaEvery : Int
def rc0 : Rc := ⟨⟨#[]⟩, 0, 0, 0, [], [], 0, [], false, ⟨#[]⟩, false, 0, 0, false, false, ⟨#[]⟩, false, 0, 0, 0, 0, 0, false, ⟨#[]⟩, false, 0, false, 0, false, 0, 0, 0⟩
def Rc.row (x : Rc) : List AV := [.v (.string x.name), iv x.steps, iv x.epoch, iv x.weights, .lst .no 1 (rowsS x.metrics), .lst .no 1 (rowsS x.groups), iv x.eval, .lst .no 5 (rowsPh x.phases), .v (.bool x.stopOn), .v (.string x.stopMetric), .v (.bool x.stopMax), iv x.stopPatience, iv x.stopDelta, .v (.bool x.stopRel), .v (.bool x.plateauOn), .v (.string x.plateauMetric), .v (.bool x.plateauMax), iv x.plateauFactor, iv x.plateauPatience, iv x.plateauCooldown, iv x.plateauFloor, iv x.plateauDelta, .v (.bool x.keepOn), .v (.string x.keepMetric), .v (.bool x.keepMax), iv x.keepCount, .v (.bool x.emaOn), iv x.emaDecay, .v (.bool x.swaOn), iv x.swaFromU, iv x.swaFromN, iv x.swaEvery]
def unRc : List AV → Option Rc
 | [.v (.string c0), .v (.int .i64 c1), .v (.int .i64 c2), .v (.int .i64 c3), .lst .no 1 c4, .lst .no 1 c5, .v (.int .i64 c6), .lst .no 5 c7, .v (.bool c8), .v (.string c9), .v (.bool c10), .v (.int .i64 c11), .v (.int .i64 c12), .v (.bool c13), .v (.bool c14), .v (.string c15), .v (.bool c16), .v (.int .i64 c17), .v (.int .i64 c18), .v (.int .i64 c19), .v (.int .i64 c20), .v (.int .i64 c21), .v (.bool c22), .v (.string c23), .v (.bool c24), .v (.int .i64 c25), .v (.bool c26), .v (.int .i64 c27), .v (.bool c28), .v (.int .i64 c29), .v (.int .i64 c30), .v (.int .i64 c31)] =>
  match unS c4, unS c5, unsPh c7 with
  | some l4, some l5, some l7 => some ⟨c0, c1, c2, c3, l4, l5, c6, l7, c8, c9, c10, c11, c12, c13, c14, c15, c16, c17, c18, c19, c20, c21, c22, c23, c24, c25, c26, c27, c28, c29, c30, c31⟩
  | _, _, _ => none
 | _ => none
theorem unRc_some {cs : List AV} {x : Rc} (h : unRc cs = some x) : cs = x.row := by
 unfold unRc at h
 split at h
 ·split at h
  ·rename_i h4 h5 h7
   cases h
   obtain rfl := unS_some h4
   obtain rfl := unS_some h5
   obtain rfl := unsPh_some h7
   rfl
  ·cases h
 ·cases h
theorem unRc_row (x : Rc) : unRc x.row = some x := by
 simp only [unRc, Rc.row, iv, unsPh_rowsPh, unS_rowsS]
theorem szRc : tSize Try.prog 37 = some 32 := by kernel_rfl
theorem agRc : tAgg Try.prog 37 = some true := by kernel_rfl
theorem mapRc {x : Rc} : List.map argCell x.row = x.row := rfl
theorem cellsRc {x : Rc} : cellsOf (.agg x.row) = some x.row := rfl
theorem newRc {m : Mem} {x : Rc} : newVar m m.vars.length x.row = some (m.push x.row) := newVar_push rfl
theorem vrRc {m : Mem} {r : Nat} {x : Rc} (hv : m.var r = some x.row) : evLoad Try.prog m 37 (.ptr r 0) = some (.agg x.row) := by
 unfold evLoad
 simp only [ptrCells, hv, Option.map_some, szRc, agRc]
 rfl
def zeroRc : List AV := [.v (.string ⟨#[]⟩), .v (.int .i64 0), .v (.int .i64 0), .v (.int .i64 0), .lst .full 1 [], .lst .full 1 [], .v (.int .i64 0), .lst .full 5 [], .v (.bool false), .v (.string ⟨#[]⟩), .v (.bool false), .v (.int .i64 0), .v (.int .i64 0), .v (.bool false), .v (.bool false), .v (.string ⟨#[]⟩), .v (.bool false), .v (.int .i64 0), .v (.int .i64 0), .v (.int .i64 0), .v (.int .i64 0), .v (.int .i64 0), .v (.bool false), .v (.string ⟨#[]⟩), .v (.bool false), .v (.int .i64 0), .v (.bool false), .v (.int .i64 0), .v (.bool false), .v (.int .i64 0), .v (.int .i64 0), .v (.int .i64 0)]
theorem zrRc : zeroCells Try.prog 37 = some zeroRc := by kernel_rfl
theorem zoRc : zeroRc.all okCell = true := rfl
theorem znRc {m : Mem} : newVar m m.vars.length zeroRc = some (m.push zeroRc) := newVar_push rfl
theorem zsRc {m : Mem} {x : Rc} : evStore Try.prog (m.push zeroRc) 37 (.ptr m.vars.length 0) (.agg x.row) = some (m.push x.row) := by
 rw [store_push (cs := x.row) rfl szRc (Nat.le_refl _) rfl]
 rfl
theorem fpRcName {r : Nat} : evFieldAddr Try.prog 37 (.ptr r 0) 0 = some (.ptr r 0) := by kernel_rfl
theorem lpRcName {m : Mem} {r : Nat} {x : Rc} (hv : m.var r = some x.row) : evLoad Try.prog m 9 (.ptr r 0) = some (.v (.string x.name)) := by
 unfold evLoad
 simp only [ptrCells, hv, Option.map_some]
 rw [show tAgg Try.prog 9 = some false by kernel_rfl, show tSize Try.prog 9 = some 1 by kernel_rfl]
 rfl
theorem fpRcSteps {r : Nat} : evFieldAddr Try.prog 37 (.ptr r 0) 1 = some (.ptr r 1) := by kernel_rfl
theorem lpRcSteps {m : Mem} {r : Nat} {x : Rc} (hv : m.var r = some x.row) : evLoad Try.prog m 3 (.ptr r 1) = some (iv x.steps) := by
 unfold evLoad
 simp only [ptrCells, hv, Option.map_some]
 rw [show tAgg Try.prog 3 = some false by kernel_rfl, show tSize Try.prog 3 = some 1 by kernel_rfl]
 rfl
theorem fpRcEpoch {r : Nat} : evFieldAddr Try.prog 37 (.ptr r 0) 2 = some (.ptr r 2) := by kernel_rfl
theorem lpRcEpoch {m : Mem} {r : Nat} {x : Rc} (hv : m.var r = some x.row) : evLoad Try.prog m 3 (.ptr r 2) = some (iv x.epoch) := by
 unfold evLoad
 simp only [ptrCells, hv, Option.map_some]
 rw [show tAgg Try.prog 3 = some false by kernel_rfl, show tSize Try.prog 3 = some 1 by kernel_rfl]
 rfl
theorem fpRcWeights {r : Nat} : evFieldAddr Try.prog 37 (.ptr r 0) 3 = some (.ptr r 3) := by kernel_rfl
theorem lpRcWeights {m : Mem} {r : Nat} {x : Rc} (hv : m.var r = some x.row) : evLoad Try.prog m 3 (.ptr r 3) = some (iv x.weights) := by
 unfold evLoad
 simp only [ptrCells, hv, Option.map_some]
 rw [show tAgg Try.prog 3 = some false by kernel_rfl, show tSize Try.prog 3 = some 1 by kernel_rfl]
 rfl
theorem fpRcMetrics {r : Nat} : evFieldAddr Try.prog 37 (.ptr r 0) 4 = some (.ptr r 4) := by kernel_rfl
theorem lpRcMetrics {m : Mem} {r : Nat} {x : Rc} (hv : m.var r = some x.row) : evLoad Try.prog m 22 (.ptr r 4) = some (.lst .no 1 (rowsS x.metrics)) := by
 unfold evLoad
 simp only [ptrCells, hv, Option.map_some]
 rw [show tAgg Try.prog 22 = some false by kernel_rfl, show tSize Try.prog 22 = some 1 by kernel_rfl]
 rfl
theorem fpRcGroups {r : Nat} : evFieldAddr Try.prog 37 (.ptr r 0) 5 = some (.ptr r 5) := by kernel_rfl
theorem lpRcGroups {m : Mem} {r : Nat} {x : Rc} (hv : m.var r = some x.row) : evLoad Try.prog m 22 (.ptr r 5) = some (.lst .no 1 (rowsS x.groups)) := by
 unfold evLoad
 simp only [ptrCells, hv, Option.map_some]
 rw [show tAgg Try.prog 22 = some false by kernel_rfl, show tSize Try.prog 22 = some 1 by kernel_rfl]
 rfl
theorem fpRcEval {r : Nat} : evFieldAddr Try.prog 37 (.ptr r 0) 6 = some (.ptr r 6) := by kernel_rfl
theorem lpRcEval {m : Mem} {r : Nat} {x : Rc} (hv : m.var r = some x.row) : evLoad Try.prog m 3 (.ptr r 6) = some (iv x.eval) := by
 unfold evLoad
 simp only [ptrCells, hv, Option.map_some]
 rw [show tAgg Try.prog 3 = some false by kernel_rfl, show tSize Try.prog 3 = some 1 by kernel_rfl]
 rfl
theorem fpRcPhases {r : Nat} : evFieldAddr Try.prog 37 (.ptr r 0) 7 = some (.ptr r 7) := by kernel_rfl
theorem lpRcPhases {m : Mem} {r : Nat} {x : Rc} (hv : m.var r = some x.row) : evLoad Try.prog m 23 (.ptr r 7) = some (.lst .no 5 (rowsPh x.phases)) := by
 unfold evLoad
 simp only [ptrCells, hv, Option.map_some]
 rw [show tAgg Try.prog 23 = some false by kernel_rfl, show tSize Try.prog 23 = some 1 by kernel_rfl]
 rfl
theorem fpRcStop {r : Nat} : evFieldAddr Try.prog 37 (.ptr r 0) 8 = some (.ptr r 8) := by kernel_rfl
theorem lpRcStop {m : Mem} {r : Nat} {x : Rc} (hv : m.var r = some x.row) : evLoad Try.prog m 25 (.ptr r 8) = some (.agg [.v (.bool x.stopOn), .v (.string x.stopMetric), .v (.bool x.stopMax), iv x.stopPatience, iv x.stopDelta, .v (.bool x.stopRel)]) := by
 unfold evLoad
 simp only [ptrCells, hv, Option.map_some]
 rw [show tAgg Try.prog 25 = some true by kernel_rfl, show tSize Try.prog 25 = some 6 by kernel_rfl]
 rfl
theorem fpRcStopMetric {r : Nat} : evFieldAddr Try.prog 25 (.ptr r 8) 1 = some (.ptr r 9) := by kernel_rfl
theorem lpRcStopMetric {m : Mem} {r : Nat} {x : Rc} (hv : m.var r = some x.row) : evLoad Try.prog m 9 (.ptr r 9) = some (.v (.string x.stopMetric)) := by
 unfold evLoad
 simp only [ptrCells, hv, Option.map_some]
 rw [show tAgg Try.prog 9 = some false by kernel_rfl, show tSize Try.prog 9 = some 1 by kernel_rfl]
 rfl
theorem fpRcPlateau {r : Nat} : evFieldAddr Try.prog 37 (.ptr r 0) 9 = some (.ptr r 14) := by kernel_rfl
theorem lpRcPlateau {m : Mem} {r : Nat} {x : Rc} (hv : m.var r = some x.row) : evLoad Try.prog m 27 (.ptr r 14) = some (.agg [.v (.bool x.plateauOn), .v (.string x.plateauMetric), .v (.bool x.plateauMax), iv x.plateauFactor, iv x.plateauPatience, iv x.plateauCooldown, iv x.plateauFloor, iv x.plateauDelta]) := by
 unfold evLoad
 simp only [ptrCells, hv, Option.map_some]
 rw [show tAgg Try.prog 27 = some true by kernel_rfl, show tSize Try.prog 27 = some 8 by kernel_rfl]
 rfl
theorem fpRcPlateauMetric {r : Nat} : evFieldAddr Try.prog 27 (.ptr r 14) 1 = some (.ptr r 15) := by kernel_rfl
theorem lpRcPlateauMetric {m : Mem} {r : Nat} {x : Rc} (hv : m.var r = some x.row) : evLoad Try.prog m 9 (.ptr r 15) = some (.v (.string x.plateauMetric)) := by
 unfold evLoad
 simp only [ptrCells, hv, Option.map_some]
 rw [show tAgg Try.prog 9 = some false by kernel_rfl, show tSize Try.prog 9 = some 1 by kernel_rfl]
 rfl
theorem fpRcKeep {r : Nat} : evFieldAddr Try.prog 37 (.ptr r 0) 10 = some (.ptr r 22) := by kernel_rfl
theorem lpRcKeep {m : Mem} {r : Nat} {x : Rc} (hv : m.var r = some x.row) : evLoad Try.prog m 29 (.ptr r 22) = some (.agg [.v (.bool x.keepOn), .v (.string x.keepMetric), .v (.bool x.keepMax), iv x.keepCount]) := by
 unfold evLoad
 simp only [ptrCells, hv, Option.map_some]
 rw [show tAgg Try.prog 29 = some true by kernel_rfl, show tSize Try.prog 29 = some 4 by kernel_rfl]
 rfl
theorem fpRcKeepMetric {r : Nat} : evFieldAddr Try.prog 29 (.ptr r 22) 1 = some (.ptr r 23) := by kernel_rfl
theorem lpRcKeepMetric {m : Mem} {r : Nat} {x : Rc} (hv : m.var r = some x.row) : evLoad Try.prog m 9 (.ptr r 23) = some (.v (.string x.keepMetric)) := by
 unfold evLoad
 simp only [ptrCells, hv, Option.map_some]
 rw [show tAgg Try.prog 9 = some false by kernel_rfl, show tSize Try.prog 9 = some 1 by kernel_rfl]
 rfl
theorem fpRcEma {r : Nat} : evFieldAddr Try.prog 37 (.ptr r 0) 11 = some (.ptr r 26) := by kernel_rfl
theorem lpRcEma {m : Mem} {r : Nat} {x : Rc} (hv : m.var r = some x.row) : evLoad Try.prog m 31 (.ptr r 26) = some (.agg [.v (.bool x.emaOn), iv x.emaDecay]) := by
 unfold evLoad
 simp only [ptrCells, hv, Option.map_some]
 rw [show tAgg Try.prog 31 = some true by kernel_rfl, show tSize Try.prog 31 = some 2 by kernel_rfl]
 rfl
theorem fpRcSwa {r : Nat} : evFieldAddr Try.prog 37 (.ptr r 0) 12 = some (.ptr r 28) := by kernel_rfl
theorem lpRcSwa {m : Mem} {r : Nat} {x : Rc} (hv : m.var r = some x.row) : evLoad Try.prog m 35 (.ptr r 28) = some (.agg [.v (.bool x.swaOn), iv x.swaFromU, iv x.swaFromN, iv x.swaEvery]) := by
 unfold evLoad
 simp only [ptrCells, hv, Option.map_some]
 rw [show tAgg Try.prog 35 = some true by kernel_rfl, show tSize Try.prog 35 = some 4 by kernel_rfl]
 rfl
end
section
theorem agInt : tAgg Try.prog 3 = some false := by simp only [tAgg, Try.underlying3]
def big40 : Nat := 1099511627776
/-! ### the first one that .. -/
def firstBy {α : Type} (p : α → Bool) : List α → Nat → Int
 | [], _ => -1
 | s :: l, i => if p s then (i : Int) else firstBy p l (i + 1)
theorem firstBy_any {α : Type} (p : α → Bool) : ∀ (l : List α) (i : Nat), decide (0 ≤ firstBy p l i) = l.any p
 | [], i => by simp [firstBy]
 | s :: l, i => by
  rw [firstBy]
  cases h : p s with
  | true => simp [h]
  | false => simp only [Bool.false_eq_true, if_false, firstBy_any p l (i + 1), List.any_cons, h, Bool.false_or]
theorem by_no {α : Type} {d : α} {p : α → Bool} {l : List α} {i : Nat} (hi : i < l.length) (hp : p (l.getD i d) = false) (h : firstBy p (l.drop i) i = firstBy p l 0) : firstBy p (l.drop (i + 1)) (i + 1) = firstBy p l 0 := by
 rw [drop_next (d := d) hi, firstBy, hp, if_neg (by simp)] at h
 exact h
theorem by_yes {α : Type} {d : α} {p : α → Bool} {l : List α} {i : Nat} (hi : i < l.length) (hp : p (l.getD i d) = true) (h : firstBy p (l.drop i) i = firstBy p l 0) : firstBy p l 0 = (i : Int) := by
 rw [drop_next (d := d) hi, firstBy, hp, if_pos rfl] at h
 exact h.symm
theorem by_end {α : Type} {p : α → Bool} {l : List α} (h : firstBy p (l.drop l.length) l.length = firstBy p l 0) : firstBy p l 0 = -1 := by
 rw [List.drop_length] at h
 exact h.symm
/-- Variables of one's own, above. -/
def Above (m m' : Mem) : Prop := ∃ L, m' = { vars := m.vars ++ L, toks := m.toks }
theorem above_self (m : Mem) : Above m m := ⟨[], by simp⟩
theorem above_push {m m' : Mem} {cs : List AV} (h : Above m m') : Above m (m'.push cs) := by
 obtain ⟨L, rfl⟩ := h
 exact ⟨L ++ [some cs], by simp [Mem.push]⟩
theorem above_fin {m m' : Mem} (h : Above m m') : finMem m m' = m := by
 obtain ⟨L, rfl⟩ := h
 unfold finMem
 rw [if_pos (by simp)]
 simp
def yesG : List AV → Mem → Option (AV × Mem)
 | [], m => some (.v (.bool true), m)
 | _, _ => none
theorem yes_eq : ∀ mm, yesG [] mm = some (.v (.bool true), mm) := fun _ => rfl
end
section
theorem ops_case {P : Program} {call : CallF} {nt : Nat} {ops : Array Oper} {pu : Bool} {e : Env} {m : Mem} {K : Env → Mem → Prop} {o : Oper} {rest : List Oper} {j g : Nat} {want B : Bool} (hg : o.guard = some (j, want)) (hj : (ops[j]?).bind (·.dst) = some g) (hb : get e g = .v (.bool B))
  (ht : B = true → Ops P call nt ops pu (o :: rest) e m K) (hf : B = false → Ops P call nt ops pu (o :: rest) e m K) : Ops P call nt ops pu (o :: rest) e m K := by
 cases B with
 | true => exact ht rfl
 | false => exact hf rfl
theorem ops_here {P : Program} {call : CallF} {nt : Nat} {ops : Array Oper} {pu : Bool} {l : List Oper} {e : Env} {m : Mem} {K : Env → Mem → Prop} (h : Ops P call nt ops pu l e m K) : Ops P call nt ops pu l e m K := h
theorem runs_here {P : Program} {call : CallF} {nt : Nat} {kp : Nat → Option (List Nat)} {c : Code} {e : Env} {m : Mem} {Q : Ex → Env → Mem → Prop} (h : Runs P call nt kp c e m Q) : Runs P call nt kp c e m Q := h
attribute [local irreducible] Next Inside Runs Ops table
attribute [local go_sem] szStr szInt Option.getD_some isNil loadStr loadInt mkInts0 mkInts1 mkStrs0 mkStrs1 rowsS_len rowsI_len rowsN_len evStr fldOp ldOp evMinMax evFoldI
def kpQ : Nat → Option (List Nat) := fun _ => some [0, 2]
attribute [go_sem] kpQ
/-! ### lengths -/
def lenMay (u n : Int) : Prop := 0 ≤ n ∧ n ≤ 1099511627776 ∧ 0 ≤ u ∧ u ≤ 3 ∧ (u = 2 → n ≤ 100) ∧ (u = 3 → n = 0)
instance (u n : Int) : Decidable (lenMay u n) := by unfold lenMay; exact inferInstance
theorem len0 {r : Nat} : evFieldAddr Try.prog 33 (.ptr r 0) 0 = some (.ptr r 0) := by kernel_rfl
theorem len1 {r : Nat} : evFieldAddr Try.prog 33 (.ptr r 0) 1 = some (.ptr r (0 + 1)) := by kernel_rfl
theorem loadOne {m : Mem} {cs : List AV} {off : Nat} : evLoad Try.prog (m.push cs) 3 (.ptr m.vars.length off) = (cs.drop off).head? := by
 unfold evLoad
 simp only [ptrCells, push_var, Option.map_some, szInt, agInt]
theorem loadLen {m : Mem} {u n : Int} : evLoad Try.prog (m.push [.v (.int .i64 u), .v (.int .i64 n)]) 33 (.ptr m.vars.length 0) = some (.agg [.v (.int .i64 u), .v (.int .i64 n)]) := by
 unfold evLoad
 simp only [ptrCells, push_var, Option.map_some]
 rw [show tAgg Try.prog 33 = some true by kernel_rfl, show tSize Try.prog 33 = some 2 by kernel_rfl]
 rfl
theorem cellsLen {u n : Int} : cellsOf (.agg [.v (.int .i64 u), .v (.int .i64 n)]) = some [.v (.int .i64 u), .v (.int .i64 n)] := rfl
theorem newLen {m : Mem} {u n : Int} : newVar m m.vars.length [.v (.int .i64 u), .v (.int .i64 n)] = some (m.push [.v (.int .i64 u), .v (.int .i64 n)]) := newVar_push rfl
attribute [local go_sem] len0 len1 loadOne loadLen cellsLen newLen Nat.zero_add List.drop_zero List.drop_succ_cons List.head?_cons
def kpRefLen : Nat → Option (List Nat) := fun _ => some [0, 1, 2, 20]
attribute [go_sem] kpRefLen
def kpWithin : Nat → Option (List Nat) := fun _ => some [0, 1, 2, 6]
attribute [go_sem] kpWithin
def kpLenCheck : Nat → Option (List Nat) := fun _ => some [0, 1, 2, 3, 5, 6, 9, 11, 17]
attribute [go_sem] kpLenCheck
end
end Go.Proofs.Ytmockbddhhmmeaa.Ev

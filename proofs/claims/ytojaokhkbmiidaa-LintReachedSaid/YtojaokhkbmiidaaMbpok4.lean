/- Words of struct types: Fl, Sp, Gs, Ph, Rc. -/
import Derived.Test.YtojaokhkbmiidaaMbpok1
import Derived.Test.YtojaokhkbmiidaaMbpok3
namespace Go.Proofs.Ytojaokhkbmiidaa.Ev
open Go Go.Proofs
set_option maxRecDepth 10000
set_option maxHeartbeats 8000000
set_option linter.unusedVariables false
set_option linter.unusedSimpArgs false
attribute [local irreducible] Next Inside Runs Ops table
/-! ### api.Flaw -/
structure Fl where
  rule : Int
  item : Int
  part : Int
def fl0 : Fl := ⟨0, 0, 0⟩
def Fl.row (x : Fl) : List AV := [iv x.rule, iv x.item, iv x.part]
def unFl : List AV → Option Fl
  | [.v (.int .i64 c0), .v (.int .i64 c1), .v (.int .i64 c2)] => some ⟨c0, c1, c2⟩
  | _ => none
theorem unFl_some {cs : List AV} {x : Fl} (h : unFl cs = some x) : cs = x.row := by
  unfold unFl at h
  split at h
  · cases h; rfl
  · cases h
theorem unFl_row (x : Fl) : unFl x.row = some x := by
  rfl
def rowsFl (l : List Fl) : List (List AV) := l.map Fl.row
theorem rowsFl_len (l : List Fl) : (rowsFl l).length = l.length := List.length_map ..
theorem rowsFl_app (l l2 : List Fl) : rowsFl l ++ rowsFl l2 = rowsFl (l ++ l2) := List.map_append.symm
theorem rowsFl_take (l : List Fl) (i : Nat) : (rowsFl l).take i = rowsFl (l.take i) := List.map_take.symm
theorem rowsFl_drop (l : List Fl) (i : Nat) : (rowsFl l).drop i = rowsFl (l.drop i) := List.map_drop.symm
theorem rowsFl_get {l : List Fl} {i : Nat} (hi : i < l.length) : (rowsFl l)[i]? = some (l.getD i fl0).row := by
  simp [rowsFl, List.getD, List.getElem?_eq_getElem hi]
def unsFl : List (List AV) → Option (List Fl)
  | [] => some []
  | row :: r =>
    match unFl row, unsFl r with
    | some x, some l => some (x :: l)
    | _, _ => none
theorem unsFl_some : ∀ {rs : List (List AV)} {l : List Fl}, unsFl rs = some l → rs = rowsFl l
  | [], l, h => by simp only [unsFl, Option.some.injEq] at h; subst h; rfl
  | row :: r, l, h => by
    unfold unsFl at h
    split at h
    · rename_i x l' h1 h2
      cases h
      rw [unFl_some h1, unsFl_some h2]
      rfl
    · cases h
theorem unsFl_rowsFl : ∀ (l : List Fl), unsFl (rowsFl l) = some l
  | [] => rfl
  | x :: l => by
    have e : rowsFl (x :: l) = x.row :: rowsFl l := rfl
    rw [e, unsFl, unFl_row, unsFl_rowsFl l]
theorem elFl : tElem Try.prog 37 = some 43 := by simp only [tElem, Try.underlying37]
theorem naFl : tArr Try.prog 37 = none := by simp only [tArr, Try.underlying37]
theorem appFl : appB Try.prog 37 37 3 = true := by kernel_rfl
theorem szFl : tSize Try.prog 43 = some 3 := by kernel_rfl
theorem agFl : tAgg Try.prog 43 = some true := by kernel_rfl
theorem atFl {g : Grow} {kk : IntKind} {l : List Fl} {i : Nat} (hi : i < l.length) : evIndexAddr Try.prog 37 (.lst g 3 (rowsFl l)) (.v (.int kk (i : Int))) = some (.eptr (l.getD i fl0).row) := at_list elFl naFl szFl (rowsFl_get hi)
theorem mapFl {x : Fl} : List.map argCell x.row = x.row := rfl
theorem rowFl {x : Fl} : rowOf (.agg x.row) = some x.row := rfl
theorem cellsFl {x : Fl} : cellsOf (.agg x.row) = some x.row := rfl
theorem newFl {m : Mem} {x : Fl} : newVar m m.vars.length x.row = some (m.push x.row) := newVar_push rfl
theorem ldFl {m : Mem} {x : Fl} : evLoad Try.prog m 43 (.eptr x.row) = some (.agg x.row) := by kernel_rfl
theorem vrFl {m : Mem} {r : Nat} {x : Fl} (hv : m.var r = some x.row) : evLoad Try.prog m 43 (.ptr r 0) = some (.agg x.row) := by
  unfold evLoad
  simp only [ptrCells, hv, Option.map_some, szFl, agFl]
  rfl
def zeroFl : List AV := [.v (.int .i64 0), .v (.int .i64 0), .v (.int .i64 0)]
theorem zrFl : zeroCells Try.prog 43 = some zeroFl := by kernel_rfl
theorem zoFl : zeroFl.all okCell = true := rfl
theorem znFl {m : Mem} : newVar m m.vars.length zeroFl = some (m.push zeroFl) := newVar_push rfl
theorem zsFl {m : Mem} {x : Fl} : evStore Try.prog (m.push zeroFl) 43 (.ptr m.vars.length 0) (.agg x.row) = some (m.push x.row) := by
  rw [store_push (cs := x.row) rfl szFl (Nat.le_refl _) rfl]
  rfl
theorem niFl : noIface Try.prog 8 43 = true := by kernel_rfl
theorem eqFl {x y : Fl} : eqTy Try.prog 8 43 (.agg x.row) (.agg y.row) = some ((x.rule == y.rule) && ((x.item == y.item) && ((x.part == y.part) && true))) := by kernel_rfl
theorem mk0Fl : evBuild Try.prog 43 [] = some (.agg fl0.row) := by kernel_rfl
theorem feFlRule {x : Fl} : evFieldAddr Try.prog 43 (.eptr x.row) 0 = some (.eptr x.row) := by kernel_rfl
theorem fpFlRule {r : Nat} : evFieldAddr Try.prog 43 (.ptr r 0) 0 = some (.ptr r 0) := by kernel_rfl
theorem leFlRule {m : Mem} {x : Fl} : evLoad Try.prog m 3 (.eptr x.row) = some (iv x.rule) := by kernel_rfl
theorem lpFlRule {m : Mem} {r : Nat} {x : Fl} (hv : m.var r = some x.row) : evLoad Try.prog m 3 (.ptr r 0) = some (iv x.rule) := by
  unfold evLoad
  simp only [ptrCells, hv, Option.map_some]
  rw [show tAgg Try.prog 3 = some false by kernel_rfl, show tSize Try.prog 3 = some 1 by kernel_rfl]
  rfl
theorem feFlItem {x : Fl} : evFieldAddr Try.prog 43 (.eptr x.row) 1 = some (.eptr (x.row.drop 1)) := by kernel_rfl
theorem fpFlItem {r : Nat} : evFieldAddr Try.prog 43 (.ptr r 0) 1 = some (.ptr r 1) := by kernel_rfl
theorem leFlItem {m : Mem} {x : Fl} : evLoad Try.prog m 3 (.eptr (x.row.drop 1)) = some (iv x.item) := by kernel_rfl
theorem lpFlItem {m : Mem} {r : Nat} {x : Fl} (hv : m.var r = some x.row) : evLoad Try.prog m 3 (.ptr r 1) = some (iv x.item) := by
  unfold evLoad
  simp only [ptrCells, hv, Option.map_some]
  rw [show tAgg Try.prog 3 = some false by kernel_rfl, show tSize Try.prog 3 = some 1 by kernel_rfl]
  rfl
theorem feFlPart {x : Fl} : evFieldAddr Try.prog 43 (.eptr x.row) 2 = some (.eptr (x.row.drop 2)) := by kernel_rfl
theorem fpFlPart {r : Nat} : evFieldAddr Try.prog 43 (.ptr r 0) 2 = some (.ptr r 2) := by kernel_rfl
theorem leFlPart {m : Mem} {x : Fl} : evLoad Try.prog m 3 (.eptr (x.row.drop 2)) = some (iv x.part) := by kernel_rfl
theorem lpFlPart {m : Mem} {r : Nat} {x : Fl} (hv : m.var r = some x.row) : evLoad Try.prog m 3 (.ptr r 2) = some (iv x.part) := by
  unfold evLoad
  simp only [ptrCells, hv, Option.map_some]
  rw [show tAgg Try.prog 3 = some false by kernel_rfl, show tSize Try.prog 3 = some 1 by kernel_rfl]
  rfl
/-! ### api.Span -/
structure Sp where
  from_ : Int
  to_ : Int
def sp0 : Sp := ⟨0, 0⟩
def Sp.row (x : Sp) : List AV := [iv x.from_, iv x.to_]
def unSp : List AV → Option Sp
  | [.v (.int .i64 c0), .v (.int .i64 c1)] => some ⟨c0, c1⟩
  | _ => none
theorem unSp_some {cs : List AV} {x : Sp} (h : unSp cs = some x) : cs = x.row := by
  unfold unSp at h
  split at h
  · cases h; rfl
  · cases h
theorem unSp_row (x : Sp) : unSp x.row = some x := by
  rfl
def rowsSp (l : List Sp) : List (List AV) := l.map Sp.row
theorem rowsSp_len (l : List Sp) : (rowsSp l).length = l.length := List.length_map ..
theorem rowsSp_app (l l2 : List Sp) : rowsSp l ++ rowsSp l2 = rowsSp (l ++ l2) := List.map_append.symm
theorem rowsSp_take (l : List Sp) (i : Nat) : (rowsSp l).take i = rowsSp (l.take i) := List.map_take.symm
theorem rowsSp_drop (l : List Sp) (i : Nat) : (rowsSp l).drop i = rowsSp (l.drop i) := List.map_drop.symm
theorem rowsSp_get {l : List Sp} {i : Nat} (hi : i < l.length) : (rowsSp l)[i]? = some (l.getD i sp0).row := by
  simp [rowsSp, List.getD, List.getElem?_eq_getElem hi]
def unsSp : List (List AV) → Option (List Sp)
  | [] => some []
  | row :: r =>
    match unSp row, unsSp r with
    | some x, some l => some (x :: l)
    | _, _ => none
theorem unsSp_some : ∀ {rs : List (List AV)} {l : List Sp}, unsSp rs = some l → rs = rowsSp l
  | [], l, h => by simp only [unsSp, Option.some.injEq] at h; subst h; rfl
  | row :: r, l, h => by
    unfold unsSp at h
    split at h
    · rename_i x l' h1 h2
      cases h
      rw [unSp_some h1, unsSp_some h2]
      rfl
    · cases h
theorem unsSp_rowsSp : ∀ (l : List Sp), unsSp (rowsSp l) = some l
  | [] => rfl
  | x :: l => by
    have e : rowsSp (x :: l) = x.row :: rowsSp l := rfl
    rw [e, unsSp, unSp_row, unsSp_rowsSp l]
theorem elSp : tElem Try.prog 45 = some 47 := by simp only [tElem, Try.underlying45]
theorem naSp : tArr Try.prog 45 = none := by simp only [tArr, Try.underlying45]
theorem appSp : appB Try.prog 45 45 2 = true := by kernel_rfl
theorem szSp : tSize Try.prog 47 = some 2 := by kernel_rfl
theorem agSp : tAgg Try.prog 47 = some true := by kernel_rfl
theorem atSp {g : Grow} {kk : IntKind} {l : List Sp} {i : Nat} (hi : i < l.length) : evIndexAddr Try.prog 45 (.lst g 2 (rowsSp l)) (.v (.int kk (i : Int))) = some (.eptr (l.getD i sp0).row) := at_list elSp naSp szSp (rowsSp_get hi)
theorem mapSp {x : Sp} : List.map argCell x.row = x.row := rfl
theorem rowSp {x : Sp} : rowOf (.agg x.row) = some x.row := rfl
theorem cellsSp {x : Sp} : cellsOf (.agg x.row) = some x.row := rfl
theorem newSp {m : Mem} {x : Sp} : newVar m m.vars.length x.row = some (m.push x.row) := newVar_push rfl
theorem ldSp {m : Mem} {x : Sp} : evLoad Try.prog m 47 (.eptr x.row) = some (.agg x.row) := by kernel_rfl
theorem vrSp {m : Mem} {r : Nat} {x : Sp} (hv : m.var r = some x.row) : evLoad Try.prog m 47 (.ptr r 0) = some (.agg x.row) := by
  unfold evLoad
  simp only [ptrCells, hv, Option.map_some, szSp, agSp]
  rfl
def zeroSp : List AV := [.v (.int .i64 0), .v (.int .i64 0)]
theorem zrSp : zeroCells Try.prog 47 = some zeroSp := by kernel_rfl
theorem zoSp : zeroSp.all okCell = true := rfl
theorem znSp {m : Mem} : newVar m m.vars.length zeroSp = some (m.push zeroSp) := newVar_push rfl
theorem zsSp {m : Mem} {x : Sp} : evStore Try.prog (m.push zeroSp) 47 (.ptr m.vars.length 0) (.agg x.row) = some (m.push x.row) := by
  rw [store_push (cs := x.row) rfl szSp (Nat.le_refl _) rfl]
  rfl
theorem niSp : noIface Try.prog 8 47 = true := by kernel_rfl
theorem eqSp {x y : Sp} : eqTy Try.prog 8 47 (.agg x.row) (.agg y.row) = some ((x.from_ == y.from_) && ((x.to_ == y.to_) && true)) := by kernel_rfl
theorem mk0Sp : evBuild Try.prog 47 [] = some (.agg sp0.row) := by kernel_rfl
theorem feSpFrom_ {x : Sp} : evFieldAddr Try.prog 47 (.eptr x.row) 0 = some (.eptr x.row) := by kernel_rfl
theorem fpSpFrom_ {r : Nat} : evFieldAddr Try.prog 47 (.ptr r 0) 0 = some (.ptr r 0) := by kernel_rfl
theorem leSpFrom_ {m : Mem} {x : Sp} : evLoad Try.prog m 3 (.eptr x.row) = some (iv x.from_) := by kernel_rfl
theorem lpSpFrom_ {m : Mem} {r : Nat} {x : Sp} (hv : m.var r = some x.row) : evLoad Try.prog m 3 (.ptr r 0) = some (iv x.from_) := by
  unfold evLoad
  simp only [ptrCells, hv, Option.map_some]
  rw [show tAgg Try.prog 3 = some false by kernel_rfl, show tSize Try.prog 3 = some 1 by kernel_rfl]
  rfl
theorem feSpTo_ {x : Sp} : evFieldAddr Try.prog 47 (.eptr x.row) 1 = some (.eptr (x.row.drop 1)) := by kernel_rfl
theorem fpSpTo_ {r : Nat} : evFieldAddr Try.prog 47 (.ptr r 0) 1 = some (.ptr r 1) := by kernel_rfl
theorem leSpTo_ {m : Mem} {x : Sp} : evLoad Try.prog m 3 (.eptr (x.row.drop 1)) = some (iv x.to_) := by kernel_rfl
theorem lpSpTo_ {m : Mem} {r : Nat} {x : Sp} (hv : m.var r = some x.row) : evLoad Try.prog m 3 (.ptr r 1) = some (iv x.to_) := by
  unfold evLoad
  simp only [ptrCells, hv, Option.map_some]
  rw [show tAgg Try.prog 3 = some false by kernel_rfl, show tSize Try.prog 3 = some 1 by kernel_rfl]
  rfl
/-! ### api.Set -/
structure Gs where
  group : ByteArray
  param : Int
  nodes : List Nd
def gs0 : Gs := ⟨⟨#[]⟩, 0, []⟩
def Gs.row (x : Gs) : List AV := [.v (.string x.group), iv x.param, .lst .no 7 (rowsN x.nodes)]
def unGs : List AV → Option Gs
  | [.v (.string c0), .v (.int .i64 c1), .lst .no 7 c2] =>
    match unN c2 with
    | some l2 => some ⟨c0, c1, l2⟩
    | _ => none
  | _ => none
theorem unGs_some {cs : List AV} {x : Gs} (h : unGs cs = some x) : cs = x.row := by
  unfold unGs at h
  split at h
  · split at h
    · rename_i h2
      cases h
      obtain rfl := unN_some h2
      rfl
    · cases h
  · cases h
theorem unGs_row (x : Gs) : unGs x.row = some x := by
  simp only [unGs, Gs.row, iv, unN_rowsN]
def rowsGs (l : List Gs) : List (List AV) := l.map Gs.row
theorem rowsGs_len (l : List Gs) : (rowsGs l).length = l.length := List.length_map ..
theorem rowsGs_app (l l2 : List Gs) : rowsGs l ++ rowsGs l2 = rowsGs (l ++ l2) := List.map_append.symm
theorem rowsGs_take (l : List Gs) (i : Nat) : (rowsGs l).take i = rowsGs (l.take i) := List.map_take.symm
theorem rowsGs_drop (l : List Gs) (i : Nat) : (rowsGs l).drop i = rowsGs (l.drop i) := List.map_drop.symm
theorem rowsGs_get {l : List Gs} {i : Nat} (hi : i < l.length) : (rowsGs l)[i]? = some (l.getD i gs0).row := by
  simp [rowsGs, List.getD, List.getElem?_eq_getElem hi]
def unsGs : List (List AV) → Option (List Gs)
  | [] => some []
  | row :: r =>
    match unGs row, unsGs r with
    | some x, some l => some (x :: l)
    | _, _ => none
theorem unsGs_some : ∀ {rs : List (List AV)} {l : List Gs}, unsGs rs = some l → rs = rowsGs l
  | [], l, h => by simp only [unsGs, Option.some.injEq] at h; subst h; rfl
  | row :: r, l, h => by
    unfold unsGs at h
    split at h
    · rename_i x l' h1 h2
      cases h
      rw [unGs_some h1, unsGs_some h2]
      rfl
    · cases h
theorem unsGs_rowsGs : ∀ (l : List Gs), unsGs (rowsGs l) = some l
  | [] => rfl
  | x :: l => by
    have e : rowsGs (x :: l) = x.row :: rowsGs l := rfl
    rw [e, unsGs, unGs_row, unsGs_rowsGs l]
theorem elGs : tElem Try.prog 60 = some 87 := by simp only [tElem, Try.underlying60]
theorem naGs : tArr Try.prog 60 = none := by simp only [tArr, Try.underlying60]
theorem appGs : appB Try.prog 60 60 3 = true := by kernel_rfl
theorem szGs : tSize Try.prog 87 = some 3 := by kernel_rfl
theorem agGs : tAgg Try.prog 87 = some true := by kernel_rfl
theorem atGs {g : Grow} {kk : IntKind} {l : List Gs} {i : Nat} (hi : i < l.length) : evIndexAddr Try.prog 60 (.lst g 3 (rowsGs l)) (.v (.int kk (i : Int))) = some (.eptr (l.getD i gs0).row) := at_list elGs naGs szGs (rowsGs_get hi)
theorem mapGs {x : Gs} : List.map argCell x.row = x.row := rfl
theorem rowGs {x : Gs} : rowOf (.agg x.row) = some x.row := rfl
theorem cellsGs {x : Gs} : cellsOf (.agg x.row) = some x.row := rfl
theorem newGs {m : Mem} {x : Gs} : newVar m m.vars.length x.row = some (m.push x.row) := newVar_push rfl
theorem ldGs {m : Mem} {x : Gs} : evLoad Try.prog m 87 (.eptr x.row) = some (.agg x.row) := by kernel_rfl
theorem vrGs {m : Mem} {r : Nat} {x : Gs} (hv : m.var r = some x.row) : evLoad Try.prog m 87 (.ptr r 0) = some (.agg x.row) := by
  unfold evLoad
  simp only [ptrCells, hv, Option.map_some, szGs, agGs]
  rfl
def zeroGs : List AV := [.v (.string ⟨#[]⟩), .v (.int .i64 0), .lst .full 7 []]
theorem zrGs : zeroCells Try.prog 87 = some zeroGs := by kernel_rfl
theorem zoGs : zeroGs.all okCell = true := rfl
theorem znGs {m : Mem} : newVar m m.vars.length zeroGs = some (m.push zeroGs) := newVar_push rfl
theorem zsGs {m : Mem} {x : Gs} : evStore Try.prog (m.push zeroGs) 87 (.ptr m.vars.length 0) (.agg x.row) = some (m.push x.row) := by
  rw [store_push (cs := x.row) rfl szGs (Nat.le_refl _) rfl]
  rfl
theorem feGsGroup {x : Gs} : evFieldAddr Try.prog 87 (.eptr x.row) 0 = some (.eptr x.row) := by kernel_rfl
theorem fpGsGroup {r : Nat} : evFieldAddr Try.prog 87 (.ptr r 0) 0 = some (.ptr r 0) := by kernel_rfl
theorem leGsGroup {m : Mem} {x : Gs} : evLoad Try.prog m 9 (.eptr x.row) = some (.v (.string x.group)) := by kernel_rfl
theorem lpGsGroup {m : Mem} {r : Nat} {x : Gs} (hv : m.var r = some x.row) : evLoad Try.prog m 9 (.ptr r 0) = some (.v (.string x.group)) := by
  unfold evLoad
  simp only [ptrCells, hv, Option.map_some]
  rw [show tAgg Try.prog 9 = some false by kernel_rfl, show tSize Try.prog 9 = some 1 by kernel_rfl]
  rfl
theorem feGsParam {x : Gs} : evFieldAddr Try.prog 87 (.eptr x.row) 1 = some (.eptr (x.row.drop 1)) := by kernel_rfl
theorem fpGsParam {r : Nat} : evFieldAddr Try.prog 87 (.ptr r 0) 1 = some (.ptr r 1) := by kernel_rfl
theorem leGsParam {m : Mem} {x : Gs} : evLoad Try.prog m 3 (.eptr (x.row.drop 1)) = some (iv x.param) := by kernel_rfl
theorem lpGsParam {m : Mem} {r : Nat} {x : Gs} (hv : m.var r = some x.row) : evLoad Try.prog m 3 (.ptr r 1) = some (iv x.param) := by
  unfold evLoad
  simp only [ptrCells, hv, Option.map_some]
  rw [show tAgg Try.prog 3 = some false by kernel_rfl, show tSize Try.prog 3 = some 1 by kernel_rfl]
  rfl
theorem feGsNodes {x : Gs} : evFieldAddr Try.prog 87 (.eptr x.row) 2 = some (.eptr (x.row.drop 2)) := by kernel_rfl
theorem fpGsNodes {r : Nat} : evFieldAddr Try.prog 87 (.ptr r 0) 2 = some (.ptr r 2) := by kernel_rfl
theorem leGsNodes {m : Mem} {x : Gs} : evLoad Try.prog m 22 (.eptr (x.row.drop 2)) = some (.lst .no 7 (rowsN x.nodes)) := by kernel_rfl
theorem lpGsNodes {m : Mem} {r : Nat} {x : Gs} (hv : m.var r = some x.row) : evLoad Try.prog m 22 (.ptr r 2) = some (.lst .no 7 (rowsN x.nodes)) := by
  unfold evLoad
  simp only [ptrCells, hv, Option.map_some]
  rw [show tAgg Try.prog 22 = some false by kernel_rfl, show tSize Try.prog 22 = some 1 by kernel_rfl]
  rfl
/-! ### api.Phase -/
structure Ph where
  name : ByteArray
  lenU : Int
  lenN : Int
  frozen : List ByteArray
  sets : List Gs
def ph0 : Ph := ⟨⟨#[]⟩, 0, 0, [], []⟩
def Ph.row (x : Ph) : List AV := [.v (.string x.name), iv x.lenU, iv x.lenN, .lst .no 1 (rowsS x.frozen), .lst .no 3 (rowsGs x.sets)]
def unPh : List AV → Option Ph
  | [.v (.string c0), .v (.int .i64 c1), .v (.int .i64 c2), .lst .no 1 c3, .lst .no 3 c4] =>
    match unS c3, unsGs c4 with
    | some l3, some l4 => some ⟨c0, c1, c2, l3, l4⟩
    | _, _ => none
  | _ => none
theorem unPh_some {cs : List AV} {x : Ph} (h : unPh cs = some x) : cs = x.row := by
  unfold unPh at h
  split at h
  · split at h
    · rename_i h3 h4
      cases h
      obtain rfl := unS_some h3
      obtain rfl := unsGs_some h4
      rfl
    · cases h
  · cases h
theorem unPh_row (x : Ph) : unPh x.row = some x := by
  simp only [unPh, Ph.row, iv, unsGs_rowsGs, unS_rowsS]
def rowsPh (l : List Ph) : List (List AV) := l.map Ph.row
theorem rowsPh_len (l : List Ph) : (rowsPh l).length = l.length := List.length_map ..
theorem rowsPh_app (l l2 : List Ph) : rowsPh l ++ rowsPh l2 = rowsPh (l ++ l2) := List.map_append.symm
theorem rowsPh_take (l : List Ph) (i : Nat) : (rowsPh l).take i = rowsPh (l.take i) := List.map_take.symm
theorem rowsPh_drop (l : List Ph) (i : Nat) : (rowsPh l).drop i = rowsPh (l.drop i) := List.map_drop.symm
theorem rowsPh_get {l : List Ph} {i : Nat} (hi : i < l.length) : (rowsPh l)[i]? = some (l.getD i ph0).row := by
  simp [rowsPh, List.getD, List.getElem?_eq_getElem hi]
def unsPh : List (List AV) → Option (List Ph)
  | [] => some []
  | row :: r =>
    match unPh row, unsPh r with
    | some x, some l => some (x :: l)
    | _, _ => none
theorem unsPh_some : ∀ {rs : List (List AV)} {l : List Ph}, unsPh rs = some l → rs = rowsPh l
  | [], l, h => by simp only [unsPh, Option.some.injEq] at h; subst h; rfl
  | row :: r, l, h => by
    unfold unsPh at h
    split at h
    · rename_i x l' h1 h2
      cases h
      rw [unPh_some h1, unsPh_some h2]
      rfl
    · cases h
theorem unsPh_rowsPh : ∀ (l : List Ph), unsPh (rowsPh l) = some l
  | [] => rfl
  | x :: l => by
    have e : rowsPh (x :: l) = x.row :: rowsPh l := rfl
    rw [e, unsPh, unPh_row, unsPh_rowsPh l]
theorem elPh : tElem Try.prog 63 = some 62 := by simp only [tElem, Try.underlying63]
theorem naPh : tArr Try.prog 63 = none := by simp only [tArr, Try.underlying63]
theorem appPh : appB Try.prog 63 63 5 = true := by kernel_rfl
theorem szPh : tSize Try.prog 62 = some 5 := by kernel_rfl
theorem agPh : tAgg Try.prog 62 = some true := by kernel_rfl
theorem atPh {g : Grow} {kk : IntKind} {l : List Ph} {i : Nat} (hi : i < l.length) : evIndexAddr Try.prog 63 (.lst g 5 (rowsPh l)) (.v (.int kk (i : Int))) = some (.eptr (l.getD i ph0).row) := at_list elPh naPh szPh (rowsPh_get hi)
theorem mapPh {x : Ph} : List.map argCell x.row = x.row := rfl
theorem rowPh {x : Ph} : rowOf (.agg x.row) = some x.row := rfl
theorem cellsPh {x : Ph} : cellsOf (.agg x.row) = some x.row := rfl
theorem newPh {m : Mem} {x : Ph} : newVar m m.vars.length x.row = some (m.push x.row) := newVar_push rfl
theorem ldPh {m : Mem} {x : Ph} : evLoad Try.prog m 62 (.eptr x.row) = some (.agg x.row) := by kernel_rfl
theorem vrPh {m : Mem} {r : Nat} {x : Ph} (hv : m.var r = some x.row) : evLoad Try.prog m 62 (.ptr r 0) = some (.agg x.row) := by
  unfold evLoad
  simp only [ptrCells, hv, Option.map_some, szPh, agPh]
  rfl
def zeroPh : List AV := [.v (.string ⟨#[]⟩), .v (.int .i64 0), .v (.int .i64 0), .lst .full 1 [], .lst .full 3 []]
theorem zrPh : zeroCells Try.prog 62 = some zeroPh := by kernel_rfl
theorem zoPh : zeroPh.all okCell = true := rfl
theorem znPh {m : Mem} : newVar m m.vars.length zeroPh = some (m.push zeroPh) := newVar_push rfl
theorem zsPh {m : Mem} {x : Ph} : evStore Try.prog (m.push zeroPh) 62 (.ptr m.vars.length 0) (.agg x.row) = some (m.push x.row) := by
  rw [store_push (cs := x.row) rfl szPh (Nat.le_refl _) rfl]
  rfl
theorem fePhName {x : Ph} : evFieldAddr Try.prog 62 (.eptr x.row) 0 = some (.eptr x.row) := by kernel_rfl
theorem fpPhName {r : Nat} : evFieldAddr Try.prog 62 (.ptr r 0) 0 = some (.ptr r 0) := by kernel_rfl
theorem lePhName {m : Mem} {x : Ph} : evLoad Try.prog m 9 (.eptr x.row) = some (.v (.string x.name)) := by kernel_rfl
theorem lpPhName {m : Mem} {r : Nat} {x : Ph} (hv : m.var r = some x.row) : evLoad Try.prog m 9 (.ptr r 0) = some (.v (.string x.name)) := by
  unfold evLoad
  simp only [ptrCells, hv, Option.map_some]
  rw [show tAgg Try.prog 9 = some false by kernel_rfl, show tSize Try.prog 9 = some 1 by kernel_rfl]
  rfl
theorem fePhLen {x : Ph} : evFieldAddr Try.prog 62 (.eptr x.row) 1 = some (.eptr (x.row.drop 1)) := by kernel_rfl
theorem fpPhLen {r : Nat} : evFieldAddr Try.prog 62 (.ptr r 0) 1 = some (.ptr r 1) := by kernel_rfl
theorem lePhLen {m : Mem} {x : Ph} : evLoad Try.prog m 54 (.eptr (x.row.drop 1)) = some (.agg [iv x.lenU, iv x.lenN]) := by kernel_rfl
theorem lpPhLen {m : Mem} {r : Nat} {x : Ph} (hv : m.var r = some x.row) : evLoad Try.prog m 54 (.ptr r 1) = some (.agg [iv x.lenU, iv x.lenN]) := by
  unfold evLoad
  simp only [ptrCells, hv, Option.map_some]
  rw [show tAgg Try.prog 54 = some true by kernel_rfl, show tSize Try.prog 54 = some 2 by kernel_rfl]
  rfl
theorem fePhLenU {x : Ph} : evFieldAddr Try.prog 54 (.eptr (x.row.drop 1)) 0 = some (.eptr (x.row.drop 1)) := by kernel_rfl
theorem fpPhLenU {r : Nat} : evFieldAddr Try.prog 54 (.ptr r 1) 0 = some (.ptr r 1) := by kernel_rfl
theorem lePhLenU {m : Mem} {x : Ph} : evLoad Try.prog m 3 (.eptr (x.row.drop 1)) = some (iv x.lenU) := by kernel_rfl
theorem lpPhLenU {m : Mem} {r : Nat} {x : Ph} (hv : m.var r = some x.row) : evLoad Try.prog m 3 (.ptr r 1) = some (iv x.lenU) := by
  unfold evLoad
  simp only [ptrCells, hv, Option.map_some]
  rw [show tAgg Try.prog 3 = some false by kernel_rfl, show tSize Try.prog 3 = some 1 by kernel_rfl]
  rfl
theorem fePhLenN {x : Ph} : evFieldAddr Try.prog 54 (.eptr (x.row.drop 1)) 1 = some (.eptr (x.row.drop 2)) := by kernel_rfl
theorem fpPhLenN {r : Nat} : evFieldAddr Try.prog 54 (.ptr r 1) 1 = some (.ptr r 2) := by kernel_rfl
theorem lePhLenN {m : Mem} {x : Ph} : evLoad Try.prog m 3 (.eptr (x.row.drop 2)) = some (iv x.lenN) := by kernel_rfl
theorem lpPhLenN {m : Mem} {r : Nat} {x : Ph} (hv : m.var r = some x.row) : evLoad Try.prog m 3 (.ptr r 2) = some (iv x.lenN) := by
  unfold evLoad
  simp only [ptrCells, hv, Option.map_some]
  rw [show tAgg Try.prog 3 = some false by kernel_rfl, show tSize Try.prog 3 = some 1 by kernel_rfl]
  rfl
theorem fePhFrozen {x : Ph} : evFieldAddr Try.prog 62 (.eptr x.row) 2 = some (.eptr (x.row.drop 3)) := by kernel_rfl
theorem fpPhFrozen {r : Nat} : evFieldAddr Try.prog 62 (.ptr r 0) 2 = some (.ptr r 3) := by kernel_rfl
theorem lePhFrozen {m : Mem} {x : Ph} : evLoad Try.prog m 38 (.eptr (x.row.drop 3)) = some (.lst .no 1 (rowsS x.frozen)) := by kernel_rfl
theorem lpPhFrozen {m : Mem} {r : Nat} {x : Ph} (hv : m.var r = some x.row) : evLoad Try.prog m 38 (.ptr r 3) = some (.lst .no 1 (rowsS x.frozen)) := by
  unfold evLoad
  simp only [ptrCells, hv, Option.map_some]
  rw [show tAgg Try.prog 38 = some false by kernel_rfl, show tSize Try.prog 38 = some 1 by kernel_rfl]
  rfl
theorem fePhSets {x : Ph} : evFieldAddr Try.prog 62 (.eptr x.row) 3 = some (.eptr (x.row.drop 4)) := by kernel_rfl
theorem fpPhSets {r : Nat} : evFieldAddr Try.prog 62 (.ptr r 0) 3 = some (.ptr r 4) := by kernel_rfl
theorem lePhSets {m : Mem} {x : Ph} : evLoad Try.prog m 60 (.eptr (x.row.drop 4)) = some (.lst .no 3 (rowsGs x.sets)) := by kernel_rfl
theorem lpPhSets {m : Mem} {r : Nat} {x : Ph} (hv : m.var r = some x.row) : evLoad Try.prog m 60 (.ptr r 4) = some (.lst .no 3 (rowsGs x.sets)) := by
  unfold evLoad
  simp only [ptrCells, hv, Option.map_some]
  rw [show tAgg Try.prog 60 = some false by kernel_rfl, show tSize Try.prog 60 = some 1 by kernel_rfl]
  rfl
/-! ### api.Recipe -/
structure Rc where
  name : ByteArray
  steps : Int
  epoch : Int
  weights : Int
  metrics : List ByteArray
  groups : List ByteArray
  eval : Int
  phases : List Ph
  stopOn : Bool
  stopMetric : ByteArray
  stopMax : Bool
  stopPatience : Int
  stopDelta : Int
  stopRel : Bool
  plateauOn : Bool
  plateauMetric : ByteArray
  plateauMax : Bool
  plateauFactor : Int
  plateauPatience : Int
  plateauCooldown : Int
  plateauFloor : Int
  plateauDelta : Int
  keepOn : Bool
  keepMetric : ByteArray
  keepMax : Bool
  keepCount : Int
  emaOn : Bool
  emaDecay : Int
  swaOn : Bool
  swaFromU : Int
  swaFromN : Int
  swaEvery : Int
def rc0 : Rc := ⟨⟨#[]⟩, 0, 0, 0, [], [], 0, [], false, ⟨#[]⟩, false, 0, 0, false, false, ⟨#[]⟩, false, 0, 0, 0, 0, 0, false, ⟨#[]⟩, false, 0, false, 0, false, 0, 0, 0⟩
def Rc.row (x : Rc) : List AV := [.v (.string x.name), iv x.steps, iv x.epoch, iv x.weights, .lst .no 1 (rowsS x.metrics), .lst .no 1 (rowsS x.groups), iv x.eval, .lst .no 5 (rowsPh x.phases), .v (.bool x.stopOn), .v (.string x.stopMetric), .v (.bool x.stopMax), iv x.stopPatience, iv x.stopDelta, .v (.bool x.stopRel), .v (.bool x.plateauOn), .v (.string x.plateauMetric), .v (.bool x.plateauMax), iv x.plateauFactor, iv x.plateauPatience, iv x.plateauCooldown, iv x.plateauFloor, iv x.plateauDelta, .v (.bool x.keepOn), .v (.string x.keepMetric), .v (.bool x.keepMax), iv x.keepCount, .v (.bool x.emaOn), iv x.emaDecay, .v (.bool x.swaOn), iv x.swaFromU, iv x.swaFromN, iv x.swaEvery]
def unRc : List AV → Option Rc
  | [.v (.string c0), .v (.int .i64 c1), .v (.int .i64 c2), .v (.int .i64 c3), .lst .no 1 c4, .lst .no 1 c5, .v (.int .i64 c6), .lst .no 5 c7, .v (.bool c8), .v (.string c9), .v (.bool c10), .v (.int .i64 c11), .v (.int .i64 c12), .v (.bool c13), .v (.bool c14), .v (.string c15), .v (.bool c16), .v (.int .i64 c17), .v (.int .i64 c18), .v (.int .i64 c19), .v (.int .i64 c20), .v (.int .i64 c21), .v (.bool c22), .v (.string c23), .v (.bool c24), .v (.int .i64 c25), .v (.bool c26), .v (.int .i64 c27), .v (.bool c28), .v (.int .i64 c29), .v (.int .i64 c30), .v (.int .i64 c31)] =>
    match unS c4, unS c5, unsPh c7 with
    | some l4, some l5, some l7 => some ⟨c0, c1, c2, c3, l4, l5, c6, l7, c8, c9, c10, c11, c12, c13, c14, c15, c16, c17, c18, c19, c20, c21, c22, c23, c24, c25, c26, c27, c28, c29, c30, c31⟩
    | _, _, _ => none
  | _ => none
theorem unRc_some {cs : List AV} {x : Rc} (h : unRc cs = some x) : cs = x.row := by
  unfold unRc at h
  split at h
  · split at h
    · rename_i h4 h5 h7
      cases h
      obtain rfl := unS_some h4
      obtain rfl := unS_some h5
      obtain rfl := unsPh_some h7
      rfl
    · cases h
  · cases h
theorem unRc_row (x : Rc) : unRc x.row = some x := by
  simp only [unRc, Rc.row, iv, unsPh_rowsPh, unS_rowsS]
theorem szRc : tSize Try.prog 75 = some 32 := by kernel_rfl
theorem agRc : tAgg Try.prog 75 = some true := by kernel_rfl
theorem mapRc {x : Rc} : List.map argCell x.row = x.row := rfl
theorem rowRc {x : Rc} : rowOf (.agg x.row) = some x.row := rfl
theorem cellsRc {x : Rc} : cellsOf (.agg x.row) = some x.row := rfl
theorem newRc {m : Mem} {x : Rc} : newVar m m.vars.length x.row = some (m.push x.row) := newVar_push rfl
theorem ldRc {m : Mem} {x : Rc} : evLoad Try.prog m 75 (.eptr x.row) = some (.agg x.row) := by kernel_rfl
theorem vrRc {m : Mem} {r : Nat} {x : Rc} (hv : m.var r = some x.row) : evLoad Try.prog m 75 (.ptr r 0) = some (.agg x.row) := by
  unfold evLoad
  simp only [ptrCells, hv, Option.map_some, szRc, agRc]
  rfl
def zeroRc : List AV := [.v (.string ⟨#[]⟩), .v (.int .i64 0), .v (.int .i64 0), .v (.int .i64 0), .lst .full 1 [], .lst .full 1 [], .v (.int .i64 0), .lst .full 5 [], .v (.bool false), .v (.string ⟨#[]⟩), .v (.bool false), .v (.int .i64 0), .v (.int .i64 0), .v (.bool false), .v (.bool false), .v (.string ⟨#[]⟩), .v (.bool false), .v (.int .i64 0), .v (.int .i64 0), .v (.int .i64 0), .v (.int .i64 0), .v (.int .i64 0), .v (.bool false), .v (.string ⟨#[]⟩), .v (.bool false), .v (.int .i64 0), .v (.bool false), .v (.int .i64 0), .v (.bool false), .v (.int .i64 0), .v (.int .i64 0), .v (.int .i64 0)]
theorem zrRc : zeroCells Try.prog 75 = some zeroRc := by kernel_rfl
theorem zoRc : zeroRc.all okCell = true := rfl
theorem znRc {m : Mem} : newVar m m.vars.length zeroRc = some (m.push zeroRc) := newVar_push rfl
theorem zsRc {m : Mem} {x : Rc} : evStore Try.prog (m.push zeroRc) 75 (.ptr m.vars.length 0) (.agg x.row) = some (m.push x.row) := by
  rw [store_push (cs := x.row) rfl szRc (Nat.le_refl _) rfl]
  rfl
theorem feRcName {x : Rc} : evFieldAddr Try.prog 75 (.eptr x.row) 0 = some (.eptr x.row) := by kernel_rfl
theorem fpRcName {r : Nat} : evFieldAddr Try.prog 75 (.ptr r 0) 0 = some (.ptr r 0) := by kernel_rfl
theorem leRcName {m : Mem} {x : Rc} : evLoad Try.prog m 9 (.eptr x.row) = some (.v (.string x.name)) := by kernel_rfl
theorem lpRcName {m : Mem} {r : Nat} {x : Rc} (hv : m.var r = some x.row) : evLoad Try.prog m 9 (.ptr r 0) = some (.v (.string x.name)) := by
  unfold evLoad
  simp only [ptrCells, hv, Option.map_some]
  rw [show tAgg Try.prog 9 = some false by kernel_rfl, show tSize Try.prog 9 = some 1 by kernel_rfl]
  rfl
theorem feRcSteps {x : Rc} : evFieldAddr Try.prog 75 (.eptr x.row) 1 = some (.eptr (x.row.drop 1)) := by kernel_rfl
theorem fpRcSteps {r : Nat} : evFieldAddr Try.prog 75 (.ptr r 0) 1 = some (.ptr r 1) := by kernel_rfl
theorem leRcSteps {m : Mem} {x : Rc} : evLoad Try.prog m 3 (.eptr (x.row.drop 1)) = some (iv x.steps) := by kernel_rfl
theorem lpRcSteps {m : Mem} {r : Nat} {x : Rc} (hv : m.var r = some x.row) : evLoad Try.prog m 3 (.ptr r 1) = some (iv x.steps) := by
  unfold evLoad
  simp only [ptrCells, hv, Option.map_some]
  rw [show tAgg Try.prog 3 = some false by kernel_rfl, show tSize Try.prog 3 = some 1 by kernel_rfl]
  rfl
theorem feRcEpoch {x : Rc} : evFieldAddr Try.prog 75 (.eptr x.row) 2 = some (.eptr (x.row.drop 2)) := by kernel_rfl
theorem fpRcEpoch {r : Nat} : evFieldAddr Try.prog 75 (.ptr r 0) 2 = some (.ptr r 2) := by kernel_rfl
theorem leRcEpoch {m : Mem} {x : Rc} : evLoad Try.prog m 3 (.eptr (x.row.drop 2)) = some (iv x.epoch) := by kernel_rfl
theorem lpRcEpoch {m : Mem} {r : Nat} {x : Rc} (hv : m.var r = some x.row) : evLoad Try.prog m 3 (.ptr r 2) = some (iv x.epoch) := by
  unfold evLoad
  simp only [ptrCells, hv, Option.map_some]
  rw [show tAgg Try.prog 3 = some false by kernel_rfl, show tSize Try.prog 3 = some 1 by kernel_rfl]
  rfl
theorem feRcWeights {x : Rc} : evFieldAddr Try.prog 75 (.eptr x.row) 3 = some (.eptr (x.row.drop 3)) := by kernel_rfl
theorem fpRcWeights {r : Nat} : evFieldAddr Try.prog 75 (.ptr r 0) 3 = some (.ptr r 3) := by kernel_rfl
theorem leRcWeights {m : Mem} {x : Rc} : evLoad Try.prog m 3 (.eptr (x.row.drop 3)) = some (iv x.weights) := by kernel_rfl
theorem lpRcWeights {m : Mem} {r : Nat} {x : Rc} (hv : m.var r = some x.row) : evLoad Try.prog m 3 (.ptr r 3) = some (iv x.weights) := by
  unfold evLoad
  simp only [ptrCells, hv, Option.map_some]
  rw [show tAgg Try.prog 3 = some false by kernel_rfl, show tSize Try.prog 3 = some 1 by kernel_rfl]
  rfl
theorem feRcMetrics {x : Rc} : evFieldAddr Try.prog 75 (.eptr x.row) 4 = some (.eptr (x.row.drop 4)) := by kernel_rfl
theorem fpRcMetrics {r : Nat} : evFieldAddr Try.prog 75 (.ptr r 0) 4 = some (.ptr r 4) := by kernel_rfl
theorem leRcMetrics {m : Mem} {x : Rc} : evLoad Try.prog m 38 (.eptr (x.row.drop 4)) = some (.lst .no 1 (rowsS x.metrics)) := by kernel_rfl
theorem lpRcMetrics {m : Mem} {r : Nat} {x : Rc} (hv : m.var r = some x.row) : evLoad Try.prog m 38 (.ptr r 4) = some (.lst .no 1 (rowsS x.metrics)) := by
  unfold evLoad
  simp only [ptrCells, hv, Option.map_some]
  rw [show tAgg Try.prog 38 = some false by kernel_rfl, show tSize Try.prog 38 = some 1 by kernel_rfl]
  rfl
theorem feRcGroups {x : Rc} : evFieldAddr Try.prog 75 (.eptr x.row) 5 = some (.eptr (x.row.drop 5)) := by kernel_rfl
theorem fpRcGroups {r : Nat} : evFieldAddr Try.prog 75 (.ptr r 0) 5 = some (.ptr r 5) := by kernel_rfl
theorem leRcGroups {m : Mem} {x : Rc} : evLoad Try.prog m 38 (.eptr (x.row.drop 5)) = some (.lst .no 1 (rowsS x.groups)) := by kernel_rfl
theorem lpRcGroups {m : Mem} {r : Nat} {x : Rc} (hv : m.var r = some x.row) : evLoad Try.prog m 38 (.ptr r 5) = some (.lst .no 1 (rowsS x.groups)) := by
  unfold evLoad
  simp only [ptrCells, hv, Option.map_some]
  rw [show tAgg Try.prog 38 = some false by kernel_rfl, show tSize Try.prog 38 = some 1 by kernel_rfl]
  rfl
theorem feRcEval {x : Rc} : evFieldAddr Try.prog 75 (.eptr x.row) 6 = some (.eptr (x.row.drop 6)) := by kernel_rfl
theorem fpRcEval {r : Nat} : evFieldAddr Try.prog 75 (.ptr r 0) 6 = some (.ptr r 6) := by kernel_rfl
theorem leRcEval {m : Mem} {x : Rc} : evLoad Try.prog m 3 (.eptr (x.row.drop 6)) = some (iv x.eval) := by kernel_rfl
theorem lpRcEval {m : Mem} {r : Nat} {x : Rc} (hv : m.var r = some x.row) : evLoad Try.prog m 3 (.ptr r 6) = some (iv x.eval) := by
  unfold evLoad
  simp only [ptrCells, hv, Option.map_some]
  rw [show tAgg Try.prog 3 = some false by kernel_rfl, show tSize Try.prog 3 = some 1 by kernel_rfl]
  rfl
theorem feRcPhases {x : Rc} : evFieldAddr Try.prog 75 (.eptr x.row) 7 = some (.eptr (x.row.drop 7)) := by kernel_rfl
theorem fpRcPhases {r : Nat} : evFieldAddr Try.prog 75 (.ptr r 0) 7 = some (.ptr r 7) := by kernel_rfl
theorem leRcPhases {m : Mem} {x : Rc} : evLoad Try.prog m 63 (.eptr (x.row.drop 7)) = some (.lst .no 5 (rowsPh x.phases)) := by kernel_rfl
theorem lpRcPhases {m : Mem} {r : Nat} {x : Rc} (hv : m.var r = some x.row) : evLoad Try.prog m 63 (.ptr r 7) = some (.lst .no 5 (rowsPh x.phases)) := by
  unfold evLoad
  simp only [ptrCells, hv, Option.map_some]
  rw [show tAgg Try.prog 63 = some false by kernel_rfl, show tSize Try.prog 63 = some 1 by kernel_rfl]
  rfl
theorem feRcStop {x : Rc} : evFieldAddr Try.prog 75 (.eptr x.row) 8 = some (.eptr (x.row.drop 8)) := by kernel_rfl
theorem fpRcStop {r : Nat} : evFieldAddr Try.prog 75 (.ptr r 0) 8 = some (.ptr r 8) := by kernel_rfl
theorem leRcStop {m : Mem} {x : Rc} : evLoad Try.prog m 65 (.eptr (x.row.drop 8)) = some (.agg [.v (.bool x.stopOn), .v (.string x.stopMetric), .v (.bool x.stopMax), iv x.stopPatience, iv x.stopDelta, .v (.bool x.stopRel)]) := by kernel_rfl
theorem lpRcStop {m : Mem} {r : Nat} {x : Rc} (hv : m.var r = some x.row) : evLoad Try.prog m 65 (.ptr r 8) = some (.agg [.v (.bool x.stopOn), .v (.string x.stopMetric), .v (.bool x.stopMax), iv x.stopPatience, iv x.stopDelta, .v (.bool x.stopRel)]) := by
  unfold evLoad
  simp only [ptrCells, hv, Option.map_some]
  rw [show tAgg Try.prog 65 = some true by kernel_rfl, show tSize Try.prog 65 = some 6 by kernel_rfl]
  rfl
theorem feRcStopOn {x : Rc} : evFieldAddr Try.prog 65 (.eptr (x.row.drop 8)) 0 = some (.eptr (x.row.drop 8)) := by kernel_rfl
theorem fpRcStopOn {r : Nat} : evFieldAddr Try.prog 65 (.ptr r 8) 0 = some (.ptr r 8) := by kernel_rfl
theorem leRcStopOn {m : Mem} {x : Rc} : evLoad Try.prog m 4 (.eptr (x.row.drop 8)) = some (.v (.bool x.stopOn)) := by kernel_rfl
theorem lpRcStopOn {m : Mem} {r : Nat} {x : Rc} (hv : m.var r = some x.row) : evLoad Try.prog m 4 (.ptr r 8) = some (.v (.bool x.stopOn)) := by
  unfold evLoad
  simp only [ptrCells, hv, Option.map_some]
  rw [show tAgg Try.prog 4 = some false by kernel_rfl, show tSize Try.prog 4 = some 1 by kernel_rfl]
  rfl
theorem feRcStopMetric {x : Rc} : evFieldAddr Try.prog 65 (.eptr (x.row.drop 8)) 1 = some (.eptr (x.row.drop 9)) := by kernel_rfl
theorem fpRcStopMetric {r : Nat} : evFieldAddr Try.prog 65 (.ptr r 8) 1 = some (.ptr r 9) := by kernel_rfl
theorem leRcStopMetric {m : Mem} {x : Rc} : evLoad Try.prog m 9 (.eptr (x.row.drop 9)) = some (.v (.string x.stopMetric)) := by kernel_rfl
theorem lpRcStopMetric {m : Mem} {r : Nat} {x : Rc} (hv : m.var r = some x.row) : evLoad Try.prog m 9 (.ptr r 9) = some (.v (.string x.stopMetric)) := by
  unfold evLoad
  simp only [ptrCells, hv, Option.map_some]
  rw [show tAgg Try.prog 9 = some false by kernel_rfl, show tSize Try.prog 9 = some 1 by kernel_rfl]
  rfl
theorem feRcStopMax {x : Rc} : evFieldAddr Try.prog 65 (.eptr (x.row.drop 8)) 2 = some (.eptr (x.row.drop 10)) := by kernel_rfl
theorem fpRcStopMax {r : Nat} : evFieldAddr Try.prog 65 (.ptr r 8) 2 = some (.ptr r 10) := by kernel_rfl
theorem leRcStopMax {m : Mem} {x : Rc} : evLoad Try.prog m 4 (.eptr (x.row.drop 10)) = some (.v (.bool x.stopMax)) := by kernel_rfl
theorem lpRcStopMax {m : Mem} {r : Nat} {x : Rc} (hv : m.var r = some x.row) : evLoad Try.prog m 4 (.ptr r 10) = some (.v (.bool x.stopMax)) := by
  unfold evLoad
  simp only [ptrCells, hv, Option.map_some]
  rw [show tAgg Try.prog 4 = some false by kernel_rfl, show tSize Try.prog 4 = some 1 by kernel_rfl]
  rfl
theorem feRcStopPatience {x : Rc} : evFieldAddr Try.prog 65 (.eptr (x.row.drop 8)) 3 = some (.eptr (x.row.drop 11)) := by kernel_rfl
theorem fpRcStopPatience {r : Nat} : evFieldAddr Try.prog 65 (.ptr r 8) 3 = some (.ptr r 11) := by kernel_rfl
theorem leRcStopPatience {m : Mem} {x : Rc} : evLoad Try.prog m 3 (.eptr (x.row.drop 11)) = some (iv x.stopPatience) := by kernel_rfl
theorem lpRcStopPatience {m : Mem} {r : Nat} {x : Rc} (hv : m.var r = some x.row) : evLoad Try.prog m 3 (.ptr r 11) = some (iv x.stopPatience) := by
  unfold evLoad
  simp only [ptrCells, hv, Option.map_some]
  rw [show tAgg Try.prog 3 = some false by kernel_rfl, show tSize Try.prog 3 = some 1 by kernel_rfl]
  rfl
theorem feRcStopDelta {x : Rc} : evFieldAddr Try.prog 65 (.eptr (x.row.drop 8)) 4 = some (.eptr (x.row.drop 12)) := by kernel_rfl
theorem fpRcStopDelta {r : Nat} : evFieldAddr Try.prog 65 (.ptr r 8) 4 = some (.ptr r 12) := by kernel_rfl
theorem leRcStopDelta {m : Mem} {x : Rc} : evLoad Try.prog m 3 (.eptr (x.row.drop 12)) = some (iv x.stopDelta) := by kernel_rfl
theorem lpRcStopDelta {m : Mem} {r : Nat} {x : Rc} (hv : m.var r = some x.row) : evLoad Try.prog m 3 (.ptr r 12) = some (iv x.stopDelta) := by
  unfold evLoad
  simp only [ptrCells, hv, Option.map_some]
  rw [show tAgg Try.prog 3 = some false by kernel_rfl, show tSize Try.prog 3 = some 1 by kernel_rfl]
  rfl
theorem feRcStopRel {x : Rc} : evFieldAddr Try.prog 65 (.eptr (x.row.drop 8)) 5 = some (.eptr (x.row.drop 13)) := by kernel_rfl
theorem fpRcStopRel {r : Nat} : evFieldAddr Try.prog 65 (.ptr r 8) 5 = some (.ptr r 13) := by kernel_rfl
theorem leRcStopRel {m : Mem} {x : Rc} : evLoad Try.prog m 4 (.eptr (x.row.drop 13)) = some (.v (.bool x.stopRel)) := by kernel_rfl
theorem lpRcStopRel {m : Mem} {r : Nat} {x : Rc} (hv : m.var r = some x.row) : evLoad Try.prog m 4 (.ptr r 13) = some (.v (.bool x.stopRel)) := by
  unfold evLoad
  simp only [ptrCells, hv, Option.map_some]
  rw [show tAgg Try.prog 4 = some false by kernel_rfl, show tSize Try.prog 4 = some 1 by kernel_rfl]
  rfl
theorem feRcPlateau {x : Rc} : evFieldAddr Try.prog 75 (.eptr x.row) 9 = some (.eptr (x.row.drop 14)) := by kernel_rfl
theorem fpRcPlateau {r : Nat} : evFieldAddr Try.prog 75 (.ptr r 0) 9 = some (.ptr r 14) := by kernel_rfl
theorem leRcPlateau {m : Mem} {x : Rc} : evLoad Try.prog m 67 (.eptr (x.row.drop 14)) = some (.agg [.v (.bool x.plateauOn), .v (.string x.plateauMetric), .v (.bool x.plateauMax), iv x.plateauFactor, iv x.plateauPatience, iv x.plateauCooldown, iv x.plateauFloor, iv x.plateauDelta]) := by kernel_rfl
theorem lpRcPlateau {m : Mem} {r : Nat} {x : Rc} (hv : m.var r = some x.row) : evLoad Try.prog m 67 (.ptr r 14) = some (.agg [.v (.bool x.plateauOn), .v (.string x.plateauMetric), .v (.bool x.plateauMax), iv x.plateauFactor, iv x.plateauPatience, iv x.plateauCooldown, iv x.plateauFloor, iv x.plateauDelta]) := by
  unfold evLoad
  simp only [ptrCells, hv, Option.map_some]
  rw [show tAgg Try.prog 67 = some true by kernel_rfl, show tSize Try.prog 67 = some 8 by kernel_rfl]
  rfl
theorem feRcPlateauOn {x : Rc} : evFieldAddr Try.prog 67 (.eptr (x.row.drop 14)) 0 = some (.eptr (x.row.drop 14)) := by kernel_rfl
theorem fpRcPlateauOn {r : Nat} : evFieldAddr Try.prog 67 (.ptr r 14) 0 = some (.ptr r 14) := by kernel_rfl
theorem leRcPlateauOn {m : Mem} {x : Rc} : evLoad Try.prog m 4 (.eptr (x.row.drop 14)) = some (.v (.bool x.plateauOn)) := by kernel_rfl
theorem lpRcPlateauOn {m : Mem} {r : Nat} {x : Rc} (hv : m.var r = some x.row) : evLoad Try.prog m 4 (.ptr r 14) = some (.v (.bool x.plateauOn)) := by
  unfold evLoad
  simp only [ptrCells, hv, Option.map_some]
  rw [show tAgg Try.prog 4 = some false by kernel_rfl, show tSize Try.prog 4 = some 1 by kernel_rfl]
  rfl
theorem feRcPlateauMetric {x : Rc} : evFieldAddr Try.prog 67 (.eptr (x.row.drop 14)) 1 = some (.eptr (x.row.drop 15)) := by kernel_rfl
theorem fpRcPlateauMetric {r : Nat} : evFieldAddr Try.prog 67 (.ptr r 14) 1 = some (.ptr r 15) := by kernel_rfl
theorem leRcPlateauMetric {m : Mem} {x : Rc} : evLoad Try.prog m 9 (.eptr (x.row.drop 15)) = some (.v (.string x.plateauMetric)) := by kernel_rfl
theorem lpRcPlateauMetric {m : Mem} {r : Nat} {x : Rc} (hv : m.var r = some x.row) : evLoad Try.prog m 9 (.ptr r 15) = some (.v (.string x.plateauMetric)) := by
  unfold evLoad
  simp only [ptrCells, hv, Option.map_some]
  rw [show tAgg Try.prog 9 = some false by kernel_rfl, show tSize Try.prog 9 = some 1 by kernel_rfl]
  rfl
theorem feRcPlateauMax {x : Rc} : evFieldAddr Try.prog 67 (.eptr (x.row.drop 14)) 2 = some (.eptr (x.row.drop 16)) := by kernel_rfl
theorem fpRcPlateauMax {r : Nat} : evFieldAddr Try.prog 67 (.ptr r 14) 2 = some (.ptr r 16) := by kernel_rfl
theorem leRcPlateauMax {m : Mem} {x : Rc} : evLoad Try.prog m 4 (.eptr (x.row.drop 16)) = some (.v (.bool x.plateauMax)) := by kernel_rfl
theorem lpRcPlateauMax {m : Mem} {r : Nat} {x : Rc} (hv : m.var r = some x.row) : evLoad Try.prog m 4 (.ptr r 16) = some (.v (.bool x.plateauMax)) := by
  unfold evLoad
  simp only [ptrCells, hv, Option.map_some]
  rw [show tAgg Try.prog 4 = some false by kernel_rfl, show tSize Try.prog 4 = some 1 by kernel_rfl]
  rfl
theorem feRcPlateauFactor {x : Rc} : evFieldAddr Try.prog 67 (.eptr (x.row.drop 14)) 3 = some (.eptr (x.row.drop 17)) := by kernel_rfl
theorem fpRcPlateauFactor {r : Nat} : evFieldAddr Try.prog 67 (.ptr r 14) 3 = some (.ptr r 17) := by kernel_rfl
theorem leRcPlateauFactor {m : Mem} {x : Rc} : evLoad Try.prog m 3 (.eptr (x.row.drop 17)) = some (iv x.plateauFactor) := by kernel_rfl
theorem lpRcPlateauFactor {m : Mem} {r : Nat} {x : Rc} (hv : m.var r = some x.row) : evLoad Try.prog m 3 (.ptr r 17) = some (iv x.plateauFactor) := by
  unfold evLoad
  simp only [ptrCells, hv, Option.map_some]
  rw [show tAgg Try.prog 3 = some false by kernel_rfl, show tSize Try.prog 3 = some 1 by kernel_rfl]
  rfl
theorem feRcPlateauPatience {x : Rc} : evFieldAddr Try.prog 67 (.eptr (x.row.drop 14)) 4 = some (.eptr (x.row.drop 18)) := by kernel_rfl
theorem fpRcPlateauPatience {r : Nat} : evFieldAddr Try.prog 67 (.ptr r 14) 4 = some (.ptr r 18) := by kernel_rfl
theorem leRcPlateauPatience {m : Mem} {x : Rc} : evLoad Try.prog m 3 (.eptr (x.row.drop 18)) = some (iv x.plateauPatience) := by kernel_rfl
theorem lpRcPlateauPatience {m : Mem} {r : Nat} {x : Rc} (hv : m.var r = some x.row) : evLoad Try.prog m 3 (.ptr r 18) = some (iv x.plateauPatience) := by
  unfold evLoad
  simp only [ptrCells, hv, Option.map_some]
  rw [show tAgg Try.prog 3 = some false by kernel_rfl, show tSize Try.prog 3 = some 1 by kernel_rfl]
  rfl
theorem feRcPlateauCooldown {x : Rc} : evFieldAddr Try.prog 67 (.eptr (x.row.drop 14)) 5 = some (.eptr (x.row.drop 19)) := by kernel_rfl
theorem fpRcPlateauCooldown {r : Nat} : evFieldAddr Try.prog 67 (.ptr r 14) 5 = some (.ptr r 19) := by kernel_rfl
theorem leRcPlateauCooldown {m : Mem} {x : Rc} : evLoad Try.prog m 3 (.eptr (x.row.drop 19)) = some (iv x.plateauCooldown) := by kernel_rfl
theorem lpRcPlateauCooldown {m : Mem} {r : Nat} {x : Rc} (hv : m.var r = some x.row) : evLoad Try.prog m 3 (.ptr r 19) = some (iv x.plateauCooldown) := by
  unfold evLoad
  simp only [ptrCells, hv, Option.map_some]
  rw [show tAgg Try.prog 3 = some false by kernel_rfl, show tSize Try.prog 3 = some 1 by kernel_rfl]
  rfl
theorem feRcPlateauFloor {x : Rc} : evFieldAddr Try.prog 67 (.eptr (x.row.drop 14)) 6 = some (.eptr (x.row.drop 20)) := by kernel_rfl
theorem fpRcPlateauFloor {r : Nat} : evFieldAddr Try.prog 67 (.ptr r 14) 6 = some (.ptr r 20) := by kernel_rfl
theorem leRcPlateauFloor {m : Mem} {x : Rc} : evLoad Try.prog m 3 (.eptr (x.row.drop 20)) = some (iv x.plateauFloor) := by kernel_rfl
theorem lpRcPlateauFloor {m : Mem} {r : Nat} {x : Rc} (hv : m.var r = some x.row) : evLoad Try.prog m 3 (.ptr r 20) = some (iv x.plateauFloor) := by
  unfold evLoad
  simp only [ptrCells, hv, Option.map_some]
  rw [show tAgg Try.prog 3 = some false by kernel_rfl, show tSize Try.prog 3 = some 1 by kernel_rfl]
  rfl
theorem feRcPlateauDelta {x : Rc} : evFieldAddr Try.prog 67 (.eptr (x.row.drop 14)) 7 = some (.eptr (x.row.drop 21)) := by kernel_rfl
theorem fpRcPlateauDelta {r : Nat} : evFieldAddr Try.prog 67 (.ptr r 14) 7 = some (.ptr r 21) := by kernel_rfl
theorem leRcPlateauDelta {m : Mem} {x : Rc} : evLoad Try.prog m 3 (.eptr (x.row.drop 21)) = some (iv x.plateauDelta) := by kernel_rfl
theorem lpRcPlateauDelta {m : Mem} {r : Nat} {x : Rc} (hv : m.var r = some x.row) : evLoad Try.prog m 3 (.ptr r 21) = some (iv x.plateauDelta) := by
  unfold evLoad
  simp only [ptrCells, hv, Option.map_some]
  rw [show tAgg Try.prog 3 = some false by kernel_rfl, show tSize Try.prog 3 = some 1 by kernel_rfl]
  rfl
theorem feRcKeep {x : Rc} : evFieldAddr Try.prog 75 (.eptr x.row) 10 = some (.eptr (x.row.drop 22)) := by kernel_rfl
theorem fpRcKeep {r : Nat} : evFieldAddr Try.prog 75 (.ptr r 0) 10 = some (.ptr r 22) := by kernel_rfl
theorem leRcKeep {m : Mem} {x : Rc} : evLoad Try.prog m 69 (.eptr (x.row.drop 22)) = some (.agg [.v (.bool x.keepOn), .v (.string x.keepMetric), .v (.bool x.keepMax), iv x.keepCount]) := by kernel_rfl
theorem lpRcKeep {m : Mem} {r : Nat} {x : Rc} (hv : m.var r = some x.row) : evLoad Try.prog m 69 (.ptr r 22) = some (.agg [.v (.bool x.keepOn), .v (.string x.keepMetric), .v (.bool x.keepMax), iv x.keepCount]) := by
  unfold evLoad
  simp only [ptrCells, hv, Option.map_some]
  rw [show tAgg Try.prog 69 = some true by kernel_rfl, show tSize Try.prog 69 = some 4 by kernel_rfl]
  rfl
theorem feRcKeepOn {x : Rc} : evFieldAddr Try.prog 69 (.eptr (x.row.drop 22)) 0 = some (.eptr (x.row.drop 22)) := by kernel_rfl
theorem fpRcKeepOn {r : Nat} : evFieldAddr Try.prog 69 (.ptr r 22) 0 = some (.ptr r 22) := by kernel_rfl
theorem leRcKeepOn {m : Mem} {x : Rc} : evLoad Try.prog m 4 (.eptr (x.row.drop 22)) = some (.v (.bool x.keepOn)) := by kernel_rfl
theorem lpRcKeepOn {m : Mem} {r : Nat} {x : Rc} (hv : m.var r = some x.row) : evLoad Try.prog m 4 (.ptr r 22) = some (.v (.bool x.keepOn)) := by
  unfold evLoad
  simp only [ptrCells, hv, Option.map_some]
  rw [show tAgg Try.prog 4 = some false by kernel_rfl, show tSize Try.prog 4 = some 1 by kernel_rfl]
  rfl
theorem feRcKeepMetric {x : Rc} : evFieldAddr Try.prog 69 (.eptr (x.row.drop 22)) 1 = some (.eptr (x.row.drop 23)) := by kernel_rfl
theorem fpRcKeepMetric {r : Nat} : evFieldAddr Try.prog 69 (.ptr r 22) 1 = some (.ptr r 23) := by kernel_rfl
theorem leRcKeepMetric {m : Mem} {x : Rc} : evLoad Try.prog m 9 (.eptr (x.row.drop 23)) = some (.v (.string x.keepMetric)) := by kernel_rfl
theorem lpRcKeepMetric {m : Mem} {r : Nat} {x : Rc} (hv : m.var r = some x.row) : evLoad Try.prog m 9 (.ptr r 23) = some (.v (.string x.keepMetric)) := by
  unfold evLoad
  simp only [ptrCells, hv, Option.map_some]
  rw [show tAgg Try.prog 9 = some false by kernel_rfl, show tSize Try.prog 9 = some 1 by kernel_rfl]
  rfl
theorem feRcKeepMax {x : Rc} : evFieldAddr Try.prog 69 (.eptr (x.row.drop 22)) 2 = some (.eptr (x.row.drop 24)) := by kernel_rfl
theorem fpRcKeepMax {r : Nat} : evFieldAddr Try.prog 69 (.ptr r 22) 2 = some (.ptr r 24) := by kernel_rfl
theorem leRcKeepMax {m : Mem} {x : Rc} : evLoad Try.prog m 4 (.eptr (x.row.drop 24)) = some (.v (.bool x.keepMax)) := by kernel_rfl
theorem lpRcKeepMax {m : Mem} {r : Nat} {x : Rc} (hv : m.var r = some x.row) : evLoad Try.prog m 4 (.ptr r 24) = some (.v (.bool x.keepMax)) := by
  unfold evLoad
  simp only [ptrCells, hv, Option.map_some]
  rw [show tAgg Try.prog 4 = some false by kernel_rfl, show tSize Try.prog 4 = some 1 by kernel_rfl]
  rfl
theorem feRcKeepCount {x : Rc} : evFieldAddr Try.prog 69 (.eptr (x.row.drop 22)) 3 = some (.eptr (x.row.drop 25)) := by kernel_rfl
theorem fpRcKeepCount {r : Nat} : evFieldAddr Try.prog 69 (.ptr r 22) 3 = some (.ptr r 25) := by kernel_rfl
theorem leRcKeepCount {m : Mem} {x : Rc} : evLoad Try.prog m 3 (.eptr (x.row.drop 25)) = some (iv x.keepCount) := by kernel_rfl
theorem lpRcKeepCount {m : Mem} {r : Nat} {x : Rc} (hv : m.var r = some x.row) : evLoad Try.prog m 3 (.ptr r 25) = some (iv x.keepCount) := by
  unfold evLoad
  simp only [ptrCells, hv, Option.map_some]
  rw [show tAgg Try.prog 3 = some false by kernel_rfl, show tSize Try.prog 3 = some 1 by kernel_rfl]
  rfl
theorem feRcEma {x : Rc} : evFieldAddr Try.prog 75 (.eptr x.row) 11 = some (.eptr (x.row.drop 26)) := by kernel_rfl
theorem fpRcEma {r : Nat} : evFieldAddr Try.prog 75 (.ptr r 0) 11 = some (.ptr r 26) := by kernel_rfl
theorem leRcEma {m : Mem} {x : Rc} : evLoad Try.prog m 71 (.eptr (x.row.drop 26)) = some (.agg [.v (.bool x.emaOn), iv x.emaDecay]) := by kernel_rfl
theorem lpRcEma {m : Mem} {r : Nat} {x : Rc} (hv : m.var r = some x.row) : evLoad Try.prog m 71 (.ptr r 26) = some (.agg [.v (.bool x.emaOn), iv x.emaDecay]) := by
  unfold evLoad
  simp only [ptrCells, hv, Option.map_some]
  rw [show tAgg Try.prog 71 = some true by kernel_rfl, show tSize Try.prog 71 = some 2 by kernel_rfl]
  rfl
theorem feRcEmaOn {x : Rc} : evFieldAddr Try.prog 71 (.eptr (x.row.drop 26)) 0 = some (.eptr (x.row.drop 26)) := by kernel_rfl
theorem fpRcEmaOn {r : Nat} : evFieldAddr Try.prog 71 (.ptr r 26) 0 = some (.ptr r 26) := by kernel_rfl
theorem leRcEmaOn {m : Mem} {x : Rc} : evLoad Try.prog m 4 (.eptr (x.row.drop 26)) = some (.v (.bool x.emaOn)) := by kernel_rfl
theorem lpRcEmaOn {m : Mem} {r : Nat} {x : Rc} (hv : m.var r = some x.row) : evLoad Try.prog m 4 (.ptr r 26) = some (.v (.bool x.emaOn)) := by
  unfold evLoad
  simp only [ptrCells, hv, Option.map_some]
  rw [show tAgg Try.prog 4 = some false by kernel_rfl, show tSize Try.prog 4 = some 1 by kernel_rfl]
  rfl
theorem feRcEmaDecay {x : Rc} : evFieldAddr Try.prog 71 (.eptr (x.row.drop 26)) 1 = some (.eptr (x.row.drop 27)) := by kernel_rfl
theorem fpRcEmaDecay {r : Nat} : evFieldAddr Try.prog 71 (.ptr r 26) 1 = some (.ptr r 27) := by kernel_rfl
theorem leRcEmaDecay {m : Mem} {x : Rc} : evLoad Try.prog m 3 (.eptr (x.row.drop 27)) = some (iv x.emaDecay) := by kernel_rfl
theorem lpRcEmaDecay {m : Mem} {r : Nat} {x : Rc} (hv : m.var r = some x.row) : evLoad Try.prog m 3 (.ptr r 27) = some (iv x.emaDecay) := by
  unfold evLoad
  simp only [ptrCells, hv, Option.map_some]
  rw [show tAgg Try.prog 3 = some false by kernel_rfl, show tSize Try.prog 3 = some 1 by kernel_rfl]
  rfl
theorem feRcSwa {x : Rc} : evFieldAddr Try.prog 75 (.eptr x.row) 12 = some (.eptr (x.row.drop 28)) := by kernel_rfl
theorem fpRcSwa {r : Nat} : evFieldAddr Try.prog 75 (.ptr r 0) 12 = some (.ptr r 28) := by kernel_rfl
theorem leRcSwa {m : Mem} {x : Rc} : evLoad Try.prog m 73 (.eptr (x.row.drop 28)) = some (.agg [.v (.bool x.swaOn), iv x.swaFromU, iv x.swaFromN, iv x.swaEvery]) := by kernel_rfl
theorem lpRcSwa {m : Mem} {r : Nat} {x : Rc} (hv : m.var r = some x.row) : evLoad Try.prog m 73 (.ptr r 28) = some (.agg [.v (.bool x.swaOn), iv x.swaFromU, iv x.swaFromN, iv x.swaEvery]) := by
  unfold evLoad
  simp only [ptrCells, hv, Option.map_some]
  rw [show tAgg Try.prog 73 = some true by kernel_rfl, show tSize Try.prog 73 = some 4 by kernel_rfl]
  rfl
theorem feRcSwaOn {x : Rc} : evFieldAddr Try.prog 73 (.eptr (x.row.drop 28)) 0 = some (.eptr (x.row.drop 28)) := by kernel_rfl
theorem fpRcSwaOn {r : Nat} : evFieldAddr Try.prog 73 (.ptr r 28) 0 = some (.ptr r 28) := by kernel_rfl
theorem leRcSwaOn {m : Mem} {x : Rc} : evLoad Try.prog m 4 (.eptr (x.row.drop 28)) = some (.v (.bool x.swaOn)) := by kernel_rfl
theorem lpRcSwaOn {m : Mem} {r : Nat} {x : Rc} (hv : m.var r = some x.row) : evLoad Try.prog m 4 (.ptr r 28) = some (.v (.bool x.swaOn)) := by
  unfold evLoad
  simp only [ptrCells, hv, Option.map_some]
  rw [show tAgg Try.prog 4 = some false by kernel_rfl, show tSize Try.prog 4 = some 1 by kernel_rfl]
  rfl
theorem feRcSwaFrom {x : Rc} : evFieldAddr Try.prog 73 (.eptr (x.row.drop 28)) 1 = some (.eptr (x.row.drop 29)) := by kernel_rfl
theorem fpRcSwaFrom {r : Nat} : evFieldAddr Try.prog 73 (.ptr r 28) 1 = some (.ptr r 29) := by kernel_rfl
theorem leRcSwaFrom {m : Mem} {x : Rc} : evLoad Try.prog m 54 (.eptr (x.row.drop 29)) = some (.agg [iv x.swaFromU, iv x.swaFromN]) := by kernel_rfl
theorem lpRcSwaFrom {m : Mem} {r : Nat} {x : Rc} (hv : m.var r = some x.row) : evLoad Try.prog m 54 (.ptr r 29) = some (.agg [iv x.swaFromU, iv x.swaFromN]) := by
  unfold evLoad
  simp only [ptrCells, hv, Option.map_some]
  rw [show tAgg Try.prog 54 = some true by kernel_rfl, show tSize Try.prog 54 = some 2 by kernel_rfl]
  rfl
theorem feRcSwaFromU {x : Rc} : evFieldAddr Try.prog 54 (.eptr (x.row.drop 29)) 0 = some (.eptr (x.row.drop 29)) := by kernel_rfl
theorem fpRcSwaFromU {r : Nat} : evFieldAddr Try.prog 54 (.ptr r 29) 0 = some (.ptr r 29) := by kernel_rfl
theorem leRcSwaFromU {m : Mem} {x : Rc} : evLoad Try.prog m 3 (.eptr (x.row.drop 29)) = some (iv x.swaFromU) := by kernel_rfl
theorem lpRcSwaFromU {m : Mem} {r : Nat} {x : Rc} (hv : m.var r = some x.row) : evLoad Try.prog m 3 (.ptr r 29) = some (iv x.swaFromU) := by
  unfold evLoad
  simp only [ptrCells, hv, Option.map_some]
  rw [show tAgg Try.prog 3 = some false by kernel_rfl, show tSize Try.prog 3 = some 1 by kernel_rfl]
  rfl
theorem feRcSwaFromN {x : Rc} : evFieldAddr Try.prog 54 (.eptr (x.row.drop 29)) 1 = some (.eptr (x.row.drop 30)) := by kernel_rfl
theorem fpRcSwaFromN {r : Nat} : evFieldAddr Try.prog 54 (.ptr r 29) 1 = some (.ptr r 30) := by kernel_rfl
theorem leRcSwaFromN {m : Mem} {x : Rc} : evLoad Try.prog m 3 (.eptr (x.row.drop 30)) = some (iv x.swaFromN) := by kernel_rfl
theorem lpRcSwaFromN {m : Mem} {r : Nat} {x : Rc} (hv : m.var r = some x.row) : evLoad Try.prog m 3 (.ptr r 30) = some (iv x.swaFromN) := by
  unfold evLoad
  simp only [ptrCells, hv, Option.map_some]
  rw [show tAgg Try.prog 3 = some false by kernel_rfl, show tSize Try.prog 3 = some 1 by kernel_rfl]
  rfl
theorem feRcSwaEvery {x : Rc} : evFieldAddr Try.prog 73 (.eptr (x.row.drop 28)) 2 = some (.eptr (x.row.drop 31)) := by kernel_rfl
theorem fpRcSwaEvery {r : Nat} : evFieldAddr Try.prog 73 (.ptr r 28) 2 = some (.ptr r 31) := by kernel_rfl
theorem leRcSwaEvery {m : Mem} {x : Rc} : evLoad Try.prog m 3 (.eptr (x.row.drop 31)) = some (iv x.swaEvery) := by kernel_rfl
theorem lpRcSwaEvery {m : Mem} {r : Nat} {x : Rc} (hv : m.var r = some x.row) : evLoad Try.prog m 3 (.ptr r 31) = some (iv x.swaEvery) := by
  unfold evLoad
  simp only [ptrCells, hv, Option.map_some]
  rw [show tAgg Try.prog 3 = some false by kernel_rfl, show tSize Try.prog 3 = some 1 by kernel_rfl]
  rfl
end Go.Proofs.Ytojaokhkbmiidaa.Ev

namespace Go.Proofs.Ytojaokhkbmiidaa.Ev
open Go Go.Proofs
set_option maxRecDepth 10000
set_option linter.unusedVariables false
set_option linter.unusedSimpArgs false
attribute [local irreducible] Next Inside Runs Ops table
/-! ### the first text that .. -/
def firstAt (p : ByteArray → Bool) : List ByteArray → Nat → Int
  | [], _ => -1
  | s :: l, i => if p s then (i : Int) else firstAt p l (i + 1)
theorem firstAt_in (p : ByteArray → Bool) : ∀ (l : List ByteArray) (i : Nat), -1 ≤ firstAt p l i ∧ firstAt p l i < (i + l.length : Nat)
  | [], i => by simp [firstAt]; omega
  | s :: l, i => by
    rw [firstAt]
    split
    · simp only [List.length_cons]; omega
    · have := firstAt_in p l (i + 1)
      simp only [List.length_cons]; omega
theorem firstAt_any (p : ByteArray → Bool) : ∀ (l : List ByteArray) (i : Nat), decide (0 ≤ firstAt p l i) = l.any p
  | [], i => by simp [firstAt]
  | s :: l, i => by
    rw [firstAt]
    cases h : p s with
    | true => simp [h]
    | false => simp only [Bool.false_eq_true, if_false, firstAt_any p l (i + 1), List.any_cons, h, Bool.false_or]
def placeOf (l : List ByteArray) (s : ByteArray) : Int := firstAt (fun x => decide (x = s)) l 0
def placeG : List AV → Mem → Option (AV × Mem)
  | [.lst _ 1 rows, .v (.string s)], m =>
    match unS rows with
    | some l => if l.length ≤ 9223372036854775807 then some (.v (.int .i64 (placeOf l s)), m) else none
    | none => none
  | _, _ => none
theorem placeG_eq {m : Mem} {g : Grow} {l : List ByteArray} {s : ByteArray} (hl : l.length ≤ 9223372036854775807) : placeG [.lst g 1 (rowsS l), .v (.string s)] m = some (.v (.int .i64 (placeOf l s)), m) := by
  simp only [placeG, unS_rowsS]
  rw [if_pos hl]
theorem first_no {p : ByteArray → Bool} {l : List ByteArray} {i : Nat} (hi : i < l.length) (hp : p (l.getD i ⟨#[]⟩) = false) (h : firstAt p (l.drop i) i = firstAt p l 0) : firstAt p (l.drop (i + 1)) (i + 1) = firstAt p l 0 := by
  rw [drop_next (d := ⟨#[]⟩) hi, firstAt, hp, if_neg (by simp)] at h
  exact h
theorem first_yes {p : ByteArray → Bool} {l : List ByteArray} {i : Nat} (hi : i < l.length) (hp : p (l.getD i ⟨#[]⟩) = true) (h : firstAt p (l.drop i) i = firstAt p l 0) : firstAt p l 0 = (i : Int) := by
  rw [drop_next (d := ⟨#[]⟩) hi, firstAt, hp, if_pos rfl] at h
  exact h.symm
theorem first_end {p : ByteArray → Bool} {l : List ByteArray} (h : firstAt p (l.drop l.length) l.length = firstAt p l 0) : firstAt p l 0 = -1 := by
  rw [List.drop_length] at h
  exact h.symm
def kpRefPlace : Nat → Option (List Nat) := fun _ => some [0, 1, 4, 5, 9, 17]
def kpIndex : Nat → Option (List Nat) := fun _ => some [0, 1, 4, 5, 7, 8, 9, 16]
theorem index_ok : FunOk Try.prog 114 placeG := by
  have hC := table_ok (P := Try.prog) (l := []) table_nil
  refine fun_ok mixed hC Try.func114 rfl kpIndex false rfl fun args m r h => ?_
  unfold placeG at h
  split at h
  · rename_i g rows s
    split at h
    · rename_i l hl0
      obtain rfl := unS_some hl0
      split at h
      · rename_i hlen
        simp only [Option.some.injEq] at h
        subst h
        refine ⟨Nat.le_of_ble_eq_true rfl, ?_⟩
        simp only [entry, List.length_cons, List.length_nil, List.range, List.range.loop, List.zip_cons_cons, List.zip_nil_right]
        repeat (first | refine runs_seq ?_ | refine runs_block ?_ | refine next_normal ?_ | refine inside_normal ?_ | refine next_exit ?_ | refine inside_exit ?_ | refine inside_other (by decide) ?_ | refine next_ret ?_ | refine inside_ret ?_ | refine runs_ops_kept ?_ | refine runs_skip ?_ | refine runs_exit ?_ | refine runs_ret ?_ | ((first | refine' ops_op rfl rfl (by decide) ?_ ?_ ?_ | refine' ops_yes rfl rfl (by simp only [Ev.get, reduceIte, Nat.reduceEqDiff]; first | done | rfl) rfl (by decide) ?_ ?_ ?_ | refine' ops_op0 rfl rfl ?_ ?_ ?_); rotate_left 2; (focus (simp only [evOp, opd, constAV, constCell, Ev.get, reduceIte, Nat.reduceEqDiff, reduceCtorEq, evBinN, nilCmp, evBin, evInt, evUn, evConvert, evBuiltin, evLen, evField, evPart, tStr, tInt, tElem, tArr, tBool, tAgg, tField, Try.underlying9, Try.underlying3, Try.underlying4, Try.underlying5, Try.underlying38, Try.underlying2, List.zipWith, Option.map_some, Option.map_none, List.length_cons, List.length_nil, ne_eq, Int.reduceEq, not_false_eq_true, and_self, and_true, true_and, szStr, szInt, Option.getD_some, isNil, loadStr, loadInt, mkInts0, mkInts1, mkStrs0, mkStrs1, rowsS_len, rowsI_len, evStr, evCall, List.size_toArray, List.append_nil, List.nil_append, List.map_cons, List.map_nil, argAV, argCell, List.toList_toArray, fieldTy]; first | done | rfl)); exact (fun h => by first | rfl | (simp at h; done) | exact absurd (Bool.and_eq_true_iff.mp h).2 (by decide))) | refine ops_no rfl rfl (by simp only [Ev.get, reduceIte, Nat.reduceEqDiff]; first | done | rfl) (by decide) rfl (by decide) ?_ | refine ops_off rfl rfl rfl rfl (by decide) ?_ | (refine ops_nil ?_; intro e2 h2; simp only [restr, kpIndex, List.map_cons, List.map_nil, Ev.get, reduceIte, Nat.reduceEqDiff] at h2; subst h2))
        refine runs_loop (fun k e m' => ∃ (i : Nat) (x5 x9 x16 : AV), i ≤ l.length ∧ firstAt (fun x => decide (x = s)) (l.drop i) i = placeOf l s ∧ m = m' ∧ k = l.length - i ∧
          e = [(0, AV.lst g 1 (rowsS l)), (1, .v (.string s)), (4, .v (.int .i64 0)), (5, x5), (7, .v (.int .i64 l.length)), (8, .v (.int .i64 (i : Int))), (9, x9), (16, x16)]) (k := l.length) ⟨0, _, _, _, Nat.zero_le _, rfl, rfl, rfl, rfl⟩ ?_
        rintro k e m' ⟨i, x5, x9, x16, hi, hf, rfl, rfl, rfl⟩
        repeat (first | refine runs_seq ?_ | refine runs_block ?_ | refine next_normal ?_ | refine inside_normal ?_ | refine next_exit ?_ | refine inside_exit ?_ | refine inside_other (by decide) ?_ | refine next_ret ?_ | refine inside_ret ?_ | refine runs_ops_kept ?_ | refine runs_skip ?_ | refine runs_exit ?_ | refine runs_ret ?_ | ((first | refine' ops_op rfl rfl (by decide) ?_ ?_ ?_ | refine' ops_yes rfl rfl (by simp only [Ev.get, reduceIte, Nat.reduceEqDiff]; first | done | rfl) rfl (by decide) ?_ ?_ ?_ | refine' ops_op0 rfl rfl ?_ ?_ ?_); rotate_left 2; (focus (simp only [evOp, opd, constAV, constCell, Ev.get, reduceIte, Nat.reduceEqDiff, reduceCtorEq, evBinN, nilCmp, evBin, evInt, evUn, evConvert, evBuiltin, evLen, evField, evPart, tStr, tInt, tElem, tArr, tBool, tAgg, tField, Try.underlying9, Try.underlying3, Try.underlying4, Try.underlying5, Try.underlying38, Try.underlying2, List.zipWith, Option.map_some, Option.map_none, List.length_cons, List.length_nil, ne_eq, Int.reduceEq, not_false_eq_true, and_self, and_true, true_and, szStr, szInt, Option.getD_some, isNil, loadStr, loadInt, mkInts0, mkInts1, mkStrs0, mkStrs1, rowsS_len, rowsI_len, evStr, evCall, List.size_toArray, List.append_nil, List.nil_append, List.map_cons, List.map_nil, argAV, argCell, List.toList_toArray, fieldTy]; first | done | rfl)); exact (fun h => by first | rfl | (simp at h; done) | exact absurd (Bool.and_eq_true_iff.mp h).2 (by decide))) | refine ops_no rfl rfl (by simp only [Ev.get, reduceIte, Nat.reduceEqDiff]; first | done | rfl) (by decide) rfl (by decide) ?_ | refine ops_off rfl rfl rfl rfl (by decide) ?_ | (refine ops_nil ?_; intro e2 h2; simp only [restr, kpIndex, List.map_cons, List.map_nil, Ev.get, reduceIte, Nat.reduceEqDiff] at h2; subst h2))
        refine runs_cond rfl (fun hc => ?_) (fun hc => ?_)
        · have hi1 : i < l.length := by have := of_decide_eq_true hc; omega
          have f1 := atStrs (g := g) (kk := .i64) hi1
          repeat (first | refine runs_seq ?_ | refine runs_block ?_ | refine next_normal ?_ | refine inside_normal ?_ | refine next_exit ?_ | refine inside_exit ?_ | refine inside_other (by decide) ?_ | refine next_ret ?_ | refine inside_ret ?_ | refine runs_ops_kept ?_ | refine runs_skip ?_ | refine runs_exit ?_ | refine runs_ret ?_ | ((first | refine' ops_op rfl rfl (by decide) ?_ ?_ ?_ | refine' ops_yes rfl rfl (by simp only [Ev.get, reduceIte, Nat.reduceEqDiff, f1]; first | done | rfl) rfl (by decide) ?_ ?_ ?_ | refine' ops_op0 rfl rfl ?_ ?_ ?_); rotate_left 2; (focus (simp only [evOp, opd, constAV, constCell, Ev.get, reduceIte, Nat.reduceEqDiff, reduceCtorEq, evBinN, nilCmp, evBin, evInt, evUn, evConvert, evBuiltin, evLen, evField, evPart, tStr, tInt, tElem, tArr, tBool, tAgg, tField, Try.underlying9, Try.underlying3, Try.underlying4, Try.underlying5, Try.underlying38, Try.underlying2, List.zipWith, Option.map_some, Option.map_none, List.length_cons, List.length_nil, ne_eq, Int.reduceEq, not_false_eq_true, and_self, and_true, true_and, szStr, szInt, Option.getD_some, isNil, loadStr, loadInt, mkInts0, mkInts1, mkStrs0, mkStrs1, rowsS_len, rowsI_len, evStr, evCall, List.size_toArray, List.append_nil, List.nil_append, List.map_cons, List.map_nil, argAV, argCell, List.toList_toArray, fieldTy, f1]; first | done | rfl)); exact (fun h => by first | rfl | (simp at h; done) | exact absurd (Bool.and_eq_true_iff.mp h).2 (by decide))) | refine ops_no rfl rfl (by simp only [Ev.get, reduceIte, Nat.reduceEqDiff, f1]; first | done | rfl) (by decide) rfl (by decide) ?_ | refine ops_off rfl rfl rfl rfl (by decide) ?_ | (refine ops_nil ?_; intro e2 h2; simp only [restr, kpIndex, List.map_cons, List.map_nil, Ev.get, reduceIte, Nat.reduceEqDiff] at h2; subst h2))
          refine runs_cond rfl (fun hc => ?_) (fun hc => ?_)
          · have : placeOf l s = (i : Int) := first_yes hi1 (decide_eq_true (bytes_same.1 hc).symm) hf
            rw [this]
            repeat (first | refine runs_seq ?_ | refine runs_block ?_ | refine next_normal ?_ | refine inside_normal ?_ | refine next_exit ?_ | refine inside_exit ?_ | refine inside_other (by decide) ?_ | refine next_ret ?_ | refine inside_ret ?_ | refine runs_ops_kept ?_ | refine runs_skip ?_ | refine runs_exit ?_ | refine runs_ret ?_ | ((first | refine' ops_op rfl rfl (by decide) ?_ ?_ ?_ | refine' ops_yes rfl rfl (by simp only [Ev.get, reduceIte, Nat.reduceEqDiff]; first | done | rfl) rfl (by decide) ?_ ?_ ?_ | refine' ops_op0 rfl rfl ?_ ?_ ?_); rotate_left 2; (focus (simp only [evOp, opd, constAV, constCell, Ev.get, reduceIte, Nat.reduceEqDiff, reduceCtorEq, evBinN, nilCmp, evBin, evInt, evUn, evConvert, evBuiltin, evLen, evField, evPart, tStr, tInt, tElem, tArr, tBool, tAgg, tField, Try.underlying9, Try.underlying3, Try.underlying4, Try.underlying5, Try.underlying38, Try.underlying2, List.zipWith, Option.map_some, Option.map_none, List.length_cons, List.length_nil, ne_eq, Int.reduceEq, not_false_eq_true, and_self, and_true, true_and, szStr, szInt, Option.getD_some, isNil, loadStr, loadInt, mkInts0, mkInts1, mkStrs0, mkStrs1, rowsS_len, rowsI_len, evStr, evCall, List.size_toArray, List.append_nil, List.nil_append, List.map_cons, List.map_nil, argAV, argCell, List.toList_toArray, fieldTy]; first | done | rfl)); exact (fun h => by first | rfl | (simp at h; done) | exact absurd (Bool.and_eq_true_iff.mp h).2 (by decide))) | refine ops_no rfl rfl (by simp only [Ev.get, reduceIte, Nat.reduceEqDiff]; first | done | rfl) (by decide) rfl (by decide) ?_ | refine ops_off rfl rfl rfl rfl (by decide) ?_ | (refine ops_nil ?_; intro e2 h2; simp only [restr, kpIndex, List.map_cons, List.map_nil, Ev.get, reduceIte, Nat.reduceEqDiff] at h2; subst h2))
            exact leaves_v rfl rfl
          · have r6 := next_i64 (i := i) (by omega)
            repeat (first | refine runs_seq ?_ | refine runs_block ?_ | refine next_normal ?_ | refine inside_normal ?_ | refine next_exit ?_ | refine inside_exit ?_ | refine inside_other (by decide) ?_ | refine next_ret ?_ | refine inside_ret ?_ | refine runs_ops_kept ?_ | refine runs_skip ?_ | refine runs_exit ?_ | refine runs_ret ?_ | ((first | refine' ops_op rfl rfl (by decide) ?_ ?_ ?_ | refine' ops_yes rfl rfl (by simp only [Ev.get, reduceIte, Nat.reduceEqDiff, r6]; first | done | rfl) rfl (by decide) ?_ ?_ ?_ | refine' ops_op0 rfl rfl ?_ ?_ ?_); rotate_left 2; (focus (simp only [evOp, opd, constAV, constCell, Ev.get, reduceIte, Nat.reduceEqDiff, reduceCtorEq, evBinN, nilCmp, evBin, evInt, evUn, evConvert, evBuiltin, evLen, evField, evPart, tStr, tInt, tElem, tArr, tBool, tAgg, tField, Try.underlying9, Try.underlying3, Try.underlying4, Try.underlying5, Try.underlying38, Try.underlying2, List.zipWith, Option.map_some, Option.map_none, List.length_cons, List.length_nil, ne_eq, Int.reduceEq, not_false_eq_true, and_self, and_true, true_and, szStr, szInt, Option.getD_some, isNil, loadStr, loadInt, mkInts0, mkInts1, mkStrs0, mkStrs1, rowsS_len, rowsI_len, evStr, evCall, List.size_toArray, List.append_nil, List.nil_append, List.map_cons, List.map_nil, argAV, argCell, List.toList_toArray, fieldTy, r6]; first | done | rfl)); exact (fun h => by first | rfl | (simp at h; done) | exact absurd (Bool.and_eq_true_iff.mp h).2 (by decide))) | refine ops_no rfl rfl (by simp only [Ev.get, reduceIte, Nat.reduceEqDiff, r6]; first | done | rfl) (by decide) rfl (by decide) ?_ | refine ops_off rfl rfl rfl rfl (by decide) ?_ | (refine ops_nil ?_; intro e2 h2; simp only [restr, kpIndex, List.map_cons, List.map_nil, Ev.get, reduceIte, Nat.reduceEqDiff] at h2; subst h2))
            exact ⟨l.length - (i + 1), by omega, i + 1, _, _, _, hi1, first_no hi1 (decide_eq_false fun h => bytes_not.1 hc h.symm) hf, rfl, rfl, rfl⟩
        · have hi1 : i = l.length := by have := of_decide_eq_false hc; omega
          subst hi1
          have : placeOf l s = -1 := first_end hf
          rw [this]
          repeat (first | refine runs_seq ?_ | refine runs_block ?_ | refine next_normal ?_ | refine inside_normal ?_ | refine next_exit ?_ | refine inside_exit ?_ | refine inside_other (by decide) ?_ | refine next_ret ?_ | refine inside_ret ?_ | refine runs_ops_kept ?_ | refine runs_skip ?_ | refine runs_exit ?_ | refine runs_ret ?_ | ((first | refine' ops_op rfl rfl (by decide) ?_ ?_ ?_ | refine' ops_yes rfl rfl (by simp only [Ev.get, reduceIte, Nat.reduceEqDiff]; first | done | rfl) rfl (by decide) ?_ ?_ ?_ | refine' ops_op0 rfl rfl ?_ ?_ ?_); rotate_left 2; (focus (simp only [evOp, opd, constAV, constCell, Ev.get, reduceIte, Nat.reduceEqDiff, reduceCtorEq, evBinN, nilCmp, evBin, evInt, evUn, evConvert, evBuiltin, evLen, evField, evPart, tStr, tInt, tElem, tArr, tBool, tAgg, tField, Try.underlying9, Try.underlying3, Try.underlying4, Try.underlying5, Try.underlying38, Try.underlying2, List.zipWith, Option.map_some, Option.map_none, List.length_cons, List.length_nil, ne_eq, Int.reduceEq, not_false_eq_true, and_self, and_true, true_and, szStr, szInt, Option.getD_some, isNil, loadStr, loadInt, mkInts0, mkInts1, mkStrs0, mkStrs1, rowsS_len, rowsI_len, evStr, evCall, List.size_toArray, List.append_nil, List.nil_append, List.map_cons, List.map_nil, argAV, argCell, List.toList_toArray, fieldTy]; first | done | rfl)); exact (fun h => by first | rfl | (simp at h; done) | exact absurd (Bool.and_eq_true_iff.mp h).2 (by decide))) | refine ops_no rfl rfl (by simp only [Ev.get, reduceIte, Nat.reduceEqDiff]; first | done | rfl) (by decide) rfl (by decide) ?_ | refine ops_off rfl rfl rfl rfl (by decide) ?_ | (refine ops_nil ?_; intro e2 h2; simp only [restr, kpIndex, List.map_cons, List.map_nil, Ev.get, reduceIte, Nat.reduceEqDiff] at h2; subst h2))
          exact leaves_v rfl rfl
      · cases h
    · cases h
  · cases h
def kpPlace : Nat → Option (List Nat) := fun _ => some [0, 1, 4]
/-! ### keywords -/
def kwRef : List ByteArray := [⟨#[114, 101, 99, 105, 112, 101]⟩, ⟨#[115, 116, 101, 112, 115]⟩, ⟨#[101, 112, 111, 99, 104]⟩, ⟨#[119, 101, 105, 103, 104, 116, 115]⟩, ⟨#[109, 101, 116, 114, 105, 99]⟩, ⟨#[103, 114, 111, 117, 112]⟩, ⟨#[101, 118, 97, 108]⟩, ⟨#[112, 104, 97, 115, 101]⟩, ⟨#[114, 101, 115, 116]⟩, ⟨#[102, 114, 101, 101, 122, 101]⟩, ⟨#[115, 101, 116]⟩, ⟨#[108, 114]⟩, ⟨#[109, 111, 109]⟩, ⟨#[119, 100]⟩, ⟨#[99, 111, 110, 115, 116]⟩, ⟨#[108, 105, 110, 101]⟩, ⟨#[112, 111, 108, 121]⟩, ⟨#[101, 120, 112]⟩, ⟨#[119, 97, 118, 101]⟩, ⟨#[99, 121, 99, 108, 101]⟩, ⟨#[114, 101, 115, 116, 97, 114, 116]⟩, ⟨#[119, 97, 114, 109]⟩, ⟨#[116, 104, 101, 110]⟩, ⟨#[115, 116, 111, 112]⟩, ⟨#[112, 108, 97, 116, 101, 97, 117]⟩, ⟨#[107, 101, 101, 112]⟩, ⟨#[101, 109, 97]⟩, ⟨#[115, 119, 97]⟩, ⟨#[109, 105, 110]⟩, ⟨#[109, 97, 120]⟩, ⟨#[97, 98, 115]⟩, ⟨#[114, 101, 108]⟩, ⟨#[101, 112, 111, 99, 104, 115]⟩]
def kwOwn : List ByteArray := [⟨#[114, 101, 99, 105, 112, 101]⟩, ⟨#[115, 116, 101, 112, 115]⟩, ⟨#[101, 112, 111, 99, 104]⟩, ⟨#[101, 112, 111, 99, 104, 115]⟩, ⟨#[119, 101, 105, 103, 104, 116, 115]⟩, ⟨#[109, 101, 116, 114, 105, 99]⟩, ⟨#[103, 114, 111, 117, 112]⟩, ⟨#[101, 118, 97, 108]⟩, ⟨#[112, 104, 97, 115, 101]⟩, ⟨#[114, 101, 115, 116]⟩, ⟨#[102, 114, 101, 101, 122, 101]⟩, ⟨#[115, 101, 116]⟩, ⟨#[108, 114]⟩, ⟨#[109, 111, 109]⟩, ⟨#[119, 100]⟩, ⟨#[99, 111, 110, 115, 116]⟩, ⟨#[108, 105, 110, 101]⟩, ⟨#[112, 111, 108, 121]⟩, ⟨#[101, 120, 112]⟩, ⟨#[119, 97, 118, 101]⟩, ⟨#[99, 121, 99, 108, 101]⟩, ⟨#[114, 101, 115, 116, 97, 114, 116]⟩, ⟨#[119, 97, 114, 109]⟩, ⟨#[116, 104, 101, 110]⟩, ⟨#[115, 116, 111, 112]⟩, ⟨#[112, 108, 97, 116, 101, 97, 117]⟩, ⟨#[107, 101, 101, 112]⟩, ⟨#[101, 109, 97]⟩, ⟨#[115, 119, 97]⟩, ⟨#[109, 105, 110]⟩, ⟨#[109, 97, 120]⟩, ⟨#[97, 98, 115]⟩, ⟨#[114, 101, 108]⟩]
theorem mkKw : evBuildSlice Try.prog 38 33 [(0, .v (.string ⟨#[114, 101, 99, 105, 112, 101]⟩)), (1, .v (.string ⟨#[115, 116, 101, 112, 115]⟩)), (2, .v (.string ⟨#[101, 112, 111, 99, 104]⟩)), (3, .v (.string ⟨#[119, 101, 105, 103, 104, 116, 115]⟩)), (4, .v (.string ⟨#[109, 101, 116, 114, 105, 99]⟩)), (5, .v (.string ⟨#[103, 114, 111, 117, 112]⟩)), (6, .v (.string ⟨#[101, 118, 97, 108]⟩)), (7, .v (.string ⟨#[112, 104, 97, 115, 101]⟩)), (8, .v (.string ⟨#[114, 101, 115, 116]⟩)), (9, .v (.string ⟨#[102, 114, 101, 101, 122, 101]⟩)), (10, .v (.string ⟨#[115, 101, 116]⟩)), (11, .v (.string ⟨#[108, 114]⟩)), (12, .v (.string ⟨#[109, 111, 109]⟩)), (13, .v (.string ⟨#[119, 100]⟩)), (14, .v (.string ⟨#[99, 111, 110, 115, 116]⟩)), (15, .v (.string ⟨#[108, 105, 110, 101]⟩)), (16, .v (.string ⟨#[112, 111, 108, 121]⟩)), (17, .v (.string ⟨#[101, 120, 112]⟩)), (18, .v (.string ⟨#[119, 97, 118, 101]⟩)), (19, .v (.string ⟨#[99, 121, 99, 108, 101]⟩)), (20, .v (.string ⟨#[114, 101, 115, 116, 97, 114, 116]⟩)), (21, .v (.string ⟨#[119, 97, 114, 109]⟩)), (22, .v (.string ⟨#[116, 104, 101, 110]⟩)), (23, .v (.string ⟨#[115, 116, 111, 112]⟩)), (24, .v (.string ⟨#[112, 108, 97, 116, 101, 97, 117]⟩)), (25, .v (.string ⟨#[107, 101, 101, 112]⟩)), (26, .v (.string ⟨#[101, 109, 97]⟩)), (27, .v (.string ⟨#[115, 119, 97]⟩)), (28, .v (.string ⟨#[109, 105, 110]⟩)), (29, .v (.string ⟨#[109, 97, 120]⟩)), (30, .v (.string ⟨#[97, 98, 115]⟩)), (31, .v (.string ⟨#[114, 101, 108]⟩)), (32, .v (.string ⟨#[101, 112, 111, 99, 104, 115]⟩))] = some (.lst .full 1 (rowsS kwRef)) := build_rows appStrs (by rfl) rfl (by decide)
def keyword (s : ByteArray) : Bool := kwRef.any fun x => decide (x = s)
theorem kw_own {s : ByteArray} {w : ByteArray} (h : (s == w) = true) (hw : keyword w = true) : keyword s = true := by
  rw [bytes_same.1 h]
  exact hw
theorem kw_place (s : ByteArray) : decide (0 ≤ placeOf kwRef s) = keyword s := firstAt_any _ _ _
theorem kw_none {s : ByteArray} (h : ∀ w ∈ kwOwn, (s == w) = false) : keyword s = false := by
  unfold keyword
  rw [List.any_eq_false]
  intro x hx hd
  have : x ∈ kwOwn := by
    have sub : (kwRef.all fun x => kwOwn.any fun y => decide (y = x)) = true := by decide
    obtain ⟨y, h1, h2⟩ := List.any_eq_true.1 (List.all_eq_true.1 sub x hx)
    rw [← of_decide_eq_true h2]
    exact h1
  exact bytes_not.1 (h x this) (of_decide_eq_true hd).symm
def keywordsG : List AV → Mem → Option (AV × Mem)
  | [], m => some (.lst .no 1 (rowsS kwRef), m)
  | _, _ => none
def kpKeywords : Nat → Option (List Nat) := fun _ => some [0]
def keywordG : List AV → Mem → Option (AV × Mem)
  | [.v (.string s)], m => some (.v (.bool (keyword s)), m)
  | _, _ => none
def kpKeyword : Nat → Option (List Nat) := fun _ => some [0, 2, 3, 4, 17, 30]
set_option maxHeartbeats 1000000 in
theorem keyword_ok : FunOk Try.prog 121 keywordG := by
  have hC := table_ok (P := Try.prog) (l := []) table_nil
  refine fun_ok mixed hC Try.func121 rfl kpKeyword false rfl fun args m r h => ?_
  unfold keywordG at h
  split at h
  · rename_i s
    simp only [Option.some.injEq] at h
    subst h
    refine ⟨Nat.le_of_ble_eq_true rfl, ?_⟩
    simp only [entry, List.length_cons, List.length_nil, List.range, List.range.loop, List.zip_cons_cons, List.zip_nil_right]
    have fin : ∀ e, Ev.get e 2 = .v (.bool true) → keyword s = true → Leaves Try.prog false Try.f121 m (.v (.bool (keyword s)), m) .ret e m := fun e h1 h2 => by rw [h2]; exact leaves_v rfl h1
    repeat (first
      | (first | refine runs_seq ?_ | refine runs_block ?_ | refine next_normal ?_ | refine inside_normal ?_ | refine next_exit ?_ | refine inside_exit ?_ | refine inside_other (by decide) ?_ | refine next_ret ?_ | refine inside_ret ?_ | refine runs_ops_kept ?_ | refine runs_skip ?_ | refine runs_exit ?_ | refine runs_ret ?_ | ((first | refine' ops_op rfl rfl (by decide) ?_ ?_ ?_ | refine' ops_yes rfl rfl (by simp only [Ev.get, reduceIte, Nat.reduceEqDiff]; first | done | rfl) rfl (by decide) ?_ ?_ ?_ | refine' ops_op0 rfl rfl ?_ ?_ ?_); rotate_left 2; (focus (simp only [evOp, opd, constAV, constCell, Ev.get, reduceIte, Nat.reduceEqDiff, reduceCtorEq, evBinN, nilCmp, evBin, evInt, evUn, evConvert, evBuiltin, evLen, evField, evPart, tStr, tInt, tElem, tArr, tBool, tAgg, tField, Try.underlying9, Try.underlying3, Try.underlying4, Try.underlying5, Try.underlying21, Try.underlying121, Try.underlying38, Try.underlying25, Try.underlying33, Try.underlying2, Try.underlying22, List.zipWith, Option.map_some, Option.map_none, List.length_cons, List.length_nil, ne_eq, Int.reduceEq, not_false_eq_true, and_self, and_true, true_and, szStr, szInt, Option.getD_some, isNil, loadStr, loadInt, mkInts0, mkInts1, mkStrs0, mkStrs1, rowsS_len, rowsI_len, evStr, evCall, List.size_toArray, List.append_nil, List.nil_append, List.map_cons, List.map_nil, argAV, argCell, List.toList_toArray, fieldTy]; first | done | rfl)); exact (fun h => by first | rfl | (simp at h; done) | exact absurd (Bool.and_eq_true_iff.mp h).2 (by decide))) | refine ops_no rfl rfl (by simp only [Ev.get, reduceIte, Nat.reduceEqDiff]; first | done | rfl) (by decide) rfl (by decide) ?_ | refine ops_off rfl rfl rfl rfl (by decide) ?_ | (refine ops_nil ?_; intro e2 h2; simp only [restr, kpKeyword, List.map_cons, List.map_nil, Ev.get, reduceIte, Nat.reduceEqDiff] at h2; subst h2))
      | (refine runs_cond rfl (fun hc => by
          have hk := kw_own hc (by decide)
          repeat ((first | refine runs_seq ?_ | refine runs_block ?_ | refine next_normal ?_ | refine inside_normal ?_ | refine next_exit ?_ | refine inside_exit ?_ | refine inside_other (by decide) ?_ | refine next_ret ?_ | refine inside_ret ?_ | refine runs_ops_kept ?_ | refine runs_skip ?_ | refine runs_exit ?_ | refine runs_ret ?_ | ((first | refine' ops_op rfl rfl (by decide) ?_ ?_ ?_ | refine' ops_yes rfl rfl (by simp only [Ev.get, reduceIte, Nat.reduceEqDiff]; first | done | rfl) rfl (by decide) ?_ ?_ ?_ | refine' ops_op0 rfl rfl ?_ ?_ ?_); rotate_left 2; (focus (simp only [evOp, opd, constAV, constCell, Ev.get, reduceIte, Nat.reduceEqDiff, reduceCtorEq, evBinN, nilCmp, evBin, evInt, evUn, evConvert, evBuiltin, evLen, evField, evPart, tStr, tInt, tElem, tArr, tBool, tAgg, tField, Try.underlying9, Try.underlying3, Try.underlying4, Try.underlying5, Try.underlying21, Try.underlying121, Try.underlying38, Try.underlying25, Try.underlying33, Try.underlying2, Try.underlying22, List.zipWith, Option.map_some, Option.map_none, List.length_cons, List.length_nil, ne_eq, Int.reduceEq, not_false_eq_true, and_self, and_true, true_and, szStr, szInt, Option.getD_some, isNil, loadStr, loadInt, mkInts0, mkInts1, mkStrs0, mkStrs1, rowsS_len, rowsI_len, evStr, evCall, List.size_toArray, List.append_nil, List.nil_append, List.map_cons, List.map_nil, argAV, argCell, List.toList_toArray, fieldTy]; first | done | rfl)); exact (fun h => by first | rfl | (simp at h; done) | exact absurd (Bool.and_eq_true_iff.mp h).2 (by decide))) | refine ops_no rfl rfl (by simp only [Ev.get, reduceIte, Nat.reduceEqDiff]; first | done | rfl) (by decide) rfl (by decide) ?_ | refine ops_off rfl rfl rfl rfl (by decide) ?_ | (refine ops_nil ?_; intro e2 h2; simp only [restr, kpKeyword, List.map_cons, List.map_nil, Ev.get, reduceIte, Nat.reduceEqDiff] at h2; subst h2)))
          first
            | exact fin _ rfl hk
            | (refine runs_cond rfl (fun _ => ?_) (fun hf => absurd (hc.symm.trans hf) (by decide))
               repeat ((first | refine runs_seq ?_ | refine runs_block ?_ | refine next_normal ?_ | refine inside_normal ?_ | refine next_exit ?_ | refine inside_exit ?_ | refine inside_other (by decide) ?_ | refine next_ret ?_ | refine inside_ret ?_ | refine runs_ops_kept ?_ | refine runs_skip ?_ | refine runs_exit ?_ | refine runs_ret ?_ | ((first | refine' ops_op rfl rfl (by decide) ?_ ?_ ?_ | refine' ops_yes rfl rfl (by simp only [Ev.get, reduceIte, Nat.reduceEqDiff]; first | done | rfl) rfl (by decide) ?_ ?_ ?_ | refine' ops_op0 rfl rfl ?_ ?_ ?_); rotate_left 2; (focus (simp only [evOp, opd, constAV, constCell, Ev.get, reduceIte, Nat.reduceEqDiff, reduceCtorEq, evBinN, nilCmp, evBin, evInt, evUn, evConvert, evBuiltin, evLen, evField, evPart, tStr, tInt, tElem, tArr, tBool, tAgg, tField, Try.underlying9, Try.underlying3, Try.underlying4, Try.underlying5, Try.underlying21, Try.underlying121, Try.underlying38, Try.underlying25, Try.underlying33, Try.underlying2, Try.underlying22, List.zipWith, Option.map_some, Option.map_none, List.length_cons, List.length_nil, ne_eq, Int.reduceEq, not_false_eq_true, and_self, and_true, true_and, szStr, szInt, Option.getD_some, isNil, loadStr, loadInt, mkInts0, mkInts1, mkStrs0, mkStrs1, rowsS_len, rowsI_len, evStr, evCall, List.size_toArray, List.append_nil, List.nil_append, List.map_cons, List.map_nil, argAV, argCell, List.toList_toArray, fieldTy]; first | done | rfl)); exact (fun h => by first | rfl | (simp at h; done) | exact absurd (Bool.and_eq_true_iff.mp h).2 (by decide))) | refine ops_no rfl rfl (by simp only [Ev.get, reduceIte, Nat.reduceEqDiff]; first | done | rfl) (by decide) rfl (by decide) ?_ | refine ops_off rfl rfl rfl rfl (by decide) ?_ | (refine ops_nil ?_; intro e2 h2; simp only [restr, kpKeyword, List.map_cons, List.map_nil, Ev.get, reduceIte, Nat.reduceEqDiff] at h2; subst h2)))
               exact fin _ rfl hk)) (fun hc => ?_)))
    have hk : keyword s = false := by
      refine kw_none ?_
      simp only [kwOwn, List.mem_cons, List.not_mem_nil, or_false, forall_eq_or_imp, forall_eq]
      simp only [*, and_self]
    rw [hk]
    exact leaves_v rfl rfl
  · cases h
/-! ### hyperparameters' words -/
def paramWord (p : Int) : ByteArray := if p = 0 then ⟨#[108, 114]⟩ else if p = 1 then ⟨#[109, 111, 109]⟩ else if p = 2 then ⟨#[119, 100]⟩ else ⟨#[]⟩
def paramWordG : List AV → Mem → Option (AV × Mem)
  | [.v (.int .i64 p)], m => some (.v (.string (paramWord p)), m)
  | _, _ => none
def kpParamWord : Nat → Option (List Nat) := fun _ => some [0, 2, 3, 4, 6, 8]
def paramOf (s : ByteArray) : Int × Bool := if paramWord 0 = s then (0, true) else if paramWord 1 = s then (1, true) else if paramWord 2 = s then (2, true) else (0, false)
def paramG : List AV → Mem → Option (AV × Mem)
  | [.v (.string s)], m => some (.tup [.v (.int .i64 (paramOf s).1), .v (.bool (paramOf s).2)], m)
  | _, _ => none
def kpParam : Nat → Option (List Nat) := fun _ => some [0, 2, 3, 4, 5, 6, 11]
end Go.Proofs.Ytojaokhkbmiidaa.Ev

namespace Go.Proofs.Ytojaokhkbmiidaa.Ev
open Go Go.Proofs
set_option maxRecDepth 10000
set_option maxHeartbeats 8000000
set_option linter.unusedVariables false
set_option linter.unusedSimpArgs false
attribute [local irreducible] Next Inside Runs Ops table
/-! ### the list's cells -/
theorem fpRlRule {r : Nat} : evFieldAddr Try.prog 113 (.ptr r 0) 0 = some (.ptr r 0) := by kernel_rfl
theorem fpRlList {r : Nat} : evFieldAddr Try.prog 113 (.ptr r 0) 1 = some (.ptr r 1) := by kernel_rfl
theorem agFlaws : tAgg Try.prog 37 = some false := by kernel_rfl
theorem szFlaws : tSize Try.prog 37 = some 1 := by kernel_rfl
theorem lpRlRule {m : Mem} {r : Nat} {rule : Int} {l : AV} (hv : m.var r = some [.v (.int .i64 rule), l]) : evLoad Try.prog m 3 (.ptr r 0) = some (.v (.int .i64 rule)) := by
  unfold evLoad
  simp only [ptrCells, hv, Option.map_some, szInt, agInt]
  rfl
theorem lpRlList {m : Mem} {r : Nat} {rule : Int} {l : AV} (hv : m.var r = some [.v (.int .i64 rule), l]) : evLoad Try.prog m 37 (.ptr r 1) = some l := by
  unfold evLoad
  simp only [ptrCells, hv, Option.map_some, szFlaws, agFlaws]
  rfl
theorem mkFl {a b c : Int} : evBuild Try.prog 43 [(0, .v (.int .i64 a)), (1, .v (.int .i64 b)), (2, .v (.int .i64 c))] = some (.agg [.v (.int .i64 a), .v (.int .i64 b), .v (.int .i64 c)]) := by kernel_rfl
theorem mkFls1 {a b c : Int} : evBuildSlice Try.prog 37 1 [(0, .agg [.v (.int .i64 a), .v (.int .i64 b), .v (.int .i64 c)])] = some (.lst .full 3 [[.v (.int .i64 a), .v (.int .i64 b), .v (.int .i64 c)]]) := build_rows appFl rfl rfl (by decide)
theorem putList {m : Mem} {r : Nat} {rule : Int} {l : AV} {g : Grow} {rows : List (List AV)} (hv : m.var r = some [.v (.int .i64 rule), l]) :
    evStore Try.prog m 37 (.ptr r 1) (.lst g 3 rows) = some { m with vars := m.vars.set r (some [.v (.int .i64 rule), .lst g 3 rows]) } := by
  unfold evStore
  simp only [cellsOf, flat, List.all_cons, List.all_nil, okCell, Bool.and_true, if_true, szFlaws, hv]
  rfl
theorem var_toks {m : Mem} {T : List Nat} {r : Nat} : ({ m with toks := T } : Mem).var r = m.var r := rfl
theorem var_lt {m : Mem} {r : Nat} {cs : List AV} (h : m.var r = some cs) : r < m.vars.length ∧ m.vars[r]? = some (some cs) := by
  unfold Mem.var at h
  cases hx : m.vars[r]? with
  | none => rw [hx] at h; cases h
  | some y => rw [hx] at h; cases y with
    | none => cases h
    | some z =>
      cases h
      exact ⟨(List.getElem?_eq_some_iff.1 hx).1, rfl⟩
theorem var_of {m : Mem} {r : Nat} {cs : List AV} (h : m.vars[r]? = some (some cs)) : m.var r = some cs := by
  unfold Mem.var
  rw [h]
  rfl
/-- Behind a change of a variable that was there. -/
theorem fin_set {m : Mem} {r : Nat} {cs cs' : List AV} {T : List Nat} (h : m.var r = some cs) (hne : cs ≠ cs') : finMem m { vars := m.vars.set r (some cs'), toks := T } = { vars := m.vars.set r (some cs'), toks := T } := by
  obtain ⟨hlt, hx⟩ := var_lt h
  unfold finMem
  have e : (m.vars.set r (some cs')).take m.vars.length = m.vars.set r (some cs') := List.take_of_length_le (by simp)
  rw [if_neg]
  · simp only [e]
  · simp only [e]
    intro he
    have : (m.vars.set r (some cs'))[r]? = m.vars[r]? := by rw [he]
    rw [List.getElem?_set_self hlt, hx] at this
    cases this
    exact hne rfl
def noteG : List AV → Mem → Option (AV × Mem)
  | [.ptr r 0, .v (.bool b), .v (.int .i64 i), .v (.int .i64 p)], m =>
    if b = true then
      match m.var r with
      | some [.v (.int .i64 rule), .lst .full 3 rows] =>
        if rows.length + 1 ≤ lim then some (.tup [], { vars := m.vars.set r (some [.v (.int .i64 rule), .lst (.tok m.toks.length 0) 3 (rows ++ [[.v (.int .i64 rule), .v (.int .i64 i), .v (.int .i64 p)]])]), toks := m.toks ++ [0] }) else none
      | some [.v (.int .i64 rule), .lst (.tok id v) 3 rows] =>
        if rows.length + 1 ≤ lim ∧ m.toks[id]? = some v then some (.tup [], { vars := m.vars.set r (some [.v (.int .i64 rule), .lst (.tok id (v + 1)) 3 (rows ++ [[.v (.int .i64 rule), .v (.int .i64 i), .v (.int .i64 p)]])]), toks := m.toks.set id (v + 1) }) else none
      | _ => none
    else some (.tup [], m)
  | _, _ => none
theorem leaves_none {P : Program} {fn : Func} {m m' m2 : Mem} {e : Env} (h : fn.results = #[]) (hm : finMem m m' = m2) : Leaves P false fn m (.tup [], m2) .normal e m' := by
  show evRet P false fn m e m' = _
  unfold evRet
  rw [h]
  simp [hm]
def kpNote : Nat → Option (List Nat) := fun
  | 0 => some [0, 2, 3, 8]
  | 1 => some []
  | _ => none
theorem note_ok : FunOk Try.prog 83 noteG := by
  have hC := table_ok (P := Try.prog) (l := []) table_nil
  refine fun_ok mixed hC Try.func83 rfl kpNote false rfl fun args m r h => ?_
  unfold noteG at h
  split at h
  · rename_i r b i p
    split at h
    · rename_i hb
      subst hb
      have app := fun (mm : Mem) (g : Grow) (rows : List (List AV)) (row : List AV) (hl : rows.length + 1 ≤ lim) => app_of (m := mm) (g := g) (xs := rows) (ys := [row]) appFl asList_lst (asList_lst (g := .full)) hl
      split at h
      · rename_i rule rows hv
        split at h
        · rename_i hl
          simp only [Option.some.injEq] at h
          subst h
          refine ⟨Nat.le_of_ble_eq_true rfl, ?_⟩
          simp only [entry, List.length_cons, List.length_nil, List.range, List.range.loop, List.zip_cons_cons, List.zip_nil_right]
          have v1 := lpRlRule (rule := rule) hv
          have v2 := lpRlList (rule := rule) hv
          have v3 := app m .full rows [.v (.int .i64 rule), .v (.int .i64 i), .v (.int .i64 p)] hl
          have v4 := putList (m := { m with toks := m.toks ++ [0] }) (g := .tok m.toks.length 0) (rows := rows ++ [[.v (.int .i64 rule), .v (.int .i64 i), .v (.int .i64 p)]]) (l := .lst .full 3 rows) (rule := rule) (r := r) hv
          repeat (first | refine runs_seq ?_ | refine runs_block ?_ | refine next_normal ?_ | refine inside_normal ?_ | refine next_exit ?_ | refine inside_exit ?_ | refine inside_other (by decide) ?_ | refine next_ret ?_ | refine inside_ret ?_ | refine runs_ops_kept ?_ | refine runs_skip ?_ | refine runs_exit ?_ | refine runs_ret ?_ | ((first | refine' ops_op rfl rfl (by decide) ?_ ?_ ?_ | refine' ops_yes rfl rfl (by simp only [Ev.get, reduceIte, Nat.reduceEqDiff]; first | done | rfl) rfl (by decide) ?_ ?_ ?_ | refine' ops_op0 rfl rfl ?_ ?_ ?_); rotate_left 2; (focus (simp only [evOp, opd, constAV, constCell, Ev.get, reduceIte, Nat.reduceEqDiff, reduceCtorEq, evBinN, nilCmp, evBin, evInt, evUn, evConvert, evBuiltin, evLen, evField, evPart, tStr, tInt, tElem, tArr, tBool, tAgg, tField, Try.underlying9, Try.underlying3, Try.underlying4, Try.underlying5, Try.underlying21, Try.underlying25, Try.underlying2, Try.underlying22, List.zipWith, Option.map_some, Option.map_none, List.length_cons, List.length_nil, ne_eq, Int.reduceEq, not_false_eq_true, and_self, and_true, true_and, szStr, szInt, Option.getD_some, isNil, evStr, loadStr, loadInt, fpRlRule, fpRlList, mkFl, mkFls1, evCall, List.size_toArray, List.append_nil, List.nil_append, List.map_cons, List.map_nil, argAV, argCell, List.toList_toArray, fieldTy]; first | done | rfl)); exact (fun h => by first | rfl | (simp at h; done) | exact absurd (Bool.and_eq_true_iff.mp h).2 (by decide))) | refine ops_no rfl rfl (by simp only [Ev.get, reduceIte, Nat.reduceEqDiff]; first | done | rfl) (by decide) rfl (by decide) ?_ | refine ops_off rfl rfl rfl rfl (by decide) ?_ | (refine ops_nil ?_; intro e2 h2; simp only [restr, kpNote, List.map_cons, List.map_nil, Ev.get, reduceIte, Nat.reduceEqDiff] at h2; subst h2))
          refine runs_cond rfl (fun hc => ?_) (fun hc => by cases hc)
          refine runs_ops_drawn_kept (by kernel_rfl) ?_
          repeat (first | refine runs_seq ?_ | refine runs_block ?_ | refine next_normal ?_ | refine inside_normal ?_ | refine next_exit ?_ | refine inside_exit ?_ | refine inside_other (by decide) ?_ | refine next_ret ?_ | refine inside_ret ?_ | refine runs_ops_kept ?_ | refine runs_skip ?_ | refine runs_exit ?_ | refine runs_ret ?_ | ((first | refine' ops_op rfl rfl (by decide) ?_ ?_ ?_ | refine' ops_yes rfl rfl (by simp only [Ev.get, reduceIte, Nat.reduceEqDiff, v1, v2, v3, v4]; first | done | rfl) rfl (by decide) ?_ ?_ ?_ | refine' ops_op0 rfl rfl ?_ ?_ ?_); rotate_left 2; (focus (simp only [evOp, opd, constAV, constCell, Ev.get, reduceIte, Nat.reduceEqDiff, reduceCtorEq, evBinN, nilCmp, evBin, evInt, evUn, evConvert, evBuiltin, evLen, evField, evPart, tStr, tInt, tElem, tArr, tBool, tAgg, tField, Try.underlying9, Try.underlying3, Try.underlying4, Try.underlying5, Try.underlying21, Try.underlying25, Try.underlying2, Try.underlying22, List.zipWith, Option.map_some, Option.map_none, List.length_cons, List.length_nil, ne_eq, Int.reduceEq, not_false_eq_true, and_self, and_true, true_and, szStr, szInt, Option.getD_some, isNil, evStr, loadStr, loadInt, fpRlRule, fpRlList, mkFl, mkFls1, evCall, List.size_toArray, List.append_nil, List.nil_append, List.map_cons, List.map_nil, argAV, argCell, List.toList_toArray, fieldTy, v1, v2, v3, v4]; first | done | rfl)); exact (fun h => by first | rfl | (simp at h; done) | exact absurd (Bool.and_eq_true_iff.mp h).2 (by decide))) | refine ops_no rfl rfl (by simp only [Ev.get, reduceIte, Nat.reduceEqDiff, v1, v2, v3, v4]; first | done | rfl) (by decide) rfl (by decide) ?_ | refine ops_off rfl rfl rfl rfl (by decide) ?_ | (refine ops_nil ?_; intro e2 h2; simp only [restr, kpNote, List.map_cons, List.map_nil, Ev.get, reduceIte, Nat.reduceEqDiff] at h2; subst h2))
          refine leaves_none rfl (fin_set hv ?_)
          simp
        · cases h
      · rename_i rule id v rows hv
        split at h
        · rename_i hl
          obtain ⟨hl, hid⟩ := hl
          simp only [Option.some.injEq] at h
          subst h
          refine ⟨Nat.le_of_ble_eq_true rfl, ?_⟩
          simp only [entry, List.length_cons, List.length_nil, List.range, List.range.loop, List.zip_cons_cons, List.zip_nil_right]
          have v1 := lpRlRule (rule := rule) hv
          have v2 := lpRlList (rule := rule) hv
          have v3 := app m (.tok id v) rows [.v (.int .i64 rule), .v (.int .i64 i), .v (.int .i64 p)] hl
          simp only [hid, if_true] at v3
          have v4 := putList (m := { m with toks := m.toks.set id (v + 1) }) (g := .tok id (v + 1)) (rows := rows ++ [[.v (.int .i64 rule), .v (.int .i64 i), .v (.int .i64 p)]]) (l := .lst (.tok id v) 3 rows) (rule := rule) (r := r) hv
          repeat (first | refine runs_seq ?_ | refine runs_block ?_ | refine next_normal ?_ | refine inside_normal ?_ | refine next_exit ?_ | refine inside_exit ?_ | refine inside_other (by decide) ?_ | refine next_ret ?_ | refine inside_ret ?_ | refine runs_ops_kept ?_ | refine runs_skip ?_ | refine runs_exit ?_ | refine runs_ret ?_ | ((first | refine' ops_op rfl rfl (by decide) ?_ ?_ ?_ | refine' ops_yes rfl rfl (by simp only [Ev.get, reduceIte, Nat.reduceEqDiff]; first | done | rfl) rfl (by decide) ?_ ?_ ?_ | refine' ops_op0 rfl rfl ?_ ?_ ?_); rotate_left 2; (focus (simp only [evOp, opd, constAV, constCell, Ev.get, reduceIte, Nat.reduceEqDiff, reduceCtorEq, evBinN, nilCmp, evBin, evInt, evUn, evConvert, evBuiltin, evLen, evField, evPart, tStr, tInt, tElem, tArr, tBool, tAgg, tField, Try.underlying9, Try.underlying3, Try.underlying4, Try.underlying5, Try.underlying21, Try.underlying25, Try.underlying2, Try.underlying22, List.zipWith, Option.map_some, Option.map_none, List.length_cons, List.length_nil, ne_eq, Int.reduceEq, not_false_eq_true, and_self, and_true, true_and, szStr, szInt, Option.getD_some, isNil, evStr, loadStr, loadInt, fpRlRule, fpRlList, mkFl, mkFls1, evCall, List.size_toArray, List.append_nil, List.nil_append, List.map_cons, List.map_nil, argAV, argCell, List.toList_toArray, fieldTy]; first | done | rfl)); exact (fun h => by first | rfl | (simp at h; done) | exact absurd (Bool.and_eq_true_iff.mp h).2 (by decide))) | refine ops_no rfl rfl (by simp only [Ev.get, reduceIte, Nat.reduceEqDiff]; first | done | rfl) (by decide) rfl (by decide) ?_ | refine ops_off rfl rfl rfl rfl (by decide) ?_ | (refine ops_nil ?_; intro e2 h2; simp only [restr, kpNote, List.map_cons, List.map_nil, Ev.get, reduceIte, Nat.reduceEqDiff] at h2; subst h2))
          refine runs_cond rfl (fun hc => ?_) (fun hc => by cases hc)
          refine runs_ops_drawn_kept (by kernel_rfl) ?_
          repeat (first | refine runs_seq ?_ | refine runs_block ?_ | refine next_normal ?_ | refine inside_normal ?_ | refine next_exit ?_ | refine inside_exit ?_ | refine inside_other (by decide) ?_ | refine next_ret ?_ | refine inside_ret ?_ | refine runs_ops_kept ?_ | refine runs_skip ?_ | refine runs_exit ?_ | refine runs_ret ?_ | ((first | refine' ops_op rfl rfl (by decide) ?_ ?_ ?_ | refine' ops_yes rfl rfl (by simp only [Ev.get, reduceIte, Nat.reduceEqDiff, v1, v2, v3, v4]; first | done | rfl) rfl (by decide) ?_ ?_ ?_ | refine' ops_op0 rfl rfl ?_ ?_ ?_); rotate_left 2; (focus (simp only [evOp, opd, constAV, constCell, Ev.get, reduceIte, Nat.reduceEqDiff, reduceCtorEq, evBinN, nilCmp, evBin, evInt, evUn, evConvert, evBuiltin, evLen, evField, evPart, tStr, tInt, tElem, tArr, tBool, tAgg, tField, Try.underlying9, Try.underlying3, Try.underlying4, Try.underlying5, Try.underlying21, Try.underlying25, Try.underlying2, Try.underlying22, List.zipWith, Option.map_some, Option.map_none, List.length_cons, List.length_nil, ne_eq, Int.reduceEq, not_false_eq_true, and_self, and_true, true_and, szStr, szInt, Option.getD_some, isNil, evStr, loadStr, loadInt, fpRlRule, fpRlList, mkFl, mkFls1, evCall, List.size_toArray, List.append_nil, List.nil_append, List.map_cons, List.map_nil, argAV, argCell, List.toList_toArray, fieldTy, v1, v2, v3, v4]; first | done | rfl)); exact (fun h => by first | rfl | (simp at h; done) | exact absurd (Bool.and_eq_true_iff.mp h).2 (by decide))) | refine ops_no rfl rfl (by simp only [Ev.get, reduceIte, Nat.reduceEqDiff, v1, v2, v3, v4]; first | done | rfl) (by decide) rfl (by decide) ?_ | refine ops_off rfl rfl rfl rfl (by decide) ?_ | (refine ops_nil ?_; intro e2 h2; simp only [restr, kpNote, List.map_cons, List.map_nil, Ev.get, reduceIte, Nat.reduceEqDiff] at h2; subst h2))
          refine leaves_none rfl (fin_set hv ?_)
          simp
        · cases h
      · cases h
    · rename_i hb
      simp only [Option.some.injEq] at h
      subst h
      obtain rfl : b = false := by simpa using hb
      refine ⟨Nat.le_of_ble_eq_true rfl, ?_⟩
      simp only [entry, List.length_cons, List.length_nil, List.range, List.range.loop, List.zip_cons_cons, List.zip_nil_right]
      repeat (first | refine runs_seq ?_ | refine runs_block ?_ | refine next_normal ?_ | refine inside_normal ?_ | refine next_exit ?_ | refine inside_exit ?_ | refine inside_other (by decide) ?_ | refine next_ret ?_ | refine inside_ret ?_ | refine runs_ops_kept ?_ | refine runs_skip ?_ | refine runs_exit ?_ | refine runs_ret ?_ | ((first | refine' ops_op rfl rfl (by decide) ?_ ?_ ?_ | refine' ops_yes rfl rfl (by simp only [Ev.get, reduceIte, Nat.reduceEqDiff]; first | done | rfl) rfl (by decide) ?_ ?_ ?_ | refine' ops_op0 rfl rfl ?_ ?_ ?_); rotate_left 2; (focus (simp only [evOp, opd, constAV, constCell, Ev.get, reduceIte, Nat.reduceEqDiff, reduceCtorEq, evBinN, nilCmp, evBin, evInt, evUn, evConvert, evBuiltin, evLen, evField, evPart, tStr, tInt, tElem, tArr, tBool, tAgg, tField, Try.underlying9, Try.underlying3, Try.underlying4, Try.underlying5, Try.underlying21, Try.underlying25, Try.underlying2, Try.underlying22, List.zipWith, Option.map_some, Option.map_none, List.length_cons, List.length_nil, ne_eq, Int.reduceEq, not_false_eq_true, and_self, and_true, true_and, szStr, szInt, Option.getD_some, isNil, evStr, loadStr, loadInt, fpRlRule, fpRlList, mkFl, mkFls1, evCall, List.size_toArray, List.append_nil, List.nil_append, List.map_cons, List.map_nil, argAV, argCell, List.toList_toArray, fieldTy]; first | done | rfl)); exact (fun h => by first | rfl | (simp at h; done) | exact absurd (Bool.and_eq_true_iff.mp h).2 (by decide))) | refine ops_no rfl rfl (by simp only [Ev.get, reduceIte, Nat.reduceEqDiff]; first | done | rfl) (by decide) rfl (by decide) ?_ | refine ops_off rfl rfl rfl rfl (by decide) ?_ | (refine ops_nil ?_; intro e2 h2; simp only [restr, kpNote, List.map_cons, List.map_nil, Ev.get, reduceIte, Nat.reduceEqDiff] at h2; subst h2))
      refine runs_cond rfl (fun hc => by cases hc) (fun hc => ?_)
      repeat (first | refine runs_seq ?_ | refine runs_block ?_ | refine next_normal ?_ | refine inside_normal ?_ | refine next_exit ?_ | refine inside_exit ?_ | refine inside_other (by decide) ?_ | refine next_ret ?_ | refine inside_ret ?_ | refine runs_ops_kept ?_ | refine runs_skip ?_ | refine runs_exit ?_ | refine runs_ret ?_ | ((first | refine' ops_op rfl rfl (by decide) ?_ ?_ ?_ | refine' ops_yes rfl rfl (by simp only [Ev.get, reduceIte, Nat.reduceEqDiff]; first | done | rfl) rfl (by decide) ?_ ?_ ?_ | refine' ops_op0 rfl rfl ?_ ?_ ?_); rotate_left 2; (focus (simp only [evOp, opd, constAV, constCell, Ev.get, reduceIte, Nat.reduceEqDiff, reduceCtorEq, evBinN, nilCmp, evBin, evInt, evUn, evConvert, evBuiltin, evLen, evField, evPart, tStr, tInt, tElem, tArr, tBool, tAgg, tField, Try.underlying9, Try.underlying3, Try.underlying4, Try.underlying5, Try.underlying21, Try.underlying25, Try.underlying2, Try.underlying22, List.zipWith, Option.map_some, Option.map_none, List.length_cons, List.length_nil, ne_eq, Int.reduceEq, not_false_eq_true, and_self, and_true, true_and, szStr, szInt, Option.getD_some, isNil, evStr, loadStr, loadInt, fpRlRule, fpRlList, mkFl, mkFls1, evCall, List.size_toArray, List.append_nil, List.nil_append, List.map_cons, List.map_nil, argAV, argCell, List.toList_toArray, fieldTy]; first | done | rfl)); exact (fun h => by first | rfl | (simp at h; done) | exact absurd (Bool.and_eq_true_iff.mp h).2 (by decide))) | refine ops_no rfl rfl (by simp only [Ev.get, reduceIte, Nat.reduceEqDiff]; first | done | rfl) (by decide) rfl (by decide) ?_ | refine ops_off rfl rfl rfl rfl (by decide) ?_ | (refine ops_nil ?_; intro e2 h2; simp only [restr, kpNote, List.map_cons, List.map_nil, Ev.get, reduceIte, Nat.reduceEqDiff] at h2; subst h2))
      exact leaves_none rfl (finMem_self m)
  · cases h
/-! ### a list of flaws that grows from nothing -/
def flLst (m : Mem) (fl : List Fl) : AV := if fl = [] then .lst .full 3 [] else .lst (.tok m.toks.length (fl.length - 1)) 3 (rowsFl fl)
def flMem (m : Mem) (r : Nat) (rule : Int) (fl : List Fl) : Mem := if fl = [] then m else { vars := m.vars.set r (some [.v (.int .i64 rule), .lst (.tok m.toks.length (fl.length - 1)) 3 (rowsFl fl)]), toks := m.toks ++ [fl.length - 1] }
theorem flMem_nil {m : Mem} {r : Nat} {rule : Int} : flMem m r rule [] = m := if_pos rfl
theorem above_var {m m' : Mem} (h : Above m m') {r : Nat} {cs : List AV} (hv : m.var r = some cs) : m'.var r = some cs := by
  obtain ⟨L, rfl⟩ := h
  obtain ⟨hlt, hx⟩ := var_lt hv
  apply var_of
  show (m.vars ++ L)[r]? = _
  rw [List.getElem?_append_left hlt, hx]
theorem above_set {m m' : Mem} (h : Above m m') {r : Nat} {cs : List AV} {T : List Nat} (hr : r < m.vars.length) : Above { vars := m.vars.set r (some cs), toks := T } { vars := m'.vars.set r (some cs), toks := T } := by
  obtain ⟨L, rfl⟩ := h
  refine ⟨L, ?_⟩
  simp only [List.set_append_left _ _ hr]
theorem above_toks {m m' : Mem} (h : Above m m') : m'.toks = m.toks := by obtain ⟨L, rfl⟩ := h; rfl
theorem above_trans {m m1 m2 : Mem} (h : Above m m1) (k : Above m1 m2) : Above m m2 := by
  obtain ⟨L, rfl⟩ := h
  obtain ⟨L2, rfl⟩ := k
  exact ⟨L ++ L2, by simp⟩
theorem flMem_var {m : Mem} {r : Nat} {rule : Int} {fl : List Fl} (hv : m.var r = some [.v (.int .i64 rule), .lst .full 3 []]) : (flMem m r rule fl).var r = some [.v (.int .i64 rule), flLst m fl] := by
  unfold flMem flLst
  by_cases h : fl = []
  · rw [if_pos h, if_pos h]; exact hv
  · rw [if_neg h, if_neg h]
    apply var_of
    rw [List.getElem?_set_self (var_lt hv).1]
theorem flMem_other {m : Mem} {r q : Nat} {rule : Int} {fl : List Fl} {cs : List AV} (hq : q ≠ r) (hv : m.var q = some cs) : (flMem m r rule fl).var q = some cs := by
  unfold flMem
  by_cases h : fl = []
  · rw [if_pos h]; exact hv
  · rw [if_neg h]
    apply var_of
    show (m.vars.set r _)[q]? = _
    rw [List.getElem?_set_ne (fun h => hq h.symm), (var_lt hv).2]
theorem flMem_len {m : Mem} {r : Nat} {rule : Int} {fl : List Fl} : (flMem m r rule fl).vars.length = m.vars.length := by
  unfold flMem
  split
  · rfl
  · simp
theorem fin_flMem {m m' : Mem} {r : Nat} {rule : Int} {fl : List Fl} (hv : m.var r = some [.v (.int .i64 rule), .lst .full 3 []]) (h : Above (flMem m r rule fl) m') : finMem m m' = flMem m r rule fl := by
  by_cases hn : fl = []
  · subst hn
    rw [flMem_nil] at h ⊢
    exact above_fin h
  · unfold flMem at h ⊢
    rw [if_neg hn] at h ⊢
    obtain ⟨L, rfl⟩ := h
    obtain ⟨hlt, hx⟩ := var_lt hv
    unfold finMem
    have e : (m.vars.set r (some [.v (.int .i64 rule), .lst (.tok m.toks.length (fl.length - 1)) 3 (rowsFl fl)]) ++ L).take m.vars.length = m.vars.set r (some [.v (.int .i64 rule), .lst (.tok m.toks.length (fl.length - 1)) 3 (rowsFl fl)]) := by
      rw [List.take_append_of_le_length (by simp)]
      exact List.take_of_length_le (by simp)
    rw [if_neg]
    · simp only [e]
    · simp only [e]
      intro he
      have : (m.vars.set r (some [.v (.int .i64 rule), .lst (.tok m.toks.length (fl.length - 1)) 3 (rowsFl fl)]))[r]? = m.vars[r]? := by rw [he]
      rw [List.getElem?_set_self hlt, hx] at this
      simp at this
theorem var_set_ne {m : Mem} {r q : Nat} {cs cs' : List AV} {T : List Nat} (hq : q ≠ r) (h : m.var q = some cs) : ({ vars := m.vars.set r (some cs'), toks := T } : Mem).var q = some cs := by
  apply var_of
  show (m.vars.set r _)[q]? = _
  rw [List.getElem?_set_ne (fun h => hq h.symm), (var_lt h).2]
theorem push_old {m : Mem} {q : Nat} {cs cs' : List AV} (h : m.var q = some cs) : (m.push cs').var q = some cs := by
  apply var_of
  show (m.vars ++ [_])[q]? = _
  rw [List.getElem?_append_left (var_lt h).1, (var_lt h).2]
theorem above_len {m m' : Mem} (h : Above m m') : m.vars.length ≤ m'.vars.length := by
  obtain ⟨L, rfl⟩ := h
  simp
theorem note_step {m m' : Mem} {r : Nat} {rule : Int} {fl : List Fl} (hv : m.var r = some [.v (.int .i64 rule), .lst .full 3 []]) (h : Above (flMem m r rule fl) m') (hl : fl.length < 4294967295) (b : Bool) (i p : Int) :
    ∃ m'', noteG [.ptr r 0, .v (.bool b), .v (.int .i64 i), .v (.int .i64 p)] m' = some (.tup [], m'') ∧ Above (flMem m r rule (if b then fl ++ [⟨rule, i, p⟩] else fl)) m'' ∧ (∀ q cs, q ≠ r → m'.var q = some cs → m''.var q = some cs) := by
  have hv' := above_var h (flMem_var (fl := fl) hv)
  have ht := above_toks h
  have hlt := (var_lt hv).1
  cases b with
  | false => exact ⟨m', rfl, h, fun q cs _ h => h⟩
  | true =>
    by_cases hn : fl = []
    · subst hn
      rw [flMem_nil] at h ht
      have e1 : flLst m [] = .lst .full 3 [] := if_pos rfl
      rw [e1] at hv'
      refine ⟨{ vars := m'.vars.set r (some [.v (.int .i64 rule), .lst (.tok m'.toks.length 0) 3 [[.v (.int .i64 rule), .v (.int .i64 i), .v (.int .i64 p)]]]), toks := m'.toks ++ [0] }, ?_, ?_, fun q cs hq hc => var_set_ne hq hc⟩
      · simp only [noteG, if_true, hv', List.length_nil, List.nil_append]
        rw [if_pos (by decide)]
      · have e2 : flMem m r rule ([] ++ [⟨rule, i, p⟩]) = { vars := m.vars.set r (some [.v (.int .i64 rule), .lst (.tok m.toks.length 0) 3 [[.v (.int .i64 rule), .v (.int .i64 i), .v (.int .i64 p)]]]), toks := m.toks ++ [0] } := if_neg (by simp)
        rw [if_pos rfl, e2, ht]
        exact above_set h hlt
    · have e1 : flLst m fl = .lst (.tok m.toks.length (fl.length - 1)) 3 (rowsFl fl) := if_neg hn
      have e0 : flMem m r rule fl = { vars := m.vars.set r (some [.v (.int .i64 rule), .lst (.tok m.toks.length (fl.length - 1)) 3 (rowsFl fl)]), toks := m.toks ++ [fl.length - 1] } := if_neg hn
      have hpos : 0 < fl.length := by cases fl with | nil => exact absurd rfl hn | cons a b => simp
      rw [e1] at hv'
      rw [e0] at h ht
      simp only at ht
      have hid : m'.toks[m.toks.length]? = some (fl.length - 1) := by rw [ht]; simp
      refine ⟨{ vars := m'.vars.set r (some [.v (.int .i64 rule), .lst (.tok m.toks.length (fl.length - 1 + 1)) 3 (rowsFl fl ++ [[.v (.int .i64 rule), .v (.int .i64 i), .v (.int .i64 p)]])]), toks := m'.toks.set m.toks.length (fl.length - 1 + 1) }, ?_, ?_, fun q cs hq hc => var_set_ne hq hc⟩
      · simp only [noteG, if_true, hv']
        rw [if_pos ⟨by rw [rowsFl_len]; unfold lim; omega, hid⟩]
      · have e2 : flMem m r rule (fl ++ [⟨rule, i, p⟩]) = { vars := m.vars.set r (some [.v (.int .i64 rule), .lst (.tok m.toks.length (fl.length - 1 + 1)) 3 (rowsFl fl ++ [[.v (.int .i64 rule), .v (.int .i64 i), .v (.int .i64 p)]])]), toks := m.toks ++ [fl.length - 1 + 1] } := by
          unfold flMem
          rw [if_neg (by simp)]
          have : (fl ++ [(⟨rule, i, p⟩ : Fl)]).length - 1 = fl.length - 1 + 1 := by simp; omega
          rw [this, ← rowsFl_app]
          rfl
        rw [if_pos rfl, e2, ht, show (m.toks ++ [fl.length - 1]).set m.toks.length (fl.length - 1 + 1) = m.toks ++ [fl.length - 1 + 1] by simp [List.set_append]]
        have := above_set (T := m.toks ++ [fl.length - 1 + 1]) (cs := [.v (.int .i64 rule), .lst (.tok m.toks.length (fl.length - 1 + 1)) 3 (rowsFl fl ++ [[.v (.int .i64 rule), .v (.int .i64 i), .v (.int .i64 p)]])]) h (r := r) (by simpa using hlt)
        simpa using this
/-! ### is a text among others? -/
def among (l : List ByteArray) (s : ByteArray) : Bool := l.any fun x => decide (x = s)
def amongG : List AV → Mem → Option (AV × Mem)
  | [.lst _ 1 rows, .v (.string s)], m =>
    match unS rows with
    | some l => if l.length ≤ 9223372036854775807 then some (.v (.bool (among l s)), m) else none
    | none => none
  | _, _ => none
theorem amongG_eq {m : Mem} {g : Grow} {l : List ByteArray} {s : ByteArray} (hl : l.length ≤ 9223372036854775807) : amongG [.lst g 1 (rowsS l), .v (.string s)] m = some (.v (.bool (among l s)), m) := by
  simp only [amongG, unS_rowsS]
  rw [if_pos hl]
theorem place_in (l : List ByteArray) (s : ByteArray) : decide (placeOf l s ≥ 0) = among l s := firstAt_any (fun x => decide (x = s)) l 0
def kpAmong : Nat → Option (List Nat) := fun
  | 0 => some [0, 1]
  | 1 => some [4]
  | _ => none
def tab_among_ok : List (FuncId × (List AV → Mem → Option (AV × Mem))) := [(114, placeG)]
theorem among_ok : FunOk Try.prog 99 amongG := by
  have hC := table_ok (P := Try.prog) (l := tab_among_ok) (table_more index_ok table_nil)
  have t1 := fun args mm => table_at (l := tab_among_ok) (f := 114) (args := args) (m := mm) rfl
  refine fun_ok mixed hC Try.func99 rfl kpAmong false rfl fun args m r h => ?_
  unfold amongG at h
  split at h
  · rename_i g rows s
    split at h
    · rename_i l hl0
      obtain rfl := unS_some hl0
      split at h
      · rename_i hl
        simp only [Option.some.injEq] at h
        subst h
        refine ⟨Nat.le_of_ble_eq_true rfl, ?_⟩
        simp only [entry, List.length_cons, List.length_nil, List.range, List.range.loop, List.zip_cons_cons, List.zip_nil_right]
        have f1 := fun mm => placeG_eq (m := mm) (g := .no) (s := s) hl
        have f2 := place_in l s
        repeat (first | refine runs_seq ?_ | refine runs_block ?_ | refine next_normal ?_ | refine inside_normal ?_ | refine next_exit ?_ | refine inside_exit ?_ | refine inside_other (by decide) ?_ | refine next_ret ?_ | refine inside_ret ?_ | refine runs_ops_kept ?_ | refine runs_skip ?_ | refine runs_exit ?_ | refine runs_ret ?_ | ((first | refine' ops_op rfl rfl (by decide) ?_ ?_ ?_ | refine' ops_yes rfl rfl (by simp only [Ev.get, reduceIte, Nat.reduceEqDiff, t1, f1, f2]; first | done | rfl) rfl (by decide) ?_ ?_ ?_ | refine' ops_op0 rfl rfl ?_ ?_ ?_); rotate_left 2; (focus (simp only [evOp, opd, constAV, constCell, Ev.get, reduceIte, Nat.reduceEqDiff, reduceCtorEq, evBinN, nilCmp, evBin, evInt, evUn, evConvert, evBuiltin, evLen, evField, evPart, tStr, tInt, tElem, tArr, tBool, tAgg, tField, Try.underlying9, Try.underlying3, Try.underlying4, Try.underlying5, Try.underlying38, Try.underlying2, List.zipWith, Option.map_some, Option.map_none, List.length_cons, List.length_nil, ne_eq, Int.reduceEq, not_false_eq_true, and_self, and_true, true_and, szStr, szInt, Option.getD_some, isNil, evStr, loadStr, loadInt, rowsS_len, evCall, List.size_toArray, List.append_nil, List.nil_append, List.map_cons, List.map_nil, argAV, argCell, List.toList_toArray, fieldTy, t1, f1, f2]; first | done | rfl)); exact (fun h => by first | rfl | (simp at h; done) | exact absurd (Bool.and_eq_true_iff.mp h).2 (by decide))) | refine ops_no rfl rfl (by simp only [Ev.get, reduceIte, Nat.reduceEqDiff, t1, f1, f2]; first | done | rfl) (by decide) rfl (by decide) ?_ | refine ops_off rfl rfl rfl rfl (by decide) ?_ | (refine ops_nil ?_; intro e2 h2; simp only [restr, kpAmong, List.map_cons, List.map_nil, Ev.get, reduceIte, Nat.reduceEqDiff] at h2; subst h2))
        exact leaves_v rfl rfl
      · cases h
    · cases h
  · cases h
end Go.Proofs.Ytojaokhkbmiidaa.Ev

namespace Go.Proofs.Ytojaokhkbmiidaa.Ev
open Go Go.Proofs
set_option maxRecDepth 10000
set_option maxHeartbeats 8000000
set_option linter.unusedVariables false
set_option linter.unusedSimpArgs false
attribute [local irreducible] Next Inside Runs Ops table
def bC (b : List Bool) : List AV := b.map fun x => .v (.bool x)
def unBC : List AV → Option (List Bool)
  | [] => some []
  | .v (.bool x) :: l => (unBC l).map (x :: ·)
  | _ => none
theorem unBC_bC : ∀ b : List Bool, unBC (bC b) = some b
  | [] => rfl
  | x :: l => by have := unBC_bC l; simp only [bC, List.map_cons, unBC] at *; rw [this]; rfl
theorem unBC_some : ∀ {c : List AV} {b : List Bool}, unBC c = some b → c = bC b
  | [], b, h => by cases h; rfl
  | .v (.bool x) :: l, b, h => by
    simp only [unBC, Option.map_eq_some_iff] at h
    obtain ⟨b', h1, rfl⟩ := h
    rw [unBC_some h1]; rfl
theorem bC_len (b : List Bool) : (bC b).length = b.length := List.length_map ..
theorem szBool : tSize Try.prog 4 = some 1 := by kernel_rfl
theorem elBools : tElem Try.prog 50 = some 4 := by kernel_rfl
theorem naBools : tArr Try.prog 50 = none := by kernel_rfl
theorem vsAtB {r n i : Nat} {kk : IntKind} (hi : i < n) : evIndexAddr Try.prog 50 (.vs r 0 1 n n) (.v (.int kk (i : Int))) = some (.ptr r i) := by
  unfold evIndexAddr
  simp only [naBools, elBools, szBool]
  rw [if_pos ⟨trivial, by omega, by omega⟩, Int.toNat_natCast]
  simp
def setB (m : Mem) (r : Nat) (b : List Bool) : Mem := { m with vars := m.vars.set r (some (bC b)) }
theorem splice_setB : ∀ (l : List Bool) (i : Nat) (v : Bool), i < l.length → splice (bC l) i [.v (.bool v)] = bC (l.set i v)
  | [], i, v, h => by simp at h
  | a :: l, 0, v, _ => by simp [splice, bC]
  | a :: l, i + 1, v, h => by
    have := splice_setB l i v (by simpa using h)
    simp only [splice, bC, List.map_cons, List.length_cons, List.length_nil, List.take_succ_cons, List.set_cons_succ] at this ⊢
    rw [show i + 1 + (0 + 1) = (i + (0 + 1)) + 1 by omega, List.drop_succ_cons]
    simpa using this
theorem storeB {m : Mem} {r i : Nat} {b : List Bool} {v : Bool} (hv : m.var r = some (bC b)) (hi : i < b.length) : evStore Try.prog m 4 (.ptr r i) (.v (.bool v)) = some (setB m r (b.set i v)) := by
  unfold evStore
  have h1 : cellsOf (.v (.bool v)) = some [.v (.bool v)] := by simp [cellsOf, flat, okCell, one]
  simp only [h1, szBool, hv]
  rw [if_pos ⟨rfl, by rw [bC_len]; exact hi, rfl⟩, splice_setB b i v hi]
  rfl
theorem setB_var {m : Mem} {r : Nat} {b : List Bool} (h : r < m.vars.length) : (setB m r b).var r = some (bC b) := var_of (by show (m.vars.set r _)[r]? = _; rw [List.getElem?_set_self h])
theorem setB_setB {m : Mem} {r : Nat} {b c : List Bool} : setB (setB m r b) r c = setB m r c := by
  unfold setB
  rw [List.set_set]
theorem setB_len {m : Mem} {r : Nat} {b : List Bool} : (setB m r b).vars.length = m.vars.length := by unfold setB; simp
theorem setB_self {m : Mem} {r : Nat} {b : List Bool} (h : m.var r = some (bC b)) : setB m r b = m := by
  unfold setB
  obtain ⟨h1, h2⟩ := var_lt h
  rw [List.getElem?_eq_some_iff] at h2
  obtain ⟨h3, h4⟩ := h2
  rw [← h4, List.set_getElem_self]
theorem fin_setB {m : Mem} {r : Nat} {b : List Bool} : finMem m (setB m r b) = setB m r b := by
  unfold finMem setB
  have e : (m.vars.set r (some (bC b))).take m.vars.length = m.vars.set r (some (bC b)) := List.take_of_length_le (by simp)
  simp only [e]
  split
  · rename_i h
    rw [e] at h
    simp only [List.take_length, h]
  · rfl
theorem leaves_void {P : Program} {fn : Func} {m m' m2 : Mem} {e : Env} (h : fn.results = #[]) (hm : finMem m m' = m2) : Leaves P false fn m (.tup [], m2) .ret e m' := by
  show evRet P false fn m e m' = _
  unfold evRet
  rw [h]
  simp [hm]
theorem fldLen {x : Nd} : evFieldAddr Try.prog 56 (.eptr x.row) 5 = some (.eptr [iv x.u, iv x.n]) := by kernel_rfl
theorem ldLen {m : Mem} {u n : Int} : evLoad Try.prog m 54 (.eptr [iv u, iv n]) = some (.agg [.v (.int .i64 u), .v (.int .i64 n)]) := by kernel_rfl
theorem at_k1 {a : Int} : evIndexAddr Try.prog 25 (.lst .no 1 (rowsI [a])) (.v (.int .i64 0)) = some (.eptr [.v (.int .i64 a)]) := by kernel_rfl
theorem at_k20 {a b : Int} : evIndexAddr Try.prog 25 (.lst .no 1 (rowsI [a, b])) (.v (.int .i64 0)) = some (.eptr [.v (.int .i64 a)]) := by kernel_rfl
theorem at_k21 {a b : Int} : evIndexAddr Try.prog 25 (.lst .no 1 (rowsI [a, b])) (.v (.int .i64 1)) = some (.eptr [.v (.int .i64 b)]) := by kernel_rfl
/-! ### whether a number is within -/
def withinIG : List AV → Mem → Option (AV × Mem)
  | [.v (.int .i64 x)], m => some (.v (.bool (decide (inW x))), m)
  | _, _ => none
def kpWithinI : Nat → Option (List Nat) := fun
  | 0 => some [0]
  | 1 => some [2]
  | _ => none
theorem withinI_ok : FunOk Try.prog 51 withinIG := by
  have hC := table_ok (P := Try.prog) (l := []) table_nil
  refine fun_ok mixed hC Try.func51 rfl kpWithinI false rfl fun args m r h => ?_
  unfold withinIG at h
  split at h
  · rename_i x
    simp only [Option.some.injEq] at h
    subst h
    refine ⟨Nat.le_of_ble_eq_true rfl, ?_⟩
    simp only [entry, List.length_cons, List.length_nil, List.range, List.range.loop, List.zip_cons_cons, List.zip_nil_right]
    by_cases h0 : x ≥ 0
    · have b0 : decide (x ≥ 0) = true := decide_eq_true h0
      by_cases h1 : x ≤ 1000000
      · have b1 : decide (x ≤ 1000000) = true := decide_eq_true h1
        rw [decide_eq_true (show inW x from ⟨h0, h1⟩)]
        repeat (first | refine runs_seq ?_ | refine runs_block ?_ | refine next_normal ?_ | refine inside_normal ?_ | refine next_exit ?_ | refine inside_exit ?_ | refine inside_other (by decide) ?_ | refine next_ret ?_ | refine inside_ret ?_ | refine runs_ops_kept ?_ | refine runs_skip ?_ | refine runs_exit ?_ | refine runs_ret ?_ | ((first | refine' ops_op rfl rfl (by decide) ?_ ?_ ?_ | refine' ops_yes rfl rfl (by simp only [Ev.get, reduceIte, Nat.reduceEqDiff, b0, b1]; first | done | rfl) rfl (by decide) ?_ ?_ ?_ | refine' ops_op0 rfl rfl ?_ ?_ ?_); rotate_left 2; (focus (simp only [evOp, opd, constAV, constCell, Ev.get, reduceIte, Nat.reduceEqDiff, reduceCtorEq, evBinN, nilCmp, evBin, evInt, evUn, evConvert, evBuiltin, evLen, evField, evPart, tStr, tInt, tElem, tArr, tBool, tAgg, tField, Try.underlying9, Try.underlying3, Try.underlying4, Try.underlying5, Try.underlying2, List.zipWith, Option.map_some, Option.map_none, List.length_cons, List.length_nil, ne_eq, Int.reduceEq, not_false_eq_true, and_self, and_true, true_and, szStr, szInt, Option.getD_some, isNil, evStr, loadStr, loadInt, fldOp, ldOp, evMinMax, evFoldI, evCall, List.size_toArray, List.append_nil, List.nil_append, List.map_cons, List.map_nil, argAV, argCell, List.toList_toArray, fieldTy, b0, b1]; first | done | rfl)); exact (fun h => by first | rfl | (simp at h; done) | exact absurd (Bool.and_eq_true_iff.mp h).2 (by decide))) | refine ops_no rfl rfl (by simp only [Ev.get, reduceIte, Nat.reduceEqDiff, b0, b1]; first | done | rfl) (by decide) rfl (by decide) ?_ | refine ops_off rfl rfl rfl rfl (by decide) ?_ | (refine ops_nil ?_; intro e2 h2; simp only [restr, kpWithinI, List.map_cons, List.map_nil, Ev.get, reduceIte, Nat.reduceEqDiff] at h2; subst h2))
        exact leaves_v rfl rfl
      · have b1 : decide (x ≤ 1000000) = false := decide_eq_false h1
        rw [decide_eq_false (fun h : inW x => h1 h.2)]
        repeat (first | refine runs_seq ?_ | refine runs_block ?_ | refine next_normal ?_ | refine inside_normal ?_ | refine next_exit ?_ | refine inside_exit ?_ | refine inside_other (by decide) ?_ | refine next_ret ?_ | refine inside_ret ?_ | refine runs_ops_kept ?_ | refine runs_skip ?_ | refine runs_exit ?_ | refine runs_ret ?_ | ((first | refine' ops_op rfl rfl (by decide) ?_ ?_ ?_ | refine' ops_yes rfl rfl (by simp only [Ev.get, reduceIte, Nat.reduceEqDiff, b0, b1]; first | done | rfl) rfl (by decide) ?_ ?_ ?_ | refine' ops_op0 rfl rfl ?_ ?_ ?_); rotate_left 2; (focus (simp only [evOp, opd, constAV, constCell, Ev.get, reduceIte, Nat.reduceEqDiff, reduceCtorEq, evBinN, nilCmp, evBin, evInt, evUn, evConvert, evBuiltin, evLen, evField, evPart, tStr, tInt, tElem, tArr, tBool, tAgg, tField, Try.underlying9, Try.underlying3, Try.underlying4, Try.underlying5, Try.underlying2, List.zipWith, Option.map_some, Option.map_none, List.length_cons, List.length_nil, ne_eq, Int.reduceEq, not_false_eq_true, and_self, and_true, true_and, szStr, szInt, Option.getD_some, isNil, evStr, loadStr, loadInt, fldOp, ldOp, evMinMax, evFoldI, evCall, List.size_toArray, List.append_nil, List.nil_append, List.map_cons, List.map_nil, argAV, argCell, List.toList_toArray, fieldTy, b0, b1]; first | done | rfl)); exact (fun h => by first | rfl | (simp at h; done) | exact absurd (Bool.and_eq_true_iff.mp h).2 (by decide))) | refine ops_no rfl rfl (by simp only [Ev.get, reduceIte, Nat.reduceEqDiff, b0, b1]; first | done | rfl) (by decide) rfl (by decide) ?_ | refine ops_off rfl rfl rfl rfl (by decide) ?_ | (refine ops_nil ?_; intro e2 h2; simp only [restr, kpWithinI, List.map_cons, List.map_nil, Ev.get, reduceIte, Nat.reduceEqDiff] at h2; subst h2))
        exact leaves_v rfl rfl
    · have b0 : decide (x ≥ 0) = false := decide_eq_false h0
      rw [decide_eq_false (fun h : inW x => h0 h.1)]
      repeat (first | refine runs_seq ?_ | refine runs_block ?_ | refine next_normal ?_ | refine inside_normal ?_ | refine next_exit ?_ | refine inside_exit ?_ | refine inside_other (by decide) ?_ | refine next_ret ?_ | refine inside_ret ?_ | refine runs_ops_kept ?_ | refine runs_skip ?_ | refine runs_exit ?_ | refine runs_ret ?_ | ((first | refine' ops_op rfl rfl (by decide) ?_ ?_ ?_ | refine' ops_yes rfl rfl (by simp only [Ev.get, reduceIte, Nat.reduceEqDiff, b0]; first | done | rfl) rfl (by decide) ?_ ?_ ?_ | refine' ops_op0 rfl rfl ?_ ?_ ?_); rotate_left 2; (focus (simp only [evOp, opd, constAV, constCell, Ev.get, reduceIte, Nat.reduceEqDiff, reduceCtorEq, evBinN, nilCmp, evBin, evInt, evUn, evConvert, evBuiltin, evLen, evField, evPart, tStr, tInt, tElem, tArr, tBool, tAgg, tField, Try.underlying9, Try.underlying3, Try.underlying4, Try.underlying5, Try.underlying2, List.zipWith, Option.map_some, Option.map_none, List.length_cons, List.length_nil, ne_eq, Int.reduceEq, not_false_eq_true, and_self, and_true, true_and, szStr, szInt, Option.getD_some, isNil, evStr, loadStr, loadInt, fldOp, ldOp, evMinMax, evFoldI, evCall, List.size_toArray, List.append_nil, List.nil_append, List.map_cons, List.map_nil, argAV, argCell, List.toList_toArray, fieldTy, b0]; first | done | rfl)); exact (fun h => by first | rfl | (simp at h; done) | exact absurd (Bool.and_eq_true_iff.mp h).2 (by decide))) | refine ops_no rfl rfl (by simp only [Ev.get, reduceIte, Nat.reduceEqDiff, b0]; first | done | rfl) (by decide) rfl (by decide) ?_ | refine ops_off rfl rfl rfl rfl (by decide) ?_ | (refine ops_nil ?_; intro e2 h2; simp only [restr, kpWithinI, List.map_cons, List.map_nil, Ev.get, reduceIte, Nat.reduceEqDiff] at h2; subst h2))
      exact leaves_v rfl rfl
  · cases h
/-! ### what is below -/
theorem below8 {l : List Nd} {p : Nat} (h : 0 ≤ endOf l (p : Int)) (h8 : (l.getD p nd0).op = 8) : belowOf l (p : Int) = [((p + 1 : Nat) : Int)] := by
  have hin := endOf_in l (p : Int)
  have ha : arAt l (p : Int) = 1 := by
    unfold arAt arityOf
    rw [Int.toNat_natCast, h8]
    rfl
  unfold belowOf
  rw [if_neg (by omega), ha]
  rfl
theorem below9 {l : List Nd} {p q : Nat} (h : 0 ≤ endOf l (p : Int)) (h9 : (l.getD p nd0).op = 9) (hq : endOf l ((p + 1 : Nat) : Int) = (q : Int)) : belowOf l (p : Int) = [((p + 1 : Nat) : Int), (q : Int)] := by
  have hin := endOf_in l (p : Int)
  have ha : arAt l (p : Int) = 2 := by
    unfold arAt arityOf
    rw [Int.toNat_natCast, h9]
    rfl
  unfold belowOf
  rw [if_neg (by omega), ha, ← hq]
  rfl
/-! ### reach -/
def reachGk (n : Nat) : List AV → Mem → Option (AV × Mem)
  | [.lst _ 7 rows, .v (.int .i64 at_), .v (.int .i64 k), .v (.int .i64 ep), .vs r 0 1 c d], m =>
    match unN rows, (m.var r).bind unBC with
    | some l, some b => if ((l.length ≤ big40 ∧ 0 ≤ at_ ∧ 0 ≤ endOf l at_ ∧ ∀ x ∈ l, mayN x) ∧ inW k ∧ inW ep ∧ c = l.length ∧ d = l.length ∧ b.length = l.length) ∧ (l.length : Int) - at_ < (n : Int) then some (.tup [], setB m r (reachF l ep l.length at_.toNat k b)) else none
    | _, _ => none
  | _, _ => none
theorem reachGk_eq {n : Nat} {m : Mem} {g : Grow} {l : List Nd} {p : Nat} {k ep : Int} {r : Nat} {b : List Bool} (h : l.length ≤ big40) (h2 : 0 ≤ endOf l (p : Int)) (hm : ∀ x ∈ l, mayN x) (hk : inW k) (he : inW ep) (hv : m.var r = some (bC b)) (hb : b.length = l.length) (h3 : (l.length : Int) - (p : Int) < (n : Int)) :
    reachGk n [.lst g 7 (rowsN l), .v (.int .i64 (p : Int)), .v (.int .i64 k), .v (.int .i64 ep), .vs r 0 1 l.length l.length] m = some (.tup [], setB m r (reachF l ep l.length p k b)) := by
  simp only [reachGk, unN_rowsN, hv, Option.bind_some, unBC_bC]
  rw [if_pos ⟨⟨⟨h, by omega, h2, hm⟩, hk, he, trivial, trivial, hb⟩, h3⟩, Int.toNat_natCast]
theorem reachF_succ {l : List Nd} {ep : Int} {p : Nat} {k : Int} {b : List Bool} (h : 0 ≤ endOf l (p : Int)) : reachF l ep l.length p k b = reachF l ep (l.length + 1) p k b := by
  have := endOf_in l (p : Int)
  exact reachF_fuel _ _ _ _ _ h (by omega) (by omega)
theorem reachF_len {l : List Nd} {ep : Int} : ∀ (f p : Nat) (k : Int) (b : List Bool), (reachF l ep f p k b).length = b.length
  | 0, p, k, b => rfl
  | f + 1, p, k, b => by
    simp only [reachF]
    split
    · rfl
    · split
      · rw [reachF_len f, List.length_set]
      · split
        · rw [reachF_len f, reachF_len f, List.length_set]
        · rw [List.length_set]
def kpReach : Nat → Option (List Nat) := fun
  | 0 => some [0, 1, 2, 3, 4, 13]
  | 1 => some [0, 1, 2, 3, 4]
  | 2 => some [0, 1, 2, 3, 4, 10]
  | 3 => some [0, 1, 2, 3, 4, 10, 11]
  | 4 => some [0, 2, 3, 4, 10, 11, 32]
  | 5 => some [0, 2, 3, 4, 10, 11, 32, 33]
  | 6 => some []
  | 7 => some [0, 2, 3, 4, 10, 11, 45]
  | 8 => some [0, 2, 3, 4, 10, 11]
  | 9 => some []
  | _ => none
theorem reach_k : ∀ n, FunOk Try.prog 52 (reachGk n) := prev_ok fun n ih => by
  have hC := table_ok (P := Try.prog) (l := [(52, prevG reachGk n), (11, belowG), (74, withinLG)]) (table_more ih (table_more below_ok (table_more withinL_ok table_nil)))
  have t1 := fun args mm => table_at (l := [(52, prevG reachGk n), (11, belowG), (74, withinLG)]) (f := 52) (args := args) (m := mm) rfl
  have t2 := fun args mm => table_at (l := [(52, prevG reachGk n), (11, belowG), (74, withinLG)]) (f := 11) (args := args) (m := mm) rfl
  have t3 := fun args mm => table_at (l := [(52, prevG reachGk n), (11, belowG), (74, withinLG)]) (f := 74) (args := args) (m := mm) rfl
  refine fun_ok mixed hC Try.func52 rfl kpReach false rfl fun args m r h => ?_
  unfold reachGk at h
  split at h
  · rename_i g rows at_ k ep r c d
    split at h
    · rename_i l b hl0 hb0
      obtain rfl := unN_some hl0
      split at h
      · rename_i hb
        obtain ⟨⟨⟨hlen, h0, he, hmay⟩, hk, hep, rfl, rfl, hbl⟩, hn⟩ := hb
        obtain ⟨cs, hv, hcs⟩ := Option.bind_eq_some_iff.1 hb0
        obtain rfl := unBC_some hcs
        obtain ⟨p, rfl⟩ := Int.eq_ofNat_of_zero_le h0
        simp only [Option.some.injEq, Int.toNat_natCast] at h
        subst h
        refine ⟨Nat.le_of_ble_eq_true rfl, ?_⟩
        simp only [entry, List.length_cons, List.length_nil, List.range, List.range.loop, List.zip_cons_cons, List.zip_nil_right]
        have hin := endOf_in l (p : Int)
        have hlen' := hlen
        unfold big40 at hlen
        have hrl := (var_lt hv).1
        rw [reachF_succ he]
        simp only [reachF]
        by_cases hk0 : k = 0
        · subst hk0
          rw [if_pos rfl, setB_self hv]
          repeat (first | refine runs_seq ?_ | refine runs_block ?_ | refine next_normal ?_ | refine inside_normal ?_ | refine next_exit ?_ | refine inside_exit ?_ | refine inside_other (by decide) ?_ | refine next_ret ?_ | refine inside_ret ?_ | refine runs_ops_kept ?_ | refine runs_skip ?_ | refine runs_exit ?_ | refine runs_ret ?_ | ((first | refine' ops_op rfl rfl (by decide) ?_ ?_ ?_ | refine' ops_yes rfl rfl (by simp only [Ev.get, reduceIte, Nat.reduceEqDiff]; first | done | rfl) rfl (by decide) ?_ ?_ ?_ | refine' ops_op0 rfl rfl ?_ ?_ ?_); rotate_left 2; (focus (simp only [evOp, opd, constAV, constCell, Ev.get, reduceIte, Nat.reduceEqDiff, reduceCtorEq, evBinN, nilCmp, evBin, evInt, evUn, evConvert, evBuiltin, evLen, evField, evPart, tStr, tInt, tElem, tArr, tBool, tAgg, tField, Try.underlying9, Try.underlying3, Try.underlying4, Try.underlying5, Try.underlying21, Try.underlying38, Try.underlying25, Try.underlying33, Try.underlying2, Try.underlying22, Try.underlying56, Try.underlying54, List.zipWith, Option.map_some, Option.map_none, List.length_cons, List.length_nil, ne_eq, Int.reduceEq, not_false_eq_true, and_self, and_true, true_and, szStr, szInt, Option.getD_some, isNil, evStr, loadStr, loadInt, fldOp, ldOp, evMinMax, evFoldI, evCall, List.size_toArray, List.append_nil, List.nil_append, List.map_cons, List.map_nil, argAV, argCell, List.toList_toArray, fieldTy]; first | done | rfl)); exact (fun h => by first | rfl | (simp at h; done) | exact absurd (Bool.and_eq_true_iff.mp h).2 (by decide))) | refine ops_no rfl rfl (by simp only [Ev.get, reduceIte, Nat.reduceEqDiff]; first | done | rfl) (by decide) rfl (by decide) ?_ | refine ops_off rfl rfl rfl rfl (by decide) ?_ | (refine ops_nil ?_; intro e2 h2; simp only [restr, kpReach, List.map_cons, List.map_nil, Ev.get, reduceIte, Nat.reduceEqDiff] at h2; subst h2))
          refine runs_cond rfl (fun hc => ?_) (fun hc => by cases hc)
          repeat (first | refine runs_seq ?_ | refine runs_block ?_ | refine next_normal ?_ | refine inside_normal ?_ | refine next_exit ?_ | refine inside_exit ?_ | refine inside_other (by decide) ?_ | refine next_ret ?_ | refine inside_ret ?_ | refine runs_ops_kept ?_ | refine runs_skip ?_ | refine runs_exit ?_ | refine runs_ret ?_ | ((first | refine' ops_op rfl rfl (by decide) ?_ ?_ ?_ | refine' ops_yes rfl rfl (by simp only [Ev.get, reduceIte, Nat.reduceEqDiff]; first | done | rfl) rfl (by decide) ?_ ?_ ?_ | refine' ops_op0 rfl rfl ?_ ?_ ?_); rotate_left 2; (focus (simp only [evOp, opd, constAV, constCell, Ev.get, reduceIte, Nat.reduceEqDiff, reduceCtorEq, evBinN, nilCmp, evBin, evInt, evUn, evConvert, evBuiltin, evLen, evField, evPart, tStr, tInt, tElem, tArr, tBool, tAgg, tField, Try.underlying9, Try.underlying3, Try.underlying4, Try.underlying5, Try.underlying21, Try.underlying38, Try.underlying25, Try.underlying33, Try.underlying2, Try.underlying22, Try.underlying56, Try.underlying54, List.zipWith, Option.map_some, Option.map_none, List.length_cons, List.length_nil, ne_eq, Int.reduceEq, not_false_eq_true, and_self, and_true, true_and, szStr, szInt, Option.getD_some, isNil, evStr, loadStr, loadInt, fldOp, ldOp, evMinMax, evFoldI, evCall, List.size_toArray, List.append_nil, List.nil_append, List.map_cons, List.map_nil, argAV, argCell, List.toList_toArray, fieldTy]; first | done | rfl)); exact (fun h => by first | rfl | (simp at h; done) | exact absurd (Bool.and_eq_true_iff.mp h).2 (by decide))) | refine ops_no rfl rfl (by simp only [Ev.get, reduceIte, Nat.reduceEqDiff]; first | done | rfl) (by decide) rfl (by decide) ?_ | refine ops_off rfl rfl rfl rfl (by decide) ?_ | (refine ops_nil ?_; intro e2 h2; simp only [restr, kpReach, List.map_cons, List.map_nil, Ev.get, reduceIte, Nat.reduceEqDiff] at h2; subst h2))
          exact leaves_void rfl (finMem_self _)
        · rw [if_neg hk0]
          have b0 : (k == 0) = false := by simpa using hk0
          have hp : p < l.length := by omega
          have f1 := vsAtB (r := r) (kk := .i64) hp
          have f2 := storeB (v := true) hv (show p < b.length by omega)
          have f3 := atNodes (g := g) (kk := .i64) hp
          have hx : mayN (l.getD p nd0) := hmay _ (by rw [List.getD, List.getElem?_eq_getElem hp]; exact List.getElem_mem _)
          unfold mayN at hx
          have hlm : lenMay (l.getD p nd0).u (l.getD p nd0).n := hx.2.2.2.2.2.2.2.2.2.2.2.2.2.2.1
          have f4 := fun mm => withinLG_eq (m := mm) hlm hk hep
          have hw := withinV_in hlm hk hep
          have f5 := fun mm => belowG_eq (m := mm) (g := .no) (at_ := (p : Int)) hlen' ⟨by omega, by omega⟩
          have hv2 := setB_var (b := b.set p true) hrl
          have hsl : (b.set p true).length = l.length := by rw [List.length_set]; exact hbl
          obtain ⟨n', rfl⟩ : ∃ n', n = n' + 1 := ⟨n - 1, by omega⟩
          generalize withinV (l.getD p nd0).u (l.getD p nd0).n k ep = w at f4 hw
          have hk' := hk
          unfold inW at hk'
          have r1 : IntKind.i64.wrap (k - w) = k - w := i64_wrap (by omega) (by omega)
          by_cases h8 : (l.getD p nd0).op = 8
          · rw [if_pos h8, below8 he h8] at *
            have hE := end_one he h8
            have c1 : ∀ g, prevG reachGk (n' + 1) [.lst g 7 (rowsN l), .v (.int .i64 ((p + 1 : Nat) : Int)), .v (.int .i64 (k - w)), .v (.int .i64 ep), .vs r 0 1 l.length l.length] (setB m r (b.set p true)) = _ := fun g => reachGk_eq (g := g) hlen' (by omega) hmay ⟨by omega, by omega⟩ hep hv2 hsl (by omega)
            rw [setB_setB] at c1
            generalize ((p + 1 : Nat) : Int) = p1 at f5 c1
            generalize l.getD p nd0 = x at f3 f4 h8
            have b8 : (x.op == 8) = true := by simpa using h8
            repeat (first | refine runs_seq ?_ | refine runs_block ?_ | refine next_normal ?_ | refine inside_normal ?_ | refine next_exit ?_ | refine inside_exit ?_ | refine inside_other (by decide) ?_ | refine next_ret ?_ | refine inside_ret ?_ | refine runs_ops_kept ?_ | refine runs_skip ?_ | refine runs_exit ?_ | refine runs_ret ?_ | ((first | refine' ops_op rfl rfl (by decide) ?_ ?_ ?_ | refine' ops_yes rfl rfl (by simp only [Ev.get, reduceIte, Nat.reduceEqDiff, b0]; first | done | rfl) rfl (by decide) ?_ ?_ ?_ | refine' ops_op0 rfl rfl ?_ ?_ ?_); rotate_left 2; (focus (simp only [evOp, opd, constAV, constCell, Ev.get, reduceIte, Nat.reduceEqDiff, reduceCtorEq, evBinN, nilCmp, evBin, evInt, evUn, evConvert, evBuiltin, evLen, evField, evPart, tStr, tInt, tElem, tArr, tBool, tAgg, tField, Try.underlying9, Try.underlying3, Try.underlying4, Try.underlying5, Try.underlying21, Try.underlying38, Try.underlying25, Try.underlying33, Try.underlying2, Try.underlying22, Try.underlying56, Try.underlying54, List.zipWith, Option.map_some, Option.map_none, List.length_cons, List.length_nil, ne_eq, Int.reduceEq, not_false_eq_true, and_self, and_true, true_and, szStr, szInt, Option.getD_some, isNil, evStr, loadStr, loadInt, fldOp, ldOp, evMinMax, evFoldI, evCall, List.size_toArray, List.append_nil, List.nil_append, List.map_cons, List.map_nil, argAV, argCell, List.toList_toArray, fieldTy, b0]; first | done | rfl)); exact (fun h => by first | rfl | (simp at h; done) | exact absurd (Bool.and_eq_true_iff.mp h).2 (by decide))) | refine ops_no rfl rfl (by simp only [Ev.get, reduceIte, Nat.reduceEqDiff, b0]; first | done | rfl) (by decide) rfl (by decide) ?_ | refine ops_off rfl rfl rfl rfl (by decide) ?_ | (refine ops_nil ?_; intro e2 h2; simp only [restr, kpReach, List.map_cons, List.map_nil, Ev.get, reduceIte, Nat.reduceEqDiff] at h2; subst h2))
            refine runs_cond rfl (fun hc => by cases hc) (fun hc => ?_)
            repeat (first | refine runs_seq ?_ | refine runs_block ?_ | refine next_normal ?_ | refine inside_normal ?_ | refine next_exit ?_ | refine inside_exit ?_ | refine inside_other (by decide) ?_ | refine next_ret ?_ | refine inside_ret ?_ | refine runs_ops_kept ?_ | refine runs_skip ?_ | refine runs_exit ?_ | refine runs_ret ?_ | ((first | refine' ops_op rfl rfl (by decide) ?_ ?_ ?_ | refine' ops_yes rfl rfl (by simp only [Ev.get, reduceIte, Nat.reduceEqDiff, f1, f2, f3, t3, f4, t2, f5, b8]; first | done | rfl) rfl (by decide) ?_ ?_ ?_ | refine' ops_op0 rfl rfl ?_ ?_ ?_); rotate_left 2; (focus (simp only [evOp, opd, constAV, constCell, Ev.get, reduceIte, Nat.reduceEqDiff, reduceCtorEq, evBinN, nilCmp, evBin, evInt, evUn, evConvert, evBuiltin, evLen, evField, evPart, tStr, tInt, tElem, tArr, tBool, tAgg, tField, Try.underlying9, Try.underlying3, Try.underlying4, Try.underlying5, Try.underlying21, Try.underlying38, Try.underlying25, Try.underlying33, Try.underlying2, Try.underlying22, Try.underlying56, Try.underlying54, List.zipWith, Option.map_some, Option.map_none, List.length_cons, List.length_nil, ne_eq, Int.reduceEq, not_false_eq_true, and_self, and_true, true_and, szStr, szInt, Option.getD_some, isNil, evStr, loadStr, loadInt, fldOp, ldOp, evMinMax, evFoldI, evCall, List.size_toArray, List.append_nil, List.nil_append, List.map_cons, List.map_nil, argAV, argCell, List.toList_toArray, fieldTy, f1, f2, f3, fldLen, ldLen, t3, f4, t2, f5, b8]; first | done | rfl)); exact (fun h => by first | rfl | (simp at h; done) | exact absurd (Bool.and_eq_true_iff.mp h).2 (by decide))) | refine ops_no rfl rfl (by simp only [Ev.get, reduceIte, Nat.reduceEqDiff, f1, f2, f3, t3, f4, t2, f5, b8]; first | done | rfl) (by decide) rfl (by decide) ?_ | refine ops_off rfl rfl rfl rfl (by decide) ?_ | (refine ops_nil ?_; intro e2 h2; simp only [restr, kpReach, List.map_cons, List.map_nil, Ev.get, reduceIte, Nat.reduceEqDiff] at h2; subst h2))
            refine runs_cond rfl (fun hc => ?_) (fun hc => by cases hc)
            repeat (first | refine runs_seq ?_ | refine runs_block ?_ | refine next_normal ?_ | refine inside_normal ?_ | refine next_exit ?_ | refine inside_exit ?_ | refine inside_other (by decide) ?_ | refine next_ret ?_ | refine inside_ret ?_ | refine runs_ops_kept ?_ | refine runs_skip ?_ | refine runs_exit ?_ | refine runs_ret ?_ | ((first | refine' ops_op rfl rfl (by decide) ?_ ?_ ?_ | refine' ops_yes rfl rfl (by simp only [Ev.get, reduceIte, Nat.reduceEqDiff, r1, t1, c1]; first | done | rfl) rfl (by decide) ?_ ?_ ?_ | refine' ops_op0 rfl rfl ?_ ?_ ?_); rotate_left 2; (focus (simp only [evOp, opd, constAV, constCell, Ev.get, reduceIte, Nat.reduceEqDiff, reduceCtorEq, evBinN, nilCmp, evBin, evInt, evUn, evConvert, evBuiltin, evLen, evField, evPart, tStr, tInt, tElem, tArr, tBool, tAgg, tField, Try.underlying9, Try.underlying3, Try.underlying4, Try.underlying5, Try.underlying21, Try.underlying38, Try.underlying25, Try.underlying33, Try.underlying2, Try.underlying22, Try.underlying56, Try.underlying54, List.zipWith, Option.map_some, Option.map_none, List.length_cons, List.length_nil, ne_eq, Int.reduceEq, not_false_eq_true, and_self, and_true, true_and, szStr, szInt, Option.getD_some, isNil, evStr, loadStr, loadInt, fldOp, ldOp, evMinMax, evFoldI, evCall, List.size_toArray, List.append_nil, List.nil_append, List.map_cons, List.map_nil, argAV, argCell, List.toList_toArray, fieldTy, at_k1, r1, t1, c1]; first | done | rfl)); exact (fun h => by first | rfl | (simp at h; done) | exact absurd (Bool.and_eq_true_iff.mp h).2 (by decide))) | refine ops_no rfl rfl (by simp only [Ev.get, reduceIte, Nat.reduceEqDiff, r1, t1, c1]; first | done | rfl) (by decide) rfl (by decide) ?_ | refine ops_off rfl rfl rfl rfl (by decide) ?_ | (refine ops_nil ?_; intro e2 h2; simp only [restr, kpReach, List.map_cons, List.map_nil, Ev.get, reduceIte, Nat.reduceEqDiff] at h2; subst h2))
            exact leaves_none rfl fin_setB
          · have b8 : ((l.getD p nd0).op == 8) = false := by simpa using h8
            rw [if_neg h8]
            by_cases h9 : (l.getD p nd0).op = 9
            · rw [if_pos h9]
              have b9 : ((l.getD p nd0).op == 9) = true := by simpa using h9
              obtain ⟨q, e1, e2, e3⟩ := end_two he h9
              have hin2 := endOf_in l (q : Int)
              have e4 := below9 he h9 e1
              rw [e4] at f5
              rw [e1, Int.toNat_natCast]
              have c1 : ∀ g, prevG reachGk (n' + 1) [.lst g 7 (rowsN l), .v (.int .i64 ((p + 1 : Nat) : Int)), .v (.int .i64 w), .v (.int .i64 ep), .vs r 0 1 l.length l.length] (setB m r (b.set p true)) = _ := fun g => reachGk_eq (g := g) hlen' (by omega) hmay ⟨by omega, by omega⟩ hep hv2 hsl (by omega)
              rw [setB_setB] at c1
              have hv3 := setB_var (b := reachF l ep l.length (p + 1) w (b.set p true)) hrl
              have c2 : ∀ g, prevG reachGk (n' + 1) [.lst g 7 (rowsN l), .v (.int .i64 (q : Int)), .v (.int .i64 (k - w)), .v (.int .i64 ep), .vs r 0 1 l.length l.length] (setB m r (reachF l ep l.length (p + 1) w (b.set p true))) = _ := fun g => reachGk_eq (g := g) hlen' (by omega) hmay ⟨by omega, by omega⟩ hep hv3 (by rw [reachF_len]; exact hsl) (by omega)
              rw [setB_setB] at c2
              generalize ((p + 1 : Nat) : Int) = p1 at f5 c1
              generalize (q : Int) = q1 at f5 c2
              generalize l.getD p nd0 = x at f3 f4 b8 b9
              repeat (first | refine runs_seq ?_ | refine runs_block ?_ | refine next_normal ?_ | refine inside_normal ?_ | refine next_exit ?_ | refine inside_exit ?_ | refine inside_other (by decide) ?_ | refine next_ret ?_ | refine inside_ret ?_ | refine runs_ops_kept ?_ | refine runs_skip ?_ | refine runs_exit ?_ | refine runs_ret ?_ | ((first | refine' ops_op rfl rfl (by decide) ?_ ?_ ?_ | refine' ops_yes rfl rfl (by simp only [Ev.get, reduceIte, Nat.reduceEqDiff, b0]; first | done | rfl) rfl (by decide) ?_ ?_ ?_ | refine' ops_op0 rfl rfl ?_ ?_ ?_); rotate_left 2; (focus (simp only [evOp, opd, constAV, constCell, Ev.get, reduceIte, Nat.reduceEqDiff, reduceCtorEq, evBinN, nilCmp, evBin, evInt, evUn, evConvert, evBuiltin, evLen, evField, evPart, tStr, tInt, tElem, tArr, tBool, tAgg, tField, Try.underlying9, Try.underlying3, Try.underlying4, Try.underlying5, Try.underlying21, Try.underlying38, Try.underlying25, Try.underlying33, Try.underlying2, Try.underlying22, Try.underlying56, Try.underlying54, List.zipWith, Option.map_some, Option.map_none, List.length_cons, List.length_nil, ne_eq, Int.reduceEq, not_false_eq_true, and_self, and_true, true_and, szStr, szInt, Option.getD_some, isNil, evStr, loadStr, loadInt, fldOp, ldOp, evMinMax, evFoldI, evCall, List.size_toArray, List.append_nil, List.nil_append, List.map_cons, List.map_nil, argAV, argCell, List.toList_toArray, fieldTy, b0]; first | done | rfl)); exact (fun h => by first | rfl | (simp at h; done) | exact absurd (Bool.and_eq_true_iff.mp h).2 (by decide))) | refine ops_no rfl rfl (by simp only [Ev.get, reduceIte, Nat.reduceEqDiff, b0]; first | done | rfl) (by decide) rfl (by decide) ?_ | refine ops_off rfl rfl rfl rfl (by decide) ?_ | (refine ops_nil ?_; intro e2 h2; simp only [restr, kpReach, List.map_cons, List.map_nil, Ev.get, reduceIte, Nat.reduceEqDiff] at h2; subst h2))
              refine runs_cond rfl (fun hc => by cases hc) (fun hc => ?_)
              repeat (first | refine runs_seq ?_ | refine runs_block ?_ | refine next_normal ?_ | refine inside_normal ?_ | refine next_exit ?_ | refine inside_exit ?_ | refine inside_other (by decide) ?_ | refine next_ret ?_ | refine inside_ret ?_ | refine runs_ops_kept ?_ | refine runs_skip ?_ | refine runs_exit ?_ | refine runs_ret ?_ | ((first | refine' ops_op rfl rfl (by decide) ?_ ?_ ?_ | refine' ops_yes rfl rfl (by simp only [Ev.get, reduceIte, Nat.reduceEqDiff, f1, f2, f3, t3, f4, t2, f5, b8]; first | done | rfl) rfl (by decide) ?_ ?_ ?_ | refine' ops_op0 rfl rfl ?_ ?_ ?_); rotate_left 2; (focus (simp only [evOp, opd, constAV, constCell, Ev.get, reduceIte, Nat.reduceEqDiff, reduceCtorEq, evBinN, nilCmp, evBin, evInt, evUn, evConvert, evBuiltin, evLen, evField, evPart, tStr, tInt, tElem, tArr, tBool, tAgg, tField, Try.underlying9, Try.underlying3, Try.underlying4, Try.underlying5, Try.underlying21, Try.underlying38, Try.underlying25, Try.underlying33, Try.underlying2, Try.underlying22, Try.underlying56, Try.underlying54, List.zipWith, Option.map_some, Option.map_none, List.length_cons, List.length_nil, ne_eq, Int.reduceEq, not_false_eq_true, and_self, and_true, true_and, szStr, szInt, Option.getD_some, isNil, evStr, loadStr, loadInt, fldOp, ldOp, evMinMax, evFoldI, evCall, List.size_toArray, List.append_nil, List.nil_append, List.map_cons, List.map_nil, argAV, argCell, List.toList_toArray, fieldTy, f1, f2, f3, fldLen, ldLen, t3, f4, t2, f5, b8]; first | done | rfl)); exact (fun h => by first | rfl | (simp at h; done) | exact absurd (Bool.and_eq_true_iff.mp h).2 (by decide))) | refine ops_no rfl rfl (by simp only [Ev.get, reduceIte, Nat.reduceEqDiff, f1, f2, f3, t3, f4, t2, f5, b8]; first | done | rfl) (by decide) rfl (by decide) ?_ | refine ops_off rfl rfl rfl rfl (by decide) ?_ | (refine ops_nil ?_; intro e2 h2; simp only [restr, kpReach, List.map_cons, List.map_nil, Ev.get, reduceIte, Nat.reduceEqDiff] at h2; subst h2))
              refine runs_cond rfl (fun hc => by cases hc) (fun hc => ?_)
              repeat (first | refine runs_seq ?_ | refine runs_block ?_ | refine next_normal ?_ | refine inside_normal ?_ | refine next_exit ?_ | refine inside_exit ?_ | refine inside_other (by decide) ?_ | refine next_ret ?_ | refine inside_ret ?_ | refine runs_ops_kept ?_ | refine runs_skip ?_ | refine runs_exit ?_ | refine runs_ret ?_ | ((first | refine' ops_op rfl rfl (by decide) ?_ ?_ ?_ | refine' ops_yes rfl rfl (by simp only [Ev.get, reduceIte, Nat.reduceEqDiff, b9]; first | done | rfl) rfl (by decide) ?_ ?_ ?_ | refine' ops_op0 rfl rfl ?_ ?_ ?_); rotate_left 2; (focus (simp only [evOp, opd, constAV, constCell, Ev.get, reduceIte, Nat.reduceEqDiff, reduceCtorEq, evBinN, nilCmp, evBin, evInt, evUn, evConvert, evBuiltin, evLen, evField, evPart, tStr, tInt, tElem, tArr, tBool, tAgg, tField, Try.underlying9, Try.underlying3, Try.underlying4, Try.underlying5, Try.underlying21, Try.underlying38, Try.underlying25, Try.underlying33, Try.underlying2, Try.underlying22, Try.underlying56, Try.underlying54, List.zipWith, Option.map_some, Option.map_none, List.length_cons, List.length_nil, ne_eq, Int.reduceEq, not_false_eq_true, and_self, and_true, true_and, szStr, szInt, Option.getD_some, isNil, evStr, loadStr, loadInt, fldOp, ldOp, evMinMax, evFoldI, evCall, List.size_toArray, List.append_nil, List.nil_append, List.map_cons, List.map_nil, argAV, argCell, List.toList_toArray, fieldTy, b9]; first | done | rfl)); exact (fun h => by first | rfl | (simp at h; done) | exact absurd (Bool.and_eq_true_iff.mp h).2 (by decide))) | refine ops_no rfl rfl (by simp only [Ev.get, reduceIte, Nat.reduceEqDiff, b9]; first | done | rfl) (by decide) rfl (by decide) ?_ | refine ops_off rfl rfl rfl rfl (by decide) ?_ | (refine ops_nil ?_; intro e2 h2; simp only [restr, kpReach, List.map_cons, List.map_nil, Ev.get, reduceIte, Nat.reduceEqDiff] at h2; subst h2))
              refine runs_cond rfl (fun hc => ?_) (fun hc => by cases hc)
              repeat (first | refine runs_seq ?_ | refine runs_block ?_ | refine next_normal ?_ | refine inside_normal ?_ | refine next_exit ?_ | refine inside_exit ?_ | refine inside_other (by decide) ?_ | refine next_ret ?_ | refine inside_ret ?_ | refine runs_ops_kept ?_ | refine runs_skip ?_ | refine runs_exit ?_ | refine runs_ret ?_ | ((first | refine' ops_op rfl rfl (by decide) ?_ ?_ ?_ | refine' ops_yes rfl rfl (by simp only [Ev.get, reduceIte, Nat.reduceEqDiff, r1, t1, c1, c2]; first | done | rfl) rfl (by decide) ?_ ?_ ?_ | refine' ops_op0 rfl rfl ?_ ?_ ?_); rotate_left 2; (focus (simp only [evOp, opd, constAV, constCell, Ev.get, reduceIte, Nat.reduceEqDiff, reduceCtorEq, evBinN, nilCmp, evBin, evInt, evUn, evConvert, evBuiltin, evLen, evField, evPart, tStr, tInt, tElem, tArr, tBool, tAgg, tField, Try.underlying9, Try.underlying3, Try.underlying4, Try.underlying5, Try.underlying21, Try.underlying38, Try.underlying25, Try.underlying33, Try.underlying2, Try.underlying22, Try.underlying56, Try.underlying54, List.zipWith, Option.map_some, Option.map_none, List.length_cons, List.length_nil, ne_eq, Int.reduceEq, not_false_eq_true, and_self, and_true, true_and, szStr, szInt, Option.getD_some, isNil, evStr, loadStr, loadInt, fldOp, ldOp, evMinMax, evFoldI, evCall, List.size_toArray, List.append_nil, List.nil_append, List.map_cons, List.map_nil, argAV, argCell, List.toList_toArray, fieldTy, at_k20, at_k21, r1, t1, c1, c2]; first | done | rfl)); exact (fun h => by first | rfl | (simp at h; done) | exact absurd (Bool.and_eq_true_iff.mp h).2 (by decide))) | refine ops_no rfl rfl (by simp only [Ev.get, reduceIte, Nat.reduceEqDiff, r1, t1, c1, c2]; first | done | rfl) (by decide) rfl (by decide) ?_ | refine ops_off rfl rfl rfl rfl (by decide) ?_ | (refine ops_nil ?_; intro e2 h2; simp only [restr, kpReach, List.map_cons, List.map_nil, Ev.get, reduceIte, Nat.reduceEqDiff] at h2; subst h2))
              exact leaves_none rfl fin_setB
            · rw [if_neg h9]
              have b9 : ((l.getD p nd0).op == 9) = false := by simpa using h9
              generalize l.getD p nd0 = x at f3 f4 b8 b9
              repeat (first | refine runs_seq ?_ | refine runs_block ?_ | refine next_normal ?_ | refine inside_normal ?_ | refine next_exit ?_ | refine inside_exit ?_ | refine inside_other (by decide) ?_ | refine next_ret ?_ | refine inside_ret ?_ | refine runs_ops_kept ?_ | refine runs_skip ?_ | refine runs_exit ?_ | refine runs_ret ?_ | ((first | refine' ops_op rfl rfl (by decide) ?_ ?_ ?_ | refine' ops_yes rfl rfl (by simp only [Ev.get, reduceIte, Nat.reduceEqDiff, b0]; first | done | rfl) rfl (by decide) ?_ ?_ ?_ | refine' ops_op0 rfl rfl ?_ ?_ ?_); rotate_left 2; (focus (simp only [evOp, opd, constAV, constCell, Ev.get, reduceIte, Nat.reduceEqDiff, reduceCtorEq, evBinN, nilCmp, evBin, evInt, evUn, evConvert, evBuiltin, evLen, evField, evPart, tStr, tInt, tElem, tArr, tBool, tAgg, tField, Try.underlying9, Try.underlying3, Try.underlying4, Try.underlying5, Try.underlying21, Try.underlying38, Try.underlying25, Try.underlying33, Try.underlying2, Try.underlying22, Try.underlying56, Try.underlying54, List.zipWith, Option.map_some, Option.map_none, List.length_cons, List.length_nil, ne_eq, Int.reduceEq, not_false_eq_true, and_self, and_true, true_and, szStr, szInt, Option.getD_some, isNil, evStr, loadStr, loadInt, fldOp, ldOp, evMinMax, evFoldI, evCall, List.size_toArray, List.append_nil, List.nil_append, List.map_cons, List.map_nil, argAV, argCell, List.toList_toArray, fieldTy, b0]; first | done | rfl)); exact (fun h => by first | rfl | (simp at h; done) | exact absurd (Bool.and_eq_true_iff.mp h).2 (by decide))) | refine ops_no rfl rfl (by simp only [Ev.get, reduceIte, Nat.reduceEqDiff, b0]; first | done | rfl) (by decide) rfl (by decide) ?_ | refine ops_off rfl rfl rfl rfl (by decide) ?_ | (refine ops_nil ?_; intro e2 h2; simp only [restr, kpReach, List.map_cons, List.map_nil, Ev.get, reduceIte, Nat.reduceEqDiff] at h2; subst h2))
              refine runs_cond rfl (fun hc => by cases hc) (fun hc => ?_)
              repeat (first | refine runs_seq ?_ | refine runs_block ?_ | refine next_normal ?_ | refine inside_normal ?_ | refine next_exit ?_ | refine inside_exit ?_ | refine inside_other (by decide) ?_ | refine next_ret ?_ | refine inside_ret ?_ | refine runs_ops_kept ?_ | refine runs_skip ?_ | refine runs_exit ?_ | refine runs_ret ?_ | ((first | refine' ops_op rfl rfl (by decide) ?_ ?_ ?_ | refine' ops_yes rfl rfl (by simp only [Ev.get, reduceIte, Nat.reduceEqDiff, f1, f2, f3, t3, f4, t2, f5, b8]; first | done | rfl) rfl (by decide) ?_ ?_ ?_ | refine' ops_op0 rfl rfl ?_ ?_ ?_); rotate_left 2; (focus (simp only [evOp, opd, constAV, constCell, Ev.get, reduceIte, Nat.reduceEqDiff, reduceCtorEq, evBinN, nilCmp, evBin, evInt, evUn, evConvert, evBuiltin, evLen, evField, evPart, tStr, tInt, tElem, tArr, tBool, tAgg, tField, Try.underlying9, Try.underlying3, Try.underlying4, Try.underlying5, Try.underlying21, Try.underlying38, Try.underlying25, Try.underlying33, Try.underlying2, Try.underlying22, Try.underlying56, Try.underlying54, List.zipWith, Option.map_some, Option.map_none, List.length_cons, List.length_nil, ne_eq, Int.reduceEq, not_false_eq_true, and_self, and_true, true_and, szStr, szInt, Option.getD_some, isNil, evStr, loadStr, loadInt, fldOp, ldOp, evMinMax, evFoldI, evCall, List.size_toArray, List.append_nil, List.nil_append, List.map_cons, List.map_nil, argAV, argCell, List.toList_toArray, fieldTy, f1, f2, f3, fldLen, ldLen, t3, f4, t2, f5, b8]; first | done | rfl)); exact (fun h => by first | rfl | (simp at h; done) | exact absurd (Bool.and_eq_true_iff.mp h).2 (by decide))) | refine ops_no rfl rfl (by simp only [Ev.get, reduceIte, Nat.reduceEqDiff, f1, f2, f3, t3, f4, t2, f5, b8]; first | done | rfl) (by decide) rfl (by decide) ?_ | refine ops_off rfl rfl rfl rfl (by decide) ?_ | (refine ops_nil ?_; intro e2 h2; simp only [restr, kpReach, List.map_cons, List.map_nil, Ev.get, reduceIte, Nat.reduceEqDiff] at h2; subst h2))
              refine runs_cond rfl (fun hc => by cases hc) (fun hc => ?_)
              repeat (first | refine runs_seq ?_ | refine runs_block ?_ | refine next_normal ?_ | refine inside_normal ?_ | refine next_exit ?_ | refine inside_exit ?_ | refine inside_other (by decide) ?_ | refine next_ret ?_ | refine inside_ret ?_ | refine runs_ops_kept ?_ | refine runs_skip ?_ | refine runs_exit ?_ | refine runs_ret ?_ | ((first | refine' ops_op rfl rfl (by decide) ?_ ?_ ?_ | refine' ops_yes rfl rfl (by simp only [Ev.get, reduceIte, Nat.reduceEqDiff, b9]; first | done | rfl) rfl (by decide) ?_ ?_ ?_ | refine' ops_op0 rfl rfl ?_ ?_ ?_); rotate_left 2; (focus (simp only [evOp, opd, constAV, constCell, Ev.get, reduceIte, Nat.reduceEqDiff, reduceCtorEq, evBinN, nilCmp, evBin, evInt, evUn, evConvert, evBuiltin, evLen, evField, evPart, tStr, tInt, tElem, tArr, tBool, tAgg, tField, Try.underlying9, Try.underlying3, Try.underlying4, Try.underlying5, Try.underlying21, Try.underlying38, Try.underlying25, Try.underlying33, Try.underlying2, Try.underlying22, Try.underlying56, Try.underlying54, List.zipWith, Option.map_some, Option.map_none, List.length_cons, List.length_nil, ne_eq, Int.reduceEq, not_false_eq_true, and_self, and_true, true_and, szStr, szInt, Option.getD_some, isNil, evStr, loadStr, loadInt, fldOp, ldOp, evMinMax, evFoldI, evCall, List.size_toArray, List.append_nil, List.nil_append, List.map_cons, List.map_nil, argAV, argCell, List.toList_toArray, fieldTy, b9]; first | done | rfl)); exact (fun h => by first | rfl | (simp at h; done) | exact absurd (Bool.and_eq_true_iff.mp h).2 (by decide))) | refine ops_no rfl rfl (by simp only [Ev.get, reduceIte, Nat.reduceEqDiff, b9]; first | done | rfl) (by decide) rfl (by decide) ?_ | refine ops_off rfl rfl rfl rfl (by decide) ?_ | (refine ops_nil ?_; intro e2 h2; simp only [restr, kpReach, List.map_cons, List.map_nil, Ev.get, reduceIte, Nat.reduceEqDiff] at h2; subst h2))
              refine runs_cond rfl (fun hc => by cases hc) (fun hc => ?_)
              repeat (first | refine runs_seq ?_ | refine runs_block ?_ | refine next_normal ?_ | refine inside_normal ?_ | refine next_exit ?_ | refine inside_exit ?_ | refine inside_other (by decide) ?_ | refine next_ret ?_ | refine inside_ret ?_ | refine runs_ops_kept ?_ | refine runs_skip ?_ | refine runs_exit ?_ | refine runs_ret ?_ | ((first | refine' ops_op rfl rfl (by decide) ?_ ?_ ?_ | refine' ops_yes rfl rfl (by simp only [Ev.get, reduceIte, Nat.reduceEqDiff]; first | done | rfl) rfl (by decide) ?_ ?_ ?_ | refine' ops_op0 rfl rfl ?_ ?_ ?_); rotate_left 2; (focus (simp only [evOp, opd, constAV, constCell, Ev.get, reduceIte, Nat.reduceEqDiff, reduceCtorEq, evBinN, nilCmp, evBin, evInt, evUn, evConvert, evBuiltin, evLen, evField, evPart, tStr, tInt, tElem, tArr, tBool, tAgg, tField, Try.underlying9, Try.underlying3, Try.underlying4, Try.underlying5, Try.underlying21, Try.underlying38, Try.underlying25, Try.underlying33, Try.underlying2, Try.underlying22, Try.underlying56, Try.underlying54, List.zipWith, Option.map_some, Option.map_none, List.length_cons, List.length_nil, ne_eq, Int.reduceEq, not_false_eq_true, and_self, and_true, true_and, szStr, szInt, Option.getD_some, isNil, evStr, loadStr, loadInt, fldOp, ldOp, evMinMax, evFoldI, evCall, List.size_toArray, List.append_nil, List.nil_append, List.map_cons, List.map_nil, argAV, argCell, List.toList_toArray, fieldTy]; first | done | rfl)); exact (fun h => by first | rfl | (simp at h; done) | exact absurd (Bool.and_eq_true_iff.mp h).2 (by decide))) | refine ops_no rfl rfl (by simp only [Ev.get, reduceIte, Nat.reduceEqDiff]; first | done | rfl) (by decide) rfl (by decide) ?_ | refine ops_off rfl rfl rfl rfl (by decide) ?_ | (refine ops_nil ?_; intro e2 h2; simp only [restr, kpReach, List.map_cons, List.map_nil, Ev.get, reduceIte, Nat.reduceEqDiff] at h2; subst h2))
              exact leaves_none rfl fin_setB
      · cases h
    · cases h
  · cases h
end Go.Proofs.Ytojaokhkbmiidaa.Ev

namespace Go.Proofs.Ytojaokhkbmiidaa.Ev
open Go Go.Proofs
set_option maxRecDepth 10000
set_option maxHeartbeats 8000000
set_option linter.unusedVariables false
set_option linter.unusedSimpArgs false
attribute [local irreducible] Next Inside Runs Ops table
theorem checkT_sound {l : List Nd} (h : checkT l = 0) : 0 < l.length ∧ l.length ≤ 64 ∧ endOf l 0 = (l.length : Int) ∧ ∀ x ∈ l, mayN x := by
  unfold checkT at h
  split at h
  · cases h
  · split at h
    · cases h
    · split at h
      · cases h
      · rename_i h1 h2 h3
        have hw : wholeB l = true := by
          cases hw : wholeB l with
          | true => rfl
          | false => exact absurd (.inl hw) h2
        have hb : l.any badN = false := by
          cases hb : l.any badN with
          | false => rfl
          | true => exact absurd (.inr hb) h2
        unfold wholeB at hw
        simp only [Bool.and_eq_true, decide_eq_true_eq] at hw
        refine ⟨by omega, by omega, hw.2, fun x hx => ?_⟩
        have := List.any_eq_false.1 hb x hx
        simpa [badN] using this
theorem endW_zeroI {l : List Nd} (h : checkT l = 0) : 0 ≤ endOf l ((0 : Nat) : Int) := by
  have := (checkT_sound h).2.2.1
  show 0 ≤ endOf l 0
  omega
def reachG : List AV → Mem → Option (AV × Mem)
  | [.lst _ 7 rows, .v (.int .i64 at_), .v (.int .i64 k), .v (.int .i64 ep), .vs r 0 1 c d], m =>
    match unN rows, (m.var r).bind unBC with
    | some l, some b => if ((l.length ≤ big40 ∧ 0 ≤ at_ ∧ 0 ≤ endOf l at_ ∧ ∀ x ∈ l, mayN x) ∧ inW k ∧ inW ep ∧ c = l.length ∧ d = l.length ∧ b.length = l.length) then some (.tup [], setB m r (reachF l ep l.length at_.toNat k b)) else none
    | _, _ => none
  | _, _ => none
theorem reachG_eq {m : Mem} {g : Grow} {l : List Nd} {p : Nat} {k ep : Int} {r : Nat} {b : List Bool} (h : l.length ≤ big40) (h2 : 0 ≤ endOf l (p : Int)) (hm : ∀ x ∈ l, mayN x) (hk : inW k) (he : inW ep) (hv : m.var r = some (bC b)) (hb : b.length = l.length) :
    reachG [.lst g 7 (rowsN l), .v (.int .i64 (p : Int)), .v (.int .i64 k), .v (.int .i64 ep), .vs r 0 1 l.length l.length] m = some (.tup [], setB m r (reachF l ep l.length p k b)) := by
  simp only [reachG, unN_rowsN, hv, Option.bind_some, unBC_bC]
  rw [if_pos ⟨⟨h, by omega, h2, hm⟩, hk, he, trivial, trivial, hb⟩, Int.toNat_natCast]
theorem reach_ok : FunOk Try.prog 52 reachG := by
  intro args m r m' h
  unfold reachG at h
  split at h
  · rename_i g rows at_ k ep q c d
    split at h
    · rename_i l b hl0 hb0
      split at h
      · rename_i hb
        refine reach_k (((l.length : Int) - at_).toNat + 1) _ m r m' ?_
        unfold reachGk
        simp only [hl0, hb0]
        rw [if_pos ⟨hb, by omega⟩]
        exact h
      · cases h
    · cases h
  · cases h
/-! ### Reached -/
def rowsBo (b : List Bool) : List (List AV) := b.map fun x => [.v (.bool x)]
theorem rowsBo_len (b : List Bool) : (rowsBo b).length = b.length := List.length_map ..
theorem rowsBo_get {l : List Bool} {i : Nat} (hi : i < l.length) : (rowsBo l)[i]? = some [.v (.bool (l.getD i false))] := by
  simp [rowsBo, List.getD, List.getElem?_eq_getElem hi]
theorem atBools {g : Grow} {kk : IntKind} {l : List Bool} {i : Nat} (hi : i < l.length) : evIndexAddr Try.prog 50 (.lst g 1 (rowsBo l)) (.v (.int kk (i : Int))) = some (.eptr [.v (.bool (l.getD i false))]) := at_list elBools naBools szBool (rowsBo_get hi)
theorem ldBool {m : Mem} {x : Bool} : evLoad Try.prog m 4 (.eptr [.v (.bool x)]) = some (.v (.bool x)) := by kernel_rfl
theorem makeBools {n : Nat} (h : n ≤ 4294967296) : evMakeSlice Try.prog 50 (.v (.int .i64 (n : Int))) (.v (.int .i64 (n : Int))) = some (bC (List.replicate n false), 1, n) := by
  have hb : tBytes Try.prog 4 = some 1 := by kernel_rfl
  have hz : zeroCells Try.prog 4 = some [.v (.bool false)] := by kernel_rfl
  unfold evMakeSlice
  simp only [elBools, szBool, hb, hz]
  rw [if_pos ⟨rfl, trivial, by omega, by omega, by omega⟩, Int.toNat_natCast]
  simp [bC]
theorem newBools {m : Mem} {l : List Bool} : newVar m m.vars.length (bC l) = some (m.push (bC l)) := newVar_push (by
  rw [List.all_eq_true]
  intro c hc
  obtain ⟨n, _, rfl⟩ := List.mem_map.1 hc
  rfl)
theorem cells_bC : ∀ b : List Bool, (bC b).mapM rowCell = some (bC b)
  | [] => rfl
  | x :: b => by
    have := cells_bC b
    unfold bC at this ⊢
    rw [List.map_cons, List.mapM_cons]
    simp only [show rowCell (AV.v (Value.bool x)) = some (AV.v (Value.bool x)) from rfl, this, Option.pure_def, Option.bind_eq_bind, Option.bind_some]
theorem setB_push {m : Mem} {b c : List Bool} : setB (m.push (bC b)) m.vars.length c = m.push (bC c) := by
  unfold setB Mem.push
  simp
theorem leaves_bools {P : Program} {fn : Func} {m : Mem} {e : Env} {t : Tmp} {b : List Bool} {n : Nat} (h : fn.results = #[.tmp t]) (hg : Ev.get e t = .vs m.vars.length 0 1 n n) (hn : n = b.length) :
    Leaves P false fn m (.lst .no 1 (rowsBo b), m) .ret e (m.push (bC b)) := by
  show evRet P false fn m e _ = _
  unfold evRet
  rw [h]
  simp only [evResult, hg, Option.bind_some, growRes, resAV, Nat.lt_irrefl, if_false, push_var, hn, bC_len, and_self, if_true, cells_bC, Option.map_some, fin_push]
  simp [chunk1, bC, rowsBo]
def marks (l : List Nd) (ep n : Int) : List Bool := if checkT l = 0 ∧ inW n ∧ inW ep then reachF l ep l.length 0 n (List.replicate l.length false) else []
def reachedG : List AV → Mem → Option (AV × Mem)
  | [.lst _ 7 rows, .v (.int .i64 n), .v (.int .i64 ep)], m =>
    match unN rows with
    | some l => if l.length ≤ big40 then some (.lst .no 1 (rowsBo (marks l ep n)), m) else none
    | none => none
  | _, _ => none
theorem reachedG_eq {m : Mem} {g : Grow} {l : List Nd} {n ep : Int} (h : l.length ≤ big40) : reachedG [.lst g 7 (rowsN l), .v (.int .i64 n), .v (.int .i64 ep)] m = some (.lst .no 1 (rowsBo (marks l ep n)), m) := by
  simp only [reachedG, unN_rowsN]
  rw [if_pos h]
def kpReached : Nat → Option (List Nat) := fun
  | 0 => some [0, 1, 2]
  | 1 => some [0, 1, 2, 20]
  | 2 => some [6]
  | 3 => some [0, 1, 2, 7]
  | 4 => some [7]
  | 5 => some [6]
  | _ => none
def tab_reached_ok : List (FuncId × (List AV → Mem → Option (AV × Mem))) := [(21, checkTG), (51, withinIG), (52, reachG)]
theorem reached_ok : FunOk Try.prog 32 reachedG := by
  have hC := table_ok (P := Try.prog) (l := tab_reached_ok) (table_more checkT_ok (table_more withinI_ok (table_more reach_ok table_nil)))
  have t1 := fun args mm => table_at (l := tab_reached_ok) (f := 21) (args := args) (m := mm) rfl
  have t2 := fun args mm => table_at (l := tab_reached_ok) (f := 51) (args := args) (m := mm) rfl
  have t3 := fun args mm => table_at (l := tab_reached_ok) (f := 52) (args := args) (m := mm) rfl
  refine fun_ok mixed hC Try.func32 rfl kpReached false rfl fun args m r h => ?_
  unfold reachedG at h
  split at h
  · rename_i g rows n ep
    split at h
    · rename_i l hl0
      obtain rfl := unN_some hl0
      split at h
      · rename_i hlen
        simp only [Option.some.injEq] at h
        subst h
        refine ⟨Nat.le_of_ble_eq_true rfl, ?_⟩
        simp only [entry, List.length_cons, List.length_nil, List.range, List.range.loop, List.zip_cons_cons, List.zip_nil_right]
        have f1 := fun mm => checkTG_eq (m := mm) (g := .no) hlen
        have fw : ∀ x mm, withinIG [.v (.int .i64 x)] mm = some (.v (.bool (decide (inW x))), mm) := fun _ _ => rfl
        unfold marks
        by_cases hall : checkT l = 0 ∧ inW n ∧ inW ep
        · rw [if_pos hall]
          obtain ⟨hc0, hn, hep⟩ := hall
          have b1 : (checkT l != 0) = false := by rw [hc0]; rfl
          have b2 : (!decide (inW n)) = false := by rw [decide_eq_true hn]; rfl
          have b3 : (!decide (inW ep)) = false := by rw [decide_eq_true hep]; rfl
          obtain ⟨s1, s2, s3, s4⟩ := checkT_sound hc0
          have mk := makeBools (n := l.length) (by omega)
          have nv := newBools (m := m) (l := List.replicate l.length false)
          have c1 : ∀ g, reachG [.lst g 7 (rowsN l), .v (.int .i64 0), .v (.int .i64 n), .v (.int .i64 ep), .vs m.vars.length 0 1 l.length l.length] (m.push (bC (List.replicate l.length false))) = _ := fun g => reachG_eq (g := g) (p := 0) hlen (endW_zeroI hc0) s4 hn hep push_var (by simp)
          rw [setB_push] at c1
          have he : l.length = (reachF l ep l.length 0 n (List.replicate l.length false)).length := by rw [reachF_len, List.length_replicate]
          repeat (first | refine runs_seq ?_ | refine runs_block ?_ | refine next_normal ?_ | refine inside_normal ?_ | refine next_exit ?_ | refine inside_exit ?_ | refine inside_other (by decide) ?_ | refine next_ret ?_ | refine inside_ret ?_ | refine runs_ops_kept ?_ | refine runs_skip ?_ | refine runs_exit ?_ | refine runs_ret ?_ | ((first | refine' ops_op rfl rfl (by decide) ?_ ?_ ?_ | refine' ops_yes rfl rfl (by simp only [Ev.get, reduceIte, Nat.reduceEqDiff, t1, f1, t2, fw, b1, b2, b3]; first | done | rfl) rfl (by decide) ?_ ?_ ?_ | refine' ops_op0 rfl rfl ?_ ?_ ?_); rotate_left 2; (focus (simp only [evOp, opd, constAV, constCell, Ev.get, reduceIte, Nat.reduceEqDiff, reduceCtorEq, evBinN, nilCmp, evBin, evInt, evUn, evConvert, evBuiltin, evLen, evField, evPart, tStr, tInt, tElem, tArr, tBool, tAgg, tField, Try.underlying9, Try.underlying3, Try.underlying4, Try.underlying5, Try.underlying21, Try.underlying25, Try.underlying33, Try.underlying2, Try.underlying22, List.zipWith, Option.map_some, Option.map_none, List.length_cons, List.length_nil, ne_eq, Int.reduceEq, not_false_eq_true, and_self, and_true, true_and, szStr, szInt, Option.getD_some, isNil, evStr, loadStr, loadInt, fldOp, ldOp, mkInts1, rowsN_len, evMinMax, evFoldI, evCall, List.size_toArray, List.append_nil, List.nil_append, List.map_cons, List.map_nil, argAV, argCell, List.toList_toArray, fieldTy, t1, f1, t2, fw, b1, b2, b3]; first | done | rfl)); exact (fun h => by first | rfl | (simp at h; done) | exact absurd (Bool.and_eq_true_iff.mp h).2 (by decide))) | refine ops_no rfl rfl (by simp only [Ev.get, reduceIte, Nat.reduceEqDiff, t1, f1, t2, fw, b1, b2, b3]; first | done | rfl) (by decide) rfl (by decide) ?_ | refine ops_off rfl rfl rfl rfl (by decide) ?_ | (refine ops_nil ?_; intro e2 h2; simp only [restr, kpReached, List.map_cons, List.map_nil, Ev.get, reduceIte, Nat.reduceEqDiff] at h2; subst h2))
          refine runs_cond rfl (fun hc => by cases hc) (fun hc => ?_)
          repeat (first | refine runs_seq ?_ | refine runs_block ?_ | refine next_normal ?_ | refine inside_normal ?_ | refine next_exit ?_ | refine inside_exit ?_ | refine inside_other (by decide) ?_ | refine next_ret ?_ | refine inside_ret ?_ | refine runs_ops_kept ?_ | refine runs_skip ?_ | refine runs_exit ?_ | refine runs_ret ?_ | ((first | refine' ops_op rfl rfl (by decide) ?_ ?_ ?_ | refine' ops_yes rfl rfl (by simp only [Ev.get, reduceIte, Nat.reduceEqDiff, mk, nv, t3, c1]; first | done | rfl) rfl (by decide) ?_ ?_ ?_ | refine' ops_op0 rfl rfl ?_ ?_ ?_); rotate_left 2; (focus (simp only [evOp, opd, constAV, constCell, Ev.get, reduceIte, Nat.reduceEqDiff, reduceCtorEq, evBinN, nilCmp, evBin, evInt, evUn, evConvert, evBuiltin, evLen, evField, evPart, tStr, tInt, tElem, tArr, tBool, tAgg, tField, Try.underlying9, Try.underlying3, Try.underlying4, Try.underlying5, Try.underlying21, Try.underlying25, Try.underlying33, Try.underlying2, Try.underlying22, List.zipWith, Option.map_some, Option.map_none, List.length_cons, List.length_nil, ne_eq, Int.reduceEq, not_false_eq_true, and_self, and_true, true_and, szStr, szInt, Option.getD_some, isNil, evStr, loadStr, loadInt, fldOp, ldOp, mkInts1, rowsN_len, evMinMax, evFoldI, evCall, List.size_toArray, List.append_nil, List.nil_append, List.map_cons, List.map_nil, argAV, argCell, List.toList_toArray, fieldTy, mk, nv, t3, c1]; first | done | rfl)); exact (fun h => by first | rfl | (simp at h; done) | exact absurd (Bool.and_eq_true_iff.mp h).2 (by decide))) | refine ops_no rfl rfl (by simp only [Ev.get, reduceIte, Nat.reduceEqDiff, mk, nv, t3, c1]; first | done | rfl) (by decide) rfl (by decide) ?_ | refine ops_off rfl rfl rfl rfl (by decide) ?_ | (refine ops_nil ?_; intro e2 h2; simp only [restr, kpReached, List.map_cons, List.map_nil, Ev.get, reduceIte, Nat.reduceEqDiff] at h2; subst h2))
          exact leaves_bools rfl rfl he
        · rw [if_neg hall]
          repeat' (first | (first | refine runs_seq ?_ | refine runs_block ?_ | refine next_normal ?_ | refine inside_normal ?_ | refine next_exit ?_ | refine inside_exit ?_ | refine inside_other (by decide) ?_ | refine next_ret ?_ | refine inside_ret ?_ | refine runs_ops_kept ?_ | refine runs_skip ?_ | refine runs_exit ?_ | refine runs_ret ?_ | ((first | refine' ops_op rfl rfl (by decide) ?_ ?_ ?_ | refine' ops_yes rfl rfl (by simp only [Ev.get, reduceIte, Nat.reduceEqDiff, t1, f1, t2, fw]; first | done | rfl) rfl (by decide) ?_ ?_ ?_ | refine' ops_op0 rfl rfl ?_ ?_ ?_); rotate_left 2; (focus (simp only [evOp, opd, constAV, constCell, Ev.get, reduceIte, Nat.reduceEqDiff, reduceCtorEq, evBinN, nilCmp, evBin, evInt, evUn, evConvert, evBuiltin, evLen, evField, evPart, tStr, tInt, tElem, tArr, tBool, tAgg, tField, Try.underlying9, Try.underlying3, Try.underlying4, Try.underlying5, Try.underlying21, Try.underlying25, Try.underlying33, Try.underlying2, Try.underlying22, List.zipWith, Option.map_some, Option.map_none, List.length_cons, List.length_nil, ne_eq, Int.reduceEq, not_false_eq_true, and_self, and_true, true_and, szStr, szInt, Option.getD_some, isNil, evStr, loadStr, loadInt, fldOp, ldOp, mkInts1, rowsN_len, evMinMax, evFoldI, evCall, List.size_toArray, List.append_nil, List.nil_append, List.map_cons, List.map_nil, argAV, argCell, List.toList_toArray, fieldTy, t1, f1, t2, fw]; first | done | rfl)); exact (fun h => by first | rfl | (simp at h; done) | exact absurd (Bool.and_eq_true_iff.mp h).2 (by decide))) | refine ops_no rfl rfl (by simp only [Ev.get, reduceIte, Nat.reduceEqDiff, t1, f1, t2, fw]; first | done | rfl) (by decide) rfl (by decide) ?_ | refine ops_off rfl rfl rfl rfl (by decide) ?_ | (refine ops_nil ?_; intro e2 h2; simp only [restr, kpReached, List.map_cons, List.map_nil, Ev.get, reduceIte, Nat.reduceEqDiff] at h2; subst h2)) | (refine ops_here ?_; (fail_if_success (refine ops_case (B := true) rfl rfl rfl ?_ ?_)); (fail_if_success (refine ops_case (B := false) rfl rfl rfl ?_ ?_)); refine ops_case rfl rfl rfl (fun hB => ?_) (fun hB => ?_) <;> rw [hB]) | (refine runs_here ?_; refine runs_cond rfl (fun hc => ?_) (fun hc => ?_) <;> first | (cases hc; done) | skip))
          all_goals first
            | exact leaves_lst rfl rfl (finMem_self _)
            | (exfalso; apply hall; simp only [Bool.not_eq_true', Bool.not_eq_false', decide_eq_true_eq, decide_eq_false_iff_not, bne_iff_ne, ne_eq, bne_eq_false_iff_eq] at *; first | (refine ⟨by assumption, by assumption, by assumption⟩) | (simp_all; done))
      · cases h
    · cases h
  · cases h
/-! ### Steps -/
def stepsTGk (n : Nat) : List AV → Mem → Option (AV × Mem)
  | [.lst _ 7 rows, .v (.int .i64 at_), .v (.int .i64 k), .v (.int .i64 ep)], m =>
    match unN rows with
    | some l => if ((l.length ≤ 64 ∧ 0 ≤ at_ ∧ 0 ≤ endOf l at_ ∧ ∀ x ∈ l, mayN x) ∧ inW k ∧ inW ep) ∧ (l.length : Int) - at_ < (n : Int) then some (.lst .no 1 (rowsI (stepsF l ep l.length at_.toNat k)), m) else none
    | none => none
  | _, _ => none
theorem stepsTGk_eq {n : Nat} {m : Mem} {g : Grow} {l : List Nd} {p : Nat} {k ep : Int} (h : l.length ≤ 64) (h2 : 0 ≤ endOf l (p : Int)) (hm : ∀ x ∈ l, mayN x) (hk : inW k) (he : inW ep) (h3 : (l.length : Int) - (p : Int) < (n : Int)) :
    stepsTGk n [.lst g 7 (rowsN l), .v (.int .i64 (p : Int)), .v (.int .i64 k), .v (.int .i64 ep)] m = some (.lst .no 1 (rowsI (stepsF l ep l.length p k)), m) := by
  simp only [stepsTGk, unN_rowsN]
  rw [if_pos ⟨⟨⟨h, by omega, h2, hm⟩, hk, he⟩, h3⟩, Int.toNat_natCast]
theorem stepsF_succ {l : List Nd} {ep : Int} {p : Nat} {k : Int} (h : 0 ≤ endOf l (p : Int)) : stepsF l ep l.length p k = stepsF l ep (l.length + 1) p k := by
  have := endOf_in l (p : Int)
  exact stepsF_fuel _ _ _ _ h (by omega) (by omega)
theorem stepsF_le {l : List Nd} {ep : Int} (hm : ∀ x ∈ l, mayN x) {p : Nat} {k : Int} (h : 0 ≤ endOf l (p : Int)) : (stepsF l ep l.length p k).length ≤ l.length := by
  have := endOf_in l (p : Int)
  rw [stepsF_len hm _ _ _ h (by omega)]
  omega
def kpStepsT : Nat → Option (List Nat) := fun
  | 0 => some [0, 1, 2, 3]
  | 1 => some [0, 1, 2, 3, 9]
  | 2 => some [0, 1, 2, 3, 9, 10]
  | 3 => some [0, 1, 2, 3, 9, 10, 26]
  | 4 => some [8]
  | 5 => some [0, 1, 2, 3, 9, 10, 42]
  | 6 => some [0, 1, 2, 3, 9, 10]
  | 7 => some [8]
  | 8 => some [8]
  | _ => none
theorem stepsT_k : ∀ n, FunOk Try.prog 33 (stepsTGk n) := prev_ok fun n ih => by
  have hC := table_ok (P := Try.prog) (l := [(33, prevG stepsTGk n), (12, endG), (53, withinLG)]) (table_more ih (table_more refEnd_ok (table_more withinR_ok table_nil)))
  have t1 := fun args mm => table_at (l := [(33, prevG stepsTGk n), (12, endG), (53, withinLG)]) (f := 33) (args := args) (m := mm) rfl
  have t2 := fun args mm => table_at (l := [(33, prevG stepsTGk n), (12, endG), (53, withinLG)]) (f := 12) (args := args) (m := mm) rfl
  have t3 := fun args mm => table_at (l := [(33, prevG stepsTGk n), (12, endG), (53, withinLG)]) (f := 53) (args := args) (m := mm) rfl
  refine fun_ok mixed hC Try.func33 rfl kpStepsT false rfl fun args m r h => ?_
  unfold stepsTGk at h
  split at h
  · rename_i g rows at_ k ep
    split at h
    · rename_i l hl0
      obtain rfl := unN_some hl0
      split at h
      · rename_i hb
        obtain ⟨⟨⟨hlen, h0, he, hmay⟩, hk, hep⟩, hn⟩ := hb
        obtain ⟨p, rfl⟩ := Int.eq_ofNat_of_zero_le h0
        simp only [Option.some.injEq, Int.toNat_natCast] at h
        subst h
        refine ⟨Nat.le_of_ble_eq_true rfl, ?_⟩
        simp only [entry, List.length_cons, List.length_nil, List.range, List.range.loop, List.zip_cons_cons, List.zip_nil_right]
        have hin := endOf_in l (p : Int)
        have hlen' : l.length ≤ big40 := by unfold big40; omega
        rw [stepsF_succ he]
        simp only [stepsF]
        have hp : p < l.length := by omega
        have f3 := atNodes (g := g) (kk := .i64) hp
        have hx : mayN (l.getD p nd0) := hmay _ (by rw [List.getD, List.getElem?_eq_getElem hp]; exact List.getElem_mem _)
        unfold mayN at hx
        have hlm : lenMay (l.getD p nd0).u (l.getD p nd0).n := hx.2.2.2.2.2.2.2.2.2.2.2.2.2.2.1
        have f4 := fun mm => withinLG_eq (m := mm) hlm hk hep
        have hw := withinV_in hlm hk hep
        obtain ⟨n', rfl⟩ : ∃ n', n = n' + 1 := ⟨n - 1, by omega⟩
        generalize withinV (l.getD p nd0).u (l.getD p nd0).n k ep = w at f4 hw
        have hk' := hk
        unfold inW at hk'
        have r1 : IntKind.i64.wrap (k - w) = k - w := i64_wrap (by omega) (by omega)
        have r2 : IntKind.i64.wrap ((p : Int) + 1) = ((p + 1 : Nat) : Int) := i64_wrap (by omega) (by omega)
        by_cases h8 : (l.getD p nd0).op = 8
        · rw [if_pos h8]
          have hE := end_one he h8
          have c1 : ∀ g mm, prevG stepsTGk (n' + 1) [.lst g 7 (rowsN l), .v (.int .i64 ((p + 1 : Nat) : Int)), .v (.int .i64 (k - w)), .v (.int .i64 ep)] mm = _ := fun g mm => stepsTGk_eq (g := g) (m := mm) hlen (by omega) hmay ⟨by omega, by omega⟩ hep (by omega)
          have hle := stepsF_le (ep := ep) hmay (p := p + 1) (k := k - w) (by omega)
          obtain ⟨g1, m1, ha1, hG1⟩ := app_ints (g2 := .no) appInts (grows_full (m := m)) [k] (stepsF l ep l.length (p + 1) (k - w)) (by unfold lim; simp only [List.length_cons, List.length_nil]; omega)
          simp only [show rowsI [k] = [[.v (.int .i64 k)]] from rfl] at ha1
          have b8 : ((l.getD p nd0).op == 8) = true := by simpa using h8
          generalize ((p + 1 : Nat) : Int) = p1 at r2 c1
          generalize l.getD p nd0 = x at f3 f4 b8
          repeat (first | refine runs_seq ?_ | refine runs_block ?_ | refine next_normal ?_ | refine inside_normal ?_ | refine next_exit ?_ | refine inside_exit ?_ | refine inside_other (by decide) ?_ | refine next_ret ?_ | refine inside_ret ?_ | refine runs_ops_kept ?_ | refine runs_skip ?_ | refine runs_exit ?_ | refine runs_ret ?_ | ((first | refine' ops_op rfl rfl (by decide) ?_ ?_ ?_ | refine' ops_yes rfl rfl (by simp only [Ev.get, reduceIte, Nat.reduceEqDiff, f3, t3, f4, b8]; first | done | rfl) rfl (by decide) ?_ ?_ ?_ | refine' ops_op0 rfl rfl ?_ ?_ ?_); rotate_left 2; (focus (simp only [evOp, opd, constAV, constCell, Ev.get, reduceIte, Nat.reduceEqDiff, reduceCtorEq, evBinN, nilCmp, evBin, evInt, evUn, evConvert, evBuiltin, evLen, evField, evPart, tStr, tInt, tElem, tArr, tBool, tAgg, tField, Try.underlying9, Try.underlying3, Try.underlying4, Try.underlying5, Try.underlying21, Try.underlying38, Try.underlying25, Try.underlying33, Try.underlying2, Try.underlying22, Try.underlying56, Try.underlying54, List.zipWith, Option.map_some, Option.map_none, List.length_cons, List.length_nil, ne_eq, Int.reduceEq, not_false_eq_true, and_self, and_true, true_and, szStr, szInt, Option.getD_some, isNil, evStr, loadStr, loadInt, fldOp, ldOp, mkInts1, rowsN_len, evMinMax, evFoldI, evCall, List.size_toArray, List.append_nil, List.nil_append, List.map_cons, List.map_nil, argAV, argCell, List.toList_toArray, fieldTy, f3, fldLen, ldLen, t3, f4, b8]; first | done | rfl)); exact (fun h => by first | rfl | (simp at h; done) | exact absurd (Bool.and_eq_true_iff.mp h).2 (by decide))) | refine ops_no rfl rfl (by simp only [Ev.get, reduceIte, Nat.reduceEqDiff, f3, t3, f4, b8]; first | done | rfl) (by decide) rfl (by decide) ?_ | refine ops_off rfl rfl rfl rfl (by decide) ?_ | (refine ops_nil ?_; intro e2 h2; simp only [restr, kpStepsT, List.map_cons, List.map_nil, Ev.get, reduceIte, Nat.reduceEqDiff] at h2; subst h2))
          refine runs_cond rfl (fun hc => ?_) (fun hc => by cases hc)
          repeat (first | refine runs_seq ?_ | refine runs_block ?_ | refine next_normal ?_ | refine inside_normal ?_ | refine next_exit ?_ | refine inside_exit ?_ | refine inside_other (by decide) ?_ | refine next_ret ?_ | refine inside_ret ?_ | refine runs_ops_kept ?_ | refine runs_skip ?_ | refine runs_exit ?_ | refine runs_ret ?_ | ((first | refine' ops_op rfl rfl (by decide) ?_ ?_ ?_ | refine' ops_yes rfl rfl (by simp only [Ev.get, reduceIte, Nat.reduceEqDiff, r1, r2, t1, c1, ha1]; first | done | rfl) rfl (by decide) ?_ ?_ ?_ | refine' ops_op0 rfl rfl ?_ ?_ ?_); rotate_left 2; (focus (simp only [evOp, opd, constAV, constCell, Ev.get, reduceIte, Nat.reduceEqDiff, reduceCtorEq, evBinN, nilCmp, evBin, evInt, evUn, evConvert, evBuiltin, evLen, evField, evPart, tStr, tInt, tElem, tArr, tBool, tAgg, tField, Try.underlying9, Try.underlying3, Try.underlying4, Try.underlying5, Try.underlying21, Try.underlying38, Try.underlying25, Try.underlying33, Try.underlying2, Try.underlying22, Try.underlying56, Try.underlying54, List.zipWith, Option.map_some, Option.map_none, List.length_cons, List.length_nil, ne_eq, Int.reduceEq, not_false_eq_true, and_self, and_true, true_and, szStr, szInt, Option.getD_some, isNil, evStr, loadStr, loadInt, fldOp, ldOp, mkInts1, rowsN_len, evMinMax, evFoldI, evCall, List.size_toArray, List.append_nil, List.nil_append, List.map_cons, List.map_nil, argAV, argCell, List.toList_toArray, fieldTy, r1, r2, t1, c1, ha1]; first | done | rfl)); exact (fun h => by first | rfl | (simp at h; done) | exact absurd (Bool.and_eq_true_iff.mp h).2 (by decide))) | refine ops_no rfl rfl (by simp only [Ev.get, reduceIte, Nat.reduceEqDiff, r1, r2, t1, c1, ha1]; first | done | rfl) (by decide) rfl (by decide) ?_ | refine ops_off rfl rfl rfl rfl (by decide) ?_ | (refine ops_nil ?_; intro e2 h2; simp only [restr, kpStepsT, List.map_cons, List.map_nil, Ev.get, reduceIte, Nat.reduceEqDiff] at h2; subst h2))
          exact leaves_lst rfl rfl (fin_grows hG1)
        · have b8 : ((l.getD p nd0).op == 8) = false := by simpa using h8
          rw [if_neg h8]
          by_cases h9 : (l.getD p nd0).op = 9
          · rw [if_pos h9]
            have b9 : ((l.getD p nd0).op == 9) = true := by simpa using h9
            obtain ⟨q, e1, e2, e3⟩ := end_two he h9
            have hin2 := endOf_in l (q : Int)
            have f5 := fun mm => endG_eq (m := mm) (g := .no) (at_ := ((p + 1 : Nat) : Int)) hlen' ⟨by omega, by omega⟩
            rw [e1] at f5
            rw [e1, Int.toNat_natCast]
            have c1 : ∀ g mm, prevG stepsTGk (n' + 1) [.lst g 7 (rowsN l), .v (.int .i64 ((p + 1 : Nat) : Int)), .v (.int .i64 w), .v (.int .i64 ep)] mm = _ := fun g mm => stepsTGk_eq (g := g) (m := mm) hlen (by omega) hmay ⟨by omega, by omega⟩ hep (by omega)
            have c2 : ∀ g mm, prevG stepsTGk (n' + 1) [.lst g 7 (rowsN l), .v (.int .i64 (q : Int)), .v (.int .i64 (k - w)), .v (.int .i64 ep)] mm = _ := fun g mm => stepsTGk_eq (g := g) (m := mm) hlen (by omega) hmay ⟨by omega, by omega⟩ hep (by omega)
            have hle := stepsF_le (ep := ep) hmay (p := p + 1) (k := w) (by omega)
            have hle2 := stepsF_le (ep := ep) hmay (p := q) (k := k - w) (by omega)
            obtain ⟨g1, m1, ha1, hG1⟩ := app_ints (g2 := .no) appInts (grows_full (m := m)) [k] (stepsF l ep l.length (p + 1) w) (by unfold lim; simp only [List.length_cons, List.length_nil]; omega)
            obtain ⟨g2, m2, ha2, hG2⟩ := app_ints (g2 := .no) appInts hG1 ([k] ++ stepsF l ep l.length (p + 1) w) (stepsF l ep l.length q (k - w)) (by unfold lim; simp only [List.length_append, List.length_cons, List.length_nil]; omega)
            simp only [show rowsI [k] = [[.v (.int .i64 k)]] from rfl] at ha1
            generalize ((p + 1 : Nat) : Int) = p1 at r2 f5 c1
            generalize (q : Int) = q1 at f5 c2
            generalize l.getD p nd0 = x at f3 f4 b8 b9
            repeat (first | refine runs_seq ?_ | refine runs_block ?_ | refine next_normal ?_ | refine inside_normal ?_ | refine next_exit ?_ | refine inside_exit ?_ | refine inside_other (by decide) ?_ | refine next_ret ?_ | refine inside_ret ?_ | refine runs_ops_kept ?_ | refine runs_skip ?_ | refine runs_exit ?_ | refine runs_ret ?_ | ((first | refine' ops_op rfl rfl (by decide) ?_ ?_ ?_ | refine' ops_yes rfl rfl (by simp only [Ev.get, reduceIte, Nat.reduceEqDiff, f3, t3, f4, b8]; first | done | rfl) rfl (by decide) ?_ ?_ ?_ | refine' ops_op0 rfl rfl ?_ ?_ ?_); rotate_left 2; (focus (simp only [evOp, opd, constAV, constCell, Ev.get, reduceIte, Nat.reduceEqDiff, reduceCtorEq, evBinN, nilCmp, evBin, evInt, evUn, evConvert, evBuiltin, evLen, evField, evPart, tStr, tInt, tElem, tArr, tBool, tAgg, tField, Try.underlying9, Try.underlying3, Try.underlying4, Try.underlying5, Try.underlying21, Try.underlying38, Try.underlying25, Try.underlying33, Try.underlying2, Try.underlying22, Try.underlying56, Try.underlying54, List.zipWith, Option.map_some, Option.map_none, List.length_cons, List.length_nil, ne_eq, Int.reduceEq, not_false_eq_true, and_self, and_true, true_and, szStr, szInt, Option.getD_some, isNil, evStr, loadStr, loadInt, fldOp, ldOp, mkInts1, rowsN_len, evMinMax, evFoldI, evCall, List.size_toArray, List.append_nil, List.nil_append, List.map_cons, List.map_nil, argAV, argCell, List.toList_toArray, fieldTy, f3, fldLen, ldLen, t3, f4, b8]; first | done | rfl)); exact (fun h => by first | rfl | (simp at h; done) | exact absurd (Bool.and_eq_true_iff.mp h).2 (by decide))) | refine ops_no rfl rfl (by simp only [Ev.get, reduceIte, Nat.reduceEqDiff, f3, t3, f4, b8]; first | done | rfl) (by decide) rfl (by decide) ?_ | refine ops_off rfl rfl rfl rfl (by decide) ?_ | (refine ops_nil ?_; intro e2 h2; simp only [restr, kpStepsT, List.map_cons, List.map_nil, Ev.get, reduceIte, Nat.reduceEqDiff] at h2; subst h2))
            refine runs_cond rfl (fun hc => by cases hc) (fun hc => ?_)
            repeat (first | refine runs_seq ?_ | refine runs_block ?_ | refine next_normal ?_ | refine inside_normal ?_ | refine next_exit ?_ | refine inside_exit ?_ | refine inside_other (by decide) ?_ | refine next_ret ?_ | refine inside_ret ?_ | refine runs_ops_kept ?_ | refine runs_skip ?_ | refine runs_exit ?_ | refine runs_ret ?_ | ((first | refine' ops_op rfl rfl (by decide) ?_ ?_ ?_ | refine' ops_yes rfl rfl (by simp only [Ev.get, reduceIte, Nat.reduceEqDiff, f3, b9]; first | done | rfl) rfl (by decide) ?_ ?_ ?_ | refine' ops_op0 rfl rfl ?_ ?_ ?_); rotate_left 2; (focus (simp only [evOp, opd, constAV, constCell, Ev.get, reduceIte, Nat.reduceEqDiff, reduceCtorEq, evBinN, nilCmp, evBin, evInt, evUn, evConvert, evBuiltin, evLen, evField, evPart, tStr, tInt, tElem, tArr, tBool, tAgg, tField, Try.underlying9, Try.underlying3, Try.underlying4, Try.underlying5, Try.underlying21, Try.underlying38, Try.underlying25, Try.underlying33, Try.underlying2, Try.underlying22, Try.underlying56, Try.underlying54, List.zipWith, Option.map_some, Option.map_none, List.length_cons, List.length_nil, ne_eq, Int.reduceEq, not_false_eq_true, and_self, and_true, true_and, szStr, szInt, Option.getD_some, isNil, evStr, loadStr, loadInt, fldOp, ldOp, mkInts1, rowsN_len, evMinMax, evFoldI, evCall, List.size_toArray, List.append_nil, List.nil_append, List.map_cons, List.map_nil, argAV, argCell, List.toList_toArray, fieldTy, f3, b9]; first | done | rfl)); exact (fun h => by first | rfl | (simp at h; done) | exact absurd (Bool.and_eq_true_iff.mp h).2 (by decide))) | refine ops_no rfl rfl (by simp only [Ev.get, reduceIte, Nat.reduceEqDiff, f3, b9]; first | done | rfl) (by decide) rfl (by decide) ?_ | refine ops_off rfl rfl rfl rfl (by decide) ?_ | (refine ops_nil ?_; intro e2 h2; simp only [restr, kpStepsT, List.map_cons, List.map_nil, Ev.get, reduceIte, Nat.reduceEqDiff] at h2; subst h2))
            refine runs_cond rfl (fun hc => ?_) (fun hc => by cases hc)
            repeat (first | refine runs_seq ?_ | refine runs_block ?_ | refine next_normal ?_ | refine inside_normal ?_ | refine next_exit ?_ | refine inside_exit ?_ | refine inside_other (by decide) ?_ | refine next_ret ?_ | refine inside_ret ?_ | refine runs_ops_kept ?_ | refine runs_skip ?_ | refine runs_exit ?_ | refine runs_ret ?_ | ((first | refine' ops_op rfl rfl (by decide) ?_ ?_ ?_ | refine' ops_yes rfl rfl (by simp only [Ev.get, reduceIte, Nat.reduceEqDiff, r1, r2, t1, t2, f5, c1, c2, ha1, ha2]; first | done | rfl) rfl (by decide) ?_ ?_ ?_ | refine' ops_op0 rfl rfl ?_ ?_ ?_); rotate_left 2; (focus (simp only [evOp, opd, constAV, constCell, Ev.get, reduceIte, Nat.reduceEqDiff, reduceCtorEq, evBinN, nilCmp, evBin, evInt, evUn, evConvert, evBuiltin, evLen, evField, evPart, tStr, tInt, tElem, tArr, tBool, tAgg, tField, Try.underlying9, Try.underlying3, Try.underlying4, Try.underlying5, Try.underlying21, Try.underlying38, Try.underlying25, Try.underlying33, Try.underlying2, Try.underlying22, Try.underlying56, Try.underlying54, List.zipWith, Option.map_some, Option.map_none, List.length_cons, List.length_nil, ne_eq, Int.reduceEq, not_false_eq_true, and_self, and_true, true_and, szStr, szInt, Option.getD_some, isNil, evStr, loadStr, loadInt, fldOp, ldOp, mkInts1, rowsN_len, evMinMax, evFoldI, evCall, List.size_toArray, List.append_nil, List.nil_append, List.map_cons, List.map_nil, argAV, argCell, List.toList_toArray, fieldTy, r1, r2, t1, t2, f5, c1, c2, ha1, ha2]; first | done | rfl)); exact (fun h => by first | rfl | (simp at h; done) | exact absurd (Bool.and_eq_true_iff.mp h).2 (by decide))) | refine ops_no rfl rfl (by simp only [Ev.get, reduceIte, Nat.reduceEqDiff, r1, r2, t1, t2, f5, c1, c2, ha1, ha2]; first | done | rfl) (by decide) rfl (by decide) ?_ | refine ops_off rfl rfl rfl rfl (by decide) ?_ | (refine ops_nil ?_; intro e2 h2; simp only [restr, kpStepsT, List.map_cons, List.map_nil, Ev.get, reduceIte, Nat.reduceEqDiff] at h2; subst h2))
            exact leaves_lst (g := g2) rfl (by simp only [Ev.get, reduceIte, Nat.reduceEqDiff]; simp only [List.append_assoc, List.cons_append, List.nil_append]) (fin_grows hG2)
          · rw [if_neg h9]
            have b9 : ((l.getD p nd0).op == 9) = false := by simpa using h9
            generalize l.getD p nd0 = x at f3 f4 b8 b9
            repeat (first | refine runs_seq ?_ | refine runs_block ?_ | refine next_normal ?_ | refine inside_normal ?_ | refine next_exit ?_ | refine inside_exit ?_ | refine inside_other (by decide) ?_ | refine next_ret ?_ | refine inside_ret ?_ | refine runs_ops_kept ?_ | refine runs_skip ?_ | refine runs_exit ?_ | refine runs_ret ?_ | ((first | refine' ops_op rfl rfl (by decide) ?_ ?_ ?_ | refine' ops_yes rfl rfl (by simp only [Ev.get, reduceIte, Nat.reduceEqDiff, f3, t3, f4, b8]; first | done | rfl) rfl (by decide) ?_ ?_ ?_ | refine' ops_op0 rfl rfl ?_ ?_ ?_); rotate_left 2; (focus (simp only [evOp, opd, constAV, constCell, Ev.get, reduceIte, Nat.reduceEqDiff, reduceCtorEq, evBinN, nilCmp, evBin, evInt, evUn, evConvert, evBuiltin, evLen, evField, evPart, tStr, tInt, tElem, tArr, tBool, tAgg, tField, Try.underlying9, Try.underlying3, Try.underlying4, Try.underlying5, Try.underlying21, Try.underlying38, Try.underlying25, Try.underlying33, Try.underlying2, Try.underlying22, Try.underlying56, Try.underlying54, List.zipWith, Option.map_some, Option.map_none, List.length_cons, List.length_nil, ne_eq, Int.reduceEq, not_false_eq_true, and_self, and_true, true_and, szStr, szInt, Option.getD_some, isNil, evStr, loadStr, loadInt, fldOp, ldOp, mkInts1, rowsN_len, evMinMax, evFoldI, evCall, List.size_toArray, List.append_nil, List.nil_append, List.map_cons, List.map_nil, argAV, argCell, List.toList_toArray, fieldTy, f3, fldLen, ldLen, t3, f4, b8]; first | done | rfl)); exact (fun h => by first | rfl | (simp at h; done) | exact absurd (Bool.and_eq_true_iff.mp h).2 (by decide))) | refine ops_no rfl rfl (by simp only [Ev.get, reduceIte, Nat.reduceEqDiff, f3, t3, f4, b8]; first | done | rfl) (by decide) rfl (by decide) ?_ | refine ops_off rfl rfl rfl rfl (by decide) ?_ | (refine ops_nil ?_; intro e2 h2; simp only [restr, kpStepsT, List.map_cons, List.map_nil, Ev.get, reduceIte, Nat.reduceEqDiff] at h2; subst h2))
            refine runs_cond rfl (fun hc => by cases hc) (fun hc => ?_)
            repeat (first | refine runs_seq ?_ | refine runs_block ?_ | refine next_normal ?_ | refine inside_normal ?_ | refine next_exit ?_ | refine inside_exit ?_ | refine inside_other (by decide) ?_ | refine next_ret ?_ | refine inside_ret ?_ | refine runs_ops_kept ?_ | refine runs_skip ?_ | refine runs_exit ?_ | refine runs_ret ?_ | ((first | refine' ops_op rfl rfl (by decide) ?_ ?_ ?_ | refine' ops_yes rfl rfl (by simp only [Ev.get, reduceIte, Nat.reduceEqDiff, f3, b9]; first | done | rfl) rfl (by decide) ?_ ?_ ?_ | refine' ops_op0 rfl rfl ?_ ?_ ?_); rotate_left 2; (focus (simp only [evOp, opd, constAV, constCell, Ev.get, reduceIte, Nat.reduceEqDiff, reduceCtorEq, evBinN, nilCmp, evBin, evInt, evUn, evConvert, evBuiltin, evLen, evField, evPart, tStr, tInt, tElem, tArr, tBool, tAgg, tField, Try.underlying9, Try.underlying3, Try.underlying4, Try.underlying5, Try.underlying21, Try.underlying38, Try.underlying25, Try.underlying33, Try.underlying2, Try.underlying22, Try.underlying56, Try.underlying54, List.zipWith, Option.map_some, Option.map_none, List.length_cons, List.length_nil, ne_eq, Int.reduceEq, not_false_eq_true, and_self, and_true, true_and, szStr, szInt, Option.getD_some, isNil, evStr, loadStr, loadInt, fldOp, ldOp, mkInts1, rowsN_len, evMinMax, evFoldI, evCall, List.size_toArray, List.append_nil, List.nil_append, List.map_cons, List.map_nil, argAV, argCell, List.toList_toArray, fieldTy, f3, b9]; first | done | rfl)); exact (fun h => by first | rfl | (simp at h; done) | exact absurd (Bool.and_eq_true_iff.mp h).2 (by decide))) | refine ops_no rfl rfl (by simp only [Ev.get, reduceIte, Nat.reduceEqDiff, f3, b9]; first | done | rfl) (by decide) rfl (by decide) ?_ | refine ops_off rfl rfl rfl rfl (by decide) ?_ | (refine ops_nil ?_; intro e2 h2; simp only [restr, kpStepsT, List.map_cons, List.map_nil, Ev.get, reduceIte, Nat.reduceEqDiff] at h2; subst h2))
            refine runs_cond rfl (fun hc => by cases hc) (fun hc => ?_)
            repeat (first | refine runs_seq ?_ | refine runs_block ?_ | refine next_normal ?_ | refine inside_normal ?_ | refine next_exit ?_ | refine inside_exit ?_ | refine inside_other (by decide) ?_ | refine next_ret ?_ | refine inside_ret ?_ | refine runs_ops_kept ?_ | refine runs_skip ?_ | refine runs_exit ?_ | refine runs_ret ?_ | ((first | refine' ops_op rfl rfl (by decide) ?_ ?_ ?_ | refine' ops_yes rfl rfl (by simp only [Ev.get, reduceIte, Nat.reduceEqDiff]; first | done | rfl) rfl (by decide) ?_ ?_ ?_ | refine' ops_op0 rfl rfl ?_ ?_ ?_); rotate_left 2; (focus (simp only [evOp, opd, constAV, constCell, Ev.get, reduceIte, Nat.reduceEqDiff, reduceCtorEq, evBinN, nilCmp, evBin, evInt, evUn, evConvert, evBuiltin, evLen, evField, evPart, tStr, tInt, tElem, tArr, tBool, tAgg, tField, Try.underlying9, Try.underlying3, Try.underlying4, Try.underlying5, Try.underlying21, Try.underlying38, Try.underlying25, Try.underlying33, Try.underlying2, Try.underlying22, Try.underlying56, Try.underlying54, List.zipWith, Option.map_some, Option.map_none, List.length_cons, List.length_nil, ne_eq, Int.reduceEq, not_false_eq_true, and_self, and_true, true_and, szStr, szInt, Option.getD_some, isNil, evStr, loadStr, loadInt, fldOp, ldOp, mkInts1, rowsN_len, evMinMax, evFoldI, evCall, List.size_toArray, List.append_nil, List.nil_append, List.map_cons, List.map_nil, argAV, argCell, List.toList_toArray, fieldTy]; first | done | rfl)); exact (fun h => by first | rfl | (simp at h; done) | exact absurd (Bool.and_eq_true_iff.mp h).2 (by decide))) | refine ops_no rfl rfl (by simp only [Ev.get, reduceIte, Nat.reduceEqDiff]; first | done | rfl) (by decide) rfl (by decide) ?_ | refine ops_off rfl rfl rfl rfl (by decide) ?_ | (refine ops_nil ?_; intro e2 h2; simp only [restr, kpStepsT, List.map_cons, List.map_nil, Ev.get, reduceIte, Nat.reduceEqDiff] at h2; subst h2))
            exact leaves_lst rfl rfl (finMem_self _)
      · cases h
    · cases h
  · cases h
def stepsTG : List AV → Mem → Option (AV × Mem)
  | [.lst _ 7 rows, .v (.int .i64 at_), .v (.int .i64 k), .v (.int .i64 ep)], m =>
    match unN rows with
    | some l => if ((l.length ≤ 64 ∧ 0 ≤ at_ ∧ 0 ≤ endOf l at_ ∧ ∀ x ∈ l, mayN x) ∧ inW k ∧ inW ep) then some (.lst .no 1 (rowsI (stepsF l ep l.length at_.toNat k)), m) else none
    | none => none
  | _, _ => none
theorem stepsTG_eq {m : Mem} {g : Grow} {l : List Nd} {p : Nat} {k ep : Int} (h : l.length ≤ 64) (h2 : 0 ≤ endOf l (p : Int)) (hm : ∀ x ∈ l, mayN x) (hk : inW k) (he : inW ep) :
    stepsTG [.lst g 7 (rowsN l), .v (.int .i64 (p : Int)), .v (.int .i64 k), .v (.int .i64 ep)] m = some (.lst .no 1 (rowsI (stepsF l ep l.length p k)), m) := by
  simp only [stepsTG, unN_rowsN]
  rw [if_pos ⟨⟨h, by omega, h2, hm⟩, hk, he⟩, Int.toNat_natCast]
theorem stepsT_ok : FunOk Try.prog 33 stepsTG := by
  intro args m r m' h
  unfold stepsTG at h
  split at h
  · rename_i g rows at_ k ep
    split at h
    · rename_i l hl0
      split at h
      · rename_i hb
        refine stepsT_k (((l.length : Int) - at_).toNat + 1) _ m r m' ?_
        unfold stepsTGk
        simp only [hl0]
        rw [if_pos ⟨hb, by omega⟩]
        exact h
      · cases h
    · cases h
  · cases h
end Go.Proofs.Ytojaokhkbmiidaa.Ev

/- Lists in blocks of their own, and a document made of them. -/
import Derived.Test.YtmockbddhhmmeaaMbkei3
namespace Go.Proofs.Ytmockbddhhmmeaa.Ev
open Go Go.Proofs
set_option maxRecDepth 10000
set_option maxHeartbeats 8000000
set_option linter.unusedVariables false
set_option linter.unusedSimpArgs false
noncomputable section
attribute [local irreducible] Next Inside Runs Ops table
def Arr (F : Objs) (k : Nat) (av : AV) (rows : List (List AV)) : Prop :=
 (rows = [] ∧ av = .lst .no k []) ∨ (0 < rows.length ∧ ∃ (b c : Nat) (vs : List Value), rows.length ≤ c ∧ av = .v (rawSl b 0 rows.length c) ∧ (b, XOb.arr (rows.flatten ++ vs.map AV.v)) ∈ F)
def keyOf : AV → Option Nat
 | .v (.slice (some ⟨b, _, _⟩) _ _) => some b
 | _ => none
section
variable {F F2 : Objs} {k : Nat} {av : AV} {rows rows2 : List (List AV)} {b : Nat} {o : XOb}
theorem arr_mono (h : Arr F k av rows) (hF : ∀ p ∈ F, p ∈ F2) : Arr F2 k av rows := by
 rcases h with h | ⟨h0, b, c, vs, h1, h2, h3⟩
 ·exact .inl h
 ·exact .inr ⟨h0, b, c, vs, h1, h2, hF _ h3⟩
theorem arr_key (h : Arr F k av rows) (hk : keyOf av = some b) : ∃ o, (b, o) ∈ F := by
 rcases h with ⟨_, rfl⟩ | ⟨h0, b', c, vs, h1, rfl, h3⟩
 ·cases hk
 ·cases hk
  exact ⟨_, h3⟩
theorem mem_set_ne {p : Nat × XOb} (h : p ∈ F) (hne : p.1 ≠ b) : p ∈ setObjs F b o := List.mem_map.2 ⟨p, h, if_neg hne⟩
theorem mem_set_eq {old : XOb} (h : (b, old) ∈ F) : (b, o) ∈ setObjs F b o := List.mem_map.2 ⟨_, h, if_pos rfl⟩
theorem arr_other (h : Arr F k av rows) (hk : keyOf av ≠ some b) : Arr (setObjs F b o) k av rows := by
 rcases h with h | ⟨h0, b', c, vs, h1, rfl, h3⟩
 ·exact .inl h
 ·exact .inr ⟨h0, b', c, vs, h1, rfl, mem_set_ne h3 fun e => hk (by rw [show b' = b from e]; rfl)⟩
/-- An own list laid to rest. -/
theorem fz_arr (h : Arr F k av rows) (hl : rows2.length = rows.length) (hw : ∀ r ∈ rows, r.length = k) (hr : ∀ r ∈ rows2, r.length = k ∧ r.all isRow = true)
  (hf : ∀ (i : Nat) row row2 (j : Nat) a a2, rows[i]? = some row → rows2[i]? = some row2 → row[j]? = some a → row2[j]? = some a2 → Fz F a a2) : Fz F av (.lst .no k rows2) := by
 rcases h with ⟨rfl, rfl⟩ | ⟨h0, b, c, vs, h1, rfl, h3⟩
 ·obtain rfl : rows2 = [] := List.eq_nil_of_length_eq_zero hl
  exact .same _
 ·refine .list b 0 k rows.length c _ rows2 (fun i j => (rows.getD i []).getD j .junk) h3 hl h1 (fun i row hi => hr row (List.mem_of_getElem? hi)) (fun i row2 j x e1 e2 => ?_) fun i row2 j x e1 e2 => ?_
  ·have hi : i < rows.length := by rw [← hl]; exact (List.getElem?_eq_some_iff.1 e1).1
   have hj : j < k := by rw [← (hr row2 (List.mem_of_getElem? e1)).1]; exact (List.getElem?_eq_some_iff.1 e2).1
   rw [Nat.zero_add, get_rows _ j hj rows i hw hi]
   have hrow : (rows.getD i []).length = k := by
    rw [List.getD, List.getElem?_eq_getElem hi]
    exact hw _ (List.getElem_mem _)
   generalize rows.getD i [] = r at hrow
   rw [List.getElem?_eq_getElem (by rw [hrow]; exact hj), List.getD, List.getElem?_eq_getElem (by rw [hrow]; exact hj)]
   rfl
  ·have hi : i < rows.length := by rw [← hl]; exact (List.getElem?_eq_some_iff.1 e1).1
   have hj : j < k := by rw [← (hr row2 (List.mem_of_getElem? e1)).1]; exact (List.getElem?_eq_some_iff.1 e2).1
   have e3 : rows[i]? = some (rows.getD i []) := by rw [List.getD, List.getElem?_eq_getElem hi]; rfl
   have hrow : (rows.getD i []).length = k := hw _ (List.mem_of_getElem? e3)
   refine hf i _ row2 j _ x e3 e1 ?_ e2
   generalize rows.getD i [] = r at hrow
   show r[j]? = some (r.getD j .junk)
   rw [List.getD, List.getElem?_eq_getElem (by rw [hrow]; exact hj)]
   rfl
end
section
variable {α : Type} {F F' F2 : Objs} {V V2 : α → Prop} {W : α → Nat} {A A2 : α → AV} {R R2 : α → List (List AV)} {x : α}
structure Owns (F : Objs) (V : α → Prop) (W : α → Nat) (A : α → AV) (R : α → List (List AV)) : Prop where
 arr : ∀ x, V x → Arr F (W x) (A x) (R x)
 sep : ∀ x y b, V x → V y → keyOf (A x) = some b → keyOf (A y) = some b → x = y
theorem Owns.put (h : Owns F V W A R) (hx : V x) (h0 : 0 < (R x).length) : ∃ (b c : Nat) (vs : List Value), (R x).length ≤ c ∧ A x = .v (rawSl b 0 (R x).length c) ∧ (b, XOb.arr ((R x).flatten ++ vs.map AV.v)) ∈ F ∧
  ∀ R2 : α → List (List AV), (∀ y, V y → y ≠ x → R2 y = R y) → (R2 x).length = (R x).length → Owns (setObjs F b (.arr ((R2 x).flatten ++ vs.map AV.v))) V W A R2 := by
 rcases h.arr x hx with ⟨e, _⟩ | ⟨_, b, c, vs, h1, h2, h3⟩
 ·rw [e] at h0; simp at h0
 refine ⟨b, c, vs, h1, h2, h3, fun R2 hR hl => ⟨fun y hy => ?_, h.sep⟩⟩
 have hb : keyOf (A x) = some b := by rw [h2]; rfl
 by_cases hyx : y = x
 ·subst hyx
  exact .inr ⟨by omega, b, c, vs, by omega, by rw [h2, hl], mem_set_eq h3⟩
 ·rw [hR y hy hyx]
  exact arr_other (h.arr y hy) fun e => hyx (h.sep y x b hy hx e hb)
theorem Owns.more (h : Owns F V W A R) (ha : Arr F' (W x) (A2 x) (R2 x)) (hd : ∀ p ∈ F', ∀ q ∈ F, p.1 ≠ q.1) (hV : ∀ y, V2 y → y = x ∨ V y) (hnx : ¬ V x) (hA : ∀ y, V y → A2 y = A y) (hR : ∀ y, V y → R2 y = R y) :
  Owns (F' ++ F) V2 W A2 R2 := by
 have old : ∀ y, V y → Arr F (W y) (A2 y) (R2 y) := fun y hy => by rw [hA y hy, hR y hy]; exact h.arr y hy
 refine ⟨fun y hy => ?_, fun y z b hy hz e1 e2 => ?_⟩
 ·rcases hV y hy with rfl | hy
  ·exact arr_mono ha fun p hp => List.mem_append_left _ hp
  ·exact arr_mono (old y hy) fun p hp => List.mem_append_right _ hp
 ·have apart : ∀ y, V y → keyOf (A2 x) = some b → keyOf (A2 y) = some b → False := fun y hy e1 e2 => by
   obtain ⟨o, ho⟩ := arr_key ha e1
   obtain ⟨o2, ho2⟩ := arr_key (old y hy) e2
   exact hd _ ho _ ho2 rfl
  rcases hV y hy with rfl | hy
  ·rcases hV z hz with rfl | hz
   ·rfl
   ·exact (apart z hz e1 e2).elim
  ·rcases hV z hz with rfl | hz
   ·exact (apart y hy e2 e1).elim
   ·rw [hA y hy] at e1
    rw [hA z hz] at e2
    exact h.sep y z b hy hz e1 e2
theorem Owns.wider (h : Owns F V W A R) (hF : ∀ p ∈ F, p ∈ F2) : Owns F2 V W A R := ⟨fun x hx => arr_mono (h.arr x hx) hF, h.sep⟩
theorem Owns.free {b : Nat} {o : XOb} (h : Owns F V W A R) (hb : ∀ x, V x → keyOf (A x) ≠ some b) : Owns (setObjs F b o) V W A R := ⟨fun x hx => arr_other (h.arr x hx) (hb x hx), h.sep⟩
theorem Owns.key {b : Nat} (h : Owns F V W A R) (hx : V x) (hk : keyOf (A x) = some b) : ∃ o, (b, o) ∈ F := arr_key (h.arr x hx) hk
theorem Owns.same (h : Owns F V W A R) (hV : ∀ y, V2 y → V y) (hA : ∀ y, V2 y → A2 y = A y) (hR : ∀ y, V2 y → R2 y = R y) : Owns F V2 W A2 R2 :=
 ⟨fun y hy => by rw [hA y hy, hR y hy]; exact h.arr y (hV y hy), fun y z b hy hz e1 e2 => h.sep y z b (hV y hy) (hV z hz) (by rw [← hA y hy]; exact e1) (by rw [← hA z hz]; exact e2)⟩
end
/-! ### the document -/
inductive Ix where
 | top
 | ph (i : Nat)
 | st (i j : Nat)
deriving DecidableEq
def ixW : Ix → Nat
 | .top => 5
 | .ph _ => 3
 | .st _ _ => 7
def Rc.rowW (R : Rc) (a : AV) : List AV := splice R.row 7 [a]
def Ph.rowW (p : Ph) (a : AV) : List AV := splice p.row 4 [a]
def Gs.rowW (g : Gs) (a : AV) : List AV := splice g.row 2 [a]
def setsOf (l : List Ph) (i : Nat) : List Gs := (l.getD i ph0).sets
def nodesOf (l : List Ph) (i j : Nat) : List Nd := ((setsOf l i).getD j gs0).nodes
/-- The rows of a document whose lists' cells are C. -/
def rowsC (C : Ix → AV) (l : List Ph) : Ix → List (List AV)
 | .top => l.mapIdx fun i p => p.rowW (C (.ph i))
 | .ph i => (setsOf l i).mapIdx fun j g => g.rowW (C (.st i j))
 | .st i j => rowsN (nodesOf l i j)
def cell0 (l : List Ph) : Ix → AV
 | .top => .lst .no 5 (rowsPh l)
 | .ph i => .lst .no 3 (rowsGs (setsOf l i))
 | .st i j => .lst .no 7 (rowsN (nodesOf l i j))
def valid (l : List Ph) : Ix → Prop
 | .top => True
 | .ph i => i < l.length
 | .st i j => i < l.length ∧ j < (setsOf l i).length
def upd (C : Ix → AV) (x : Ix) (a : AV) : Ix → AV := fun y => if y = x then a else C y
theorem upd_self (C : Ix → AV) (x : Ix) (a : AV) : upd C x a x = a := if_pos rfl
theorem upd_ne {C : Ix → AV} {x y : Ix} {a : AV} (h : y ≠ x) : upd C x a y = C y := if_neg h
theorem rowsC_top (C : Ix → AV) (l : List Ph) : (rowsC C l .top).length = l.length := List.length_mapIdx
theorem rowsC_ph (C : Ix → AV) (l : List Ph) (i : Nat) : (rowsC C l (.ph i)).length = (setsOf l i).length := List.length_mapIdx
theorem rowsC_row (C : Ix → AV) (l : List Ph) (x : Ix) : ∀ r ∈ rowsC C l x, r.length = ixW x := fun r hr => by
 cases x with
 | top => obtain ⟨i, hi, rfl⟩ := List.mem_mapIdx.1 hr; rfl
 | ph i => obtain ⟨i, hi, rfl⟩ := List.mem_mapIdx.1 hr; rfl
 | st i j => exact rowsN_row _ r hr
theorem Ph.rowW_self (p : Ph) : p.rowW (.lst .no 3 (rowsGs p.sets)) = p.row := rfl
theorem Gs.rowW_self (g : Gs) : g.rowW (.lst .no 7 (rowsN g.nodes)) = g.row := rfl
theorem rowsC_top0 {C : Ix → AV} {l : List Ph} (h : ∀ i, C (.ph i) = cell0 l (.ph i)) : rowsC C l .top = rowsPh l := by
 refine List.ext_getElem? fun i => ?_
 show (l.mapIdx _)[i]? = (l.map _)[i]?
 rw [List.getElem?_mapIdx, List.getElem?_map]
 cases hi : l[i]? with
 | none => rfl
 | some p =>
  have : setsOf l i = p.sets := by unfold setsOf; rw [List.getD, hi]; rfl
  simp only [Option.map_some, h, cell0, this, Ph.rowW_self]
theorem rowsC_ph0 {C : Ix → AV} {l : List Ph} {i : Nat} (h : ∀ j, C (.st i j) = cell0 l (.st i j)) : rowsC C l (.ph i) = rowsGs (setsOf l i) := by
 refine List.ext_getElem? fun j => ?_
 show (List.mapIdx _ _)[j]? = (List.map _ _)[j]?
 rw [List.getElem?_mapIdx, List.getElem?_map]
 cases hj : (setsOf l i)[j]? with
 | none => rfl
 | some g =>
  have : nodesOf l i j = g.nodes := by unfold nodesOf; rw [List.getD, hj]; rfl
  simp only [Option.map_some, h, cell0, this, Gs.rowW_self]
theorem rowsC_top_at {C : Ix → AV} {l : List Ph} {i : Nat} (hi : i < l.length) : (rowsC C l .top).getD i [] = (l.getD i ph0).rowW (C (.ph i)) := by
 show (l.mapIdx _).getD i [] = _
 simp [List.getD, List.getElem?_mapIdx, List.getElem?_eq_getElem hi]
theorem rowsC_ph_at {C : Ix → AV} {l : List Ph} {i j : Nat} (hj : j < (setsOf l i).length) : (rowsC C l (.ph i)).getD j [] = ((setsOf l i).getD j gs0).rowW (C (.st i j)) := by
 show (List.mapIdx _ _).getD j [] = _
 simp [List.getD, List.getElem?_mapIdx, List.getElem?_eq_getElem hj]
/-- A cell linked to its list. -/
theorem rowsC_link_ph {C : Ix → AV} {l : List Ph} {i : Nat} {a : AV} (hi : i < l.length) : (rowsC C l .top).set i ((l.getD i ph0).rowW a) = rowsC (upd C (.ph i) a) l .top := by
 refine List.ext_getElem? fun n => ?_
 show ((l.mapIdx _).set i _)[n]? = (l.mapIdx _)[n]?
 by_cases hn : n = i
 ·subst hn
  rw [List.getElem?_set_self (by rw [List.length_mapIdx]; exact hi), List.getElem?_mapIdx, List.getElem?_eq_getElem hi]
  simp [upd, List.getD, List.getElem?_eq_getElem hi]
 ·rw [List.getElem?_set_ne (Ne.symm hn), List.getElem?_mapIdx, List.getElem?_mapIdx, upd_ne (by intro e; cases e; exact hn rfl)]
theorem rowsC_link_st {C : Ix → AV} {l : List Ph} {i j : Nat} {a : AV} (hj : j < (setsOf l i).length) : (rowsC C l (.ph i)).set j (((setsOf l i).getD j gs0).rowW a) = rowsC (upd C (.st i j) a) l (.ph i) := by
 refine List.ext_getElem? fun n => ?_
 show ((List.mapIdx _ _).set j _)[n]? = (List.mapIdx _ _)[n]?
 by_cases hn : n = j
 ·subst hn
  rw [List.getElem?_set_self (by rw [List.length_mapIdx]; exact hj), List.getElem?_mapIdx, List.getElem?_eq_getElem hj]
  simp [upd, List.getD, List.getElem?_eq_getElem hj]
 ·rw [List.getElem?_set_ne (Ne.symm hn), List.getElem?_mapIdx, List.getElem?_mapIdx, upd_ne (by intro e; cases e; exact hn rfl)]
theorem rowsC_upd_ph {C : Ix → AV} {l : List Ph} {i : Nat} {a : AV} {y : Ix} (h : y ≠ .top) : rowsC (upd C (.ph i) a) l y = rowsC C l y := by
 cases y with
 | top => exact absurd rfl h
 | ph n => rfl
 | st n j => rfl
theorem rowsC_upd_st {C : Ix → AV} {l : List Ph} {i j : Nat} {a : AV} {y : Ix} (h : y ≠ .ph i) : rowsC (upd C (.st i j) a) l y = rowsC C l y := by
 cases y with
 | top => rfl
 | st n j => rfl
 | ph n =>
  have hn : n ≠ i := fun e => h (by rw [e])
  refine List.ext_getElem? fun q => ?_
  show (List.mapIdx _ _)[q]? = (List.mapIdx _ _)[q]?
  rw [List.getElem?_mapIdx, List.getElem?_mapIdx, upd_ne (by intro e; cases e; exact hn rfl)]
/-- A document of own lists laid to rest. -/
theorem isRow_nd (l : List Nd) : ∀ r ∈ rowsN l, r.length = 7 ∧ r.all isRow = true := fun r hr => by
 obtain ⟨x, _, rfl⟩ := List.mem_map.1 hr
 exact ⟨rfl, rfl⟩
theorem isRow_gs (l : List Gs) : ∀ r ∈ rowsGs l, r.length = 3 ∧ r.all isRow = true := fun r hr => by
 obtain ⟨x, _, rfl⟩ := List.mem_map.1 hr
 exact ⟨rfl, rfl⟩
theorem isRow_ph (l : List Ph) : ∀ r ∈ rowsPh l, r.length = 5 ∧ r.all isRow = true := fun r hr => by
 obtain ⟨x, _, rfl⟩ := List.mem_map.1 hr
 exact ⟨rfl, rfl⟩
theorem fz_splice {F : Objs} {row : List AV} {n : Nat} {a a2 : AV} (hn : n < row.length) (ha : Fz F a a2) (h2 : row[n]? = some a2) : ∀ (j : Nat) x y, (splice row n [a])[j]? = some x → row[j]? = some y → Fz F x y := fun j x y e1 e2 => by
 unfold splice at e1
 by_cases hj : j < n
 ·rw [List.append_assoc, List.getElem?_append_left (by rw [List.length_take]; omega), List.getElem?_take_of_lt hj, e2] at e1
  cases e1
  exact .same _
 ·by_cases hjn : j = n
  ·subst hjn
   rw [h2] at e2
   cases e2
   rw [List.append_assoc, List.getElem?_append_right (by rw [List.length_take]; omega), List.length_take, Nat.min_eq_left (by omega), Nat.sub_self] at e1
   cases e1
   exact ha
  ·rw [List.getElem?_append_right (by rw [List.length_append, List.length_take]; show _ ≤ _; simp; omega), List.length_append, List.length_take, Nat.min_eq_left (by omega), List.getElem?_drop] at e1
   rw [show n + [a].length + (j - (n + [a].length)) = j by simp; omega, e2] at e1
   cases e1
   exact .same _
theorem own_fz {F : Objs} {A : Ix → AV} {l : List Ph} (h : Owns F (valid l) ixW A (rowsC A l)) : Fz F (A .top) (.lst .no 5 (rowsPh l)) := by
 refine fz_arr (h.arr .top trivial) (by rw [rowsPh_len, rowsC_top]) (rowsC_row A l .top) (isRow_ph l) fun i row row2 j a a2 e1 e2 e3 e4 => ?_
 have hi : i < l.length := by rw [← rowsPh_len l]; exact (List.getElem?_eq_some_iff.1 e2).1
 rw [rowsPh_get hi] at e2
 obtain rfl : (l.getD i ph0).row = row2 := by simpa using e2
 obtain rfl : (l.getD i ph0).rowW (A (.ph i)) = row := by rw [← rowsC_top_at hi, List.getD, e1]; rfl
 refine fz_splice (row := (l.getD i ph0).row) (by show 4 < 5; decide) ?_ rfl j a a2 e3 e4
 refine fz_arr (h.arr (.ph i) hi) (by rw [rowsGs_len, rowsC_ph]; rfl) (rowsC_row A l (.ph i)) (isRow_gs _) fun n row row2 q b b2 f1 f2 f3 f4 => ?_
 have hn : n < (setsOf l i).length := by rw [← rowsC_ph A l i]; exact (List.getElem?_eq_some_iff.1 f1).1
 replace f2 : (rowsGs (setsOf l i))[n]? = some row2 := f2
 rw [rowsGs_get hn] at f2
 obtain rfl : ((setsOf l i).getD n gs0).row = row2 := by simpa using f2
 obtain rfl : ((setsOf l i).getD n gs0).rowW (A (.st i n)) = row := by rw [← rowsC_ph_at hn, List.getD, f1]; rfl
 refine fz_splice (row := ((setsOf l i).getD n gs0).row) (by show 2 < 3; decide) ?_ rfl q b b2 f3 f4
 exact fz_arr (h.arr (.st i n) ⟨hi, hn⟩) rfl (rowsC_row A l (.st i n)) (isRow_nd _) fun n2 row row2 q b b2 f1 f2 f3 f4 => by
  rw [show (rowsC A l (.st i n))[n2]? = some row2 from f2] at f1
  cases f1
  rw [f3] at f4
  cases f4
  exact .same _
end
noncomputable section
attribute [local irreducible] Next Inside Runs Ops table
attribute [local irreducible] XRuns XOps
attribute [local go_sem] szStr szInt Option.getD_some isNil evStr iv loadStr loadInt mapRc cellsRc newRc zrRc zoRc znRc zrPh zoPh znPh zsPh zrGs zoGs znGs zsGs fpRcPhases fpPhSets fpGsNodes
theorem xs_callF1 {P : Program} {nt : Nat} {φ₀ : Phi} {m₀ : Mem} {w₀ : World} {ops : Array Oper} {o : Oper} {e : Env} {m : Mem} {F : Objs} {K : Env → Mem → Objs → Prop} {f : FuncId} {Pre : List AV → Mem → Prop} {Post : List AV → Mem → AV → Mem → Objs → Prop}
  (hf : FunOkF P f Pre Post) {c : Call} {x : Operand} {av : AV} {d : Nat} (hg : wantedAV ops e o = some true) (hd : o.dst = some d) (hlt : d < nt) (ho : o.op = .call c) (hc : c.callee = .value (.func f)) (ha : c.args = #[x]) (hx : opd P e 0 x = av) (hpre : Pre [argAV av] m)
  (h : ∀ r m' F', Post [argAV av] m r m' F' → (∀ p ∈ F', ∀ q ∈ F, p.1 ≠ q.1) → K ((d, r) :: e) m' (F' ++ F)) : XStep P φ₀ m₀ w₀ nt ops o e m F K :=
 xs_callF hf (args := [av]) hg hd hlt ho hc (fun φ w a hE => by
  rw [ha]
  refine ⟨by simp, fun i b u e1 e2 => ?_⟩
  cases i with
  | zero =>
   have hb : av = b := by simpa using e1
   have hu : a.eval x = u := by simpa using e2
   subst hb
   subst hu
   have := rep_opd (P := P) hE 0 x
   rw [hx] at this
   exact this
  | succ i => simp at e1) hpre h
structure Copying (F : Objs) (l : List Ph) (V L : Ix → Prop) (A C : Ix → AV) : Prop where
 owns : Owns F V ixW A (rowsC C l)
 on : ∀ x, L x → C x = A x
 off : ∀ x, ¬ L x → C x = cell0 l x
theorem Copying.alloc {F F' : Objs} {l : List Ph} {V V2 L : Ix → Prop} {A C : Ix → AV} {x : Ix} {av : AV} (h : Copying F l V L A C) (ha : Arr F' (ixW x) av (rowsC C l x)) (hd : ∀ p ∈ F', ∀ q ∈ F, p.1 ≠ q.1) (hn : ¬ V x) (hl : ¬ L x)
  (hV : ∀ y, V2 y → y = x ∨ V y) : Copying (F' ++ F) l V2 L (upd A x av) C :=
 ⟨h.owns.more (x := x) (by rw [upd_self]; exact ha) hd hV hn (fun y hy => upd_ne fun e => hn (by rw [← e]; exact hy)) fun y hy => rfl,
  fun y hy => by rw [upd_ne (fun e => hl (by rw [← e]; exact hy))]; exact h.on y hy, h.off⟩
theorem Copying.link {F F2 : Objs} {l : List Ph} {V L L2 : Ix → Prop} {A C : Ix → AV} {x : Ix} (h : Copying F l V L A C) (hF : Owns F2 V ixW A (rowsC (upd C x (A x)) l)) (hL : ∀ y, L2 y → y = x ∨ L y) (hL2 : ∀ y, ¬ L2 y → y ≠ x ∧ ¬ L y) :
  Copying F2 l V L2 A (upd C x (A x)) := by
 refine ⟨hF, fun y hy => ?_, fun y hy => ?_⟩
 ·by_cases e : y = x
  ·subst e; exact upd_self ..
  ·rw [upd_ne e]; exact h.on y ((hL y hy).resolve_left e)
 ·obtain ⟨e, h2⟩ := hL2 y hy
  rw [upd_ne e]; exact h.off y h2
def V1 (l : List Ph) (i : Nat) : Ix → Prop
 | .top => True
 | .ph a => a < i
 | .st a b => a < i ∧ b < (setsOf l a).length
def L1 (l : List Ph) (i : Nat) : Ix → Prop
 | .top => False
 | .ph a => a < i
 | .st a b => a < i ∧ b < (setsOf l a).length
def V2 (l : List Ph) (i j : Nat) : Ix → Prop
 | .top => True
 | .ph a => a ≤ i
 | .st a b => (a < i ∧ b < (setsOf l a).length) ∨ (a = i ∧ b < j)
def L2 (l : List Ph) (i j : Nat) : Ix → Prop
 | .top => False
 | .ph a => a < i
 | .st a b => (a < i ∧ b < (setsOf l a).length) ∨ (a = i ∧ b < j)
theorem Copying.relabel {F : Objs} {l : List Ph} {V V2 L L2 : Ix → Prop} {A C : Ix → AV} (h : Copying F l V L A C) (hV : ∀ x, V2 x → V x) (hL : ∀ x, L2 x ↔ L x) : Copying F l V2 L2 A C :=
 ⟨h.owns.same hV (fun _ _ => rfl) fun _ _ => rfl, fun x hx => h.on x ((hL x).1 hx), fun x hx => h.off x fun e => hx ((hL x).2 e)⟩
theorem rowsC_congr {C A : Ix → AV} {l : List Ph} (h : ∀ x, valid l x → x ≠ .top → C x = A x) : ∀ y, valid l y → rowsC C l y = rowsC A l y := fun y hy => by
 cases y with
 | st i j => rfl
 | top =>
  refine List.ext_getElem? fun n => ?_
  show (l.mapIdx _)[n]? = (l.mapIdx _)[n]?
  rw [List.getElem?_mapIdx, List.getElem?_mapIdx]
  by_cases hn : n < l.length
  ·rw [h (.ph n) hn (by intro e; cases e)]
  ·rw [List.getElem?_eq_none (by omega)]; rfl
 | ph i =>
  refine List.ext_getElem? fun n => ?_
  show (List.mapIdx _ _)[n]? = (List.mapIdx _ _)[n]?
  rw [List.getElem?_mapIdx, List.getElem?_mapIdx]
  by_cases hn : n < (setsOf l i).length
  ·rw [h (.st i n) ⟨hy, hn⟩ (by intro e; cases e)]
  ·rw [List.getElem?_eq_none (by omega)]; rfl
def Rc.small (R : Rc) : Prop := R.phases.length ≤ 1000000 ∧ ∀ p ∈ R.phases, p.sets.length ≤ 1000000 ∧ ∀ s ∈ p.sets, s.nodes.length ≤ 1000000
instance (R : Rc) : Decidable R.small := by unfold Rc.small; exact inferInstance
def copyPre (args : List AV) (_ : Mem) : Prop := ∃ R : Rc, args = [.agg R.row] ∧ R.small
def copyPost (args : List AV) (m : Mem) (r : AV) (m' : Mem) (F : Objs) : Prop := ∀ R : Rc, args = [.agg R.row] → m' = m ∧ ∃ A, r = .agg (R.rowW (A .top)) ∧ Owns F (valid R.phases) ixW A (rowsC A R.phases)
theorem arr_of_clone {k : Nat} {rows : List (List AV)} {m m' : Mem} {r : AV} {F : Objs} (h : clonePost k rows m r m' F) : m' = m ∧ Arr F k r rows := by
 obtain ⟨h1, h2⟩ := h
 refine ⟨h1, ?_⟩
 rcases h2 with ⟨rfl, rfl, _⟩ | ⟨h0, b, c, vs, g1, g2, rfl, rfl⟩
 ·exact .inl ⟨rfl, rfl⟩
 ·exact .inr ⟨h0, b, c, vs, g1, rfl, List.mem_cons_self ..⟩
theorem arr_cell {F : Objs} {k : Nat} {av : AV} {rows : List (List AV)} (h : Arr F k av rows) : rowOf av = some [av] ∧ cellsOf av = some [av] ∧ ∀ q, refLe q av = true := by
 rcases h with ⟨_, rfl⟩ | ⟨_, b, c, vs, _, rfl, _⟩ <;> exact ⟨rfl, rfl, fun q => rfl⟩
theorem szPh5 : tSize Try.prog 66 = some 5 := by kernel_rfl
theorem elPhs : tElem Try.prog 23 = some 66 := by kernel_rfl
theorem szGs3 : tSize Try.prog 69 = some 3 := by kernel_rfl
theorem elGss : tElem Try.prog 64 = some 69 := by kernel_rfl
theorem fdSets : tField Try.prog 66 3 = some (4, 64) := by kernel_rfl
theorem fdNodes : tField Try.prog 69 2 = some (2, 67) := by kernel_rfl
theorem szSl1 : tSize Try.prog 64 = some 1 := by kernel_rfl
theorem szSl2 : tSize Try.prog 67 = some 1 := by kernel_rfl
theorem szSl3 : tSize Try.prog 23 = some 1 := by kernel_rfl
theorem aggPh : tAgg Try.prog 66 = some true := by kernel_rfl
theorem aggGs : tAgg Try.prog 69 = some true := by kernel_rfl
theorem aggSl3 : tAgg Try.prog 23 = some false := by kernel_rfl
theorem lpW {m : Mem} {r : Nat} {R : Rc} {a : AV} (hv : m.var r = some (R.rowW a)) : evLoad Try.prog m 23 (.ptr r 7) = some a := by
 unfold evLoad
 simp only [ptrCells, hv, Option.map_some, szSl3, aggSl3]
 rfl
theorem vrW {m : Mem} {r : Nat} {R : Rc} {a : AV} (hv : m.var r = some (R.rowW a)) : evLoad Try.prog m 37 (.ptr r 0) = some (.agg (R.rowW a)) := by
 unfold evLoad
 simp only [ptrCells, hv, Option.map_some, szRc, agRc]
 rfl
def kpCopied : Nat → Option (List Nat) := fun
 | 0 => some [1, 2]
 | 1 => some [1, 2]
 | 2 => some [1, 2, 13, 14, 15]
 | 3 => some [1, 2, 13, 14, 15, 16]
 | 4 => some [1, 2, 3, 4, 13, 14, 15]
 | 5 => some [1, 2, 3, 5, 13, 14, 15]
 | 6 => some [1, 2, 3, 5, 13, 14, 15, 23, 24, 25]
 | 7 => some [1, 2, 3, 5, 13, 14, 15, 23, 24, 25, 26]
 | 8 => some [1, 2, 3, 5, 6, 7, 13, 14, 15, 23, 24, 25]
 | 9 => some [1, 2, 3, 5, 13, 14, 15, 23, 24, 25]
 | 10 => some [1, 2, 3, 5, 13, 14, 15, 23, 24, 25]
 | 11 => some [1, 2, 13, 14, 15]
 | 12 => some [1, 2, 13, 14, 15]
 | 13 => some [2]
 | _ => none
attribute [go_sem] kpCopied
theorem copied_ok : FunOkF Try.prog 21 copyPre copyPost := by
 have hC := table_ok (P := Try.prog) (l := []) table_nil
 refine fun_okF Try.func21 rfl rfl fun args m h => ?_
 obtain ⟨R, rfl, hsm⟩ := h
 refine ⟨Nat.le_of_ble_eq_true rfl, fun φ w => ?_⟩
 refine en ?_
 obtain ⟨hs1, hs2⟩ := hsm
 repeat (first | refine x_seq ?_ | refine x_block ?_ | refine xn_normal ?_ | refine xi_normal ?_ | refine xn_exit ?_ | refine xi_exit ?_ | refine xi_other (by decide) ?_ | refine xn_ret ?_ | refine xi_ret ?_ | refine x_skip ?_ | refine x_exit ?_ | refine x_ret ?_)
 refine x_region (kp := kpCopied) mixed hC ?_
 refine go0 ?_
 repeat (first | refine x_seq ?_ | refine x_block ?_ | refine xn_normal ?_ | refine xi_normal ?_ | refine xn_exit ?_ | refine xi_exit ?_ | refine xi_other (by decide) ?_ | refine xn_ret ?_ | refine xi_ret ?_ | refine x_skip ?_ | refine x_exit ?_ | refine x_ret ?_)
 have v1 : ((m.push R.row).push zeroRc).var m.vars.length = some R.row := push_old push_var
 have v2 : ((m.push R.row).push zeroRc).var (m.push R.row).vars.length = some zeroRc := push_var
 have hA : Above m ((m.push R.row).push zeroRc) := above_push (above_push (above_self m))
 have hne : (m.push R.row).vars.length ≠ m.vars.length := by rw [show (m.push R.row).vars.length = m.vars.length + 1 by simp [Mem.push]]; omega
 have hge : m.vars.length ≤ (m.push R.row).vars.length := by rw [show (m.push R.row).vars.length = m.vars.length + 1 by simp [Mem.push]]; omega
 generalize (m.push R.row).push zeroRc = m1 at v1 v2 hA
 generalize (m.push R.row).vars.length = q at v2 hne hge
 have l1 := lpRcPhases v1
 refine x_ops (l2 := kpCopied 1) ?_
 refine gox1 hC @l1 ?_
 refine xops_step (xs_callF1 (x := .tmp 9) (av := .lst .no 5 (rowsPh R.phases)) clonePhs_ok rfl rfl (by decide) rfl rfl rfl rfl ⟨_, _, rfl, by rw [rowsPh_len]; exact hs1⟩ fun pa m3 F3 hpost hfr => ?_)
 obtain ⟨rfl, hpa⟩ := arr_of_clone (hpost _ _ rfl)
 obtain ⟨pc1, pc2, pc3⟩ := arr_cell hpa
 have st1 : evStore Try.prog m3 23 (.ptr m.vars.length 7) pa = some (setv m3 m.vars.length (R.rowW pa)) := store_cell v1 (by show 7 < 32; decide) szSl3 pc2 (pc3 _)
 refine gox1 hC @st1 ?_
 have w1 : (setv m3 m.vars.length (R.rowW pa)).var m.vars.length = some (R.rowW pa) := setv_var v1
 have w2 : (setv m3 m.vars.length (R.rowW pa)).var q = some zeroRc := setv_other v2 hne
 have hA2 := above_setv (cs := R.rowW pa) hA (Nat.le_refl _)
 generalize setv m3 m.vars.length (R.rowW pa) = m2 at w1 w2 hA2
 have l2 := lpW w1
 refine xn_normal ?_
 refine x_seq ?_
 refine x_cut (fun e m' F => m' = m2 ∧ F = F3 ++ [] ∧ e = [(1, AV.ptr m.vars.length 0), (2, .ptr q 0), (13, pa), (14, .v (.int .i64 (R.phases.length : Int))), (15, .v (.int .i64 0))]) ?_ ?_
 ·refine x_ops (l2 := kpCopied 2) ?_
  refine gox1 hC @l2 ?_
  rcases hpa with ⟨he, rfl⟩ | ⟨h0, b, c, vs, g1, rfl, g3⟩
  ·have he' : R.phases.length = 0 := by rw [← rowsPh_len, he]; rfl
   refine gox0 hC ?_
   exact ⟨rfl, rfl, by rw [he']; first | done | rfl⟩
  ·refine xops_step (xs_lenRaw rfl rfl rfl rfl rfl elPhs rfl rfl ?_)
   refine gox0 hC ?_
   exact ⟨rfl, rfl, by rw [← rowsPh_len]; first | done | rfl⟩
 ·rintro e m' F ⟨h1, h2, h3⟩
  rw [h1, h2, h3]
  repeat (first | refine x_seq ?_ | refine x_block ?_ | refine xn_normal ?_ | refine xi_normal ?_ | refine xn_exit ?_ | refine xi_exit ?_ | refine xi_other (by decide) ?_ | refine xn_ret ?_ | refine xi_ret ?_ | refine x_skip ?_ | refine x_exit ?_ | refine x_ret ?_)
  have hc0 : Copying (F3 ++ []) R.phases (V1 R.phases 0) (L1 R.phases 0) (upd (cell0 R.phases) .top pa) (cell0 R.phases) := by
   refine ⟨⟨fun x hx => ?_, fun x y b hx hy _ _ => ?_⟩, fun x hx => ?_, fun x _ => rfl⟩
   ·cases x with
    | top => rw [upd_self, rowsC_top0 fun i => rfl]; exact arr_mono hpa fun p hp => List.mem_append_left _ hp
    | ph a => exact absurd hx (Nat.not_lt_zero a)
    | st a b => exact absurd hx.1 (Nat.not_lt_zero a)
   ·cases x with
    | top =>
     cases y with
     | top => rfl
     | ph a => exact absurd hy (Nat.not_lt_zero a)
     | st a b => exact absurd hy.1 (Nat.not_lt_zero a)
    | ph a => exact absurd hx (Nat.not_lt_zero a)
    | st a b => exact absurd hx.1 (Nat.not_lt_zero a)
   ·cases x with
    | top => exact hx.elim
    | ph a => exact absurd hx (Nat.not_lt_zero a)
    | st a b => exact absurd hx.1 (Nat.not_lt_zero a)
  refine x_loop (fun k e m' F => ∃ (i : Nat) (A C : Ix → AV), i ≤ R.phases.length ∧ Copying F R.phases (V1 R.phases i) (L1 R.phases i) A C ∧ A .top = pa ∧ Above m m' ∧ m'.var m.vars.length = some (R.rowW pa) ∧ m'.var q = some zeroRc ∧ k = R.phases.length - i ∧
   e = [(1, AV.ptr m.vars.length 0), (2, .ptr q 0), (13, pa), (14, .v (.int .i64 (R.phases.length : Int))), (15, .v (.int .i64 (i : Int)))]) (k := R.phases.length) ⟨0, _, _, Nat.zero_le _, hc0, upd_self .., hA2, w1, w2, rfl, rfl⟩ ?_
  clear hc0 hpa h1 h2 h3 w1 w2 hA2 l1 l2 st1 v1 v2 hA hpost
  rintro k e m' F ⟨i, A, C, hi0, hcop, hAt, hA, w1, w2, rfl, rfl⟩
  repeat (first | refine x_seq ?_ | refine x_block ?_ | refine xn_normal ?_ | refine xi_normal ?_ | refine xn_exit ?_ | refine xi_exit ?_ | refine xi_other (by decide) ?_ | refine xn_ret ?_ | refine xi_ret ?_ | refine x_skip ?_ | refine x_exit ?_ | refine x_ret ?_)
  refine x_region (kp := kpCopied) mixed hC ?_
  refine go0 ?_
  repeat (first | refine x_seq ?_ | refine x_block ?_ | refine xn_normal ?_ | refine xi_normal ?_ | refine xn_exit ?_ | refine xi_exit ?_ | refine xi_other (by decide) ?_ | refine xn_ret ?_ | refine xi_ret ?_ | refine x_skip ?_ | refine x_exit ?_ | refine x_ret ?_)
  refine x_cond rfl (fun hc => ?_) (fun hc => ?_)
  ·have hi1 : i < R.phases.length := by have := of_decide_eq_true hc; omega
   obtain ⟨b, c, vs, g1, g2, g3, _⟩ := hcop.owns.put (x := .top) (show V1 R.phases i .top from trivial) (by rw [rowsC_top]; omega)
   rw [rowsC_top] at g1 g2
   have hp0 : pa = .v (rawSl b 0 R.phases.length c) := hAt.symm.trans g2
   subst hp0
   have hCi : C (.ph i) = cell0 R.phases (.ph i) := hcop.off _ (Nat.lt_irrefl i)
   have row1 : (rowsC C R.phases .top).getD i [] = (R.phases.getD i ph0).row := by rw [rowsC_top_at hi1, hCi]; rfl
   have ld1 : evPart Try.prog 66 ((rowsC C R.phases .top).flatten ++ vs.map AV.v) (0 + i * 5) = some (.agg (R.phases.getD i ph0).row) := by
    rw [Nat.zero_add, ← row1]
    exact part_row aggPh szPh5 _ (rowsC_row C _ .top) (by rw [rowsC_top]; exact hi1)
   repeat (first | refine x_seq ?_ | refine x_block ?_ | refine xn_normal ?_ | refine xi_normal ?_ | refine xn_exit ?_ | refine xi_exit ?_ | refine xi_other (by decide) ?_ | refine xn_ret ?_ | refine xi_ret ?_ | refine x_skip ?_ | refine x_exit ?_ | refine x_ret ?_)
   refine x_ops (l2 := kpCopied 4) ?_
   refine gox0 hC ?_
   refine xops_step (xs_indexRaw (t1 := 0) (t2 := 0) rfl rfl elPhs szPh5 rfl rfl hi1 rfl ?_)
   refine xops_step (xs_loadRaw (t1 := 0) rfl rfl g3 rfl ld1 rfl ?_)
   refine gox0 hC ?_
   have x1 : (m'.push (R.phases.getD i ph0).row).var m'.vars.length = some (R.phases.getD i ph0).row := push_var
   have w1 := push_old (cs' := (R.phases.getD i ph0).row) w1
   have w2 := push_old (cs' := (R.phases.getD i ph0).row) w2
   have hA := above_push (cs := (R.phases.getD i ph0).row) hA
   generalize m'.push (R.phases.getD i ph0).row = m4 at x1 w1 w2 hA
   generalize m'.vars.length = rp at x1
   have l3 : evLoad Try.prog m4 64 (.ptr rp 4) = some (.lst .no 3 (rowsGs (setsOf R.phases i))) := lpPhSets x1
   have hsl : (setsOf R.phases i).length ≤ 1000000 := (hs2 _ (getD_in (d := ph0) hi1)).1
   repeat (first | refine x_seq ?_ | refine x_block ?_ | refine xn_normal ?_ | refine xi_normal ?_ | refine xn_exit ?_ | refine xi_exit ?_ | refine xi_other (by decide) ?_ | refine xn_ret ?_ | refine xi_ret ?_ | refine x_skip ?_ | refine x_exit ?_ | refine x_ret ?_)
   refine x_ops (l2 := kpCopied 5) ?_
   refine gox1 hC @l3 ?_
   refine xops_step (xs_callF1 (x := .tmp 21) (av := .lst .no 3 (rowsGs (setsOf R.phases i))) cloneGss_ok rfl rfl (by decide) rfl rfl rfl rfl ⟨_, _, rfl, by rw [rowsGs_len]; exact hsl⟩ fun sa m5 F5 hpost hfr5 => ?_)
   obtain ⟨rfl, hsa⟩ := arr_of_clone (hpost _ _ rfl)
   clear hpost l3 ld1
   have hcop2 : Copying (F5 ++ F) R.phases (V2 R.phases i 0) (L2 R.phases i 0) (upd A (.ph i) sa) C := by
    refine (hcop.alloc (x := .ph i) (V2 := V2 R.phases i 0) (by rw [rowsC_ph0 fun j => hcop.off _ fun h => Nat.lt_irrefl i h.1]; exact hsa) hfr5 (Nat.lt_irrefl i) (Nat.lt_irrefl i) fun y hy => ?_).relabel (fun _ h => h) fun x => ?_
    ·cases y with
     | top => exact .inr trivial
     | ph a =>
      by_cases e : a = i
      ·rw [e]; exact .inl rfl
      ·have : a ≤ i := hy
       exact .inr (show a < i by omega)
     | st a b =>
      rcases hy with hy | ⟨_, hb⟩
      ·exact .inr hy
      ·omega
    ·cases x with
     | top => exact Iff.rfl
     | ph a => exact Iff.rfl
     | st a b => exact ⟨fun h => h.resolve_right fun h => Nat.not_lt_zero _ h.2, .inl⟩
   have hAt2 : upd A (.ph i) sa .top = .v (rawSl b 0 R.phases.length c) := (upd_ne (by intro e; cases e)).trans hAt
   have hAi : upd A (.ph i) sa (.ph i) = sa := upd_self ..
   generalize upd A (.ph i) sa = A2 at hcop2 hAt2 hAi
   generalize F5 ++ F = F6 at hcop2
   refine gox0 hC ?_
   refine xn_normal ?_
   refine x_seq ?_
   refine x_cut (fun e m' F => m' = m5 ∧ F = F6 ∧ e = [(1, AV.ptr m.vars.length 0), (2, .ptr q 0), (3, .v (.int .i64 (i : Int))), (5, sa), (13, .v (rawSl b 0 R.phases.length c)), (14, .v (.int .i64 (R.phases.length : Int))), (15, .v (.int .i64 (i : Int))), (23, sa), (24, .v (.int .i64 ((setsOf R.phases i).length : Int))), (25, .v (.int .i64 0))]) ?_ ?_
   ·refine x_ops (l2 := kpCopied 6) ?_
    refine gox0 hC ?_
    rcases hsa with ⟨he, rfl⟩ | ⟨h0, b, c, vs, g1, rfl, g3⟩
    ·have he' : (setsOf R.phases i).length = 0 := by rw [← rowsGs_len, he]; rfl
     refine gox0 hC ?_
     exact ⟨rfl, rfl, by rw [he']; first | done | rfl⟩
    ·refine xops_step (xs_lenRaw rfl rfl rfl rfl rfl elGss rfl rfl ?_)
     refine gox0 hC ?_
     exact ⟨rfl, rfl, by rw [← rowsGs_len]; first | done | rfl⟩
   rintro e m' F7 ⟨h1, h2, h3⟩
   rw [h1, h2, h3]
   repeat (first | refine x_seq ?_ | refine x_block ?_ | refine xn_normal ?_ | refine xi_normal ?_ | refine xn_exit ?_ | refine xi_exit ?_ | refine xi_other (by decide) ?_ | refine xn_ret ?_ | refine xi_ret ?_ | refine x_skip ?_ | refine x_exit ?_ | refine x_ret ?_)
   refine x_loop (fun k e m' F => ∃ (j : Nat) (A C : Ix → AV), j ≤ (setsOf R.phases i).length ∧ Copying F R.phases (V2 R.phases i j) (L2 R.phases i j) A C ∧ A .top = .v (rawSl b 0 R.phases.length c) ∧ A (.ph i) = sa ∧ Above m m' ∧ m'.var m.vars.length = some (R.rowW (.v (rawSl b 0 R.phases.length c))) ∧ m'.var q = some zeroRc ∧ k = (setsOf R.phases i).length - j ∧
    e = [(1, AV.ptr m.vars.length 0), (2, .ptr q 0), (3, .v (.int .i64 (i : Int))), (5, sa), (13, .v (rawSl b 0 R.phases.length c)), (14, .v (.int .i64 (R.phases.length : Int))), (15, .v (.int .i64 (i : Int))), (23, sa), (24, .v (.int .i64 ((setsOf R.phases i).length : Int))), (25, .v (.int .i64 (j : Int)))]) (k := (setsOf R.phases i).length) ⟨0, _, _, Nat.zero_le _, hcop2, hAt2, hAi, hA, w1, w2, rfl, rfl⟩ ?_
   clear hcop2 hAt2 hAi hA w1 w2 hcop hAt h1 h2 h3 hsa x1 hCi row1 g1 g2 g3
   rintro k e m' F ⟨j, A, C, hj0, hcop, hAt, hAi, hA, w1, w2, rfl, rfl⟩
   repeat (first | refine x_seq ?_ | refine x_block ?_ | refine xn_normal ?_ | refine xi_normal ?_ | refine xn_exit ?_ | refine xi_exit ?_ | refine xi_other (by decide) ?_ | refine xn_ret ?_ | refine xi_ret ?_ | refine x_skip ?_ | refine x_exit ?_ | refine x_ret ?_)
   refine x_region (kp := kpCopied) mixed hC ?_
   refine go0 ?_
   repeat (first | refine x_seq ?_ | refine x_block ?_ | refine xn_normal ?_ | refine xi_normal ?_ | refine xn_exit ?_ | refine xi_exit ?_ | refine xi_other (by decide) ?_ | refine xn_ret ?_ | refine xi_ret ?_ | refine x_skip ?_ | refine x_exit ?_ | refine x_ret ?_)
   refine x_cond rfl (fun hc => ?_) (fun hc => ?_)
   ·have hj1 : j < (setsOf R.phases i).length := by have := of_decide_eq_true hc; omega
    obtain ⟨b2, c2, vs2, g1, g2, g3, _⟩ := hcop.owns.put (x := .ph i) (show V2 R.phases i j (.ph i) from Nat.le_refl i) (by rw [rowsC_ph]; omega)
    rw [rowsC_ph] at g1 g2
    have hp0 : sa = .v (rawSl b2 0 (setsOf R.phases i).length c2) := hAi.symm.trans g2
    subst hp0
    have hCj : C (.st i j) = cell0 R.phases (.st i j) := hcop.off _ (by rintro (h | h) <;> omega)
    have row2 : (rowsC C R.phases (.ph i)).getD j [] = ((setsOf R.phases i).getD j gs0).row := by rw [rowsC_ph_at hj1, hCj]; rfl
    have ld2 : evPart Try.prog 69 ((rowsC C R.phases (.ph i)).flatten ++ vs2.map AV.v) (0 + j * 3) = some (.agg ((setsOf R.phases i).getD j gs0).row) := by
     rw [Nat.zero_add, ← row2]
     exact part_row aggGs szGs3 _ (rowsC_row C _ (.ph i)) (by rw [rowsC_ph]; exact hj1)
    repeat (first | refine x_seq ?_ | refine x_block ?_ | refine xn_normal ?_ | refine xi_normal ?_ | refine xn_exit ?_ | refine xi_exit ?_ | refine xi_other (by decide) ?_ | refine xn_ret ?_ | refine xi_ret ?_ | refine x_skip ?_ | refine x_exit ?_ | refine x_ret ?_)
    refine x_ops (l2 := kpCopied 8) ?_
    refine gox0 hC ?_
    refine xops_step (xs_indexRaw (t1 := 0) (t2 := 0) rfl rfl elGss szGs3 rfl rfl hj1 rfl ?_)
    refine xops_step (xs_loadRaw (t1 := 0) rfl rfl g3 rfl ld2 rfl ?_)
    refine gox0 hC ?_
    have x1 : (m'.push ((setsOf R.phases i).getD j gs0).row).var m'.vars.length = some ((setsOf R.phases i).getD j gs0).row := push_var
    have w1 := push_old (cs' := ((setsOf R.phases i).getD j gs0).row) w1
    have w2 := push_old (cs' := ((setsOf R.phases i).getD j gs0).row) w2
    have hA := above_push (cs := ((setsOf R.phases i).getD j gs0).row) hA
    generalize m'.push ((setsOf R.phases i).getD j gs0).row = m6 at x1 w1 w2 hA
    generalize m'.vars.length = rg at x1
    have l4 : evLoad Try.prog m6 67 (.ptr rg 2) = some (.lst .no 7 (rowsN (nodesOf R.phases i j))) := lpGsNodes x1
    have hnl : (nodesOf R.phases i j).length ≤ 1000000 := (hs2 _ (getD_in (d := ph0) hi1)).2 _ (getD_in (d := gs0) hj1)
    repeat (first | refine x_seq ?_ | refine x_block ?_ | refine xn_normal ?_ | refine xi_normal ?_ | refine xn_exit ?_ | refine xi_exit ?_ | refine xi_other (by decide) ?_ | refine xn_ret ?_ | refine xi_ret ?_ | refine x_skip ?_ | refine x_exit ?_ | refine x_ret ?_)
    refine x_ops (l2 := kpCopied 9) ?_
    refine gox1 hC @l4 ?_
    refine xops_step (xs_callF1 (x := .tmp 33) (av := .lst .no 7 (rowsN (nodesOf R.phases i j))) cloneNds_ok rfl rfl (by decide) rfl rfl rfl rfl ⟨_, _, rfl, by rw [rowsN_len]; exact hnl⟩ fun na m7 F7 hpost hfr7 => ?_)
    obtain ⟨rfl, hna⟩ := arr_of_clone (hpost _ _ rfl)
    obtain ⟨nc1, nc2, nc3⟩ := arr_cell hna
    clear hpost l4 ld2
    have hnL : ¬ L2 R.phases i j (.st i j) := by rintro (h | h) <;> omega
    have hnV : ¬ V2 R.phases i j (.st i j) := by rintro (h | h) <;> omega
    have hcop3 : Copying (F7 ++ F) R.phases (V2 R.phases i (j + 1)) (L2 R.phases i j) (upd A (.st i j) na) C := by
     refine hcop.alloc (x := .st i j) hna hfr7 hnV hnL fun y hy => ?_
     cases y with
     | top => exact .inr trivial
     | ph a => exact .inr hy
     | st a n =>
      rcases hy with hy | ⟨rfl, hn⟩
      ·exact .inr (.inl hy)
      ·by_cases e : n = j
       ·rw [e]; exact .inl rfl
       ·exact .inr (.inr ⟨rfl, by omega⟩)
    have hAt3 : upd A (.st i j) na .top = .v (rawSl b 0 R.phases.length c) := (upd_ne (by intro e; cases e)).trans hAt
    have hAi3 : upd A (.st i j) na (.ph i) = .v (rawSl b2 0 (setsOf R.phases i).length c2) := (upd_ne (by intro e; cases e)).trans hAi
    have hAj3 : upd A (.st i j) na (.st i j) = na := upd_self ..
    generalize upd A (.st i j) na = A3 at hcop3 hAt3 hAi3 hAj3
    generalize F7 ++ F = F8 at hcop3
    obtain ⟨b3, c3, vs3, k1, k2, k3, hput⟩ := hcop3.owns.put (x := .ph i) (show V2 R.phases i (j + 1) (.ph i) from Nat.le_refl i) (by rw [rowsC_ph]; omega)
    rw [rowsC_ph] at k1 k2
    have hbb : AV.v (rawSl b2 0 (setsOf R.phases i).length c2) = .v (rawSl b3 0 (setsOf R.phases i).length c3) := hAi3.symm.trans k2
    obtain rfl : b2 = b3 := by injection hbb with h; injection h with h; injection h with h; injection h
    have hfit : 0 + j * 3 + 2 + 1 ≤ ((rowsC C R.phases (.ph i)).flatten ++ vs3.map AV.v).length := by
     rw [List.length_append, flat_len _ (rowsC_row C _ (.ph i)), rowsC_ph]
     show _ ≤ _ * 3 + _
     omega
    refine gox0 hC ?_
    refine xops_step (xs_indexRaw (t1 := 0) (t2 := 0) rfl rfl elGss szGs3 rfl rfl hj1 rfl ?_)
    refine xops_step (xs_fieldRaw (t1 := 0) rfl rfl fdNodes szSl2 rfl rfl ?_)
    refine xops_step (xs_storeRaw (t1 := 0) (t2 := 0) (row := [na]) rfl rfl rfl k3 rfl rfl nc1 szSl2 rfl hfit ?_)
    have hset : splice ((rowsC C R.phases (.ph i)).flatten ++ vs3.map AV.v) (0 + j * 3 + 2) [na] = (rowsC (upd C (.st i j) (A3 (.st i j))) R.phases (.ph i)).flatten ++ vs3.map AV.v := by
     rw [Nat.zero_add, splice_rows (k := 3) _ [na] 2 (by show 2 + 1 ≤ 3; decide) _ j (rowsC_row C _ (.ph i)) (by rw [rowsC_ph]; exact hj1), row2, hAj3]
     rw [show splice ((setsOf R.phases i).getD j gs0).row 2 [na] = ((setsOf R.phases i).getD j gs0).rowW na from rfl, rowsC_link_st hj1]
    rw [hset]
    have hcop4 : Copying (setObjs F8 b2 (.arr ((rowsC (upd C (.st i j) (A3 (.st i j))) R.phases (.ph i)).flatten ++ vs3.map AV.v))) R.phases (V2 R.phases i (j + 1)) (L2 R.phases i (j + 1)) A3 (upd C (.st i j) (A3 (.st i j))) := by
     refine hcop3.link (hput (rowsC (upd C (.st i j) (A3 (.st i j))) R.phases) (fun y _ hy => rowsC_upd_st hy) (by rw [rowsC_ph, rowsC_ph])) (fun y hy => ?_) fun y hy => ?_
     ·cases y with
      | top => exact .inr hy
      | ph a => exact .inr hy
      | st a n =>
       rcases hy with hy | ⟨rfl, hn⟩
       ·exact .inr (.inl hy)
       ·by_cases e : n = j
        ·rw [e]; exact .inl rfl
        ·exact .inr (.inr ⟨rfl, by omega⟩)
     ·refine ⟨fun e => ?_, fun h => hy ?_⟩
      ·subst e
       exact hy (.inr ⟨rfl, Nat.lt_succ_self j⟩)
      ·cases y with
       | top => exact h
       | ph a => exact h
       | st a n =>
        rcases h with h | ⟨rfl, hn⟩
        ·exact .inl h
        ·exact .inr ⟨rfl, by omega⟩
    have r6 := next_i64 (i := j) (by omega)
    refine gox0 hC ?_
    repeat (first | refine x_seq ?_ | refine x_block ?_ | refine xn_normal ?_ | refine xi_normal ?_ | refine xn_exit ?_ | refine xi_exit ?_ | refine xi_other (by decide) ?_ | refine xn_ret ?_ | refine xi_ret ?_ | refine x_skip ?_ | refine x_exit ?_ | refine x_ret ?_)
    refine x_region (kp := kpCopied) mixed hC ?_
    refine go1 @r6 ?_
    repeat (first | refine x_seq ?_ | refine x_block ?_ | refine xn_normal ?_ | refine xi_normal ?_ | refine xn_exit ?_ | refine xi_exit ?_ | refine xi_other (by decide) ?_ | refine xn_ret ?_ | refine xi_ret ?_ | refine x_skip ?_ | refine x_exit ?_ | refine x_ret ?_)
    exact ⟨(setsOf R.phases i).length - (j + 1), by omega, j + 1, _, _, hj1, hcop4, hAt3, hAi3, hA, w1, w2, rfl, rfl⟩
   ·obtain rfl : j = (setsOf R.phases i).length := by have := of_decide_eq_false hc; omega
    obtain ⟨b3, c3, vs3, k1, k2, k3, hput⟩ := hcop.owns.put (x := .top) (show V2 R.phases i _ .top from trivial) (by rw [rowsC_top]; omega)
    rw [rowsC_top] at k1 k2
    have hbb : AV.v (rawSl b 0 R.phases.length c) = .v (rawSl b3 0 R.phases.length c3) := hAt.symm.trans k2
    obtain rfl : b = b3 := by injection hbb with h; injection h with h; injection h with h; injection h
    have hCi : C (.ph i) = cell0 R.phases (.ph i) := hcop.off _ (Nat.lt_irrefl i)
    have row1 : (rowsC C R.phases .top).getD i [] = (R.phases.getD i ph0).row := by rw [rowsC_top_at hi1, hCi]; rfl
    have hsa := hcop.owns.arr (.ph i) (Nat.le_refl i)
    rw [hAi] at hsa
    obtain ⟨sc1, sc2, sc3⟩ := arr_cell hsa
    have hfit : 0 + i * 5 + 4 + 1 ≤ ((rowsC C R.phases .top).flatten ++ vs3.map AV.v).length := by
     rw [List.length_append, flat_len _ (rowsC_row C _ .top), rowsC_top]
     show _ ≤ _ * 5 + _
     omega
    have hset : splice ((rowsC C R.phases .top).flatten ++ vs3.map AV.v) (0 + i * 5 + 4) [sa] = (rowsC (upd C (.ph i) (A (.ph i))) R.phases .top).flatten ++ vs3.map AV.v := by
     rw [Nat.zero_add, splice_rows (k := 5) _ [sa] 4 (by show 4 + 1 ≤ 5; decide) _ i (rowsC_row C _ .top) (by rw [rowsC_top]; exact hi1), row1, hAi]
     rw [show splice (R.phases.getD i ph0).row 4 [sa] = (R.phases.getD i ph0).rowW sa from rfl, rowsC_link_ph hi1]
    have hcop4 : Copying (setObjs F b (.arr ((rowsC (upd C (.ph i) (A (.ph i))) R.phases .top).flatten ++ vs3.map AV.v))) R.phases (V1 R.phases (i + 1)) (L1 R.phases (i + 1)) A (upd C (.ph i) (A (.ph i))) := by
     refine (hcop.link (L2 := L1 R.phases (i + 1)) (hput (rowsC (upd C (.ph i) (A (.ph i))) R.phases) (fun y _ hy => rowsC_upd_ph hy) (by rw [rowsC_top, rowsC_top])) (fun y hy => ?_) fun y hy => ?_).relabel (fun y hy => ?_) fun _ => Iff.rfl
     ·cases y with
      | top => exact .inr hy
      | ph a =>
       by_cases e : a = i
       ·rw [e]; exact .inl rfl
       ·have : a < i + 1 := hy
        exact .inr (show a < i by omega)
      | st a n =>
       by_cases e : a = i
       ·exact .inr (.inr ⟨e, by rw [← e]; exact hy.2⟩)
       ·exact .inr (.inl ⟨by have := hy.1; omega, hy.2⟩)
     ·refine ⟨fun e => ?_, fun h => hy ?_⟩
      ·subst e
       exact hy (Nat.lt_succ_self i)
      ·cases y with
       | top => exact h
       | ph a => exact Nat.lt_succ_of_lt h
       | st a n =>
        rcases h with h | ⟨rfl, hn⟩
        ·exact ⟨Nat.lt_succ_of_lt h.1, h.2⟩
        ·exact ⟨Nat.lt_succ_self _, hn⟩
     ·cases y with
      | top => trivial
      | ph a => exact Nat.le_of_lt_succ hy
      | st a n =>
       by_cases e : a = i
       ·exact .inr ⟨e, by rw [← e]; exact hy.2⟩
       ·exact .inl ⟨by have := hy.1; omega, hy.2⟩
    have lw := lpW w1
    have r6 := next_i64 (i := i) (by omega)
    repeat (first | refine x_seq ?_ | refine x_block ?_ | refine xn_normal ?_ | refine xi_normal ?_ | refine xn_exit ?_ | refine xi_exit ?_ | refine xi_other (by decide) ?_ | refine xn_ret ?_ | refine xi_ret ?_ | refine x_skip ?_ | refine x_exit ?_ | refine x_ret ?_)
    refine x_ops (l2 := kpCopied 11) ?_
    refine gox1 hC @lw ?_
    refine xops_step (xs_indexRaw (t1 := 0) (t2 := 0) rfl rfl elPhs szPh5 rfl rfl hi1 rfl ?_)
    refine xops_step (xs_fieldRaw (t1 := 0) rfl rfl fdSets szSl1 rfl rfl ?_)
    refine xops_step (xs_storeRaw (t1 := 0) (t2 := 0) (row := [sa]) rfl rfl rfl k3 rfl rfl sc1 szSl1 rfl hfit ?_)
    rw [hset]
    refine gox0 hC ?_
    repeat (first | refine x_seq ?_ | refine x_block ?_ | refine xn_normal ?_ | refine xi_normal ?_ | refine xn_exit ?_ | refine xi_exit ?_ | refine xi_other (by decide) ?_ | refine xn_ret ?_ | refine xi_ret ?_ | refine x_skip ?_ | refine x_exit ?_ | refine x_ret ?_)
    refine x_region (kp := kpCopied) mixed hC ?_
    refine go1 @r6 ?_
    repeat (first | refine x_seq ?_ | refine x_block ?_ | refine xn_normal ?_ | refine xi_normal ?_ | refine xn_exit ?_ | refine xi_exit ?_ | refine xi_other (by decide) ?_ | refine xn_ret ?_ | refine xi_ret ?_ | refine x_skip ?_ | refine x_exit ?_ | refine x_ret ?_)
    exact ⟨R.phases.length - (i + 1), by omega, i + 1, _, _, hi1, hcop4, hAt, hA, w1, w2, rfl, rfl⟩
  ·obtain rfl : i = R.phases.length := by have := of_decide_eq_false hc; omega
   have hpa := hcop.owns.arr .top (show V1 R.phases _ .top from trivial)
   rw [hAt] at hpa
   have lw := vrW w1
   have hcw : cellsOf (.agg (R.rowW pa)) = some (R.rowW pa) := by rcases hpa with ⟨_, rfl⟩ | ⟨_, b, c, vs, _, rfl, _⟩ <;> rfl
   have hrw : (R.rowW pa).all (refLe q) = true := by rcases hpa with ⟨_, rfl⟩ | ⟨_, b, c, vs, _, rfl, _⟩ <;> rfl
   have hres : ∀ mm, resAV m.vars.length mm (.agg (R.rowW pa)) = some (.agg (R.rowW pa)) := fun mm => by rcases hpa with ⟨_, rfl⟩ | ⟨_, b, c, vs, _, rfl, _⟩ <;> rfl
   have st2 : evStore Try.prog m' 37 (.ptr q 0) (.agg (R.rowW pa)) = some (setv m' q (R.rowW pa)) := store_whole w2 rfl rfl szRc hcw hrw
   have y1 : (setv m' q (R.rowW pa)).var q = some (R.rowW pa) := setv_var w2
   have hA9 := above_setv (cs := R.rowW pa) hA hge
   repeat (first | refine x_seq ?_ | refine x_block ?_ | refine xn_normal ?_ | refine xi_normal ?_ | refine xn_exit ?_ | refine xi_exit ?_ | refine xi_other (by decide) ?_ | refine xn_ret ?_ | refine xi_ret ?_ | refine x_skip ?_ | refine x_exit ?_ | refine x_ret ?_)
   refine x_region (kp := kpCopied) mixed hC ?_
   refine go1 (jn @lw @st2) ?_
   repeat (first | refine x_seq ?_ | refine x_block ?_ | refine xn_normal ?_ | refine xi_normal ?_ | refine xn_exit ?_ | refine xi_exit ?_ | refine xi_other (by decide) ?_ | refine xn_ret ?_ | refine xi_ret ?_ | refine x_skip ?_ | refine x_exit ?_ | refine x_ret ?_)
   refine ⟨_, _, leaves_cell1 rfl (vrW y1) (hres _) (above_fin hA9), fun R2 e => ?_⟩
   obtain rfl : R = R2 := by
    injection e with e
    injection e with e
    have := congrArg unRc e
    rw [unRc_row, unRc_row] at this
    injection this
   refine ⟨rfl, A, by rw [hAt], hcop.owns.same (fun y hy => ?_) (fun _ _ => rfl) fun y hy => (rowsC_congr (fun x hx hne => ?_) y hy).symm⟩
   ·cases y with
    | top => trivial
    | ph a => exact hy
    | st a n => exact hy
   ·refine hcop.on x ?_
    cases x with
    | top => exact absurd rfl hne
    | ph a => exact hx
    | st a n => exact hx
end
noncomputable section
attribute [local irreducible] Next Inside Runs Ops table
deriving instance DecidableEq for Pl
def setS (σ : Pl → Option Int) (i j k : Nat) (x : Nd) : Nd := { x with a := (σ ⟨i, j, k, 0⟩).getD x.a, b := (σ ⟨i, j, k, 1⟩).getD x.b, c := (σ ⟨i, j, k, 2⟩).getD x.c }
def nodesS (σ : Pl → Option Int) (i j : Nat) (L : List Nd) : List Nd := L.mapIdx fun k x => setS σ i j k x
def gsS (σ : Pl → Option Int) (i j : Nat) (g : Gs) : Gs := { g with nodes := nodesS σ i j g.nodes }
def phS (σ : Pl → Option Int) (i : Nat) (p : Ph) : Ph := { p with sets := p.sets.mapIdx fun j g => gsS σ i j g }
def docS (σ : Pl → Option Int) (l : List Ph) : List Ph := l.mapIdx fun i p => phS σ i p
def updS (σ : Pl → Option Int) (p : Pl) (v : Int) : Pl → Option Int := fun q => if q = p then some v else σ q
theorem nodesS_len (σ : Pl → Option Int) (i j : Nat) (L : List Nd) : (nodesS σ i j L).length = L.length := List.length_mapIdx
theorem docS_len (σ : Pl → Option Int) (l : List Ph) : (docS σ l).length = l.length := List.length_mapIdx
theorem setsOf_docS (σ : Pl → Option Int) (l : List Ph) (i : Nat) : setsOf (docS σ l) i = (setsOf l i).mapIdx fun j g => gsS σ i j g := by
 unfold setsOf docS
 by_cases hi : i < l.length
 ·simp only [List.getD, List.getElem?_mapIdx, List.getElem?_eq_getElem hi, Option.map_some, Option.getD_some]
  rfl
 ·simp only [List.getD, List.getElem?_mapIdx, List.getElem?_eq_none (Nat.le_of_not_lt hi), Option.map_none, Option.getD_none]
  rfl
theorem nodesOf_docS (σ : Pl → Option Int) (l : List Ph) (i j : Nat) : nodesOf (docS σ l) i j = nodesS σ i j (nodesOf l i j) := by
 unfold nodesOf
 rw [setsOf_docS]
 by_cases hj : j < (setsOf l i).length
 ·simp only [List.getD, List.getElem?_mapIdx, List.getElem?_eq_getElem hj, Option.map_some, Option.getD_some]
  rfl
 ·simp only [List.getD, List.getElem?_mapIdx, List.getElem?_eq_none (Nat.le_of_not_lt hj), Option.map_none, Option.getD_none]
  rfl
theorem valid_docS (σ : Pl → Option Int) (l : List Ph) (y : Ix) : valid (docS σ l) y ↔ valid l y := by
 cases y with
 | top => exact Iff.rfl
 | ph i => show i < _ ↔ i < _; rw [docS_len]
 | st i j => show (i < _ ∧ j < _) ↔ (i < _ ∧ j < _); rw [docS_len, setsOf_docS, List.length_mapIdx]
theorem setS_hit {σ : Pl → Option Int} {i j k : Nat} {p : Pl} {v : Int} (x : Nd) (h1 : p.phase = i) (h2 : p.set = j) (h3 : p.node = k) (h4 : 0 ≤ p.field ∧ p.field ≤ 2) : setS (updS σ p v) i j k x = setF (setS σ i j k x) p.field v := by
 obtain ⟨a, b, c, f⟩ := p
 simp only at h1 h2 h3 h4
 subst h1 h2 h3
 have h : f = 0 ∨ f = 1 ∨ f = 2 := by omega
 rcases h with rfl | rfl | rfl <;> simp [setS, updS, setF]
theorem setS_miss {σ : Pl → Option Int} {i j k : Nat} {p : Pl} {v : Int} (x : Nd) (h : ¬ (p.phase = i ∧ p.set = j ∧ p.node = k)) : setS (updS σ p v) i j k x = setS σ i j k x := by
 have hq : ∀ f : Int, (⟨i, j, k, f⟩ : Pl) ≠ p := fun f e => h (by subst e; exact ⟨rfl, rfl, rfl⟩)
 simp only [setS, updS, if_neg (hq _)]
theorem nodesS_hit {σ : Pl → Option Int} {i j k : Nat} {p : Pl} {v : Int} {L : List Nd} (h1 : p.phase = i) (h2 : p.set = j) (h3 : p.node = k) (h4 : 0 ≤ p.field ∧ p.field ≤ 2) (hk : k < L.length) :
  nodesS (updS σ p v) i j L = (nodesS σ i j L).set k (setF ((nodesS σ i j L).getD k nd0) p.field v) := by
 refine List.ext_getElem? fun n => ?_
 by_cases hn : n = k
 ·subst hn
  rw [List.getElem?_set_self (by rw [nodesS_len]; exact hk)]
  simp only [nodesS, List.getD, List.getElem?_mapIdx, List.getElem?_eq_getElem hk, Option.map_some, Option.getD_some]
  rw [setS_hit _ h1 h2 h3 h4]
 ·rw [List.getElem?_set_ne (Ne.symm hn)]
  simp only [nodesS, List.getElem?_mapIdx]
  congr 1
  funext x
  exact setS_miss x fun h => hn (by have := h.2.2; omega)
theorem nodesS_miss {σ : Pl → Option Int} {i j : Nat} {p : Pl} {v : Int} {L : List Nd} (h : ¬ (p.phase = i ∧ p.set = j)) : nodesS (updS σ p v) i j L = nodesS σ i j L := by
 unfold nodesS
 congr 1
 funext k x
 exact setS_miss x fun e => h ⟨e.1, e.2.1⟩
theorem nodesS_none (i j : Nat) (L : List Nd) : nodesS (fun _ => none) i j L = L := by
 refine List.ext_getElem? fun n => ?_
 simp only [nodesS, List.getElem?_mapIdx]
 cases L[n]? <;> rfl
theorem docS_none (l : List Ph) : docS (fun _ => none) l = l := by
 refine List.ext_getElem? fun n => ?_
 simp only [docS, List.getElem?_mapIdx]
 cases l[n]? with
 | none => rfl
 | some p =>
  have : p.sets.mapIdx (fun j g => gsS (fun _ => none) n j g) = p.sets := by
   refine List.ext_getElem? fun k => ?_
   rw [List.getElem?_mapIdx]
   cases p.sets[k]? with
   | none => rfl
   | some g => simp only [Option.map_some, gsS, nodesS_none]
  simp only [Option.map_some, phS, this]
/-- The rows of a copy with numbers put. -/
def rowsU (A : Ix → AV) (σ : Pl → Option Int) (l : List Ph) : Ix → List (List AV)
 | .st i j => rowsN (nodesS σ i j (nodesOf l i j))
 | y => rowsC A l y
theorem rowsU_none (A : Ix → AV) (l : List Ph) : ∀ y, rowsU A (fun _ => none) l y = rowsC A l y
 | .top => rfl
 | .ph i => rfl
 | .st i j => by show rowsN (nodesS _ _ _ _) = _; rw [nodesS_none]; rfl
theorem rowsU_doc (A : Ix → AV) (σ : Pl → Option Int) (l : List Ph) : ∀ y, rowsC A (docS σ l) y = rowsU A σ l y
 | .top => by
  show (docS σ l).mapIdx _ = l.mapIdx _
  refine List.ext_getElem? fun n => ?_
  simp only [docS, List.getElem?_mapIdx]
  cases l[n]? <;> rfl
 | .ph i => by
  show List.mapIdx _ _ = List.mapIdx _ _
  rw [setsOf_docS]
  refine List.ext_getElem? fun n => ?_
  simp only [List.getElem?_mapIdx]
  cases (setsOf l i)[n]? <;> rfl
 | .st i j => by
  show rowsN (nodesOf (docS σ l) i j) = rowsN _
  rw [nodesOf_docS]
theorem rowsU_miss {A : Ix → AV} {σ : Pl → Option Int} {l : List Ph} {i j : Nat} {p : Pl} {v : Int} (h1 : p.phase = i) (h2 : p.set = j) {y : Ix} (hy : y ≠ .st i j) : rowsU A (updS σ p v) l y = rowsU A σ l y := by
 cases y with
 | top => rfl
 | ph a => rfl
 | st a b =>
  show rowsN (nodesS _ _ _ _) = rowsN (nodesS _ _ _ _)
  rw [nodesS_miss]
  rintro ⟨e1, e2⟩
  exact hy (by rw [show a = i by omega, show b = j by omega])
theorem rowsU_st (A : Ix → AV) (σ : Pl → Option Int) (l : List Ph) (i j : Nat) : (rowsU A σ l (.st i j)).length = (nodesOf l i j).length := by
 show (rowsN _).length = _
 rw [rowsN_len, nodesS_len]
theorem rowsU_row (A : Ix → AV) (σ : Pl → Option Int) (l : List Ph) (x : Ix) : ∀ r ∈ rowsU A σ l x, r.length = ixW x := by
 cases x with
 | top => exact rowsC_row A l .top
 | ph i => exact rowsC_row A l (.ph i)
 | st i j => exact rowsN_row _
/-! ### the numbers of a choice -/
def lastV (l : List Ax) (c : List Int) : Nat → Pl → Option Int
 | 0 => fun _ => none
 | i + 1 => updS (lastV l c i) (l.getD i ax0).pl (valC l c i)
def mapTo (l : List Ax) (c : List Int) : Nat → List (Pl × Value)
 | 0 => []
 | i + 1 => putK (l.getD i ax0).pl (.int .i64 (valC l c i)) (mapTo l c i)
theorem mapTo_at (l : List Ax) (c : List Int) (q : Pl) : ∀ i, vAt q (mapTo l c i) = (lastV l c i q).map (Value.int .i64)
 | 0 => rfl
 | i + 1 => by
  show vAt q (putK _ _ _) = Option.map _ (updS _ _ _ q)
  rw [vAt_put, mapTo_at l c q i]
  unfold updS
  split <;> rfl
theorem putK_keys {k : Pl} {v : Value} : ∀ {M : List (Pl × Value)}, (M.map (·.1)).Nodup → ((putK k v M).map (·.1)).Nodup ∧ ∀ q, q ∈ (putK k v M).map (·.1) → q = k ∨ q ∈ M.map (·.1)
 | [], _ => by simp [putK]
 | (a, u) :: M, h => by
  simp only [List.map_cons, List.nodup_cons] at h
  unfold putK
  split
  ·rename_i e
   refine ⟨by simp only [List.map_cons, List.nodup_cons]; exact h, fun q hq => .inr hq⟩
  ·rename_i e
   obtain ⟨h1, h2⟩ := putK_keys (k := k) (v := v) h.2
   refine ⟨?_, fun q hq => ?_⟩
   ·simp only [List.map_cons, List.nodup_cons]
    refine ⟨fun hm => ?_, h1⟩
    rcases h2 _ hm with e2 | e2
    ·exact e e2.symm
    ·exact h.1 e2
   ·rcases List.mem_cons.1 hq with e2 | e2
    ·exact .inr (by rw [e2]; exact List.mem_cons_self ..)
    ·rcases h2 q e2 with e3 | e3
     ·exact .inl e3
     ·exact .inr (List.mem_cons_of_mem _ e3)
theorem mapTo_keys (l : List Ax) (c : List Int) : ∀ i, ((mapTo l c i).map (·.1)).Nodup
 | 0 => List.nodup_nil
 | i + 1 => (putK_keys (mapTo_keys l c i)).1
theorem mapTo_mem (l : List Ax) (c : List Int) : ∀ i (k : Pl) v, (k, v) ∈ mapTo l c i → ∃ n, n < i ∧ k = (l.getD n ax0).pl
 | 0, k, v, h => by cases h
 | i + 1, k, v, h => by
  have hk : k ∈ (putK (l.getD i ax0).pl (.int .i64 (valC l c i)) (mapTo l c i)).map (·.1) := List.mem_map.2 ⟨_, h, rfl⟩
  rcases (putK_keys (mapTo_keys l c i)).2 k hk with e | e
  ·exact ⟨i, Nat.lt_succ_self i, e⟩
  ·obtain ⟨⟨k2, v2⟩, h2, rfl⟩ := List.mem_map.1 e
   obtain ⟨n, hn, e2⟩ := mapTo_mem l c i k2 v2 h2
   exact ⟨n, by omega, e2⟩
theorem vAt_mem {k : Pl} {v : Value} : ∀ {M : List (Pl × Value)}, (M.map (·.1)).Nodup → (k, v) ∈ M → vAt k M = some v
 | (a, u) :: M, h, hm => by
  simp only [List.map_cons, List.nodup_cons] at h
  unfold vAt
  rcases List.mem_cons.1 hm with e | e
  ·cases e
   rw [if_pos rfl]
  ·have hne : ¬ k = a := fun e2 => h.1 (by rw [← e2]; exact List.mem_map.2 ⟨_, e, rfl⟩)
   rw [if_neg hne]
   exact vAt_mem h.2 e
theorem vAt_in {k : Pl} {v : Value} : ∀ {M : List (Pl × Value)}, vAt k M = some v → (k, v) ∈ M
 | (a, u) :: M, h => by
  unfold vAt at h
  split at h
  ·rename_i e
   cases h
   subst e
   exact List.mem_cons_self ..
  ·exact List.mem_cons_of_mem _ (vAt_in h)
/-- What is put after some entries have been seen (the youngest first). -/
def stepS (σ : Pl → Option Int) : Option (Pl × Value) → Pl → Option Int
 | some (k, .int _ u) => updS σ k u
 | _ => σ
def seenS (M : List (Pl × Value)) : List Nat → Pl → Option Int
 | [] => fun _ => none
 | i :: r => stepS (seenS M r) M[i]?
theorem mapTo_int (l : List Ax) (c : List Int) : ∀ i (k : Pl) v, (k, v) ∈ mapTo l c i → ∃ u, v = .int .i64 u ∧ lastV l c i k = some u := fun i k v h => by
 have h1 := vAt_mem (mapTo_keys l c i) h
 rw [mapTo_at] at h1
 cases h2 : lastV l c i k with
 | none => rw [h2] at h1; cases h1
 | some z => rw [h2] at h1; cases h1; exact ⟨z, rfl, rfl⟩
theorem seenS_some {l : List Ax} {c : List Int} {n : Nat} {q : Pl} {u : Int} : ∀ (r : List Nat), seenS (mapTo l c n) r q = some u → lastV l c n q = some u
 | [], h => by cases h
 | i :: r, h => by
  have ih := seenS_some (l := l) (c := c) (n := n) (q := q) (u := u) r
  rw [seenS] at h
  cases hi : (mapTo l c n)[i]? with
  | none => rw [hi] at h; exact ih h
  | some kv =>
   obtain ⟨k, v⟩ := kv
   obtain ⟨z, rfl, hz⟩ := mapTo_int l c n k v (List.mem_of_getElem? hi)
   rw [hi] at h
   replace h : updS (seenS (mapTo l c n) r) k z q = some u := h
   unfold updS at h
   by_cases e : q = k
   ·rw [if_pos e] at h
    rw [e, hz]
    exact h
   ·rw [if_neg e] at h
    exact ih h
theorem seenS_in {l : List Ax} {c : List Int} {n i : Nat} {q : Pl} {u : Int} (h : (mapTo l c n)[i]? = some (q, .int .i64 u)) : ∀ (r : List Nat), i ∈ r → seenS (mapTo l c n) r q ≠ none
 | [], hi => by cases hi
 | a :: r, hi => by
  rw [seenS]
  by_cases e : a = i
  ·subst e
   rw [h]
   show updS _ _ _ q ≠ none
   unfold updS
   rw [if_pos rfl]
   intro e; cases e
  ·have ih := seenS_in h r ((List.mem_cons.1 hi).resolve_left fun x => e x.symm)
   cases hi : (mapTo l c n)[a]? with
   | none => exact ih
   | some kv =>
    obtain ⟨k, v⟩ := kv
    obtain ⟨z, rfl, hz⟩ := mapTo_int l c n k v (List.mem_of_getElem? hi)
    show updS _ _ _ q ≠ none
    unfold updS
    split
    ·intro e; cases e
    ·exact ih
theorem seenS_all {l : List Ax} {c : List Int} {n : Nat} {r : List Nat} (h : ∀ i, i < (mapTo l c n).length → i ∈ r) : seenS (mapTo l c n) r = lastV l c n := by
 funext q
 cases hq : lastV l c n q with
 | none =>
  cases hs : seenS (mapTo l c n) r q with
  | none => rfl
  | some u => rw [seenS_some r hs] at hq; cases hq
 | some u =>
  have h1 := mapTo_at l c q n
  rw [hq] at h1
  obtain ⟨i, hi⟩ := List.getElem?_of_mem (vAt_in h1)
  have h2 := seenS_in hi r (h i (List.getElem?_eq_some_iff.1 hi).1)
  cases hs : seenS (mapTo l c n) r q with
  | none => exact absurd hs h2
  | some z => rw [seenS_some r hs] at hq; exact hq
end
end Go.Proofs.Ytmockbddhhmmeaa.Ev

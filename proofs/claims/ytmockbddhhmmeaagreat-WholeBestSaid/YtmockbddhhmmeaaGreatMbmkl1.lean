/- Words for all walks: types, numbers, texts, lists of texts. -/
import Derived.Test.YtmockbddhhmmeaaGreatMa5
import Derived.Test.YtmockbddhhmmeaaGreatChecked
import Derived.KernelRfl
import Derived.Test.YtmockbddhhmmeaaGreatMa7
import Derived.Test.YtmockbddhhmmeaaGreatMa8
namespace Go.Proofs.YtmockbddhhmmeaaGreat.Ev
open Go Go.Proofs
set_option maxRecDepth 10000
set_option maxHeartbeats 8000000
set_option linter.unusedVariables false
set_option linter.unusedSimpArgs false
section
attribute [go_sem] Tryz.underlying9 Tryz.underlying3 Tryz.underlying4 Tryz.underlying5 Tryz.underlying21 Tryz.underlying124 Tryz.underlying42 Tryz.underlying49 Tryz.underlying2 Tryz.underlying230 Tryz.underlying200
theorem mixed : Tryz.prog.follows .mixedOrders = true := Tryz.checked.mixed
theorem szInt : tSize Tryz.prog 3 = some 1 := by kernel_rfl
theorem szStr : tSize Tryz.prog 9 = some 1 := by kernel_rfl
theorem elInts : tElem Tryz.prog 42 = some 3 := by simp only [tElem, Tryz.underlying42]
theorem naInts : tArr Tryz.prog 42 = none := by simp only [tArr, Tryz.underlying42]
theorem appInts : appB Tryz.prog 42 42 1 = true := by kernel_rfl
theorem loadInt {m : Mem} {c : AV} {cs : List AV} : evLoad Tryz.prog m 3 (.eptr (c :: cs)) = some c := load_one (by simp only [tAgg, Tryz.underlying3]) szInt
theorem mkInts0 : evBuildSlice Tryz.prog 42 0 [] = some (.lst .full 1 []) := build_nil appInts
theorem mkInts1 {b : Int} : evBuildSlice Tryz.prog 42 1 [(0, .v (.int .i64 b))] = some (.lst .full 1 [[.v (.int .i64 b)]]) := build_one appInts (by decide) rfl rfl
theorem i64_wrap {n : Int} (h0 : -9223372036854775808 ≤ n) (h : n ≤ 9223372036854775807) : IntKind.i64.wrap n = n := wrap_i64 h0 h
def inI (n : Int) : Prop := -9223372036854775808 ≤ n ∧ n ≤ 9223372036854775807
instance (n : Int) : Decidable (inI n) := by unfold inI; exact inferInstance
theorem next_i64 {i : Nat} (h : i < 9223372036854775807) : IntKind.i64.wrap ((i : Int) + 1) = ((i + 1 : Nat) : Int) := i64_wrap (n := ((i + 1 : Nat) : Int)) (by omega) (by omega)
theorem drop_next {α : Type} {d : α} {l : List α} {i : Nat} (hi : i < l.length) : l.drop i = l.getD i d :: l.drop (i + 1) := by
 rw [List.drop_eq_getElem_cons hi]
 simp [List.getD, List.getElem?_eq_getElem hi]
theorem atInts {g : Grow} {kk : IntKind} {l : List Int} {i : Nat} (hi : i < l.length) : evIndexAddr Tryz.prog 42 (.lst g 1 (rowsI l)) (.v (.int kk (i : Int))) = some (.eptr [.v (.int .i64 (l.getD i 0))]) := at_list elInts naInts szInt (rowsI_get hi)
end
section
attribute [local irreducible] Next Inside Runs Ops table
def iv (n : Int) : AV := .v (.int .i64 n)
theorem agInt : tAgg Tryz.prog 3 = some false := by simp only [tAgg, Tryz.underlying3]
def big40 : Nat := 1099511627776
def firstBy {α : Type} (p : α → Bool) : List α → Nat → Int
 | [], _ => -1
 | s :: l, i => if p s then (i : Int) else firstBy p l (i + 1)
theorem firstBy_any {α : Type} (p : α → Bool) : ∀ (l : List α) (i : Nat), decide (0 ≤ firstBy p l i) = l.any p
 | [], i => by simp [firstBy]
 | s :: l, i => by
  rw [firstBy]
  cases h : p s with
  | true => simp [h]
  | false => simp only [Bool.false_eq_true, if_false, firstBy_any p l (i + 1), List.any_cons, h, Bool.false_or]
theorem by_no {α : Type} {d : α} {p : α → Bool} {l : List α} {i : Nat} (hi : i < l.length) (hp : p (l.getD i d) = false) (h : firstBy p (l.drop i) i = firstBy p l 0) : firstBy p (l.drop (i + 1)) (i + 1) = firstBy p l 0 := by
 rw [drop_next (d := d) hi, firstBy, hp, if_neg (by simp)] at h
 exact h
theorem by_yes {α : Type} {d : α} {p : α → Bool} {l : List α} {i : Nat} (hi : i < l.length) (hp : p (l.getD i d) = true) (h : firstBy p (l.drop i) i = firstBy p l 0) : firstBy p l 0 = (i : Int) := by
 rw [drop_next (d := d) hi, firstBy, hp, if_pos rfl] at h
 exact h.symm
theorem by_end {α : Type} {p : α → Bool} {l : List α} (h : firstBy p (l.drop l.length) l.length = firstBy p l 0) : firstBy p l 0 = -1 := by
 rw [List.drop_length] at h
 exact h.symm
def Above (m m' : Mem) : Prop := ∃ L, m' = { vars := m.vars ++ L, toks := m.toks }
theorem above_self (m : Mem) : Above m m := ⟨[], by simp⟩
theorem above_push {m m' : Mem} {cs : List AV} (h : Above m m') : Above m (m'.push cs) := by
 obtain ⟨L, rfl⟩ := h
 exact ⟨L ++ [some cs], by simp [Mem.push]⟩
theorem above_fin {m m' : Mem} (h : Above m m') : finMem m m' = m := by
 obtain ⟨L, rfl⟩ := h
 unfold finMem
 rw [if_pos (by simp)]
 simp
def yesG : List AV → Mem → Option (AV × Mem)
 | [], m => some (.v (.bool true), m)
 | _, _ => none
theorem yes_eq : ∀ mm, yesG [] mm = some (.v (.bool true), mm) := fun _ => rfl
theorem ops_case {P : Program} {call : CallF} {nt : Nat} {ops : Array Oper} {pu : Bool} {e : Env} {m : Mem} {K : Env → Mem → Prop} {o : Oper} {rest : List Oper} {j g : Nat} {want B : Bool} (hg : o.guard = some (j, want)) (hj : (ops[j]?).bind (·.dst) = some g) (hb : get e g = .v (.bool B))
  (ht : B = true → Ops P call nt ops pu (o :: rest) e m K) (hf : B = false → Ops P call nt ops pu (o :: rest) e m K) : Ops P call nt ops pu (o :: rest) e m K := by
 cases B with
 | true => exact ht rfl
 | false => exact hf rfl
theorem ops_here {P : Program} {call : CallF} {nt : Nat} {ops : Array Oper} {pu : Bool} {l : List Oper} {e : Env} {m : Mem} {K : Env → Mem → Prop} (h : Ops P call nt ops pu l e m K) : Ops P call nt ops pu l e m K := h
theorem runs_here {P : Program} {call : CallF} {nt : Nat} {kp : Nat → Option (List Nat)} {c : Code} {e : Env} {m : Mem} {Q : Ex → Env → Mem → Prop} (h : Runs P call nt kp c e m Q) : Runs P call nt kp c e m Q := h
theorem var_lt {m : Mem} {r : Nat} {cs : List AV} (h : m.var r = some cs) : r < m.vars.length ∧ m.vars[r]? = some (some cs) := by
 unfold Mem.var at h
 cases hx : m.vars[r]? with
 | none => rw [hx] at h; cases h
 | some y => rw [hx] at h; cases y with
  | none => cases h
  | some z =>
   cases h
   exact ⟨(List.getElem?_eq_some_iff.1 hx).1, rfl⟩
theorem var_of {m : Mem} {r : Nat} {cs : List AV} (h : m.vars[r]? = some (some cs)) : m.var r = some cs := by
 unfold Mem.var
 rw [h]
 rfl
theorem var_set_ne {m : Mem} {r q : Nat} {cs cs' : List AV} {T : List Nat} (hq : q ≠ r) (h : m.var q = some cs) : ({ vars := m.vars.set r (some cs'), toks := T } : Mem).var q = some cs := by
 apply var_of
 show (m.vars.set r _)[q]? = _
 rw [List.getElem?_set_ne (fun h => hq h.symm), (var_lt h).2]
theorem push_old {m : Mem} {q : Nat} {cs cs' : List AV} (h : m.var q = some cs) : (m.push cs').var q = some cs := by
 apply var_of
 show (m.vars ++ [_])[q]? = _
 rw [List.getElem?_append_left (var_lt h).1, (var_lt h).2]
theorem above_len {m m' : Mem} (h : Above m m') : m.vars.length ≤ m'.vars.length := by
 obtain ⟨L, rfl⟩ := h
 simp
def GrowsA (m : Mem) (g : Grow) (m' : Mem) : Prop := ∃ m1, Grows m g m1 ∧ Above m1 m'
theorem growsA_full {m : Mem} : GrowsA m .full m := ⟨m, grows_full, above_self m⟩
theorem growsA_push {m m' : Mem} {g : Grow} {cs : List AV} (h : GrowsA m g m') : GrowsA m g (m'.push cs) :=
 let ⟨m1, h1, h2⟩ := h; ⟨m1, h1, above_push h2⟩
theorem growsA_fin {m m' : Mem} {g : Grow} (h : GrowsA m g m') : finMem m m' = m := by
 obtain ⟨m1, h1, L, rfl⟩ := h
 rcases h1 with ⟨_, rfl⟩ | ⟨v, _, rfl⟩
 ·exact above_fin ⟨L, rfl⟩
 ·unfold finMem Mem.tk
  rw [if_pos (by simp)]
  simp
theorem app_growsA {P : Program} {m : Mem} {t t2 : TypeId} {k : Nat} (ha : appB P t t2 k = true) {g : Grow} {m' : Mem} (hG : GrowsA m g m') {y : AV} {g2 : Grow} {xs ys : List (List AV)} (hy : asList k y = some (g2, ys)) (hl : xs.length + ys.length ≤ lim) :
  ∃ g' m'', evAppend P t t2 m' (.lst g k xs) y = some (.lst g' k (xs ++ ys), m'') ∧ GrowsA m g' m'' := by
 obtain ⟨m1, h1, L, rfl⟩ := hG
 rcases h1 with ⟨rfl, rfl⟩ | ⟨v, rfl, rfl⟩
 ·refine ⟨_, _, app_of ha asList_lst hy hl, m1.tk [0], grows_tok, L, rfl⟩
 ·refine ⟨_, { vars := m.vars ++ L, toks := m.toks ++ [v + 1] }, ?_, m.tk [v + 1], grows_tok, L, rfl⟩
  rw [app_of ha asList_lst hy hl]
  have h : ({ vars := (m.tk [v]).vars ++ L, toks := (m.tk [v]).toks } : Mem).toks[m.toks.length]? = some v := by simp [Mem.tk]
  simp only [h, if_true]
  simp [Mem.tk, List.set_append]
theorem app_growsV {P : Program} {m : Mem} {t t2 : TypeId} {k : Nat} (ha : appB P t t2 k = true) {g : Grow} {m' : Mem} (hG : GrowsA m g m') {y : AV} {g2 : Grow} {xs ys : List (List AV)} (hy : asList k y = some (g2, ys)) (hl : xs.length + ys.length ≤ lim) :
  ∃ g' m'', evAppend P t t2 m' (.lst g k xs) y = some (.lst g' k (xs ++ ys), m'') ∧ GrowsA m g' m'' ∧ ∀ q, m''.var q = m'.var q := by
 obtain ⟨m1, h1, L, rfl⟩ := hG
 rcases h1 with ⟨rfl, rfl⟩ | ⟨v, rfl, rfl⟩
 ·refine ⟨_, _, app_of ha asList_lst hy hl, ⟨m1.tk [0], grows_tok, L, rfl⟩, fun q => rfl⟩
 ·refine ⟨_, { vars := m.vars ++ L, toks := m.toks ++ [v + 1] }, ?_, ⟨m.tk [v + 1], grows_tok, L, rfl⟩, fun q => rfl⟩
  rw [app_of ha asList_lst hy hl]
  have h : ({ vars := (m.tk [v]).vars ++ L, toks := (m.tk [v]).toks } : Mem).toks[m.toks.length]? = some v := by simp [Mem.tk]
  simp only [h, if_true]
  simp [Mem.tk, List.set_append]
theorem push_len {m : Mem} {cs : List AV} : (m.push cs).vars.length = m.vars.length + 1 := by simp [Mem.push]
theorem ops_rcut {P : Program} {call : CallF} {nt : Nat} {kp : Nat → Option (List Nat)} {ops : Array Oper} {pu : Bool} {l : List Oper} {e : Env} {m : Mem} {id : Nat} {Q : Env → Mem → Prop} (E : Env) (M : Mem)
  (h : Ops P call nt ops pu l e m fun e' m' => ∀ e2, Ev.restr (kp id) e' = e2 → e2 = E ∧ m' = M) (hk : Q E M) : Ops P call nt ops pu l e m fun e' m' => ∀ e2, Ev.restr (kp id) e' = e2 → Q e2 m' :=
 ops_cut h fun e' m' hh e2 he => by obtain ⟨a, b⟩ := hh e2 he; rw [a, b]; exact hk
theorem runs_rcut {P : Program} {call : CallF} {nt : Nat} {kp : Nat → Option (List Nat)} {c : Code} {e : Env} {m : Mem} {Q : Ex → Env → Mem → Prop} (E : Env) (M : Mem) (h : Runs P call nt kp c e m fun x e2 m2 => x = .normal ∧ e2 = E ∧ m2 = M) (hk : Q .normal E M) : Runs P call nt kp c e m Q :=
 runs_mono h fun x e2 m2 ⟨h1, h2, h3⟩ => by rw [h1, h2, h3]; exact hk
theorem getD_in {α : Type} {d : α} {l : List α} {i : Nat} (h : i < l.length) : l.getD i d ∈ l := by
 rw [List.getD, List.getElem?_eq_getElem h]
 exact List.getElem_mem _
theorem runs_ops_drawn_tight {P : Program} {call : CallF} {nt : Nat} {kp : Nat → Option (List Nat)} {e : Env} {m : Mem} {Q : Ex → Env → Mem → Prop} {id : Nat} {l : List Oper} (hok : drawnOk P l = true) (hl : anyLoose P l = false) (h : Ops P call nt l.toArray false l e m fun e' m' => ∀ e2, restr (kp id) e' = e2 → Q .normal e2 m') : Runs P call nt kp (.region id l.toArray true) e m Q :=
 runs_ops_drawn_kept hok (by rw [hl]; exact h)
theorem range_any {p : Nat → Bool} {n : Nat} {i : Nat} (hi : i < n) (h : p i = true) : (List.range n).any p = true := List.any_eq_true.2 ⟨i, List.mem_range.2 hi, h⟩
def okStr (s : ByteArray) : Prop := s.size ≤ 9223372036854775807
def unJ : List (List AV) → Option (List Int)
 | [] => some []
 | [.v (.int .i64 n)] :: r => (unJ r).map (n :: ·)
 | _ => none
theorem unJ_some : ∀ {rows : List (List AV)} {l : List Int}, unJ rows = some l → rows = rowsI l
 | [], l, h => by cases h; rfl
 | [.v (.int .i64 n)] :: r, l, h => by
  simp only [unJ, Option.map_eq_some_iff] at h
  obtain ⟨l', h1, rfl⟩ := h
  rw [unJ_some h1]
  rfl
theorem unJ_rowsI : ∀ l : List Int, unJ (rowsI l) = some l
 | [] => rfl
 | n :: l => by
  have e : rowsI (n :: l) = [.v (.int .i64 n)] :: rowsI l := rfl
  rw [e, unJ, unJ_rowsI l]
  rfl
theorem szBool : tSize Tryz.prog 4 = some 1 := by kernel_rfl
theorem elBools : tElem Tryz.prog 62 = some 4 := by kernel_rfl
theorem naBools : tArr Tryz.prog 62 = none := by kernel_rfl
def rowsBo (b : List Bool) : List (List AV) := b.map fun x => [.v (.bool x)]
theorem rowsBo_len (b : List Bool) : (rowsBo b).length = b.length := List.length_map ..
theorem rowsBo_get {l : List Bool} {i : Nat} (hi : i < l.length) : (rowsBo l)[i]? = some [.v (.bool (l.getD i false))] := by
 simp [rowsBo, List.getD, List.getElem?_eq_getElem hi]
theorem atBools {g : Grow} {kk : IntKind} {l : List Bool} {i : Nat} (hi : i < l.length) : evIndexAddr Tryz.prog 62 (.lst g 1 (rowsBo l)) (.v (.int kk (i : Int))) = some (.eptr [.v (.bool (l.getD i false))]) := at_list elBools naBools szBool (rowsBo_get hi)
theorem ldBool {m : Mem} {x : Bool} : evLoad Tryz.prog m 4 (.eptr [.v (.bool x)]) = some (.v (.bool x)) := by kernel_rfl
def unBo : List (List AV) → Option (List Bool)
 | [] => some []
 | [.v (.bool n)] :: r => (unBo r).map (n :: ·)
 | _ => none
theorem unBo_some : ∀ {rows : List (List AV)} {l : List Bool}, unBo rows = some l → rows = rowsBo l
 | [], l, h => by cases h; rfl
 | [.v (.bool n)] :: r, l, h => by
  simp only [unBo, Option.map_eq_some_iff] at h
  obtain ⟨l', h1, rfl⟩ := h
  rw [unBo_some h1]
  rfl
theorem unBo_rowsBo : ∀ l : List Bool, unBo (rowsBo l) = some l
 | [] => rfl
 | n :: l => by
  have e : rowsBo (n :: l) = [.v (.bool n)] :: rowsBo l := rfl
  rw [e, unBo, unBo_rowsBo l]
  rfl
def rowsBs (b : List (List Bool)) : List (List AV) := b.map fun x => [.lst .no 1 (rowsBo x)]
theorem rowsBs_len (b : List (List Bool)) : (rowsBs b).length = b.length := List.length_map ..
theorem rowsBs_get {l : List (List Bool)} {i : Nat} (hi : i < l.length) : (rowsBs l)[i]? = some [.lst .no 1 (rowsBo (l.getD i []))] := by
 simp [rowsBs, List.getD, List.getElem?_eq_getElem hi]
def unBs : List (List AV) → Option (List (List Bool))
 | [] => some []
 | [.lst .no 1 c] :: r =>
  match unBo c, unBs r with
  | some x, some l => some (x :: l)
  | _, _ => none
 | _ => none
theorem unBs_some : ∀ {rows : List (List AV)} {l : List (List Bool)}, unBs rows = some l → rows = rowsBs l
 | [], l, h => by cases h; rfl
 | [.lst .no 1 c] :: r, l, h => by
  simp only [unBs] at h
  split at h
  ·rename_i x l' h1 h2
   cases h
   rw [unBo_some h1, unBs_some h2]
   rfl
  ·cases h
theorem unBs_rowsBs : ∀ l : List (List Bool), unBs (rowsBs l) = some l
 | [] => rfl
 | x :: l => by
  have e : rowsBs (x :: l) = [.lst .no 1 (rowsBo x)] :: rowsBs l := rfl
  rw [e]
  simp only [unBs, unBo_rowsBo, unBs_rowsBs l]
theorem elBs : tElem Tryz.prog 23 = some 62 := by kernel_rfl
theorem naBs : tArr Tryz.prog 23 = none := by kernel_rfl
theorem szBs : tSize Tryz.prog 62 = some 1 := by kernel_rfl
theorem atBs {g : Grow} {kk : IntKind} {l : List (List Bool)} {i : Nat} (hi : i < l.length) : evIndexAddr Tryz.prog 23 (.lst g 1 (rowsBs l)) (.v (.int kk (i : Int))) = some (.eptr [.lst .no 1 (rowsBo (l.getD i []))]) := at_list elBs naBs szBs (rowsBs_get hi)
theorem ldBs {m : Mem} {x : AV} : evLoad Tryz.prog m 62 (.eptr [x]) = some x := by kernel_rfl
/-! ### parts of a variable -/
theorem load_sub {P : Program} {m : Mem} {r off k : Nat} {row sub : List AV} {t : TypeId} (hv : m.var r = some row) (hs : tSize P t = some k) (ha : tAgg P t = some true) (hk : k ≤ (row.drop off).length) (hsub : (row.drop off).take k = sub) : evLoad P m t (.ptr r off) = some (.agg sub) := by
 unfold evLoad
 simp only [ptrCells, hv, Option.map_some, hs, ha]
 rw [if_pos hk, hsub]
theorem load_cell {P : Program} {m : Mem} {r off k : Nat} {row : List AV} {c : AV} {t : TypeId} (hv : m.var r = some row) (hs : tSize P t = some k) (ha : tAgg P t = some false) (hc : (row.drop off).head? = some c) : evLoad P m t (.ptr r off) = some c := by
 unfold evLoad
 simp only [ptrCells, hv, Option.map_some, hs, ha]
 exact hc
abbrev setv (m : Mem) (q : Nat) (cs : List AV) : Mem := m.putv q cs
theorem setv_var {m : Mem} {q : Nat} {old cs : List AV} (h : m.var q = some old) : (setv m q cs).var q = some cs := var_of (by show (m.vars.set q _)[q]? = _; rw [List.getElem?_set_self (var_lt h).1])
theorem setv_other {m : Mem} {q r : Nat} {cs c2 : List AV} (h : m.var r = some c2) (hne : r ≠ q) : (setv m q cs).var r = some c2 := var_set_ne hne h
theorem setv_len {m : Mem} {q : Nat} {cs : List AV} : (setv m q cs).vars.length = m.vars.length := by simp [setv, Mem.putv]
theorem setv_push {m : Mem} {cs cs' : List AV} : setv (m.push cs) m.vars.length cs' = m.push cs' := by
 unfold setv Mem.putv Mem.push
 simp
theorem setv_setv {m : Mem} {q : Nat} {cs cs' : List AV} : setv (setv m q cs) q cs' = setv m q cs' := by
 unfold setv Mem.putv
 simp
theorem above_setv {m m' : Mem} {q : Nat} {cs : List AV} (h : Above m m') (hq : m.vars.length ≤ q) : Above m (setv m' q cs) := by
 obtain ⟨L, rfl⟩ := h
 refine ⟨L.set (q - m.vars.length) (some cs), ?_⟩
 unfold setv Mem.putv
 simp only [List.set_append_right _ _ hq]
/-- A store into a part of a variable. -/
theorem store_part {P : Program} {m : Mem} {t : TypeId} {q off k : Nat} {old cs new : List AV} {a : AV} (h : m.var q = some old) (hs : tSize P t = some k) (hcs : cellsOf a = some cs) (hk : cs.length = k) (ho : off + k ≤ old.length) (hrf : cs.all (refLe q) = true) (hn : splice old off cs = new) :
  evStore P m t (.ptr q off) a = some (setv m q new) := by
 unfold evStore
 simp only [hcs, hs, h]
 rw [if_pos ⟨hk, ho, hrf⟩, hn]
 rfl
end
section
attribute [local irreducible] Next Inside Runs Ops table
/-! ### api.Stop -/
structure Tp where
 On : Bool
 Metric : ByteArray
 Max : Bool
 Patience : Int
 Delta : Int
 Rel : Bool
def tp0 : Tp := ⟨false, ⟨#[]⟩, false, 0, 0, false⟩
def Tp.row (x : Tp) : List AV := [.v (.bool x.On), .v (.string x.Metric), .v (.bool x.Max), iv x.Patience, iv x.Delta, .v (.bool x.Rel)]
def zeroTp : List AV := [.v (.bool false), .v (.string ⟨#[]⟩), .v (.bool false), .v (.int .i64 0), .v (.int .i64 0), .v (.bool false)]
theorem mk0Tp : evBuild Tryz.prog 26 [] = some (.agg zeroTp) := by kernel_rfl
theorem niTp : noIface Tryz.prog 8 26 = true := by kernel_rfl
theorem eqTp {x y : Tp} : eqTy Tryz.prog 8 26 (.agg x.row) (.agg y.row) = some ((x.On == y.On) && ((x.Metric == y.Metric) && ((x.Max == y.Max) && ((x.Patience == y.Patience) && ((x.Delta == y.Delta) && ((x.Rel == y.Rel) && true)))))) := by kernel_rfl
/-! ### api.Plateau -/
structure Pt where
 On : Bool
 Metric : ByteArray
 Max : Bool
 Factor : Int
 Patience : Int
 Cooldown : Int
 Floor : Int
 Delta : Int
def pt0 : Pt := ⟨false, ⟨#[]⟩, false, 0, 0, 0, 0, 0⟩
def Pt.row (x : Pt) : List AV := [.v (.bool x.On), .v (.string x.Metric), .v (.bool x.Max), iv x.Factor, iv x.Patience, iv x.Cooldown, iv x.Floor, iv x.Delta]
def unPt : List AV → Option Pt
 | [.v (.bool c0), .v (.string c1), .v (.bool c2), .v (.int .i64 c3), .v (.int .i64 c4), .v (.int .i64 c5), .v (.int .i64 c6), .v (.int .i64 c7)] => some ⟨c0, c1, c2, c3, c4, c5, c6, c7⟩
 | _ => none
theorem unPt_some {cs : List AV} {x : Pt} (h : unPt cs = some x) : cs = x.row := by
 unfold unPt at h
 split at h
 ·cases h; rfl
 ·cases h
theorem unPt_row (x : Pt) : unPt x.row = some x := by
 rfl
theorem szPt : tSize Tryz.prog 28 = some 8 := by kernel_rfl
theorem agPt : tAgg Tryz.prog 28 = some true := by kernel_rfl
theorem mapPt {x : Pt} : List.map argCell x.row = x.row := rfl
theorem cellsPt {x : Pt} : cellsOf (.agg x.row) = some x.row := rfl
theorem newPt {m : Mem} {x : Pt} : newVar m m.vars.length x.row = some (m.push x.row) := newVar_push rfl
theorem vrPt {m : Mem} {r : Nat} {x : Pt} (hv : m.var r = some x.row) : evLoad Tryz.prog m 28 (.ptr r 0) = some (.agg x.row) := load_sub (off := 0) hv szPt agPt (Nat.le_of_ble_eq_true rfl) rfl
def zeroPt : List AV := [.v (.bool false), .v (.string ⟨#[]⟩), .v (.bool false), .v (.int .i64 0), .v (.int .i64 0), .v (.int .i64 0), .v (.int .i64 0), .v (.int .i64 0)]
theorem zrPt : zeroCells Tryz.prog 28 = some zeroPt := by kernel_rfl
theorem zoPt : zeroPt.all okCell = true := rfl
theorem znPt {m : Mem} : newVar m m.vars.length zeroPt = some (m.push zeroPt) := newVar_push rfl
theorem mk0Pt : evBuild Tryz.prog 28 [] = some (.agg zeroPt) := by kernel_rfl
theorem niPt : noIface Tryz.prog 8 28 = true := by kernel_rfl
theorem eqPt {x y : Pt} : eqTy Tryz.prog 8 28 (.agg x.row) (.agg y.row) = some ((x.On == y.On) && ((x.Metric == y.Metric) && ((x.Max == y.Max) && ((x.Factor == y.Factor) && ((x.Patience == y.Patience) && ((x.Cooldown == y.Cooldown) && ((x.Floor == y.Floor) && ((x.Delta == y.Delta) && true)))))))) := by kernel_rfl
theorem fpPtOn {r : Nat} : evFieldAddr Tryz.prog 28 (.ptr r 0) 0 = some (.ptr r 0) := by kernel_rfl
theorem lpPtOn {m : Mem} {r : Nat} {x : Pt} (hv : m.var r = some x.row) : evLoad Tryz.prog m 4 (.ptr r 0) = some (.v (.bool x.On)) := load_cell (k := 1) hv (by kernel_rfl) (by kernel_rfl) rfl
theorem fpPtMetric {r : Nat} : evFieldAddr Tryz.prog 28 (.ptr r 0) 1 = some (.ptr r 1) := by kernel_rfl
theorem lpPtMetric {m : Mem} {r : Nat} {x : Pt} (hv : m.var r = some x.row) : evLoad Tryz.prog m 9 (.ptr r 1) = some (.v (.string x.Metric)) := load_cell (k := 1) hv (by kernel_rfl) (by kernel_rfl) rfl
theorem fpPtMax {r : Nat} : evFieldAddr Tryz.prog 28 (.ptr r 0) 2 = some (.ptr r 2) := by kernel_rfl
theorem lpPtMax {m : Mem} {r : Nat} {x : Pt} (hv : m.var r = some x.row) : evLoad Tryz.prog m 4 (.ptr r 2) = some (.v (.bool x.Max)) := load_cell (k := 1) hv (by kernel_rfl) (by kernel_rfl) rfl
theorem fpPtFactor {r : Nat} : evFieldAddr Tryz.prog 28 (.ptr r 0) 3 = some (.ptr r 3) := by kernel_rfl
theorem lpPtFactor {m : Mem} {r : Nat} {x : Pt} (hv : m.var r = some x.row) : evLoad Tryz.prog m 3 (.ptr r 3) = some (iv x.Factor) := load_cell (k := 1) hv (by kernel_rfl) (by kernel_rfl) rfl
theorem fpPtPatience {r : Nat} : evFieldAddr Tryz.prog 28 (.ptr r 0) 4 = some (.ptr r 4) := by kernel_rfl
theorem lpPtPatience {m : Mem} {r : Nat} {x : Pt} (hv : m.var r = some x.row) : evLoad Tryz.prog m 3 (.ptr r 4) = some (iv x.Patience) := load_cell (k := 1) hv (by kernel_rfl) (by kernel_rfl) rfl
theorem fpPtCooldown {r : Nat} : evFieldAddr Tryz.prog 28 (.ptr r 0) 5 = some (.ptr r 5) := by kernel_rfl
theorem lpPtCooldown {m : Mem} {r : Nat} {x : Pt} (hv : m.var r = some x.row) : evLoad Tryz.prog m 3 (.ptr r 5) = some (iv x.Cooldown) := load_cell (k := 1) hv (by kernel_rfl) (by kernel_rfl) rfl
theorem fpPtFloor {r : Nat} : evFieldAddr Tryz.prog 28 (.ptr r 0) 6 = some (.ptr r 6) := by kernel_rfl
theorem lpPtFloor {m : Mem} {r : Nat} {x : Pt} (hv : m.var r = some x.row) : evLoad Tryz.prog m 3 (.ptr r 6) = some (iv x.Floor) := load_cell (k := 1) hv (by kernel_rfl) (by kernel_rfl) rfl
theorem fpPtDelta {r : Nat} : evFieldAddr Tryz.prog 28 (.ptr r 0) 7 = some (.ptr r 7) := by kernel_rfl
theorem lpPtDelta {m : Mem} {r : Nat} {x : Pt} (hv : m.var r = some x.row) : evLoad Tryz.prog m 3 (.ptr r 7) = some (iv x.Delta) := load_cell (k := 1) hv (by kernel_rfl) (by kernel_rfl) rfl
/-! ### api.Keep -/
structure Kp where
 On : Bool
 Metric : ByteArray
 Max : Bool
 Count : Int
def kp0 : Kp := ⟨false, ⟨#[]⟩, false, 0⟩
def Kp.row (x : Kp) : List AV := [.v (.bool x.On), .v (.string x.Metric), .v (.bool x.Max), iv x.Count]
def zeroKp : List AV := [.v (.bool false), .v (.string ⟨#[]⟩), .v (.bool false), .v (.int .i64 0)]
theorem mk0Kp : evBuild Tryz.prog 30 [] = some (.agg zeroKp) := by kernel_rfl
theorem niKp : noIface Tryz.prog 8 30 = true := by kernel_rfl
theorem eqKp {x y : Kp} : eqTy Tryz.prog 8 30 (.agg x.row) (.agg y.row) = some ((x.On == y.On) && ((x.Metric == y.Metric) && ((x.Max == y.Max) && ((x.Count == y.Count) && true)))) := by kernel_rfl
/-! ### api.Ema -/
structure Em where
 On : Bool
 Decay : Int
def em0 : Em := ⟨false, 0⟩
def Em.row (x : Em) : List AV := [.v (.bool x.On), iv x.Decay]
def zeroEm : List AV := [.v (.bool false), .v (.int .i64 0)]
theorem mk0Em : evBuild Tryz.prog 32 [] = some (.agg zeroEm) := by kernel_rfl
theorem niEm : noIface Tryz.prog 8 32 = true := by kernel_rfl
theorem eqEm {x y : Em} : eqTy Tryz.prog 8 32 (.agg x.row) (.agg y.row) = some ((x.On == y.On) && ((x.Decay == y.Decay) && true)) := by kernel_rfl
/-! ### api.Span -/
structure Sp where
 from_ : Int
 to_ : Int
def sp0 : Sp := ⟨0, 0⟩
def Sp.row (x : Sp) : List AV := [iv x.from_, iv x.to_]
def unSp : List AV → Option Sp
 | [.v (.int .i64 c0), .v (.int .i64 c1)] => some ⟨c0, c1⟩
 | _ => none
theorem unSp_some {cs : List AV} {x : Sp} (h : unSp cs = some x) : cs = x.row := by
 unfold unSp at h
 split at h
 ·cases h; rfl
 ·cases h
theorem unSp_row (x : Sp) : unSp x.row = some x := by
 rfl
def rowsSp (l : List Sp) : List (List AV) := l.map Sp.row
theorem rowsSp_len (l : List Sp) : (rowsSp l).length = l.length := List.length_map ..
theorem rowsSp_get {l : List Sp} {i : Nat} (hi : i < l.length) : (rowsSp l)[i]? = some (l.getD i sp0).row := by
 simp [rowsSp, List.getD, List.getElem?_eq_getElem hi]
def unsSp : List (List AV) → Option (List Sp)
 | [] => some []
 | row :: r =>
  match unSp row, unsSp r with
  | some x, some l => some (x :: l)
  | _, _ => none
theorem unsSp_some : ∀ {rs : List (List AV)} {l : List Sp}, unsSp rs = some l → rs = rowsSp l
 | [], l, h => by simp only [unsSp, Option.some.injEq] at h; subst h; rfl
 | row :: r, l, h => by
  unfold unsSp at h
  split at h
  ·rename_i x l' h1 h2
   cases h
   rw [unSp_some h1, unsSp_some h2]
   rfl
  ·cases h
theorem unsSp_rowsSp : ∀ (l : List Sp), unsSp (rowsSp l) = some l
 | [] => rfl
 | x :: l => by
  have e : rowsSp (x :: l) = x.row :: rowsSp l := rfl
  rw [e, unsSp, unSp_row, unsSp_rowsSp l]
theorem elSp : tElem Tryz.prog 22 = some 94 := by simp only [tElem, Tryz.underlying22]
theorem naSp : tArr Tryz.prog 22 = none := by simp only [tArr, Tryz.underlying22]
theorem appSp : appB Tryz.prog 22 22 2 = true := by kernel_rfl
theorem mk1Sp {x : Sp} : evBuildSlice Tryz.prog 22 1 [(0, .agg x.row)] = some (.lst .full 2 (rowsSp [x])) := build_one appSp (by decide) rfl rfl
theorem szSp : tSize Tryz.prog 94 = some 2 := by kernel_rfl
theorem agSp : tAgg Tryz.prog 94 = some true := by kernel_rfl
theorem atSp {g : Grow} {kk : IntKind} {l : List Sp} {i : Nat} (hi : i < l.length) : evIndexAddr Tryz.prog 22 (.lst g 2 (rowsSp l)) (.v (.int kk (i : Int))) = some (.eptr (l.getD i sp0).row) := at_list elSp naSp szSp (rowsSp_get hi)
theorem mapSp {x : Sp} : List.map argCell x.row = x.row := rfl
theorem cellsSp {x : Sp} : cellsOf (.agg x.row) = some x.row := rfl
theorem newSp {m : Mem} {x : Sp} : newVar m m.vars.length x.row = some (m.push x.row) := newVar_push rfl
theorem ldSp {m : Mem} {x : Sp} : evLoad Tryz.prog m 94 (.eptr x.row) = some (.agg x.row) := by kernel_rfl
theorem vrSp {m : Mem} {r : Nat} {x : Sp} (hv : m.var r = some x.row) : evLoad Tryz.prog m 94 (.ptr r 0) = some (.agg x.row) := load_sub (off := 0) hv szSp agSp (Nat.le_of_ble_eq_true rfl) rfl
def zeroSp : List AV := [.v (.int .i64 0), .v (.int .i64 0)]
theorem zrSp : zeroCells Tryz.prog 94 = some zeroSp := by kernel_rfl
theorem zoSp : zeroSp.all okCell = true := rfl
theorem znSp {m : Mem} : newVar m m.vars.length zeroSp = some (m.push zeroSp) := newVar_push rfl
theorem mzSp : List.map argCell zeroSp = sp0.row := rfl
theorem mk0Sp : evBuild Tryz.prog 94 [] = some (.agg zeroSp) := by kernel_rfl
theorem feSpFrom_ {x : Sp} : evFieldAddr Tryz.prog 94 (.eptr x.row) 0 = some (.eptr x.row) := by kernel_rfl
theorem leSpFrom_ {m : Mem} {x : Sp} : evLoad Tryz.prog m 3 (.eptr x.row) = some (iv x.from_) := by kernel_rfl
theorem fpSpFrom_ {r : Nat} : evFieldAddr Tryz.prog 94 (.ptr r 0) 0 = some (.ptr r 0) := by kernel_rfl
theorem lpSpFrom_ {m : Mem} {r : Nat} {x : Sp} (hv : m.var r = some x.row) : evLoad Tryz.prog m 3 (.ptr r 0) = some (iv x.from_) := load_cell (k := 1) hv (by kernel_rfl) (by kernel_rfl) rfl
theorem feSpTo_ {x : Sp} : evFieldAddr Tryz.prog 94 (.eptr x.row) 1 = some (.eptr (x.row.drop 1)) := by kernel_rfl
theorem leSpTo_ {m : Mem} {x : Sp} : evLoad Tryz.prog m 3 (.eptr (x.row.drop 1)) = some (iv x.to_) := by kernel_rfl
theorem fpSpTo_ {r : Nat} : evFieldAddr Tryz.prog 94 (.ptr r 0) 1 = some (.ptr r 1) := by kernel_rfl
theorem lpSpTo_ {m : Mem} {r : Nat} {x : Sp} (hv : m.var r = some x.row) : evLoad Tryz.prog m 3 (.ptr r 1) = some (iv x.to_) := load_cell (k := 1) hv (by kernel_rfl) (by kernel_rfl) rfl
/-! ### api.Curve -/
structure Cv where
 kind : Int
 a : Int
 b : Int
 k : Int
def cv0 : Cv := ⟨0, 0, 0, 0⟩
def Cv.row (x : Cv) : List AV := [iv x.kind, iv x.a, iv x.b, iv x.k]
def unCv : List AV → Option Cv
 | [.v (.int .i64 c0), .v (.int .i64 c1), .v (.int .i64 c2), .v (.int .i64 c3)] => some ⟨c0, c1, c2, c3⟩
 | _ => none
theorem unCv_some {cs : List AV} {x : Cv} (h : unCv cs = some x) : cs = x.row := by
 unfold unCv at h
 split at h
 ·cases h; rfl
 ·cases h
theorem unCv_row (x : Cv) : unCv x.row = some x := by
 rfl
theorem szCv : tSize Tryz.prog 71 = some 4 := by kernel_rfl
theorem agCv : tAgg Tryz.prog 71 = some true := by kernel_rfl
theorem mapCv {x : Cv} : List.map argCell x.row = x.row := rfl
theorem cellsCv {x : Cv} : cellsOf (.agg x.row) = some x.row := rfl
theorem newCv {m : Mem} {x : Cv} : newVar m m.vars.length x.row = some (m.push x.row) := newVar_push rfl
theorem vrCv {m : Mem} {r : Nat} {x : Cv} (hv : m.var r = some x.row) : evLoad Tryz.prog m 71 (.ptr r 0) = some (.agg x.row) := load_sub (off := 0) hv szCv agCv (Nat.le_of_ble_eq_true rfl) rfl
theorem fpCvKind {r : Nat} : evFieldAddr Tryz.prog 71 (.ptr r 0) 0 = some (.ptr r 0) := by kernel_rfl
theorem lpCvKind {m : Mem} {r : Nat} {x : Cv} (hv : m.var r = some x.row) : evLoad Tryz.prog m 3 (.ptr r 0) = some (iv x.kind) := load_cell (k := 1) hv (by kernel_rfl) (by kernel_rfl) rfl
theorem fpCvA {r : Nat} : evFieldAddr Tryz.prog 71 (.ptr r 0) 1 = some (.ptr r 1) := by kernel_rfl
theorem lpCvA {m : Mem} {r : Nat} {x : Cv} (hv : m.var r = some x.row) : evLoad Tryz.prog m 3 (.ptr r 1) = some (iv x.a) := load_cell (k := 1) hv (by kernel_rfl) (by kernel_rfl) rfl
theorem fpCvB {r : Nat} : evFieldAddr Tryz.prog 71 (.ptr r 0) 2 = some (.ptr r 2) := by kernel_rfl
theorem lpCvB {m : Mem} {r : Nat} {x : Cv} (hv : m.var r = some x.row) : evLoad Tryz.prog m 3 (.ptr r 2) = some (iv x.b) := load_cell (k := 1) hv (by kernel_rfl) (by kernel_rfl) rfl
theorem fpCvK {r : Nat} : evFieldAddr Tryz.prog 71 (.ptr r 0) 3 = some (.ptr r 3) := by kernel_rfl
theorem lpCvK {m : Mem} {r : Nat} {x : Cv} (hv : m.var r = some x.row) : evLoad Tryz.prog m 3 (.ptr r 3) = some (iv x.k) := load_cell (k := 1) hv (by kernel_rfl) (by kernel_rfl) rfl
/-! ### api.Seg -/
structure Sg where
 from_ : Int
 to_ : Int
 begin_ : Int
 n : Int
 curve : Cv
 first : Int
 times : Int
def sg0 : Sg := ⟨0, 0, 0, 0, cv0, 0, 0⟩
def Sg.row (x : Sg) : List AV := [iv x.from_, iv x.to_, iv x.begin_, iv x.n, iv x.curve.kind, iv x.curve.a, iv x.curve.b, iv x.curve.k, iv x.first, iv x.times]
def unSg : List AV → Option Sg
 | [.v (.int .i64 c0), .v (.int .i64 c1), .v (.int .i64 c2), .v (.int .i64 c3), .v (.int .i64 c4), .v (.int .i64 c5), .v (.int .i64 c6), .v (.int .i64 c7), .v (.int .i64 c8), .v (.int .i64 c9)] => some ⟨c0, c1, c2, c3, ⟨c4, c5, c6, c7⟩, c8, c9⟩
 | _ => none
theorem unSg_some {cs : List AV} {x : Sg} (h : unSg cs = some x) : cs = x.row := by
 unfold unSg at h
 split at h
 ·cases h; rfl
 ·cases h
theorem unSg_row (x : Sg) : unSg x.row = some x := by
 rfl
def rowsSg (l : List Sg) : List (List AV) := l.map Sg.row
theorem rowsSg_len (l : List Sg) : (rowsSg l).length = l.length := List.length_map ..
theorem rowsSg_get {l : List Sg} {i : Nat} (hi : i < l.length) : (rowsSg l)[i]? = some (l.getD i sg0).row := by
 simp [rowsSg, List.getD, List.getElem?_eq_getElem hi]
def unsSg : List (List AV) → Option (List Sg)
 | [] => some []
 | row :: r =>
  match unSg row, unsSg r with
  | some x, some l => some (x :: l)
  | _, _ => none
theorem unsSg_some : ∀ {rs : List (List AV)} {l : List Sg}, unsSg rs = some l → rs = rowsSg l
 | [], l, h => by simp only [unsSg, Option.some.injEq] at h; subst h; rfl
 | row :: r, l, h => by
  unfold unsSg at h
  split at h
  ·rename_i x l' h1 h2
   cases h
   rw [unSg_some h1, unsSg_some h2]
   rfl
  ·cases h
theorem unsSg_rowsSg : ∀ (l : List Sg), unsSg (rowsSg l) = some l
 | [] => rfl
 | x :: l => by
  have e : rowsSg (x :: l) = x.row :: rowsSg l := rfl
  rw [e, unsSg, unSg_row, unsSg_rowsSg l]
theorem elSg : tElem Tryz.prog 66 = some 73 := by simp only [tElem, Tryz.underlying66]
theorem naSg : tArr Tryz.prog 66 = none := by simp only [tArr, Tryz.underlying66]
theorem appSg : appB Tryz.prog 66 66 10 = true := by kernel_rfl
theorem mk1Sg {x : Sg} : evBuildSlice Tryz.prog 66 1 [(0, .agg x.row)] = some (.lst .full 10 (rowsSg [x])) := build_one appSg (by decide) rfl rfl
theorem szSg : tSize Tryz.prog 73 = some 10 := by kernel_rfl
theorem agSg : tAgg Tryz.prog 73 = some true := by kernel_rfl
theorem atSg {g : Grow} {kk : IntKind} {l : List Sg} {i : Nat} (hi : i < l.length) : evIndexAddr Tryz.prog 66 (.lst g 10 (rowsSg l)) (.v (.int kk (i : Int))) = some (.eptr (l.getD i sg0).row) := at_list elSg naSg szSg (rowsSg_get hi)
theorem mapSg {x : Sg} : List.map argCell x.row = x.row := rfl
theorem cellsSg {x : Sg} : cellsOf (.agg x.row) = some x.row := rfl
theorem newSg {m : Mem} {x : Sg} : newVar m m.vars.length x.row = some (m.push x.row) := newVar_push rfl
theorem ldSg {m : Mem} {x : Sg} : evLoad Tryz.prog m 73 (.eptr x.row) = some (.agg x.row) := by kernel_rfl
theorem vrSg {m : Mem} {r : Nat} {x : Sg} (hv : m.var r = some x.row) : evLoad Tryz.prog m 73 (.ptr r 0) = some (.agg x.row) := load_sub (off := 0) hv szSg agSg (Nat.le_of_ble_eq_true rfl) rfl
def zeroSg : List AV := [.v (.int .i64 0), .v (.int .i64 0), .v (.int .i64 0), .v (.int .i64 0), .v (.int .i64 0), .v (.int .i64 0), .v (.int .i64 0), .v (.int .i64 0), .v (.int .i64 0), .v (.int .i64 0)]
theorem zrSg : zeroCells Tryz.prog 73 = some zeroSg := by kernel_rfl
theorem zoSg : zeroSg.all okCell = true := rfl
theorem znSg {m : Mem} : newVar m m.vars.length zeroSg = some (m.push zeroSg) := newVar_push rfl
theorem feSgFrom_ {x : Sg} : evFieldAddr Tryz.prog 73 (.eptr x.row) 0 = some (.eptr x.row) := by kernel_rfl
theorem leSgFrom_ {m : Mem} {x : Sg} : evLoad Tryz.prog m 3 (.eptr x.row) = some (iv x.from_) := by kernel_rfl
theorem fpSgFrom_ {r : Nat} : evFieldAddr Tryz.prog 73 (.ptr r 0) 0 = some (.ptr r 0) := by kernel_rfl
theorem lpSgFrom_ {m : Mem} {r : Nat} {x : Sg} (hv : m.var r = some x.row) : evLoad Tryz.prog m 3 (.ptr r 0) = some (iv x.from_) := load_cell (k := 1) hv (by kernel_rfl) (by kernel_rfl) rfl
theorem feSgTo_ {x : Sg} : evFieldAddr Tryz.prog 73 (.eptr x.row) 1 = some (.eptr (x.row.drop 1)) := by kernel_rfl
theorem leSgTo_ {m : Mem} {x : Sg} : evLoad Tryz.prog m 3 (.eptr (x.row.drop 1)) = some (iv x.to_) := by kernel_rfl
theorem fpSgTo_ {r : Nat} : evFieldAddr Tryz.prog 73 (.ptr r 0) 1 = some (.ptr r 1) := by kernel_rfl
theorem lpSgTo_ {m : Mem} {r : Nat} {x : Sg} (hv : m.var r = some x.row) : evLoad Tryz.prog m 3 (.ptr r 1) = some (iv x.to_) := load_cell (k := 1) hv (by kernel_rfl) (by kernel_rfl) rfl
theorem fpSgBegin_ {r : Nat} : evFieldAddr Tryz.prog 73 (.ptr r 0) 2 = some (.ptr r 2) := by kernel_rfl
theorem lpSgBegin_ {m : Mem} {r : Nat} {x : Sg} (hv : m.var r = some x.row) : evLoad Tryz.prog m 3 (.ptr r 2) = some (iv x.begin_) := load_cell (k := 1) hv (by kernel_rfl) (by kernel_rfl) rfl
theorem fpSgN {r : Nat} : evFieldAddr Tryz.prog 73 (.ptr r 0) 3 = some (.ptr r 3) := by kernel_rfl
theorem lpSgN {m : Mem} {r : Nat} {x : Sg} (hv : m.var r = some x.row) : evLoad Tryz.prog m 3 (.ptr r 3) = some (iv x.n) := load_cell (k := 1) hv (by kernel_rfl) (by kernel_rfl) rfl
theorem fpSgCurve {r : Nat} : evFieldAddr Tryz.prog 73 (.ptr r 0) 4 = some (.ptr r 4) := by kernel_rfl
theorem lpSgCurve {m : Mem} {r : Nat} {x : Sg} (hv : m.var r = some x.row) : evLoad Tryz.prog m 71 (.ptr r 4) = some (.agg x.curve.row) := load_sub hv (k := 4) (by kernel_rfl) (by kernel_rfl) (Nat.le_of_ble_eq_true rfl) rfl
theorem fpSgFirst {r : Nat} : evFieldAddr Tryz.prog 73 (.ptr r 0) 5 = some (.ptr r 8) := by kernel_rfl
theorem lpSgFirst {m : Mem} {r : Nat} {x : Sg} (hv : m.var r = some x.row) : evLoad Tryz.prog m 3 (.ptr r 8) = some (iv x.first) := load_cell (k := 1) hv (by kernel_rfl) (by kernel_rfl) rfl
theorem fpSgTimes {r : Nat} : evFieldAddr Tryz.prog 73 (.ptr r 0) 6 = some (.ptr r 9) := by kernel_rfl
theorem lpSgTimes {m : Mem} {r : Nat} {x : Sg} (hv : m.var r = some x.row) : evLoad Tryz.prog m 3 (.ptr r 9) = some (iv x.times) := load_cell (k := 1) hv (by kernel_rfl) (by kernel_rfl) rfl
/-! ### api.Track -/
structure Tk where
 group : Int
 param : Int
 segs : List Sg
def tk0 : Tk := ⟨0, 0, []⟩
def Tk.row (x : Tk) : List AV := [iv x.group, iv x.param, .lst .no 10 (rowsSg x.segs)]
def unTk : List AV → Option Tk
 | [.v (.int .i64 c0), .v (.int .i64 c1), .lst .no 10 c2] =>
  match unsSg c2 with
  | some l2 => some ⟨c0, c1, l2⟩
  | _ => none
 | _ => none
theorem unTk_some {cs : List AV} {x : Tk} (h : unTk cs = some x) : cs = x.row := by
 unfold unTk at h
 split at h
 ·split at h
  ·rename_i h2
   cases h
   obtain rfl := unsSg_some h2
   rfl
  ·cases h
 ·cases h
theorem unTk_row (x : Tk) : unTk x.row = some x := by
 simp only [unTk, Tk.row, iv, unsSg_rowsSg]
def rowsTk (l : List Tk) : List (List AV) := l.map Tk.row
theorem rowsTk_len (l : List Tk) : (rowsTk l).length = l.length := List.length_map ..
theorem rowsTk_get {l : List Tk} {i : Nat} (hi : i < l.length) : (rowsTk l)[i]? = some (l.getD i tk0).row := by
 simp [rowsTk, List.getD, List.getElem?_eq_getElem hi]
def unsTk : List (List AV) → Option (List Tk)
 | [] => some []
 | row :: r =>
  match unTk row, unsTk r with
  | some x, some l => some (x :: l)
  | _, _ => none
theorem unsTk_some : ∀ {rs : List (List AV)} {l : List Tk}, unsTk rs = some l → rs = rowsTk l
 | [], l, h => by simp only [unsTk, Option.some.injEq] at h; subst h; rfl
 | row :: r, l, h => by
  unfold unsTk at h
  split at h
  ·rename_i x l' h1 h2
   cases h
   rw [unTk_some h1, unsTk_some h2]
   rfl
  ·cases h
theorem unsTk_rowsTk : ∀ (l : List Tk), unsTk (rowsTk l) = some l
 | [] => rfl
 | x :: l => by
  have e : rowsTk (x :: l) = x.row :: rowsTk l := rfl
  rw [e, unsTk, unTk_row, unsTk_rowsTk l]
theorem elTk : tElem Tryz.prog 24 = some 68 := by simp only [tElem, Tryz.underlying24]
theorem naTk : tArr Tryz.prog 24 = none := by simp only [tArr, Tryz.underlying24]
theorem szTk : tSize Tryz.prog 68 = some 3 := by kernel_rfl
theorem atTk {g : Grow} {kk : IntKind} {l : List Tk} {i : Nat} (hi : i < l.length) : evIndexAddr Tryz.prog 24 (.lst g 3 (rowsTk l)) (.v (.int kk (i : Int))) = some (.eptr (l.getD i tk0).row) := at_list elTk naTk szTk (rowsTk_get hi)
theorem ldTk {m : Mem} {x : Tk} : evLoad Tryz.prog m 68 (.eptr x.row) = some (.agg x.row) := by kernel_rfl
def zeroTk : List AV := [.v (.int .i64 0), .v (.int .i64 0), .lst .full 10 []]
theorem zrTk : zeroCells Tryz.prog 68 = some zeroTk := by kernel_rfl
theorem zoTk : zeroTk.all okCell = true := rfl
theorem znTk {m : Mem} : newVar m m.vars.length zeroTk = some (m.push zeroTk) := newVar_push rfl
theorem fpTkGroup {r : Nat} : evFieldAddr Tryz.prog 68 (.ptr r 0) 0 = some (.ptr r 0) := by kernel_rfl
theorem lpTkGroup {m : Mem} {r : Nat} {x : Tk} (hv : m.var r = some x.row) : evLoad Tryz.prog m 3 (.ptr r 0) = some (iv x.group) := load_cell (k := 1) hv (by kernel_rfl) (by kernel_rfl) rfl
theorem fpTkParam {r : Nat} : evFieldAddr Tryz.prog 68 (.ptr r 0) 1 = some (.ptr r 1) := by kernel_rfl
theorem lpTkParam {m : Mem} {r : Nat} {x : Tk} (hv : m.var r = some x.row) : evLoad Tryz.prog m 3 (.ptr r 1) = some (iv x.param) := load_cell (k := 1) hv (by kernel_rfl) (by kernel_rfl) rfl
theorem feTkSegs {x : Tk} : evFieldAddr Tryz.prog 68 (.eptr x.row) 2 = some (.eptr (x.row.drop 2)) := by kernel_rfl
theorem leTkSegs {m : Mem} {x : Tk} : evLoad Tryz.prog m 66 (.eptr (x.row.drop 2)) = some (.lst .no 10 (rowsSg x.segs)) := by kernel_rfl
theorem fpTkSegs {r : Nat} : evFieldAddr Tryz.prog 68 (.ptr r 0) 2 = some (.ptr r 2) := by kernel_rfl
theorem lpTkSegs {m : Mem} {r : Nat} {x : Tk} (hv : m.var r = some x.row) : evLoad Tryz.prog m 66 (.ptr r 2) = some (.lst .no 10 (rowsSg x.segs)) := load_cell (k := 1) hv (by kernel_rfl) (by kernel_rfl) rfl
/-! ### api.Plan -/
structure Pn where
 steps : Int
 weights : Int
 metrics : Int
 groups : Int
 eval : Int
 spans : List Sp
 frozen : List (List Bool)
 tracks : List Tk
 stop : Tp
 plateau : Pt
 keep : Kp
 ema : Em
 stopAt : Int
 cutAt : Int
 keepAt : Int
 swaFrom : Int
 swaEvery : Int
def Pn.row (x : Pn) : List AV := [iv x.steps, iv x.weights, iv x.metrics, iv x.groups, iv x.eval, .lst .no 2 (rowsSp x.spans), .lst .no 1 (rowsBs x.frozen), .lst .no 3 (rowsTk x.tracks), .v (.bool x.stop.On), .v (.string x.stop.Metric), .v (.bool x.stop.Max), iv x.stop.Patience, iv x.stop.Delta, .v (.bool x.stop.Rel), .v (.bool x.plateau.On), .v (.string x.plateau.Metric), .v (.bool x.plateau.Max), iv x.plateau.Factor, iv x.plateau.Patience, iv x.plateau.Cooldown, iv x.plateau.Floor, iv x.plateau.Delta, .v (.bool x.keep.On), .v (.string x.keep.Metric), .v (.bool x.keep.Max), iv x.keep.Count, .v (.bool x.ema.On), iv x.ema.Decay, iv x.stopAt, iv x.cutAt, iv x.keepAt, iv x.swaFrom, iv x.swaEvery]
def unPn : List AV → Option Pn
 | .v (.int .i64 c0) :: .v (.int .i64 c1) :: .v (.int .i64 c2) :: .v (.int .i64 c3) :: .v (.int .i64 c4) :: .lst .no 2 c5 :: .lst .no 1 c6 :: .lst .no 3 c7 :: .v (.bool c8) :: .v (.string c9) :: .v (.bool c10) :: .v (.int .i64 c11) :: .v (.int .i64 c12) :: .v (.bool c13) :: .v (.bool c14) :: .v (.string c15) :: .v (.bool c16) :: .v (.int .i64 c17) :: .v (.int .i64 c18) :: .v (.int .i64 c19) :: .v (.int .i64 c20) :: .v (.int .i64 c21) :: .v (.bool c22) :: .v (.string c23) :: .v (.bool c24) :: .v (.int .i64 c25) :: .v (.bool c26) :: .v (.int .i64 c27) :: .v (.int .i64 c28) :: .v (.int .i64 c29) :: .v (.int .i64 c30) :: .v (.int .i64 c31) :: .v (.int .i64 c32) :: [] =>
  match unsSp c5, unBs c6, unsTk c7 with
  | some l5, some l6, some l7 => some ⟨c0, c1, c2, c3, c4, l5, l6, l7, ⟨c8, c9, c10, c11, c12, c13⟩, ⟨c14, c15, c16, c17, c18, c19, c20, c21⟩, ⟨c22, c23, c24, c25⟩, ⟨c26, c27⟩, c28, c29, c30, c31, c32⟩
  | _, _, _ => none
 | _ => none
theorem unPn_some {cs : List AV} {x : Pn} (h : unPn cs = some x) : cs = x.row := by
 unfold unPn at h
 split at h
 ·split at h
  ·rename_i h5 h6 h7
   cases h
   obtain rfl := unsSp_some h5
   obtain rfl := unBs_some h6
   obtain rfl := unsTk_some h7
   rfl
  ·cases h
 ·cases h
theorem unPn_row (x : Pn) : unPn x.row = some x := by
 simp only [unPn, Pn.row, iv, unsSp_rowsSp, unsTk_rowsTk, unBs_rowsBs]
theorem szPn : tSize Tryz.prog 34 = some 33 := by kernel_rfl
theorem agPn : tAgg Tryz.prog 34 = some true := by kernel_rfl
theorem mapPn {x : Pn} : List.map argCell x.row = x.row := rfl
theorem cellsPn {x : Pn} : cellsOf (.agg x.row) = some x.row := rfl
theorem newPn {m : Mem} {x : Pn} : newVar m m.vars.length x.row = some (m.push x.row) := newVar_push rfl
theorem vrPn {m : Mem} {r : Nat} {x : Pn} (hv : m.var r = some x.row) : evLoad Tryz.prog m 34 (.ptr r 0) = some (.agg x.row) := load_sub (off := 0) hv szPn agPn (Nat.le_of_ble_eq_true rfl) rfl
def zeroPn : List AV := [.v (.int .i64 0), .v (.int .i64 0), .v (.int .i64 0), .v (.int .i64 0), .v (.int .i64 0), .lst .full 2 [], .lst .full 1 [], .lst .full 3 [], .v (.bool false), .v (.string ⟨#[]⟩), .v (.bool false), .v (.int .i64 0), .v (.int .i64 0), .v (.bool false), .v (.bool false), .v (.string ⟨#[]⟩), .v (.bool false), .v (.int .i64 0), .v (.int .i64 0), .v (.int .i64 0), .v (.int .i64 0), .v (.int .i64 0), .v (.bool false), .v (.string ⟨#[]⟩), .v (.bool false), .v (.int .i64 0), .v (.bool false), .v (.int .i64 0), .v (.int .i64 0), .v (.int .i64 0), .v (.int .i64 0), .v (.int .i64 0), .v (.int .i64 0)]
theorem zrPn : zeroCells Tryz.prog 34 = some zeroPn := by kernel_rfl
theorem zoPn : zeroPn.all okCell = true := rfl
theorem znPn {m : Mem} : newVar m m.vars.length zeroPn = some (m.push zeroPn) := newVar_push rfl
theorem fpPnSteps {r : Nat} : evFieldAddr Tryz.prog 34 (.ptr r 0) 0 = some (.ptr r 0) := by kernel_rfl
theorem lpPnSteps {m : Mem} {r : Nat} {x : Pn} (hv : m.var r = some x.row) : evLoad Tryz.prog m 3 (.ptr r 0) = some (iv x.steps) := load_cell (k := 1) hv (by kernel_rfl) (by kernel_rfl) rfl
theorem fpPnWeights {r : Nat} : evFieldAddr Tryz.prog 34 (.ptr r 0) 1 = some (.ptr r 1) := by kernel_rfl
theorem lpPnWeights {m : Mem} {r : Nat} {x : Pn} (hv : m.var r = some x.row) : evLoad Tryz.prog m 3 (.ptr r 1) = some (iv x.weights) := load_cell (k := 1) hv (by kernel_rfl) (by kernel_rfl) rfl
theorem fpPnMetrics {r : Nat} : evFieldAddr Tryz.prog 34 (.ptr r 0) 2 = some (.ptr r 2) := by kernel_rfl
theorem lpPnMetrics {m : Mem} {r : Nat} {x : Pn} (hv : m.var r = some x.row) : evLoad Tryz.prog m 3 (.ptr r 2) = some (iv x.metrics) := load_cell (k := 1) hv (by kernel_rfl) (by kernel_rfl) rfl
theorem fpPnGroups {r : Nat} : evFieldAddr Tryz.prog 34 (.ptr r 0) 3 = some (.ptr r 3) := by kernel_rfl
theorem lpPnGroups {m : Mem} {r : Nat} {x : Pn} (hv : m.var r = some x.row) : evLoad Tryz.prog m 3 (.ptr r 3) = some (iv x.groups) := load_cell (k := 1) hv (by kernel_rfl) (by kernel_rfl) rfl
theorem fpPnEval {r : Nat} : evFieldAddr Tryz.prog 34 (.ptr r 0) 4 = some (.ptr r 4) := by kernel_rfl
theorem lpPnEval {m : Mem} {r : Nat} {x : Pn} (hv : m.var r = some x.row) : evLoad Tryz.prog m 3 (.ptr r 4) = some (iv x.eval) := load_cell (k := 1) hv (by kernel_rfl) (by kernel_rfl) rfl
theorem fpPnSpans {r : Nat} : evFieldAddr Tryz.prog 34 (.ptr r 0) 5 = some (.ptr r 5) := by kernel_rfl
theorem lpPnSpans {m : Mem} {r : Nat} {x : Pn} (hv : m.var r = some x.row) : evLoad Tryz.prog m 22 (.ptr r 5) = some (.lst .no 2 (rowsSp x.spans)) := load_cell (k := 1) hv (by kernel_rfl) (by kernel_rfl) rfl
theorem fpPnFrozen {r : Nat} : evFieldAddr Tryz.prog 34 (.ptr r 0) 6 = some (.ptr r 6) := by kernel_rfl
theorem lpPnFrozen {m : Mem} {r : Nat} {x : Pn} (hv : m.var r = some x.row) : evLoad Tryz.prog m 23 (.ptr r 6) = some (.lst .no 1 (rowsBs x.frozen)) := load_cell (k := 1) hv (by kernel_rfl) (by kernel_rfl) rfl
theorem fpPnTracks {r : Nat} : evFieldAddr Tryz.prog 34 (.ptr r 0) 7 = some (.ptr r 7) := by kernel_rfl
theorem lpPnTracks {m : Mem} {r : Nat} {x : Pn} (hv : m.var r = some x.row) : evLoad Tryz.prog m 24 (.ptr r 7) = some (.lst .no 3 (rowsTk x.tracks)) := load_cell (k := 1) hv (by kernel_rfl) (by kernel_rfl) rfl
theorem fpPnStop {r : Nat} : evFieldAddr Tryz.prog 34 (.ptr r 0) 8 = some (.ptr r 8) := by kernel_rfl
theorem lpPnStop {m : Mem} {r : Nat} {x : Pn} (hv : m.var r = some x.row) : evLoad Tryz.prog m 26 (.ptr r 8) = some (.agg x.stop.row) := load_sub hv (k := 6) (by kernel_rfl) (by kernel_rfl) (Nat.le_of_ble_eq_true rfl) rfl
theorem fpPnStopOn {r : Nat} : evFieldAddr Tryz.prog 26 (.ptr r 8) 0 = some (.ptr r 8) := by kernel_rfl
theorem lpPnStopOn {m : Mem} {r : Nat} {x : Pn} (hv : m.var r = some x.row) : evLoad Tryz.prog m 4 (.ptr r 8) = some (.v (.bool x.stop.On)) := load_cell (k := 1) hv (by kernel_rfl) (by kernel_rfl) rfl
theorem fpPnStopMetric {r : Nat} : evFieldAddr Tryz.prog 26 (.ptr r 8) 1 = some (.ptr r 9) := by kernel_rfl
theorem lpPnStopMetric {m : Mem} {r : Nat} {x : Pn} (hv : m.var r = some x.row) : evLoad Tryz.prog m 9 (.ptr r 9) = some (.v (.string x.stop.Metric)) := load_cell (k := 1) hv (by kernel_rfl) (by kernel_rfl) rfl
theorem fpPnStopPatience {r : Nat} : evFieldAddr Tryz.prog 26 (.ptr r 8) 3 = some (.ptr r 11) := by kernel_rfl
theorem lpPnStopPatience {m : Mem} {r : Nat} {x : Pn} (hv : m.var r = some x.row) : evLoad Tryz.prog m 3 (.ptr r 11) = some (iv x.stop.Patience) := load_cell (k := 1) hv (by kernel_rfl) (by kernel_rfl) rfl
theorem fpPnStopDelta {r : Nat} : evFieldAddr Tryz.prog 26 (.ptr r 8) 4 = some (.ptr r 12) := by kernel_rfl
theorem lpPnStopDelta {m : Mem} {r : Nat} {x : Pn} (hv : m.var r = some x.row) : evLoad Tryz.prog m 3 (.ptr r 12) = some (iv x.stop.Delta) := load_cell (k := 1) hv (by kernel_rfl) (by kernel_rfl) rfl
theorem fpPnPlateau {r : Nat} : evFieldAddr Tryz.prog 34 (.ptr r 0) 9 = some (.ptr r 14) := by kernel_rfl
theorem lpPnPlateau {m : Mem} {r : Nat} {x : Pn} (hv : m.var r = some x.row) : evLoad Tryz.prog m 28 (.ptr r 14) = some (.agg x.plateau.row) := load_sub hv (k := 8) (by kernel_rfl) (by kernel_rfl) (Nat.le_of_ble_eq_true rfl) rfl
theorem fpPnPlateauMetric {r : Nat} : evFieldAddr Tryz.prog 28 (.ptr r 14) 1 = some (.ptr r 15) := by kernel_rfl
theorem lpPnPlateauMetric {m : Mem} {r : Nat} {x : Pn} (hv : m.var r = some x.row) : evLoad Tryz.prog m 9 (.ptr r 15) = some (.v (.string x.plateau.Metric)) := load_cell (k := 1) hv (by kernel_rfl) (by kernel_rfl) rfl
theorem fpPnPlateauPatience {r : Nat} : evFieldAddr Tryz.prog 28 (.ptr r 14) 4 = some (.ptr r 18) := by kernel_rfl
theorem lpPnPlateauPatience {m : Mem} {r : Nat} {x : Pn} (hv : m.var r = some x.row) : evLoad Tryz.prog m 3 (.ptr r 18) = some (iv x.plateau.Patience) := load_cell (k := 1) hv (by kernel_rfl) (by kernel_rfl) rfl
theorem fpPnPlateauCooldown {r : Nat} : evFieldAddr Tryz.prog 28 (.ptr r 14) 5 = some (.ptr r 19) := by kernel_rfl
theorem lpPnPlateauCooldown {m : Mem} {r : Nat} {x : Pn} (hv : m.var r = some x.row) : evLoad Tryz.prog m 3 (.ptr r 19) = some (iv x.plateau.Cooldown) := load_cell (k := 1) hv (by kernel_rfl) (by kernel_rfl) rfl
theorem fpPnPlateauFloor {r : Nat} : evFieldAddr Tryz.prog 28 (.ptr r 14) 6 = some (.ptr r 20) := by kernel_rfl
theorem lpPnPlateauFloor {m : Mem} {r : Nat} {x : Pn} (hv : m.var r = some x.row) : evLoad Tryz.prog m 3 (.ptr r 20) = some (iv x.plateau.Floor) := load_cell (k := 1) hv (by kernel_rfl) (by kernel_rfl) rfl
theorem fpPnKeep {r : Nat} : evFieldAddr Tryz.prog 34 (.ptr r 0) 10 = some (.ptr r 22) := by kernel_rfl
theorem lpPnKeep {m : Mem} {r : Nat} {x : Pn} (hv : m.var r = some x.row) : evLoad Tryz.prog m 30 (.ptr r 22) = some (.agg x.keep.row) := load_sub hv (k := 4) (by kernel_rfl) (by kernel_rfl) (Nat.le_of_ble_eq_true rfl) rfl
theorem fpPnKeepOn {r : Nat} : evFieldAddr Tryz.prog 30 (.ptr r 22) 0 = some (.ptr r 22) := by kernel_rfl
theorem lpPnKeepOn {m : Mem} {r : Nat} {x : Pn} (hv : m.var r = some x.row) : evLoad Tryz.prog m 4 (.ptr r 22) = some (.v (.bool x.keep.On)) := load_cell (k := 1) hv (by kernel_rfl) (by kernel_rfl) rfl
theorem fpPnKeepMetric {r : Nat} : evFieldAddr Tryz.prog 30 (.ptr r 22) 1 = some (.ptr r 23) := by kernel_rfl
theorem lpPnKeepMetric {m : Mem} {r : Nat} {x : Pn} (hv : m.var r = some x.row) : evLoad Tryz.prog m 9 (.ptr r 23) = some (.v (.string x.keep.Metric)) := load_cell (k := 1) hv (by kernel_rfl) (by kernel_rfl) rfl
theorem fpPnKeepMax {r : Nat} : evFieldAddr Tryz.prog 30 (.ptr r 22) 2 = some (.ptr r 24) := by kernel_rfl
theorem lpPnKeepMax {m : Mem} {r : Nat} {x : Pn} (hv : m.var r = some x.row) : evLoad Tryz.prog m 4 (.ptr r 24) = some (.v (.bool x.keep.Max)) := load_cell (k := 1) hv (by kernel_rfl) (by kernel_rfl) rfl
theorem fpPnKeepCount {r : Nat} : evFieldAddr Tryz.prog 30 (.ptr r 22) 3 = some (.ptr r 25) := by kernel_rfl
theorem lpPnKeepCount {m : Mem} {r : Nat} {x : Pn} (hv : m.var r = some x.row) : evLoad Tryz.prog m 3 (.ptr r 25) = some (iv x.keep.Count) := load_cell (k := 1) hv (by kernel_rfl) (by kernel_rfl) rfl
theorem fpPnEma {r : Nat} : evFieldAddr Tryz.prog 34 (.ptr r 0) 11 = some (.ptr r 26) := by kernel_rfl
theorem lpPnEma {m : Mem} {r : Nat} {x : Pn} (hv : m.var r = some x.row) : evLoad Tryz.prog m 32 (.ptr r 26) = some (.agg x.ema.row) := load_sub hv (k := 2) (by kernel_rfl) (by kernel_rfl) (Nat.le_of_ble_eq_true rfl) rfl
theorem fpPnEmaOn {r : Nat} : evFieldAddr Tryz.prog 32 (.ptr r 26) 0 = some (.ptr r 26) := by kernel_rfl
theorem lpPnEmaOn {m : Mem} {r : Nat} {x : Pn} (hv : m.var r = some x.row) : evLoad Tryz.prog m 4 (.ptr r 26) = some (.v (.bool x.ema.On)) := load_cell (k := 1) hv (by kernel_rfl) (by kernel_rfl) rfl
theorem fpPnEmaDecay {r : Nat} : evFieldAddr Tryz.prog 32 (.ptr r 26) 1 = some (.ptr r 27) := by kernel_rfl
theorem lpPnEmaDecay {m : Mem} {r : Nat} {x : Pn} (hv : m.var r = some x.row) : evLoad Tryz.prog m 3 (.ptr r 27) = some (iv x.ema.Decay) := load_cell (k := 1) hv (by kernel_rfl) (by kernel_rfl) rfl
theorem fpPnStopAt {r : Nat} : evFieldAddr Tryz.prog 34 (.ptr r 0) 12 = some (.ptr r 28) := by kernel_rfl
theorem lpPnStopAt {m : Mem} {r : Nat} {x : Pn} (hv : m.var r = some x.row) : evLoad Tryz.prog m 3 (.ptr r 28) = some (iv x.stopAt) := load_cell (k := 1) hv (by kernel_rfl) (by kernel_rfl) rfl
theorem fpPnCutAt {r : Nat} : evFieldAddr Tryz.prog 34 (.ptr r 0) 13 = some (.ptr r 29) := by kernel_rfl
theorem lpPnCutAt {m : Mem} {r : Nat} {x : Pn} (hv : m.var r = some x.row) : evLoad Tryz.prog m 3 (.ptr r 29) = some (iv x.cutAt) := load_cell (k := 1) hv (by kernel_rfl) (by kernel_rfl) rfl
theorem fpPnKeepAt {r : Nat} : evFieldAddr Tryz.prog 34 (.ptr r 0) 14 = some (.ptr r 30) := by kernel_rfl
theorem lpPnKeepAt {m : Mem} {r : Nat} {x : Pn} (hv : m.var r = some x.row) : evLoad Tryz.prog m 3 (.ptr r 30) = some (iv x.keepAt) := load_cell (k := 1) hv (by kernel_rfl) (by kernel_rfl) rfl
theorem fpPnSwaFrom {r : Nat} : evFieldAddr Tryz.prog 34 (.ptr r 0) 15 = some (.ptr r 31) := by kernel_rfl
theorem lpPnSwaFrom {m : Mem} {r : Nat} {x : Pn} (hv : m.var r = some x.row) : evLoad Tryz.prog m 3 (.ptr r 31) = some (iv x.swaFrom) := load_cell (k := 1) hv (by kernel_rfl) (by kernel_rfl) rfl
theorem fpPnSwaEvery {r : Nat} : evFieldAddr Tryz.prog 34 (.ptr r 0) 16 = some (.ptr r 32) := by kernel_rfl
theorem lpPnSwaEvery {m : Mem} {r : Nat} {x : Pn} (hv : m.var r = some x.row) : evLoad Tryz.prog m 3 (.ptr r 32) = some (iv x.swaEvery) := load_cell (k := 1) hv (by kernel_rfl) (by kernel_rfl) rfl
end
end Go.Proofs.YtmockbddhhmmeaaGreat.Ev

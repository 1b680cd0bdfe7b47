/- Lists: appending, places, results; lists of bytes and of numbers. -/
import Derived.Test.YtojaokhkbmiidaaEv22
namespace Go.Proofs.Ytojaokhkbmiidaa.Ev
open Go
set_option linter.unusedVariables false
set_option linter.unusedSimpArgs false
section
variable {P : Program} {m : Mem}
/-- A memory with tokens more. -/
def Mem.tk (m : Mem) (l : List Nat) : Mem := { m with toks := m.toks ++ l }
theorem tk_nil : m.tk [] = m := by simp [Mem.tk]
theorem tk_tk {l l2 : List Nat} : (m.tk l).tk l2 = m.tk (l ++ l2) := by simp [Mem.tk]
theorem tk_len {l : List Nat} : (m.tk l).toks.length = m.toks.length + l.length := by simp [Mem.tk]
theorem fin_tk {l : List Nat} : finMem m (m.tk l) = m := by
  unfold finMem
  have h : (m.tk l).vars.take m.vars.length = m.vars := by simp [Mem.tk]
  rw [if_pos h]
  simp [Mem.tk]
/-- May one append to a slice of type t (k cells an element) a slice of type t2? -/
def appB (P : Program) (t t2 : TypeId) (k : Nat) : Bool :=
  match tElem P t with
  | some e =>
    match tSize P e, tBytes P e, zeroCells P e with
    | some k', some b, some z => decide (k' = k) && decide (b ≤ 4096) && decide (z.length = k) && decide (0 < k) && z.all okCell && (match tElem P t2 with | some e2 => e2 == e | none => false)
    | _, _, _ => false
  | none => false
theorem app_of {t t2 : TypeId} {k : Nat} (ha : appB P t t2 k = true) {x y : AV} {g g2 : Grow} {xs ys : List (List AV)} (hx : asList k x = some (g, xs)) (hy : asList k y = some (g2, ys)) (hl : xs.length + ys.length ≤ lim) :
    evAppend P t t2 m x y = match (generalizing := false) g with
      | .no => none
      | .here => none
      | .full => some (.lst (.tok m.toks.length 0) k (xs ++ ys), { m with toks := m.toks ++ [0] })
      | .tok id ver => if m.toks[id]? = some ver then some (.lst (.tok id (ver + 1)) k (xs ++ ys), { m with toks := m.toks.set id (ver + 1) }) else none := by
  unfold appB at ha
  unfold evAppend
  split at ha
  · rename_i e he
    split at ha
    · rename_i k' b z hk hb hz
      simp only [Bool.and_eq_true, decide_eq_true_eq] at ha
      obtain ⟨⟨⟨⟨⟨h1, h2⟩, h3⟩, h4⟩, h5⟩, h6⟩ := ha
      subst h1
      have h6' : tElem P t2 = some e := by
        split at h6
        · rename_i e2 he2; rw [he2]; simpa using h6
        · cases h6
      simp only [he, hk, hb, hz, hx, hy]
      rw [if_pos ⟨hl, h2, h3, h4, h5, h6'⟩]
      cases g <;> rfl
    · cases ha
  · cases ha
theorem asList_lst {k : Nat} {g : Grow} {rows : List (List AV)} : asList k (.lst g k rows) = some (g, rows) := if_pos rfl
theorem app_full {t t2 : TypeId} {k : Nat} (ha : appB P t t2 k = true) {y : AV} {g2 : Grow} {xs ys : List (List AV)} (hy : asList k y = some (g2, ys)) (hl : xs.length + ys.length ≤ lim) :
    evAppend P t t2 m (.lst .full k xs) y = some (.lst (.tok m.toks.length 0) k (xs ++ ys), m.tk [0]) := app_of ha asList_lst hy hl
/-- Among tokens of one's own. -/
theorem app_new {t t2 : TypeId} {k : Nat} (ha : appB P t t2 k = true) {y : AV} {g2 : Grow} {xs ys : List (List AV)} {l : List Nat} (hy : asList k y = some (g2, ys)) (hl : xs.length + ys.length ≤ lim) :
    evAppend P t t2 (m.tk l) (.lst .full k xs) y = some (.lst (.tok (m.toks.length + l.length) 0) k (xs ++ ys), m.tk (l ++ [0])) := by
  rw [app_full ha hy hl, tk_len, tk_tk]
theorem app_tok {t t2 : TypeId} {k : Nat} (ha : appB P t t2 k = true) {y : AV} {g2 : Grow} {xs ys : List (List AV)} {l : List Nat} {j v : Nat} (hv : l[j]? = some v) (hy : asList k y = some (g2, ys)) (hl : xs.length + ys.length ≤ lim) :
    evAppend P t t2 (m.tk l) (.lst (.tok (m.toks.length + j) v) k xs) y = some (.lst (.tok (m.toks.length + j) (v + 1)) k (xs ++ ys), m.tk (l.set j (v + 1))) := by
  rw [app_of ha asList_lst hy hl]
  have h : (m.tk l).toks[m.toks.length + j]? = some v := by
    show (m.toks ++ l)[m.toks.length + j]? = some v
    rw [List.getElem?_append_right (by omega), Nat.add_sub_cancel_left]
    exact hv
  have h2 : m.toks.length + j - m.toks.length = j := by omega
  simp only [h, if_true]
  simp [Mem.tk, List.set_append, h2]
/-- The one token. -/
theorem app_one {t t2 : TypeId} {k : Nat} (ha : appB P t t2 k = true) {y : AV} {g2 : Grow} {xs ys : List (List AV)} {v : Nat} (hy : asList k y = some (g2, ys)) (hl : xs.length + ys.length ≤ lim) :
    evAppend P t t2 (m.tk [v]) (.lst (.tok m.toks.length v) k xs) y = some (.lst (.tok m.toks.length (v + 1)) k (xs ++ ys), m.tk [v + 1]) := app_tok (j := 0) (l := [v]) ha rfl hy hl

/-- Lists written out. -/
theorem build_nil {t t2 : TypeId} {k : Nat} (ha : appB P t t2 k = true) : evBuildSlice P t 0 [] = some (.lst .full k []) := by
  unfold appB at ha
  unfold evBuildSlice
  split at ha
  · rename_i e he
    split at ha
    · rename_i k' b z hk hb hz
      simp only [Bool.and_eq_true, decide_eq_true_eq] at ha
      obtain ⟨⟨⟨⟨⟨h1, h2⟩, h3⟩, h4⟩, h5⟩, h6⟩ := ha
      subst h1
      simp [he, hk, hz, evRows, h3]
    · cases ha
  · cases ha
theorem build_one {t t2 : TypeId} {k : Nat} (ha : appB P t t2 k = true) (hk16 : k ≤ 16777216) {a : AV} {row : List AV} (hr : rowOf a = some row) (hl : row.length = k) : evBuildSlice P t 1 [(0, a)] = some (.lst .full k [row]) := by
  unfold appB at ha
  unfold evBuildSlice
  split at ha
  · rename_i e he
    split at ha
    · rename_i k' b z hk hb hz
      simp only [Bool.and_eq_true, decide_eq_true_eq] at ha
      obtain ⟨⟨⟨⟨⟨h1, h2⟩, h3⟩, h4⟩, h5⟩, h6⟩ := ha
      subst h1
      simp [he, hk, hz, evRows, h3, hr, hl, hk16]
    · cases ha
  · cases ha

/-! ### places -/
theorem at_list {t e : TypeId} {k : Nat} {kk : IntKind} {g : Grow} {rows : List (List AV)} {i : Nat} {row : List AV} (ht : tElem P t = some e) (hna : tArr P t = none) (hk : tSize P e = some k) (hi : rows[i]? = some row) :
    evIndexAddr P t (.lst g k rows) (.v (.int kk (i : Int))) = some (.eptr row) := by
  have hlt := (List.getElem?_eq_some_iff.1 hi).1
  unfold evIndexAddr
  simp only [hna, ht, hk]
  rw [if_pos ⟨trivial, by omega, by omega⟩, Int.toNat_natCast, hi]
  rfl
theorem load_one {t : TypeId} (ht : tAgg P t = some false) {k : Nat} (hk : tSize P t = some k) {c : AV} {cs : List AV} : evLoad P m t (.eptr (c :: cs)) = some c := by
  simp [evLoad, ptrCells, ht, hk]
theorem slice_from {t e : TypeId} {k : Nat} {kk : IntKind} {g : Grow} {rows : List (List AV)} {i : Nat} (ht : tElem P t = some e) (hk : tSize P e = some k) (hi : i ≤ rows.length) :
    evSlice P m t (.lst g k rows) (some (.v (.int kk (i : Int)))) none none = some (.lst .no k (rows.drop i)) := by
  unfold evSlice
  simp [ht, hk, evBound, hi]
theorem slice_to {t e : TypeId} {k : Nat} {kk : IntKind} {g : Grow} {rows : List (List AV)} {i : Nat} (ht : tElem P t = some e) (hk : tSize P e = some k) (hi : i ≤ rows.length) :
    evSlice P m t (.lst g k rows) none (some (.v (.int kk (i : Int)))) none = some (.lst .no k (rows.take i)) := by
  unfold evSlice
  simp [ht, hk, evBound, hi]

/-! ### lists of bytes and of numbers -/
def rowsB (l : List Nat) : List (List AV) := l.map fun (b : Nat) => [.v (.int .u8 (b : Int))]
def rowsI (l : List Int) : List (List AV) := l.map fun b => [.v (.int .i64 b)]
theorem rowsB_len (l : List Nat) : (rowsB l).length = l.length := List.length_map ..
theorem rowsI_len (l : List Int) : (rowsI l).length = l.length := List.length_map ..
theorem rowsB_app (l l2 : List Nat) : rowsB l ++ rowsB l2 = rowsB (l ++ l2) := List.map_append.symm
theorem rowsI_app (l l2 : List Int) : rowsI l ++ rowsI l2 = rowsI (l ++ l2) := List.map_append.symm
theorem rowsB_take (l : List Nat) (i : Nat) : (rowsB l).take i = rowsB (l.take i) := List.map_take.symm
theorem rowsB_drop (l : List Nat) (i : Nat) : (rowsB l).drop i = rowsB (l.drop i) := List.map_drop.symm
theorem rowsI_take (l : List Int) (i : Nat) : (rowsI l).take i = rowsI (l.take i) := List.map_take.symm
theorem rowsI_drop (l : List Int) (i : Nat) : (rowsI l).drop i = rowsI (l.drop i) := List.map_drop.symm
theorem rowsB_one (b : Nat) : rowsB [b] = [[.v (.int .u8 (b : Int))]] := rfl
theorem rowsI_one (b : Int) : rowsI [b] = [[.v (.int .i64 b)]] := rfl
theorem rowsB_get {l : List Nat} {i : Nat} (hi : i < l.length) : (rowsB l)[i]? = some [.v (.int .u8 ((l.getD i 0 : Nat) : Int))] := by
  simp [rowsB, List.getD, List.getElem?_eq_getElem hi]
theorem rowsI_get {l : List Int} {i : Nat} (hi : i < l.length) : (rowsI l)[i]? = some [.v (.int .i64 (l.getD i 0))] := by
  simp [rowsI, List.getD, List.getElem?_eq_getElem hi]
/-- Back again. -/
def unB : List (List AV) → Option (List Nat)
  | [] => some []
  | [.v (.int .u8 b)] :: r => if 0 ≤ b ∧ b < 256 then (unB r).map fun l => b.toNat :: l else none
  | _ => none
def unI : List (List AV) → Option (List Int)
  | [] => some []
  | [.v (.int .i64 b)] :: r => if -9223372036854775808 ≤ b ∧ b ≤ 9223372036854775807 then (unI r).map fun l => b :: l else none
  | _ => none
def OkB (l : List Nat) : Prop := ∀ b ∈ l, b < 256
def OkI (l : List Int) : Prop := ∀ b ∈ l, -9223372036854775808 ≤ b ∧ b ≤ 9223372036854775807
theorem unB_some : ∀ {rows : List (List AV)} {l : List Nat}, unB rows = some l → rows = rowsB l ∧ OkB l
  | [], l, h => by simp only [unB, Option.some.injEq] at h; subst h; exact ⟨rfl, fun b hb => by simp at hb⟩
  | row :: r, l, h => by
    unfold unB at h
    split at h
    · rename_i heq; cases heq
    · rename_i b r' heq
      cases heq
      split at h
      · rename_i hb
        cases hr : unB r with
        | none => simp [hr] at h
        | some l' =>
          simp only [hr, Option.map_some, Option.some.injEq] at h
          subst h
          obtain ⟨h1, h2⟩ := unB_some hr
          refine ⟨by simp [rowsB, h1]; omega, fun c hc => ?_⟩
          rcases List.mem_cons.1 hc with rfl | hc
          · omega
          · exact h2 c hc
      · cases h
    · cases h
theorem unI_some : ∀ {rows : List (List AV)} {l : List Int}, unI rows = some l → rows = rowsI l ∧ OkI l
  | [], l, h => by simp only [unI, Option.some.injEq] at h; subst h; exact ⟨rfl, fun b hb => by simp at hb⟩
  | row :: r, l, h => by
    unfold unI at h
    split at h
    · rename_i heq; cases heq
    · rename_i b r' heq
      cases heq
      split at h
      · rename_i hb
        cases hr : unI r with
        | none => simp [hr] at h
        | some l' =>
          simp only [hr, Option.map_some, Option.some.injEq] at h
          subst h
          obtain ⟨h1, h2⟩ := unI_some hr
          refine ⟨by simp [rowsI, h1], fun c hc => ?_⟩
          rcases List.mem_cons.1 hc with rfl | hc
          · exact hb
          · exact h2 c hc
      · cases h
    · cases h
theorem unB_rowsB : ∀ {l : List Nat}, OkB l → unB (rowsB l) = some l
  | [], _ => rfl
  | b :: l, h => by
    have hb := h b (List.mem_cons_self ..)
    have ih := unB_rowsB (l := l) fun c hc => h c (List.mem_cons_of_mem _ hc)
    have e : rowsB (b :: l) = [.v (.int .u8 (b : Int))] :: rowsB l := rfl
    rw [e, unB, if_pos ⟨by omega, by omega⟩, ih]
    simp
theorem unI_rowsI : ∀ {l : List Int}, OkI l → unI (rowsI l) = some l
  | [], _ => rfl
  | b :: l, h => by
    have hb := h b (List.mem_cons_self ..)
    have ih := unI_rowsI (l := l) fun c hc => h c (List.mem_cons_of_mem _ hc)
    have e : rowsI (b :: l) = [.v (.int .i64 b)] :: rowsI l := rfl
    rw [e, unI, if_pos hb, ih]
    rfl
theorem OkB.getD {l : List Nat} (h : OkB l) (i : Nat) : l.getD i 0 < 256 := by
  simp only [List.getD]
  cases hi : l[i]? with
  | none => decide
  | some b => exact h b (List.mem_of_getElem? hi)
theorem OkB.app {l l2 : List Nat} (h : OkB l) (h2 : OkB l2) : OkB (l ++ l2) := fun b hb => (List.mem_append.1 hb).elim (h b) (h2 b)
theorem OkB.take {l : List Nat} (h : OkB l) (i : Nat) : OkB (l.take i) := fun b hb => h b (List.mem_of_mem_take hb)
theorem OkB.drop {l : List Nat} (h : OkB l) (i : Nat) : OkB (l.drop i) := fun b hb => h b (List.mem_of_mem_drop hb)
theorem OkB.one {b : Nat} (h : b < 256) : OkB [b] := fun c hc => by simp at hc; omega
theorem OkB.nil : OkB [] := fun c hc => by simp at hc
theorem OkI.getD {l : List Int} (h : OkI l) (i : Nat) : -9223372036854775808 ≤ l.getD i 0 ∧ l.getD i 0 ≤ 9223372036854775807 := by
  simp only [List.getD]
  cases hi : l[i]? with
  | none => simp
  | some b => exact h b (List.mem_of_getElem? hi)
theorem OkI.app {l l2 : List Int} (h : OkI l) (h2 : OkI l2) : OkI (l ++ l2) := fun b hb => (List.mem_append.1 hb).elim (h b) (h2 b)
theorem OkI.nil : OkI [] := fun c hc => by simp at hc

/-! ### results -/
theorem leaves_lst {fn : Func} {t : Tmp} {g : Grow} {k : Nat} {rows : List (List AV)} {e : Env} {m' : Mem} (h : fn.results = #[.tmp t]) (hg : get e t = .lst g k rows) (hm : finMem m m' = m) :
    Leaves P false fn m (.lst .no k rows, m) .ret e m' := by
  show evRet P false fn m e m' = _
  unfold evRet
  rw [h]
  simp only [evResult, hg, Option.bind_some, growRes, resAV, resCell, Option.map_some, hm]
theorem leaves_two {fn : Func} {t u : Tmp} {x y : AV} {e : Env} {m' : Mem} (h : fn.results = #[.tmp t, .tmp u]) (hx : resAV m.vars.length m' (get e t) = some x) (hy : resAV m.vars.length m' (get e u) = some y) (hm : finMem m m' = m) :
    Leaves P false fn m (.tup [x, y], m) .ret e m' := by
  show evRet P false fn m e m' = _
  unfold evRet
  rw [h]
  simp [evResult, hx, hy, hm]
theorem leaves_grow {fn : Func} {t : Tmp} {k id ver : Nat} {rows : List (List AV)} {e : Env} {m' : Mem} (h : fn.results = #[.tmp t]) (hg : get e t = .lst (.tok id ver) k rows) (hm : finMem m m' = m) (hv : m'.toks[id]? = some ver) (hid : m.toks.length ≤ id) :
    Leaves P true fn m (.lst (.tok m.toks.length 0) k rows, m.tk [0]) .ret e m' := by
  show evRet P true fn m e m' = _
  unfold evRet
  rw [h]
  have hs : m.toks.set id (ver + 1) = m.toks := List.set_eq_of_length_le hid
  simp only [evResult, hg, Option.bind_some, growRes, hv, hid, and_self, if_true, hm, hs]
  rfl
theorem leaves_grow_full {fn : Func} {t : Tmp} {k : Nat} {rows : List (List AV)} {e : Env} {m' : Mem} (h : fn.results = #[.tmp t]) (hg : get e t = .lst .full k rows) (hm : finMem m m' = m) :
    Leaves P true fn m (.lst (.tok m.toks.length 0) k rows, m.tk [0]) .ret e m' := by
  show evRet P true fn m e m' = _
  unfold evRet
  rw [h]
  simp only [evResult, hg, Option.bind_some, growRes, hm]
  rfl

/-! ### a copy of a list, nil or not -/
def cloneNil (k : Nat) : List AV → Mem → Option (AV × Mem)
  | [.v (.slice none 0 0)], m => some (.lst (.tok m.toks.length 0) k [], m.tk [0])
  | _, _ => none
def cloneHere (k : Nat) : List AV → Mem → Option (AV × Mem)
  | [.lst .here sz rows], m => if sz = k ∧ rows.length ≤ lim then some (.lst (.tok m.toks.length 0) k rows, m.tk [0]) else none
  | _, _ => none
def cloneG (k : Nat) : List AV → Mem → Option (AV × Mem)
  | [.lst _ sz rows], m => if sz = k ∧ rows.length ≤ lim then some (.lst (.tok m.toks.length 0) k rows, m.tk [0]) else none
  | _, _ => none
theorem clone_ok {f : FuncId} {k : Nat} (hn : FunOk P f (cloneNil k)) (hh : FunOk P f (cloneHere k)) : FunOk P f (cloneG k) := by
  intro args m r m' h
  unfold cloneG at h
  split at h
  · rename_i g sz rows
    split at h
    · rename_i hc
      obtain ⟨rfl, hl⟩ := hc
      simp only [Option.some.injEq, Prod.mk.injEq] at h
      obtain ⟨rfl, rfl⟩ := h
      have h1 := hh [.lst .here sz rows] m _ _ (if_pos ⟨rfl, hl⟩)
      have h2 := hn [.v (.slice none 0 0)] m _ _ rfl
      refine ⟨h1.1, fun φ w vals hR hA => ?_⟩
      have hs : vals.size = 1 := hA.1
      obtain ⟨v, rfl⟩ : ∃ v, vals = #[v] := ⟨vals[0], by apply Array.ext <;> simp_all⟩
      have hv := hA.2 0 _ v rfl rfl
      cases hv with
      | lst _ _ _ a c val hcc hr ha hsp hcell hrep hg =>
        cases a with
        | none =>
          have hc0 := ha rfl
          have hr0 : rows = [] := List.eq_nil_of_length_eq_zero (by omega)
          subst hr0
          subst hc0
          refine h2.2 φ w _ hR ⟨rfl, fun i a u e1 e2 => ?_⟩
          cases i with
          | zero => simp at e1 e2; subst e1; subst e2; exact .v _
          | succ i => simp at e1
        | some ad =>
          refine h1.2 φ w _ hR ⟨rfl, fun i a u e1 e2 => ?_⟩
          cases i with
          | zero =>
            simp at e1 e2; subst e1; subst e2
            exact .lst .here sz rows (some ad) c val hcc hr ha hsp hcell hrep (by intro e; cases e)
          | succ i => simp at e1
    · cases h
  · cases h
end
end Go.Proofs.Ytojaokhkbmiidaa.Ev

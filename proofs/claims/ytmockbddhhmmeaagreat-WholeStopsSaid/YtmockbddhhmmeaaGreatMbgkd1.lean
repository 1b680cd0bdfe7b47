/- Words for all walks: types, numbers, texts, lists of texts. -/
import Derived.Test.YtmockbddhhmmeaaGreatMa5
import Derived.Test.YtmockbddhhmmeaaGreatChecked
import Derived.KernelRfl
import Derived.Test.YtmockbddhhmmeaaGreatMa7
import Derived.Test.YtmockbddhhmmeaaGreatMa8
namespace Go.Proofs.YtmockbddhhmmeaaGreat.Ev
open Go Go.Proofs
set_option maxRecDepth 10000
set_option maxHeartbeats 8000000
set_option linter.unusedVariables false
set_option linter.unusedSimpArgs false
section
attribute [go_sem] Tryz.underlying9 Tryz.underlying3 Tryz.underlying4 Tryz.underlying5 Tryz.underlying21 Tryz.underlying124 Tryz.underlying42 Tryz.underlying49 Tryz.underlying2 Tryz.underlying230 Tryz.underlying200
theorem mixed : Tryz.prog.follows .mixedOrders = true := Tryz.checked.mixed
theorem bP : cA Tryz.prog 3 = some 1 := by kernel_rfl
theorem cO : cA Tryz.prog 9 = some 1 := by kernel_rfl
theorem aD1 : dB Tryz.prog 42 = some 3 := by simp only [dB, Tryz.underlying42]
theorem bL5 : mM Tryz.prog 42 = none := by simp only [mM, Tryz.underlying42]
theorem sI : mS Tryz.prog 42 42 1 = true := by kernel_rfl
theorem aT3 {m : Mem} {c : AV} {cs : List AV} : aL Tryz.prog m 3 (.eptr (c :: cs)) = some c := bPr (by simp only [oP, Tryz.underlying3]) bP
theorem bE7 : bG Tryz.prog 42 0 [] = some (.lst .full 1 []) := aP0 sI
theorem aUl {b : Int} : bG Tryz.prog 42 1 [(0, .v (.int .i64 b))] = some (.lst .full 1 [[.v (.int .i64 b)]]) := iZ sI (by decide) rfl rfl
theorem bRo {n : Nat} (h : n < 18446744073709551616) : IntKind.u64.wrap (n : Int) = n := bEs _ _ (by simp [IntKind.min, IntKind.signed]) (by simp [IntKind.max, IntKind.signed, IntKind.bits]; omega)
theorem fC {n : Int} (h0 : -9223372036854775808 ≤ n) (h : n ≤ 9223372036854775807) : IntKind.i64.wrap n = n := bB h0 h
def inI (n : Int) : Prop := -9223372036854775808 ≤ n ∧ n ≤ 9223372036854775807
instance (n : Int) : Decidable (inI n) := by unfold inI; exact inferInstance
theorem cP {i : Nat} (h : i < 9223372036854775807) : IntKind.i64.wrap ((i : Int) + 1) = ((i + 1 : Nat) : Int) := fC (n := ((i + 1 : Nat) : Int)) (by omega) (by omega)
theorem bK0 {α : Type} {d : α} {l : List α} {i : Nat} (hi : i < l.length) : l.take (i + 1) = l.take i ++ [l.getD i d] := by
 rw [List.take_add_one, List.getElem?_eq_getElem hi]
 simp [List.getD, List.getElem?_eq_getElem hi]
theorem aP2 {α : Type} {d : α} {l : List α} {i : Nat} (hi : i < l.length) : l.drop i = l.getD i d :: l.drop (i + 1) := by
 rw [List.drop_eq_getElem_cons hi]
 simp [List.getD, List.getElem?_eq_getElem hi]
theorem aC5 {g : Grow} {kk : IntKind} {l : List Int} {i : Nat} (hi : i < l.length) : cI Tryz.prog 42 (.lst g 1 (cG l)) (.v (.int kk (i : Int))) = some (.eptr [.v (.int .i64 (l.getD i 0))]) := oF aD1 bL5 bP (aHw hi)
end
section
attribute [local irreducible] Next aW cF Ops bQ
def iv (n : Int) : AV := .v (.int .i64 n)
theorem bXf : oP Tryz.prog 3 = some false := by simp only [oP, Tryz.underlying3]
def aMl : Nat := 1099511627776
def aZ {α : Type} (p : α → Bool) : List α → Nat → Int
 | [], _ => -1
 | s :: l, i => if p s then (i : Int) else aZ p l (i + 1)
theorem oY {α : Type} (p : α → Bool) : ∀ (l : List α) (i : Nat), decide (0 ≤ aZ p l i) = l.any p
 | [], i => by simp [aZ]
 | s :: l, i => by
  rw [aZ]
  cases h : p s with
  | true => simp [h]
  | false => simp only [Bool.false_eq_true, if_false, oY p l (i + 1), List.any_cons, h, Bool.false_or]
theorem bFi {α : Type} {d : α} {p : α → Bool} {l : List α} {i : Nat} (hi : i < l.length) (hp : p (l.getD i d) = false) (h : aZ p (l.drop i) i = aZ p l 0) : aZ p (l.drop (i + 1)) (i + 1) = aZ p l 0 := by
 rw [aP2 (d := d) hi, aZ, hp, if_neg (by simp)] at h
 exact h
theorem aT1 {α : Type} {d : α} {p : α → Bool} {l : List α} {i : Nat} (hi : i < l.length) (hp : p (l.getD i d) = true) (h : aZ p (l.drop i) i = aZ p l 0) : aZ p l 0 = (i : Int) := by
 rw [aP2 (d := d) hi, aZ, hp, if_pos rfl] at h
 exact h.symm
theorem aTq {α : Type} {p : α → Bool} {l : List α} (h : aZ p (l.drop l.length) l.length = aZ p l 0) : aZ p l 0 = -1 := by
 rw [List.drop_length] at h
 exact h.symm
def Above (m m' : Mem) : Prop := ∃ L, m' = { vars := m.vars ++ L, toks := m.toks }
theorem aM (m : Mem) : Above m m := ⟨[], by simp⟩
theorem aG {m m' : Mem} {cs : List AV} (h : Above m m') : Above m (m'.push cs) := by
 obtain ⟨L, rfl⟩ := h
 exact ⟨L ++ [some cs], by simp [Mem.push]⟩
theorem aC {m m' : Mem} (h : Above m m') : bI m m' = m := by
 obtain ⟨L, rfl⟩ := h
 unfold bI
 rw [if_pos (by simp)]
 simp
def bUg : List AV → Mem → Option (AV × Mem)
 | [], m => some (.v (.bool true), m)
 | _, _ => none
theorem bYz : ∀ mm, bUg [] mm = some (.v (.bool true), mm) := fun _ => rfl
theorem cT {P : Program} {call : CallF} {nt : Nat} {ops : Array Oper} {pu : Bool} {e : Env} {m : Mem} {K : Env → Mem → Prop} {o : Oper} {rest : List Oper} {j g : Nat} {want B : Bool} (hg : o.guard = some (j, want)) (hj : (ops[j]?).bind (·.dst) = some g) (hb : get e g = .v (.bool B))
  (ht : B = true → Ops P call nt ops pu (o :: rest) e m K) (hf : B = false → Ops P call nt ops pu (o :: rest) e m K) : Ops P call nt ops pu (o :: rest) e m K := by
 cases B with
 | true => exact ht rfl
 | false => exact hf rfl
theorem iX {P : Program} {call : CallF} {nt : Nat} {ops : Array Oper} {pu : Bool} {l : List Oper} {e : Env} {m : Mem} {K : Env → Mem → Prop} (h : Ops P call nt ops pu l e m K) : Ops P call nt ops pu l e m K := h
theorem hJ {P : Program} {call : CallF} {nt : Nat} {kp : Nat → Option (List Nat)} {c : Code} {e : Env} {m : Mem} {Q : Ex → Env → Mem → Prop} (h : cF P call nt kp c e m Q) : cF P call nt kp c e m Q := h
theorem fM {m : Mem} {r : Nat} {cs : List AV} (h : m.var r = some cs) : r < m.vars.length ∧ m.vars[r]? = some (some cs) := by
 unfold Mem.var at h
 cases hx : m.vars[r]? with
 | none => rw [hx] at h; cases h
 | some y => rw [hx] at h; cases y with
  | none => cases h
  | some z =>
   cases h
   exact ⟨(List.getElem?_eq_some_iff.1 hx).1, rfl⟩
theorem aL9 {m : Mem} {r : Nat} {cs : List AV} (h : m.vars[r]? = some (some cs)) : m.var r = some cs := by
 unfold Mem.var
 rw [h]
 rfl
theorem bDz {m : Mem} {r q : Nat} {cs cs' : List AV} {T : List Nat} (hq : q ≠ r) (h : m.var q = some cs) : ({ vars := m.vars.set r (some cs'), toks := T } : Mem).var q = some cs := by
 apply aL9
 show (m.vars.set r _)[q]? = _
 rw [List.getElem?_set_ne (fun h => hq h.symm), (fM h).2]
theorem aQ {m : Mem} {q : Nat} {cs cs' : List AV} (h : m.var q = some cs) : (m.push cs').var q = some cs := by
 apply aL9
 show (m.vars ++ [_])[q]? = _
 rw [List.getElem?_append_left (fM h).1, (fM h).2]
theorem uL {m m' : Mem} (h : Above m m') : m.vars.length ≤ m'.vars.length := by
 obtain ⟨L, rfl⟩ := h
 simp
def mL (m : Mem) (g : Grow) (m' : Mem) : Prop := ∃ m1, bP4 m g m1 ∧ Above m1 m'
theorem oV {m : Mem} : mL m .full m := ⟨m, bBr, aM m⟩
theorem zZ {m m' : Mem} {g : Grow} {cs : List AV} (h : mL m g m') : mL m g (m'.push cs) :=
 let ⟨m1, h1, h2⟩ := h; ⟨m1, h1, aG h2⟩
theorem eP {m m' : Mem} {g : Grow} (h : mL m g m') : bI m m' = m := by
 obtain ⟨m1, h1, L, rfl⟩ := h
 rcases h1 with ⟨_, rfl⟩ | ⟨v, _, rfl⟩
 ·exact aC ⟨L, rfl⟩
 ·unfold bI Mem.tk
  rw [if_pos (by simp)]
  simp
theorem bC0 {P : Program} {m : Mem} {t t2 : TypeId} {k : Nat} (ha : mS P t t2 k = true) {g : Grow} {m' : Mem} (hG : mL m g m') {y : AV} {g2 : Grow} {xs ys : List (List AV)} (hy : tS k y = some (g2, ys)) (hl : xs.length + ys.length ≤ lim) :
  ∃ g' m'', kE P t t2 m' (.lst g k xs) y = some (.lst g' k (xs ++ ys), m'') ∧ mL m g' m'' := by
 obtain ⟨m1, h1, L, rfl⟩ := hG
 rcases h1 with ⟨rfl, rfl⟩ | ⟨v, rfl, rfl⟩
 ·refine ⟨_, _, yS ha dC hy hl, m1.tk [0], aA8, L, rfl⟩
 ·refine ⟨_, { vars := m.vars ++ L, toks := m.toks ++ [v + 1] }, ?_, m.tk [v + 1], aA8, L, rfl⟩
  rw [yS ha dC hy hl]
  have h : ({ vars := (m.tk [v]).vars ++ L, toks := (m.tk [v]).toks } : Mem).toks[m.toks.length]? = some v := by simp [Mem.tk]
  simp only [h, if_true]
  simp [Mem.tk, List.set_append]
theorem nQ {P : Program} {m : Mem} {t t2 : TypeId} {k : Nat} (ha : mS P t t2 k = true) {g : Grow} {m' : Mem} (hG : mL m g m') {y : AV} {g2 : Grow} {xs ys : List (List AV)} (hy : tS k y = some (g2, ys)) (hl : xs.length + ys.length ≤ lim) :
  ∃ g' m'', kE P t t2 m' (.lst g k xs) y = some (.lst g' k (xs ++ ys), m'') ∧ mL m g' m'' ∧ ∀ q, m''.var q = m'.var q := by
 obtain ⟨m1, h1, L, rfl⟩ := hG
 rcases h1 with ⟨rfl, rfl⟩ | ⟨v, rfl, rfl⟩
 ·refine ⟨_, _, yS ha dC hy hl, ⟨m1.tk [0], aA8, L, rfl⟩, fun q => rfl⟩
 ·refine ⟨_, { vars := m.vars ++ L, toks := m.toks ++ [v + 1] }, ?_, ⟨m.tk [v + 1], aA8, L, rfl⟩, fun q => rfl⟩
  rw [yS ha dC hy hl]
  have h : ({ vars := (m.tk [v]).vars ++ L, toks := (m.tk [v]).toks } : Mem).toks[m.toks.length]? = some v := by simp [Mem.tk]
  simp only [h, if_true]
  simp [Mem.tk, List.set_append]
theorem cH {m : Mem} {cs : List AV} : (m.push cs).vars.length = m.vars.length + 1 := by simp [Mem.push]
theorem aNb {P : Program} {call : CallF} {nt : Nat} {kp : Nat → Option (List Nat)} {ops : Array Oper} {pu : Bool} {l : List Oper} {e : Env} {m : Mem} {id : Nat} {Q : Env → Mem → Prop} (E : Env) (M : Mem)
  (h : Ops P call nt ops pu l e m fun e' m' => ∀ e2, Ev.restr (kp id) e' = e2 → e2 = E ∧ m' = M) (hk : Q E M) : Ops P call nt ops pu l e m fun e' m' => ∀ e2, Ev.restr (kp id) e' = e2 → Q e2 m' :=
 bT5 h fun e' m' hh e2 he => by obtain ⟨a, b⟩ := hh e2 he; rw [a, b]; exact hk
theorem uM {P : Program} {call : CallF} {nt : Nat} {kp : Nat → Option (List Nat)} {c : Code} {e : Env} {m : Mem} {Q : Ex → Env → Mem → Prop} (E : Env) (M : Mem) (h : cF P call nt kp c e m fun x e2 m2 => x = .normal ∧ e2 = E ∧ m2 = M) (hk : Q .normal E M) : cF P call nt kp c e m Q :=
 bIn h fun x e2 m2 ⟨h1, h2, h3⟩ => by rw [h1, h2, h3]; exact hk
theorem jI {α : Type} {d : α} {l : List α} {i : Nat} (h : i < l.length) : l.getD i d ∈ l := by
 rw [List.getD, List.getElem?_eq_getElem h]
 exact List.getElem_mem _
theorem cU {P : Program} {call : CallF} {nt : Nat} {kp : Nat → Option (List Nat)} {e : Env} {m : Mem} {Q : Ex → Env → Mem → Prop} {id : Nat} {l : List Oper} (hok : aBo P l = true) (hl : rL P l = false) (h : Ops P call nt l.toArray false l e m fun e' m' => ∀ e2, restr (kp id) e' = e2 → Q .normal e2 m') : cF P call nt kp (.region id l.toArray true) e m Q :=
 gT hok (by rw [hl]; exact h)
theorem aA3 {p : Nat → Bool} {n : Nat} {i : Nat} (hi : i < n) (h : p i = true) : (List.range n).any p = true := List.any_eq_true.2 ⟨i, List.mem_range.2 hi, h⟩
def cB2 (s : ByteArray) : Prop := s.size ≤ 9223372036854775807
def unJ : List (List AV) → Option (List Int)
 | [] => some []
 | [.v (.int .i64 n)] :: r => (unJ r).map (n :: ·)
 | _ => none
theorem iT : ∀ {rows : List (List AV)} {l : List Int}, unJ rows = some l → rows = cG l
 | [], l, h => by cases h; rfl
 | [.v (.int .i64 n)] :: r, l, h => by
  simp only [unJ, Option.map_eq_some_iff] at h
  obtain ⟨l', h1, rfl⟩ := h
  rw [iT h1]
  rfl
theorem jC : ∀ l : List Int, unJ (cG l) = some l
 | [] => rfl
 | n :: l => by
  have e : cG (n :: l) = [.v (.int .i64 n)] :: cG l := rfl
  rw [e, unJ, jC l]
  rfl
theorem aDq : cA Tryz.prog 4 = some 1 := by kernel_rfl
theorem aVk : dB Tryz.prog 62 = some 4 := by kernel_rfl
theorem bGi : mM Tryz.prog 62 = none := by kernel_rfl
def eA (b : List Bool) : List (List AV) := b.map fun x => [.v (.bool x)]
theorem gR (b : List Bool) : (eA b).length = b.length := List.length_map ..
theorem bEb {l : List Bool} {i : Nat} (hi : i < l.length) : (eA l)[i]? = some [.v (.bool (l.getD i false))] := by
 simp [eA, List.getD, List.getElem?_eq_getElem hi]
theorem aF9 {g : Grow} {kk : IntKind} {l : List Bool} {i : Nat} (hi : i < l.length) : cI Tryz.prog 62 (.lst g 1 (eA l)) (.v (.int kk (i : Int))) = some (.eptr [.v (.bool (l.getD i false))]) := oF aVk bGi aDq (bEb hi)
theorem aH7 {m : Mem} {x : Bool} : aL Tryz.prog m 4 (.eptr [.v (.bool x)]) = some (.v (.bool x)) := by kernel_rfl
def bJb : List (List AV) → Option (List Bool)
 | [] => some []
 | [.v (.bool n)] :: r => (bJb r).map (n :: ·)
 | _ => none
theorem aS1 : ∀ {rows : List (List AV)} {l : List Bool}, bJb rows = some l → rows = eA l
 | [], l, h => by cases h; rfl
 | [.v (.bool n)] :: r, l, h => by
  simp only [bJb, Option.map_eq_some_iff] at h
  obtain ⟨l', h1, rfl⟩ := h
  rw [aS1 h1]
  rfl
theorem aJx : ∀ l : List Bool, bJb (eA l) = some l
 | [] => rfl
 | n :: l => by
  have e : eA (n :: l) = [.v (.bool n)] :: eA l := rfl
  rw [e, bJb, aJx l]
  rfl
def jD (b : List (List Bool)) : List (List AV) := b.map fun x => [.lst .no 1 (eA x)]
theorem kV (b : List (List Bool)) : (jD b).length = b.length := List.length_map ..
theorem bDi {l : List (List Bool)} {i : Nat} (hi : i < l.length) : (jD l)[i]? = some [.lst .no 1 (eA (l.getD i []))] := by
 simp [jD, List.getD, List.getElem?_eq_getElem hi]
def bHj : List (List AV) → Option (List (List Bool))
 | [] => some []
 | [.lst .no 1 c] :: r =>
  match bJb c, bHj r with
  | some x, some l => some (x :: l)
  | _, _ => none
 | _ => none
theorem aQ7 : ∀ {rows : List (List AV)} {l : List (List Bool)}, bHj rows = some l → rows = jD l
 | [], l, h => by cases h; rfl
 | [.lst .no 1 c] :: r, l, h => by
  simp only [bHj] at h
  split at h
  ·rename_i x l' h1 h2
   cases h
   rw [aS1 h1, aQ7 h2]
   rfl
  ·cases h
theorem aJ0 : ∀ l : List (List Bool), bHj (jD l) = some l
 | [] => rfl
 | x :: l => by
  have e : jD (x :: l) = [.lst .no 1 (eA x)] :: jD l := rfl
  rw [e]
  simp only [bHj, aJx, aJ0 l]
theorem cDw : dB Tryz.prog 23 = some 62 := by kernel_rfl
theorem cEc : mM Tryz.prog 23 = none := by kernel_rfl
theorem cBi : cA Tryz.prog 62 = some 1 := by kernel_rfl
theorem bK4 {g : Grow} {kk : IntKind} {l : List (List Bool)} {i : Nat} (hi : i < l.length) : cI Tryz.prog 23 (.lst g 1 (jD l)) (.v (.int kk (i : Int))) = some (.eptr [.lst .no 1 (eA (l.getD i []))]) := oF cDw cEc cBi (bDi hi)
theorem bBa {m : Mem} {x : AV} : aL Tryz.prog m 62 (.eptr [x]) = some x := by kernel_rfl
/-! ### parts of a variable -/
theorem bY {P : Program} {m : Mem} {r off k : Nat} {row sub : List AV} {t : TypeId} (hv : m.var r = some row) (hs : cA P t = some k) (ha : oP P t = some true) (hk : k ≤ (row.drop off).length) (hsub : (row.drop off).take k = sub) : aL P m t (.ptr r off) = some (.agg sub) := by
 unfold aL
 simp only [mG, hv, Option.map_some, hs, ha]
 rw [if_pos hk, hsub]
theorem aK {P : Program} {m : Mem} {r off k : Nat} {row : List AV} {c : AV} {t : TypeId} (hv : m.var r = some row) (hs : cA P t = some k) (ha : oP P t = some false) (hc : (row.drop off).head? = some c) : aL P m t (.ptr r off) = some c := by
 unfold aL
 simp only [mG, hv, Option.map_some, hs, ha]
 exact hc
abbrev bO (m : Mem) (q : Nat) (cs : List AV) : Mem := m.putv q cs
theorem bA {m : Mem} {q : Nat} {old cs : List AV} (h : m.var q = some old) : (bO m q cs).var q = some cs := aL9 (by show (m.vars.set q _)[q]? = _; rw [List.getElem?_set_self (fM h).1])
theorem cD {m : Mem} {q r : Nat} {cs c2 : List AV} (h : m.var r = some c2) (hne : r ≠ q) : (bO m q cs).var r = some c2 := bDz hne h
theorem bM2 {m : Mem} {q : Nat} {cs : List AV} : (bO m q cs).vars.length = m.vars.length := by simp [bO, Mem.putv]
theorem lH {m : Mem} {cs cs' : List AV} : bO (m.push cs) m.vars.length cs' = m.push cs' := by
 unfold bO Mem.putv Mem.push
 simp
theorem aBk {m : Mem} {q : Nat} {cs cs' : List AV} : bO (bO m q cs) q cs' = bO m q cs' := by
 unfold bO Mem.putv
 simp
theorem bD {m m' : Mem} {q : Nat} {cs : List AV} (h : Above m m') (hq : m.vars.length ≤ q) : Above m (bO m' q cs) := by
 obtain ⟨L, rfl⟩ := h
 refine ⟨L.set (q - m.vars.length) (some cs), ?_⟩
 unfold bO Mem.putv
 simp only [List.set_append_right _ _ hq]
/-- A store into a part of a variable. -/
theorem aS {P : Program} {m : Mem} {t : TypeId} {q off k : Nat} {old cs new : List AV} {a : AV} (h : m.var q = some old) (hs : cA P t = some k) (hcs : cellsOf a = some cs) (hk : cs.length = k) (ho : off + k ≤ old.length) (hrf : cs.all (refLe q) = true) (hn : cB old off cs = new) :
  aR P m t (.ptr q off) a = some (bO m q new) := by
 unfold aR
 simp only [hcs, hs, h]
 rw [if_pos ⟨hk, ho, hrf⟩, hn]
 rfl
end
section
attribute [local irreducible] Next aW cF Ops bQ
/-! ### api.Stop -/
structure Tp where
 On : Bool
 Metric : ByteArray
 Max : Bool
 Patience : Int
 Delta : Int
 Rel : Bool
def tp0 : Tp := ⟨false, ⟨#[]⟩, false, 0, 0, false⟩
def Tp.row (x : Tp) : List AV := [.v (.bool x.On), .v (.string x.Metric), .v (.bool x.Max), iv x.Patience, iv x.Delta, .v (.bool x.Rel)]
def bRk : List AV := [.v (.bool false), .v (.string ⟨#[]⟩), .v (.bool false), .v (.int .i64 0), .v (.int .i64 0), .v (.bool false)]
theorem cA8 : cN Tryz.prog 26 [] = some (.agg bRk) := by kernel_rfl
theorem cE0 : iM Tryz.prog 8 26 = true := by kernel_rfl
theorem cEh {x y : Tp} : lS Tryz.prog 8 26 (.agg x.row) (.agg y.row) = some ((x.On == y.On) && ((x.Metric == y.Metric) && ((x.Max == y.Max) && ((x.Patience == y.Patience) && ((x.Delta == y.Delta) && ((x.Rel == y.Rel) && true)))))) := by kernel_rfl
/-! ### api.Plateau -/
structure Pt where
 On : Bool
 Metric : ByteArray
 Max : Bool
 Factor : Int
 Patience : Int
 Cooldown : Int
 Floor : Int
 Delta : Int
def pt0 : Pt := ⟨false, ⟨#[]⟩, false, 0, 0, 0, 0, 0⟩
def Pt.row (x : Pt) : List AV := [.v (.bool x.On), .v (.string x.Metric), .v (.bool x.Max), iv x.Factor, iv x.Patience, iv x.Cooldown, iv x.Floor, iv x.Delta]
def bVs : List AV → Option Pt
 | [.v (.bool c0), .v (.string c1), .v (.bool c2), .v (.int .i64 c3), .v (.int .i64 c4), .v (.int .i64 c5), .v (.int .i64 c6), .v (.int .i64 c7)] => some ⟨c0, c1, c2, c3, c4, c5, c6, c7⟩
 | _ => none
theorem bHy {cs : List AV} {x : Pt} (h : bVs cs = some x) : cs = x.row := by
 unfold bVs at h
 split at h
 ·cases h; rfl
 ·cases h
theorem bRp (x : Pt) : bVs x.row = some x := by
 rfl
theorem cBn : cA Tryz.prog 28 = some 8 := by kernel_rfl
theorem cD6 : oP Tryz.prog 28 = some true := by kernel_rfl
theorem aQa {x : Pt} : List.map eR x.row = x.row := rfl
theorem aUa {x : Pt} : cellsOf (.agg x.row) = some x.row := rfl
theorem bG0 {m : Mem} {x : Pt} : newVar m m.vars.length x.row = some (m.push x.row) := bF rfl
theorem cEe {m : Mem} {r : Nat} {x : Pt} (hv : m.var r = some x.row) : aL Tryz.prog m 28 (.ptr r 0) = some (.agg x.row) := bY (off := 0) hv cBn cD6 nbT rfl
def aDs : List AV := [.v (.bool false), .v (.string ⟨#[]⟩), .v (.bool false), .v (.int .i64 0), .v (.int .i64 0), .v (.int .i64 0), .v (.int .i64 0), .v (.int .i64 0)]
theorem cE8 : zeroCells Tryz.prog 28 = some aDs := by kernel_rfl
theorem cDr : aDs.all okCell = true := rfl
theorem cE2 {m : Mem} : newVar m m.vars.length aDs = some (m.push aDs) := bF rfl
theorem cBd : cN Tryz.prog 28 [] = some (.agg aDs) := by kernel_rfl
theorem cD4 : iM Tryz.prog 8 28 = true := by kernel_rfl
theorem cDk {x y : Pt} : lS Tryz.prog 8 28 (.agg x.row) (.agg y.row) = some ((x.On == y.On) && ((x.Metric == y.Metric) && ((x.Max == y.Max) && ((x.Factor == y.Factor) && ((x.Patience == y.Patience) && ((x.Cooldown == y.Cooldown) && ((x.Floor == y.Floor) && ((x.Delta == y.Delta) && true)))))))) := by kernel_rfl
theorem bXz {r : Nat} : aD Tryz.prog 28 (.ptr r 0) 0 = some (.ptr r 0) := by kernel_rfl
theorem bXr {m : Mem} {r : Nat} {x : Pt} (hv : m.var r = some x.row) : aL Tryz.prog m 4 (.ptr r 0) = some (.v (.bool x.On)) := aK (k := 1) hv (by kernel_rfl) (by kernel_rfl) rfl
theorem bA3 {r : Nat} : aD Tryz.prog 28 (.ptr r 0) 1 = some (.ptr r 1) := by kernel_rfl
theorem bDv {m : Mem} {r : Nat} {x : Pt} (hv : m.var r = some x.row) : aL Tryz.prog m 9 (.ptr r 1) = some (.v (.string x.Metric)) := aK (k := 1) hv (by kernel_rfl) (by kernel_rfl) rfl
theorem aVh {r : Nat} : aD Tryz.prog 28 (.ptr r 0) 2 = some (.ptr r 2) := by kernel_rfl
theorem bTm {m : Mem} {r : Nat} {x : Pt} (hv : m.var r = some x.row) : aL Tryz.prog m 4 (.ptr r 2) = some (.v (.bool x.Max)) := aK (k := 1) hv (by kernel_rfl) (by kernel_rfl) rfl
theorem xG {r : Nat} : aD Tryz.prog 28 (.ptr r 0) 3 = some (.ptr r 3) := by kernel_rfl
theorem aLt {m : Mem} {r : Nat} {x : Pt} (hv : m.var r = some x.row) : aL Tryz.prog m 3 (.ptr r 3) = some (iv x.Factor) := aK (k := 1) hv (by kernel_rfl) (by kernel_rfl) rfl
theorem qF {r : Nat} : aD Tryz.prog 28 (.ptr r 0) 4 = some (.ptr r 4) := by kernel_rfl
theorem aEo {m : Mem} {r : Nat} {x : Pt} (hv : m.var r = some x.row) : aL Tryz.prog m 3 (.ptr r 4) = some (iv x.Patience) := aK (k := 1) hv (by kernel_rfl) (by kernel_rfl) rfl
theorem pX {r : Nat} : aD Tryz.prog 28 (.ptr r 0) 5 = some (.ptr r 5) := by kernel_rfl
theorem wA {m : Mem} {r : Nat} {x : Pt} (hv : m.var r = some x.row) : aL Tryz.prog m 3 (.ptr r 5) = some (iv x.Cooldown) := aK (k := 1) hv (by kernel_rfl) (by kernel_rfl) rfl
theorem bK9 {r : Nat} : aD Tryz.prog 28 (.ptr r 0) 6 = some (.ptr r 6) := by kernel_rfl
theorem bLg {m : Mem} {r : Nat} {x : Pt} (hv : m.var r = some x.row) : aL Tryz.prog m 3 (.ptr r 6) = some (iv x.Floor) := aK (k := 1) hv (by kernel_rfl) (by kernel_rfl) rfl
theorem aAz {r : Nat} : aD Tryz.prog 28 (.ptr r 0) 7 = some (.ptr r 7) := by kernel_rfl
theorem aQh {m : Mem} {r : Nat} {x : Pt} (hv : m.var r = some x.row) : aL Tryz.prog m 3 (.ptr r 7) = some (iv x.Delta) := aK (k := 1) hv (by kernel_rfl) (by kernel_rfl) rfl
/-! ### api.Keep -/
structure Kp where
 On : Bool
 Metric : ByteArray
 Max : Bool
 Count : Int
def kp0 : Kp := ⟨false, ⟨#[]⟩, false, 0⟩
def Kp.row (x : Kp) : List AV := [.v (.bool x.On), .v (.string x.Metric), .v (.bool x.Max), iv x.Count]
def bNa : List AV := [.v (.bool false), .v (.string ⟨#[]⟩), .v (.bool false), .v (.int .i64 0)]
theorem cCp : cN Tryz.prog 30 [] = some (.agg bNa) := by kernel_rfl
theorem cEi : iM Tryz.prog 8 30 = true := by kernel_rfl
theorem cEd {x y : Kp} : lS Tryz.prog 8 30 (.agg x.row) (.agg y.row) = some ((x.On == y.On) && ((x.Metric == y.Metric) && ((x.Max == y.Max) && ((x.Count == y.Count) && true)))) := by kernel_rfl
/-! ### api.Ema -/
structure Em where
 On : Bool
 Decay : Int
def em0 : Em := ⟨false, 0⟩
def Em.row (x : Em) : List AV := [.v (.bool x.On), iv x.Decay]
def bMd : List AV := [.v (.bool false), .v (.int .i64 0)]
theorem cAo : cN Tryz.prog 32 [] = some (.agg bMd) := by kernel_rfl
theorem cEk : iM Tryz.prog 8 32 = true := by kernel_rfl
theorem cD7 {x y : Em} : lS Tryz.prog 8 32 (.agg x.row) (.agg y.row) = some ((x.On == y.On) && ((x.Decay == y.Decay) && true)) := by kernel_rfl
/-! ### api.Span -/
structure Sp where
 from_ : Int
 to_ : Int
def sp0 : Sp := ⟨0, 0⟩
def Sp.row (x : Sp) : List AV := [iv x.from_, iv x.to_]
def bJe : List AV → Option Sp
 | [.v (.int .i64 c0), .v (.int .i64 c1)] => some ⟨c0, c1⟩
 | _ => none
theorem aHb {cs : List AV} {x : Sp} (h : bJe cs = some x) : cs = x.row := by
 unfold bJe at h
 split at h
 ·cases h; rfl
 ·cases h
theorem aZy (x : Sp) : bJe x.row = some x := by
 rfl
def gZ (l : List Sp) : List (List AV) := l.map Sp.row
theorem qX (l : List Sp) : (gZ l).length = l.length := List.length_map ..
theorem bC5 {l : List Sp} {i : Nat} (hi : i < l.length) : (gZ l)[i]? = some (l.getD i sp0).row := by
 simp [gZ, List.getD, List.getElem?_eq_getElem hi]
def aFg : List (List AV) → Option (List Sp)
 | [] => some []
 | row :: r =>
  match bJe row, aFg r with
  | some x, some l => some (x :: l)
  | _, _ => none
theorem xR : ∀ {rs : List (List AV)} {l : List Sp}, aFg rs = some l → rs = gZ l
 | [], l, h => by simp only [aFg, Option.some.injEq] at h; subst h; rfl
 | row :: r, l, h => by
  unfold aFg at h
  split at h
  ·rename_i x l' h1 h2
   cases h
   rw [aHb h1, xR h2]
   rfl
  ·cases h
theorem pU : ∀ (l : List Sp), aFg (gZ l) = some l
 | [] => rfl
 | x :: l => by
  have e : gZ (x :: l) = x.row :: gZ l := rfl
  rw [e, aFg, aZy, pU l]
theorem cC9 : dB Tryz.prog 22 = some 94 := by simp only [dB, Tryz.underlying22]
theorem cEt : mM Tryz.prog 22 = none := by simp only [mM, Tryz.underlying22]
theorem cA4 : mS Tryz.prog 22 22 2 = true := by kernel_rfl
theorem cCg {x : Sp} : bG Tryz.prog 22 1 [(0, .agg x.row)] = some (.lst .full 2 (gZ [x])) := iZ cA4 (by decide) rfl rfl
theorem bJx : cA Tryz.prog 94 = some 2 := by kernel_rfl
theorem cDg : oP Tryz.prog 94 = some true := by kernel_rfl
theorem bXx {g : Grow} {kk : IntKind} {l : List Sp} {i : Nat} (hi : i < l.length) : cI Tryz.prog 22 (.lst g 2 (gZ l)) (.v (.int kk (i : Int))) = some (.eptr (l.getD i sp0).row) := oF cC9 cEt bJx (bC5 hi)
theorem aXm {x : Sp} : List.map eR x.row = x.row := rfl
theorem aGa {x : Sp} : cellsOf (.agg x.row) = some x.row := rfl
theorem aP4 {m : Mem} {x : Sp} : newVar m m.vars.length x.row = some (m.push x.row) := bF rfl
theorem cAk {m : Mem} {x : Sp} : aL Tryz.prog m 94 (.eptr x.row) = some (.agg x.row) := by kernel_rfl
theorem bCj {m : Mem} {r : Nat} {x : Sp} (hv : m.var r = some x.row) : aL Tryz.prog m 94 (.ptr r 0) = some (.agg x.row) := bY (off := 0) hv bJx cDg nbT rfl
def eG : List AV := [.v (.int .i64 0), .v (.int .i64 0)]
theorem bT9 : zeroCells Tryz.prog 94 = some eG := by kernel_rfl
theorem bU5 : eG.all okCell = true := rfl
theorem bN4 {m : Mem} : newVar m m.vars.length eG = some (m.push eG) := bF rfl
theorem bZ8 : List.map eR eG = sp0.row := rfl
theorem bWs : cN Tryz.prog 94 [] = some (.agg eG) := by kernel_rfl
theorem aP7 {x : Sp} : aD Tryz.prog 94 (.eptr x.row) 0 = some (.eptr x.row) := by kernel_rfl
theorem aQ4 {m : Mem} {x : Sp} : aL Tryz.prog m 3 (.eptr x.row) = some (iv x.from_) := by kernel_rfl
theorem qK {r : Nat} : aD Tryz.prog 94 (.ptr r 0) 0 = some (.ptr r 0) := by kernel_rfl
theorem aB3 {m : Mem} {r : Nat} {x : Sp} (hv : m.var r = some x.row) : aL Tryz.prog m 3 (.ptr r 0) = some (iv x.from_) := aK (k := 1) hv (by kernel_rfl) (by kernel_rfl) rfl
theorem bTq {x : Sp} : aD Tryz.prog 94 (.eptr x.row) 1 = some (.eptr (x.row.drop 1)) := by kernel_rfl
theorem bTs {m : Mem} {x : Sp} : aL Tryz.prog m 3 (.eptr (x.row.drop 1)) = some (iv x.to_) := by kernel_rfl
theorem aBf {r : Nat} : aD Tryz.prog 94 (.ptr r 0) 1 = some (.ptr r 1) := by kernel_rfl
theorem aFp {m : Mem} {r : Nat} {x : Sp} (hv : m.var r = some x.row) : aL Tryz.prog m 3 (.ptr r 1) = some (iv x.to_) := aK (k := 1) hv (by kernel_rfl) (by kernel_rfl) rfl
/-! ### api.Curve -/
structure Cv where
 kind : Int
 a : Int
 b : Int
 k : Int
def cv0 : Cv := ⟨0, 0, 0, 0⟩
def Cv.row (x : Cv) : List AV := [iv x.kind, iv x.a, iv x.b, iv x.k]
def aYn : List AV → Option Cv
 | [.v (.int .i64 c0), .v (.int .i64 c1), .v (.int .i64 c2), .v (.int .i64 c3)] => some ⟨c0, c1, c2, c3⟩
 | _ => none
theorem uF {cs : List AV} {x : Cv} (h : aYn cs = some x) : cs = x.row := by
 unfold aYn at h
 split at h
 ·cases h; rfl
 ·cases h
theorem aAl (x : Cv) : aYn x.row = some x := by
 rfl
theorem cDj : cA Tryz.prog 71 = some 4 := by kernel_rfl
theorem cC5 : oP Tryz.prog 71 = some true := by kernel_rfl
theorem bGq {x : Cv} : List.map eR x.row = x.row := rfl
theorem bF3 {x : Cv} : cellsOf (.agg x.row) = some x.row := rfl
theorem aMn {m : Mem} {x : Cv} : newVar m m.vars.length x.row = some (m.push x.row) := bF rfl
theorem cCa {m : Mem} {r : Nat} {x : Cv} (hv : m.var r = some x.row) : aL Tryz.prog m 71 (.ptr r 0) = some (.agg x.row) := bY (off := 0) hv cDj cC5 nbT rfl
theorem bAb {r : Nat} : aD Tryz.prog 71 (.ptr r 0) 0 = some (.ptr r 0) := by kernel_rfl
theorem aO3 {m : Mem} {r : Nat} {x : Cv} (hv : m.var r = some x.row) : aL Tryz.prog m 3 (.ptr r 0) = some (iv x.kind) := aK (k := 1) hv (by kernel_rfl) (by kernel_rfl) rfl
theorem bW4 {r : Nat} : aD Tryz.prog 71 (.ptr r 0) 1 = some (.ptr r 1) := by kernel_rfl
theorem bGt {m : Mem} {r : Nat} {x : Cv} (hv : m.var r = some x.row) : aL Tryz.prog m 3 (.ptr r 1) = some (iv x.a) := aK (k := 1) hv (by kernel_rfl) (by kernel_rfl) rfl
theorem bWw {r : Nat} : aD Tryz.prog 71 (.ptr r 0) 2 = some (.ptr r 2) := by kernel_rfl
theorem bOj {m : Mem} {r : Nat} {x : Cv} (hv : m.var r = some x.row) : aL Tryz.prog m 3 (.ptr r 2) = some (iv x.b) := aK (k := 1) hv (by kernel_rfl) (by kernel_rfl) rfl
theorem bWx {r : Nat} : aD Tryz.prog 71 (.ptr r 0) 3 = some (.ptr r 3) := by kernel_rfl
theorem bNq {m : Mem} {r : Nat} {x : Cv} (hv : m.var r = some x.row) : aL Tryz.prog m 3 (.ptr r 3) = some (iv x.k) := aK (k := 1) hv (by kernel_rfl) (by kernel_rfl) rfl
/-! ### api.Seg -/
structure Sg where
 from_ : Int
 to_ : Int
 begin_ : Int
 n : Int
 curve : Cv
 first : Int
 times : Int
def sg0 : Sg := ⟨0, 0, 0, 0, cv0, 0, 0⟩
def Sg.row (x : Sg) : List AV := [iv x.from_, iv x.to_, iv x.begin_, iv x.n, iv x.curve.kind, iv x.curve.a, iv x.curve.b, iv x.curve.k, iv x.first, iv x.times]
def bC1 : List AV → Option Sg
 | [.v (.int .i64 c0), .v (.int .i64 c1), .v (.int .i64 c2), .v (.int .i64 c3), .v (.int .i64 c4), .v (.int .i64 c5), .v (.int .i64 c6), .v (.int .i64 c7), .v (.int .i64 c8), .v (.int .i64 c9)] => some ⟨c0, c1, c2, c3, ⟨c4, c5, c6, c7⟩, c8, c9⟩
 | _ => none
theorem aBn {cs : List AV} {x : Sg} (h : bC1 cs = some x) : cs = x.row := by
 unfold bC1 at h
 split at h
 ·cases h; rfl
 ·cases h
theorem aD9 (x : Sg) : bC1 x.row = some x := by
 rfl
def eO (l : List Sg) : List (List AV) := l.map Sg.row
theorem kO (l : List Sg) : (eO l).length = l.length := List.length_map ..
theorem bBz {l : List Sg} {i : Nat} (hi : i < l.length) : (eO l)[i]? = some (l.getD i sg0).row := by
 simp [eO, List.getD, List.getElem?_eq_getElem hi]
def aAi : List (List AV) → Option (List Sg)
 | [] => some []
 | row :: r =>
  match bC1 row, aAi r with
  | some x, some l => some (x :: l)
  | _, _ => none
theorem oC : ∀ {rs : List (List AV)} {l : List Sg}, aAi rs = some l → rs = eO l
 | [], l, h => by simp only [aAi, Option.some.injEq] at h; subst h; rfl
 | row :: r, l, h => by
  unfold aAi at h
  split at h
  ·rename_i x l' h1 h2
   cases h
   rw [aBn h1, oC h2]
   rfl
  ·cases h
theorem jT : ∀ (l : List Sg), aAi (eO l) = some l
 | [] => rfl
 | x :: l => by
  have e : eO (x :: l) = x.row :: eO l := rfl
  rw [e, aAi, aD9, jT l]
theorem cD8 : dB Tryz.prog 66 = some 73 := by simp only [dB, Tryz.underlying66]
theorem cD2 : mM Tryz.prog 66 = none := by simp only [mM, Tryz.underlying66]
theorem cAu : mS Tryz.prog 66 66 10 = true := by kernel_rfl
theorem cBl {x : Sg} : bG Tryz.prog 66 1 [(0, .agg x.row)] = some (.lst .full 10 (eO [x])) := iZ cAu (by decide) rfl rfl
theorem bUp : cA Tryz.prog 73 = some 10 := by kernel_rfl
theorem cDl : oP Tryz.prog 73 = some true := by kernel_rfl
theorem aVg {g : Grow} {kk : IntKind} {l : List Sg} {i : Nat} (hi : i < l.length) : cI Tryz.prog 66 (.lst g 10 (eO l)) (.v (.int kk (i : Int))) = some (.eptr (l.getD i sg0).row) := oF cD8 cD2 bUp (bBz hi)
theorem bEz {x : Sg} : List.map eR x.row = x.row := rfl
theorem aKs {x : Sg} : cellsOf (.agg x.row) = some x.row := rfl
theorem aO2 {m : Mem} {x : Sg} : newVar m m.vars.length x.row = some (m.push x.row) := bF rfl
theorem bTo {m : Mem} {x : Sg} : aL Tryz.prog m 73 (.eptr x.row) = some (.agg x.row) := by kernel_rfl
theorem cDh {m : Mem} {r : Nat} {x : Sg} (hv : m.var r = some x.row) : aL Tryz.prog m 73 (.ptr r 0) = some (.agg x.row) := bY (off := 0) hv bUp cDl nbT rfl
def aK9 : List AV := [.v (.int .i64 0), .v (.int .i64 0), .v (.int .i64 0), .v (.int .i64 0), .v (.int .i64 0), .v (.int .i64 0), .v (.int .i64 0), .v (.int .i64 0), .v (.int .i64 0), .v (.int .i64 0)]
theorem cAm : zeroCells Tryz.prog 73 = some aK9 := by kernel_rfl
theorem cAf : aK9.all okCell = true := rfl
theorem cCc {m : Mem} : newVar m m.vars.length aK9 = some (m.push aK9) := bF rfl
theorem aA4 {x : Sg} : aD Tryz.prog 73 (.eptr x.row) 0 = some (.eptr x.row) := by kernel_rfl
theorem aBu {m : Mem} {x : Sg} : aL Tryz.prog m 3 (.eptr x.row) = some (iv x.from_) := by kernel_rfl
theorem aB2 {r : Nat} : aD Tryz.prog 73 (.ptr r 0) 0 = some (.ptr r 0) := by kernel_rfl
theorem aIk {m : Mem} {r : Nat} {x : Sg} (hv : m.var r = some x.row) : aL Tryz.prog m 3 (.ptr r 0) = some (iv x.from_) := aK (k := 1) hv (by kernel_rfl) (by kernel_rfl) rfl
theorem aB4 {x : Sg} : aD Tryz.prog 73 (.eptr x.row) 1 = some (.eptr (x.row.drop 1)) := by kernel_rfl
theorem aBq {m : Mem} {x : Sg} : aL Tryz.prog m 3 (.eptr (x.row.drop 1)) = some (iv x.to_) := by kernel_rfl
theorem aKw {r : Nat} : aD Tryz.prog 73 (.ptr r 0) 1 = some (.ptr r 1) := by kernel_rfl
theorem bTp {m : Mem} {r : Nat} {x : Sg} (hv : m.var r = some x.row) : aL Tryz.prog m 3 (.ptr r 1) = some (iv x.to_) := aK (k := 1) hv (by kernel_rfl) (by kernel_rfl) rfl
theorem bDe {r : Nat} : aD Tryz.prog 73 (.ptr r 0) 2 = some (.ptr r 2) := by kernel_rfl
theorem aOd {m : Mem} {r : Nat} {x : Sg} (hv : m.var r = some x.row) : aL Tryz.prog m 3 (.ptr r 2) = some (iv x.begin_) := aK (k := 1) hv (by kernel_rfl) (by kernel_rfl) rfl
theorem cBs {r : Nat} : aD Tryz.prog 73 (.ptr r 0) 3 = some (.ptr r 3) := by kernel_rfl
theorem bXc {m : Mem} {r : Nat} {x : Sg} (hv : m.var r = some x.row) : aL Tryz.prog m 3 (.ptr r 3) = some (iv x.n) := aK (k := 1) hv (by kernel_rfl) (by kernel_rfl) rfl
theorem bH0 {r : Nat} : aD Tryz.prog 73 (.ptr r 0) 4 = some (.ptr r 4) := by kernel_rfl
theorem aHt {m : Mem} {r : Nat} {x : Sg} (hv : m.var r = some x.row) : aL Tryz.prog m 71 (.ptr r 4) = some (.agg x.curve.row) := bY hv (k := 4) (by kernel_rfl) (by kernel_rfl) nbT rfl
theorem bJf {r : Nat} : aD Tryz.prog 73 (.ptr r 0) 5 = some (.ptr r 8) := by kernel_rfl
theorem aS6 {m : Mem} {r : Nat} {x : Sg} (hv : m.var r = some x.row) : aL Tryz.prog m 3 (.ptr r 8) = some (iv x.first) := aK (k := 1) hv (by kernel_rfl) (by kernel_rfl) rfl
theorem bJl {r : Nat} : aD Tryz.prog 73 (.ptr r 0) 6 = some (.ptr r 9) := by kernel_rfl
theorem aQr {m : Mem} {r : Nat} {x : Sg} (hv : m.var r = some x.row) : aL Tryz.prog m 3 (.ptr r 9) = some (iv x.times) := aK (k := 1) hv (by kernel_rfl) (by kernel_rfl) rfl
/-! ### api.Track -/
structure Tk where
 group : Int
 param : Int
 segs : List Sg
def tk0 : Tk := ⟨0, 0, []⟩
def Tk.row (x : Tk) : List AV := [iv x.group, iv x.param, .lst .no 10 (eO x.segs)]
def bPy : List AV → Option Tk
 | [.v (.int .i64 c0), .v (.int .i64 c1), .lst .no 10 c2] =>
  match aAi c2 with
  | some l2 => some ⟨c0, c1, l2⟩
  | _ => none
 | _ => none
theorem bH2 {cs : List AV} {x : Tk} (h : bPy cs = some x) : cs = x.row := by
 unfold bPy at h
 split at h
 ·split at h
  ·rename_i h2
   cases h
   obtain rfl := oC h2
   rfl
  ·cases h
 ·cases h
theorem bR5 (x : Tk) : bPy x.row = some x := by
 simp only [bPy, Tk.row, iv, jT]
def jM (l : List Tk) : List (List AV) := l.map Tk.row
theorem xK (l : List Tk) : (jM l).length = l.length := List.length_map ..
theorem bC9 {l : List Tk} {i : Nat} (hi : i < l.length) : (jM l)[i]? = some (l.getD i tk0).row := by
 simp [jM, List.getD, List.getElem?_eq_getElem hi]
def aMh : List (List AV) → Option (List Tk)
 | [] => some []
 | row :: r =>
  match bPy row, aMh r with
  | some x, some l => some (x :: l)
  | _, _ => none
theorem aOe : ∀ {rs : List (List AV)} {l : List Tk}, aMh rs = some l → rs = jM l
 | [], l, h => by simp only [aMh, Option.some.injEq] at h; subst h; rfl
 | row :: r, l, h => by
  unfold aMh at h
  split at h
  ·rename_i x l' h1 h2
   cases h
   rw [bH2 h1, aOe h2]
   rfl
  ·cases h
theorem aGm : ∀ (l : List Tk), aMh (jM l) = some l
 | [] => rfl
 | x :: l => by
  have e : jM (x :: l) = x.row :: jM l := rfl
  rw [e, aMh, bR5, aGm l]
theorem cEl : dB Tryz.prog 24 = some 68 := by simp only [dB, Tryz.underlying24]
theorem cEj : mM Tryz.prog 24 = none := by simp only [mM, Tryz.underlying24]
theorem bZb : cA Tryz.prog 68 = some 3 := by kernel_rfl
theorem bX0 {g : Grow} {kk : IntKind} {l : List Tk} {i : Nat} (hi : i < l.length) : cI Tryz.prog 24 (.lst g 3 (jM l)) (.v (.int kk (i : Int))) = some (.eptr (l.getD i tk0).row) := oF cEl cEj bZb (bC9 hi)
theorem bZq {m : Mem} {x : Tk} : aL Tryz.prog m 68 (.eptr x.row) = some (.agg x.row) := by kernel_rfl
def aO5 : List AV := [.v (.int .i64 0), .v (.int .i64 0), .lst .full 10 []]
theorem bZj : zeroCells Tryz.prog 68 = some aO5 := by kernel_rfl
theorem bZi : aO5.all okCell = true := rfl
theorem bZk {m : Mem} : newVar m m.vars.length aO5 = some (m.push aO5) := bF rfl
theorem aQx {r : Nat} : aD Tryz.prog 68 (.ptr r 0) 0 = some (.ptr r 0) := by kernel_rfl
theorem bI3 {m : Mem} {r : Nat} {x : Tk} (hv : m.var r = some x.row) : aL Tryz.prog m 3 (.ptr r 0) = some (iv x.group) := aK (k := 1) hv (by kernel_rfl) (by kernel_rfl) rfl
theorem aQ9 {r : Nat} : aD Tryz.prog 68 (.ptr r 0) 1 = some (.ptr r 1) := by kernel_rfl
theorem bI0 {m : Mem} {r : Nat} {x : Tk} (hv : m.var r = some x.row) : aL Tryz.prog m 3 (.ptr r 1) = some (iv x.param) := aK (k := 1) hv (by kernel_rfl) (by kernel_rfl) rfl
theorem bP7 {x : Tk} : aD Tryz.prog 68 (.eptr x.row) 2 = some (.eptr (x.row.drop 2)) := by kernel_rfl
theorem bNc {m : Mem} {x : Tk} : aL Tryz.prog m 66 (.eptr (x.row.drop 2)) = some (.lst .no 10 (eO x.segs)) := by kernel_rfl
theorem aOr {r : Nat} : aD Tryz.prog 68 (.ptr r 0) 2 = some (.ptr r 2) := by kernel_rfl
theorem aWz {m : Mem} {r : Nat} {x : Tk} (hv : m.var r = some x.row) : aL Tryz.prog m 66 (.ptr r 2) = some (.lst .no 10 (eO x.segs)) := aK (k := 1) hv (by kernel_rfl) (by kernel_rfl) rfl
/-! ### api.Plan -/
structure Pn where
 steps : Int
 weights : Int
 metrics : Int
 groups : Int
 eval : Int
 spans : List Sp
 frozen : List (List Bool)
 tracks : List Tk
 stop : Tp
 plateau : Pt
 keep : Kp
 ema : Em
 stopAt : Int
 cutAt : Int
 keepAt : Int
 swaFrom : Int
 swaEvery : Int
def Pn.row (x : Pn) : List AV := [iv x.steps, iv x.weights, iv x.metrics, iv x.groups, iv x.eval, .lst .no 2 (gZ x.spans), .lst .no 1 (jD x.frozen), .lst .no 3 (jM x.tracks), .v (.bool x.stop.On), .v (.string x.stop.Metric), .v (.bool x.stop.Max), iv x.stop.Patience, iv x.stop.Delta, .v (.bool x.stop.Rel), .v (.bool x.plateau.On), .v (.string x.plateau.Metric), .v (.bool x.plateau.Max), iv x.plateau.Factor, iv x.plateau.Patience, iv x.plateau.Cooldown, iv x.plateau.Floor, iv x.plateau.Delta, .v (.bool x.keep.On), .v (.string x.keep.Metric), .v (.bool x.keep.Max), iv x.keep.Count, .v (.bool x.ema.On), iv x.ema.Decay, iv x.stopAt, iv x.cutAt, iv x.keepAt, iv x.swaFrom, iv x.swaEvery]
def iH : List AV → Option Pn
 | .v (.int .i64 c0) :: .v (.int .i64 c1) :: .v (.int .i64 c2) :: .v (.int .i64 c3) :: .v (.int .i64 c4) :: .lst .no 2 c5 :: .lst .no 1 c6 :: .lst .no 3 c7 :: .v (.bool c8) :: .v (.string c9) :: .v (.bool c10) :: .v (.int .i64 c11) :: .v (.int .i64 c12) :: .v (.bool c13) :: .v (.bool c14) :: .v (.string c15) :: .v (.bool c16) :: .v (.int .i64 c17) :: .v (.int .i64 c18) :: .v (.int .i64 c19) :: .v (.int .i64 c20) :: .v (.int .i64 c21) :: .v (.bool c22) :: .v (.string c23) :: .v (.bool c24) :: .v (.int .i64 c25) :: .v (.bool c26) :: .v (.int .i64 c27) :: .v (.int .i64 c28) :: .v (.int .i64 c29) :: .v (.int .i64 c30) :: .v (.int .i64 c31) :: .v (.int .i64 c32) :: [] =>
  match aFg c5, bHj c6, aMh c7 with
  | some l5, some l6, some l7 => some ⟨c0, c1, c2, c3, c4, l5, l6, l7, ⟨c8, c9, c10, c11, c12, c13⟩, ⟨c14, c15, c16, c17, c18, c19, c20, c21⟩, ⟨c22, c23, c24, c25⟩, ⟨c26, c27⟩, c28, c29, c30, c31, c32⟩
  | _, _, _ => none
 | _ => none
theorem bZ {cs : List AV} {x : Pn} (h : iH cs = some x) : cs = x.row := by
 unfold iH at h
 split at h
 ·split at h
  ·rename_i h5 h6 h7
   cases h
   obtain rfl := xR h5
   obtain rfl := aQ7 h6
   obtain rfl := aOe h7
   rfl
  ·cases h
 ·cases h
theorem unPn_row (x : Pn) : iH x.row = some x := by
 simp only [iH, Pn.row, iv, pU, aGm, aJ0]
theorem bIa : cA Tryz.prog 34 = some 33 := by kernel_rfl
theorem cAi : oP Tryz.prog 34 = some true := by kernel_rfl
theorem kI {x : Pn} : List.map eR x.row = x.row := rfl
theorem fA {x : Pn} : cellsOf (.agg x.row) = some x.row := rfl
theorem dY {m : Mem} {x : Pn} : newVar m m.vars.length x.row = some (m.push x.row) := bF rfl
theorem qB {m : Mem} {r : Nat} {x : Pn} (hv : m.var r = some x.row) : aL Tryz.prog m 34 (.ptr r 0) = some (.agg x.row) := bY (off := 0) hv bIa cAi nbT rfl
def wX : List AV := [.v (.int .i64 0), .v (.int .i64 0), .v (.int .i64 0), .v (.int .i64 0), .v (.int .i64 0), .lst .full 2 [], .lst .full 1 [], .lst .full 3 [], .v (.bool false), .v (.string ⟨#[]⟩), .v (.bool false), .v (.int .i64 0), .v (.int .i64 0), .v (.bool false), .v (.bool false), .v (.string ⟨#[]⟩), .v (.bool false), .v (.int .i64 0), .v (.int .i64 0), .v (.int .i64 0), .v (.int .i64 0), .v (.int .i64 0), .v (.bool false), .v (.string ⟨#[]⟩), .v (.bool false), .v (.int .i64 0), .v (.bool false), .v (.int .i64 0), .v (.int .i64 0), .v (.int .i64 0), .v (.int .i64 0), .v (.int .i64 0), .v (.int .i64 0)]
theorem cAb : zeroCells Tryz.prog 34 = some wX := by kernel_rfl
theorem cCz : wX.all okCell = true := rfl
theorem cCe {m : Mem} : newVar m m.vars.length wX = some (m.push wX) := bF rfl
theorem lK {r : Nat} : aD Tryz.prog 34 (.ptr r 0) 0 = some (.ptr r 0) := by kernel_rfl
theorem lD {m : Mem} {r : Nat} {x : Pn} (hv : m.var r = some x.row) : aL Tryz.prog m 3 (.ptr r 0) = some (iv x.steps) := aK (k := 1) hv (by kernel_rfl) (by kernel_rfl) rfl
theorem oQ {r : Nat} : aD Tryz.prog 34 (.ptr r 0) 1 = some (.ptr r 1) := by kernel_rfl
theorem aAr {m : Mem} {r : Nat} {x : Pn} (hv : m.var r = some x.row) : aL Tryz.prog m 3 (.ptr r 1) = some (iv x.weights) := aK (k := 1) hv (by kernel_rfl) (by kernel_rfl) rfl
theorem sR {r : Nat} : aD Tryz.prog 34 (.ptr r 0) 2 = some (.ptr r 2) := by kernel_rfl
theorem sS {m : Mem} {r : Nat} {x : Pn} (hv : m.var r = some x.row) : aL Tryz.prog m 3 (.ptr r 2) = some (iv x.metrics) := aK (k := 1) hv (by kernel_rfl) (by kernel_rfl) rfl
theorem aDc {r : Nat} : aD Tryz.prog 34 (.ptr r 0) 3 = some (.ptr r 3) := by kernel_rfl
theorem aD4 {m : Mem} {r : Nat} {x : Pn} (hv : m.var r = some x.row) : aL Tryz.prog m 3 (.ptr r 3) = some (iv x.groups) := aK (k := 1) hv (by kernel_rfl) (by kernel_rfl) rfl
theorem vU {r : Nat} : aD Tryz.prog 34 (.ptr r 0) 4 = some (.ptr r 4) := by kernel_rfl
theorem vT {m : Mem} {r : Nat} {x : Pn} (hv : m.var r = some x.row) : aL Tryz.prog m 3 (.ptr r 4) = some (iv x.eval) := aK (k := 1) hv (by kernel_rfl) (by kernel_rfl) rfl
theorem vN {r : Nat} : aD Tryz.prog 34 (.ptr r 0) 5 = some (.ptr r 5) := by kernel_rfl
theorem uG {m : Mem} {r : Nat} {x : Pn} (hv : m.var r = some x.row) : aL Tryz.prog m 22 (.ptr r 5) = some (.lst .no 2 (gZ x.spans)) := aK (k := 1) hv (by kernel_rfl) (by kernel_rfl) rfl
theorem kP {r : Nat} : aD Tryz.prog 34 (.ptr r 0) 6 = some (.ptr r 6) := by kernel_rfl
theorem wE {m : Mem} {r : Nat} {x : Pn} (hv : m.var r = some x.row) : aL Tryz.prog m 23 (.ptr r 6) = some (.lst .no 1 (jD x.frozen)) := aK (k := 1) hv (by kernel_rfl) (by kernel_rfl) rfl
theorem rJ {r : Nat} : aD Tryz.prog 34 (.ptr r 0) 7 = some (.ptr r 7) := by kernel_rfl
theorem wB {m : Mem} {r : Nat} {x : Pn} (hv : m.var r = some x.row) : aL Tryz.prog m 24 (.ptr r 7) = some (.lst .no 3 (jM x.tracks)) := aK (k := 1) hv (by kernel_rfl) (by kernel_rfl) rfl
theorem vK {r : Nat} : aD Tryz.prog 34 (.ptr r 0) 8 = some (.ptr r 8) := by kernel_rfl
theorem bSh {m : Mem} {r : Nat} {x : Pn} (hv : m.var r = some x.row) : aL Tryz.prog m 26 (.ptr r 8) = some (.agg x.stop.row) := bY hv (k := 6) (by kernel_rfl) (by kernel_rfl) nbT rfl
theorem bB9 {r : Nat} : aD Tryz.prog 26 (.ptr r 8) 0 = some (.ptr r 8) := by kernel_rfl
theorem bBh {m : Mem} {r : Nat} {x : Pn} (hv : m.var r = some x.row) : aL Tryz.prog m 4 (.ptr r 8) = some (.v (.bool x.stop.On)) := aK (k := 1) hv (by kernel_rfl) (by kernel_rfl) rfl
theorem zC {r : Nat} : aD Tryz.prog 26 (.ptr r 8) 1 = some (.ptr r 9) := by kernel_rfl
theorem zM {m : Mem} {r : Nat} {x : Pn} (hv : m.var r = some x.row) : aL Tryz.prog m 9 (.ptr r 9) = some (.v (.string x.stop.Metric)) := aK (k := 1) hv (by kernel_rfl) (by kernel_rfl) rfl
theorem aX9 {r : Nat} : aD Tryz.prog 26 (.ptr r 8) 2 = some (.ptr r 10) := by kernel_rfl
theorem aZr {m : Mem} {r : Nat} {x : Pn} (hv : m.var r = some x.row) : aL Tryz.prog m 4 (.ptr r 10) = some (.v (.bool x.stop.Max)) := aK (k := 1) hv (by kernel_rfl) (by kernel_rfl) rfl
theorem jR {r : Nat} : aD Tryz.prog 26 (.ptr r 8) 3 = some (.ptr r 11) := by kernel_rfl
theorem nS {m : Mem} {r : Nat} {x : Pn} (hv : m.var r = some x.row) : aL Tryz.prog m 3 (.ptr r 11) = some (iv x.stop.Patience) := aK (k := 1) hv (by kernel_rfl) (by kernel_rfl) rfl
theorem aCe {r : Nat} : aD Tryz.prog 26 (.ptr r 8) 4 = some (.ptr r 12) := by kernel_rfl
theorem aCw {m : Mem} {r : Nat} {x : Pn} (hv : m.var r = some x.row) : aL Tryz.prog m 3 (.ptr r 12) = some (iv x.stop.Delta) := aK (k := 1) hv (by kernel_rfl) (by kernel_rfl) rfl
theorem aXy {r : Nat} : aD Tryz.prog 26 (.ptr r 8) 5 = some (.ptr r 13) := by kernel_rfl
theorem aW5 {m : Mem} {r : Nat} {x : Pn} (hv : m.var r = some x.row) : aL Tryz.prog m 4 (.ptr r 13) = some (.v (.bool x.stop.Rel)) := aK (k := 1) hv (by kernel_rfl) (by kernel_rfl) rfl
theorem lL {r : Nat} : aD Tryz.prog 34 (.ptr r 0) 9 = some (.ptr r 14) := by kernel_rfl
theorem aZ0 {m : Mem} {r : Nat} {x : Pn} (hv : m.var r = some x.row) : aL Tryz.prog m 28 (.ptr r 14) = some (.agg x.plateau.row) := bY hv (k := 8) (by kernel_rfl) (by kernel_rfl) nbT rfl
theorem aGt {r : Nat} : aD Tryz.prog 28 (.ptr r 14) 1 = some (.ptr r 15) := by kernel_rfl
theorem aG3 {m : Mem} {r : Nat} {x : Pn} (hv : m.var r = some x.row) : aL Tryz.prog m 9 (.ptr r 15) = some (.v (.string x.plateau.Metric)) := aK (k := 1) hv (by kernel_rfl) (by kernel_rfl) rfl
theorem pK {r : Nat} : aD Tryz.prog 28 (.ptr r 14) 4 = some (.ptr r 18) := by kernel_rfl
theorem aB5 {m : Mem} {r : Nat} {x : Pn} (hv : m.var r = some x.row) : aL Tryz.prog m 3 (.ptr r 18) = some (iv x.plateau.Patience) := aK (k := 1) hv (by kernel_rfl) (by kernel_rfl) rfl
theorem pI {r : Nat} : aD Tryz.prog 28 (.ptr r 14) 5 = some (.ptr r 19) := by kernel_rfl
theorem aB7 {m : Mem} {r : Nat} {x : Pn} (hv : m.var r = some x.row) : aL Tryz.prog m 3 (.ptr r 19) = some (iv x.plateau.Cooldown) := aK (k := 1) hv (by kernel_rfl) (by kernel_rfl) rfl
theorem vI {r : Nat} : aD Tryz.prog 28 (.ptr r 14) 6 = some (.ptr r 20) := by kernel_rfl
theorem aHk {m : Mem} {r : Nat} {x : Pn} (hv : m.var r = some x.row) : aL Tryz.prog m 3 (.ptr r 20) = some (iv x.plateau.Floor) := aK (k := 1) hv (by kernel_rfl) (by kernel_rfl) rfl
theorem uQ {r : Nat} : aD Tryz.prog 34 (.ptr r 0) 10 = some (.ptr r 22) := by kernel_rfl
theorem bOb {m : Mem} {r : Nat} {x : Pn} (hv : m.var r = some x.row) : aL Tryz.prog m 30 (.ptr r 22) = some (.agg x.keep.row) := bY hv (k := 4) (by kernel_rfl) (by kernel_rfl) nbT rfl
theorem bAx {r : Nat} : aD Tryz.prog 30 (.ptr r 22) 0 = some (.ptr r 22) := by kernel_rfl
theorem bCa {m : Mem} {r : Nat} {x : Pn} (hv : m.var r = some x.row) : aL Tryz.prog m 4 (.ptr r 22) = some (.v (.bool x.keep.On)) := aK (k := 1) hv (by kernel_rfl) (by kernel_rfl) rfl
theorem aAo {r : Nat} : aD Tryz.prog 30 (.ptr r 22) 1 = some (.ptr r 23) := by kernel_rfl
theorem zW {m : Mem} {r : Nat} {x : Pn} (hv : m.var r = some x.row) : aL Tryz.prog m 9 (.ptr r 23) = some (.v (.string x.keep.Metric)) := aK (k := 1) hv (by kernel_rfl) (by kernel_rfl) rfl
theorem tE {r : Nat} : aD Tryz.prog 30 (.ptr r 22) 2 = some (.ptr r 24) := by kernel_rfl
theorem aYm {m : Mem} {r : Nat} {x : Pn} (hv : m.var r = some x.row) : aL Tryz.prog m 4 (.ptr r 24) = some (.v (.bool x.keep.Max)) := aK (k := 1) hv (by kernel_rfl) (by kernel_rfl) rfl
theorem kH {r : Nat} : aD Tryz.prog 30 (.ptr r 22) 3 = some (.ptr r 25) := by kernel_rfl
theorem aB8 {m : Mem} {r : Nat} {x : Pn} (hv : m.var r = some x.row) : aL Tryz.prog m 3 (.ptr r 25) = some (iv x.keep.Count) := aK (k := 1) hv (by kernel_rfl) (by kernel_rfl) rfl
theorem aTa {r : Nat} : aD Tryz.prog 34 (.ptr r 0) 11 = some (.ptr r 26) := by kernel_rfl
theorem bU6 {m : Mem} {r : Nat} {x : Pn} (hv : m.var r = some x.row) : aL Tryz.prog m 32 (.ptr r 26) = some (.agg x.ema.row) := bY hv (k := 2) (by kernel_rfl) (by kernel_rfl) nbT rfl
theorem aHp {r : Nat} : aD Tryz.prog 32 (.ptr r 26) 0 = some (.ptr r 26) := by kernel_rfl
theorem aQ5 {m : Mem} {r : Nat} {x : Pn} (hv : m.var r = some x.row) : aL Tryz.prog m 4 (.ptr r 26) = some (.v (.bool x.ema.On)) := aK (k := 1) hv (by kernel_rfl) (by kernel_rfl) rfl
theorem aT0 {r : Nat} : aD Tryz.prog 32 (.ptr r 26) 1 = some (.ptr r 27) := by kernel_rfl
theorem aU0 {m : Mem} {r : Nat} {x : Pn} (hv : m.var r = some x.row) : aL Tryz.prog m 3 (.ptr r 27) = some (iv x.ema.Decay) := aK (k := 1) hv (by kernel_rfl) (by kernel_rfl) rfl
theorem sE {r : Nat} : aD Tryz.prog 34 (.ptr r 0) 12 = some (.ptr r 28) := by kernel_rfl
theorem rO {m : Mem} {r : Nat} {x : Pn} (hv : m.var r = some x.row) : aL Tryz.prog m 3 (.ptr r 28) = some (iv x.stopAt) := aK (k := 1) hv (by kernel_rfl) (by kernel_rfl) rfl
theorem uC {r : Nat} : aD Tryz.prog 34 (.ptr r 0) 13 = some (.ptr r 29) := by kernel_rfl
theorem aIl {m : Mem} {r : Nat} {x : Pn} (hv : m.var r = some x.row) : aL Tryz.prog m 3 (.ptr r 29) = some (iv x.cutAt) := aK (k := 1) hv (by kernel_rfl) (by kernel_rfl) rfl
theorem rZ {r : Nat} : aD Tryz.prog 34 (.ptr r 0) 14 = some (.ptr r 30) := by kernel_rfl
theorem aMv {m : Mem} {r : Nat} {x : Pn} (hv : m.var r = some x.row) : aL Tryz.prog m 3 (.ptr r 30) = some (iv x.keepAt) := aK (k := 1) hv (by kernel_rfl) (by kernel_rfl) rfl
theorem aAh {r : Nat} : aD Tryz.prog 34 (.ptr r 0) 15 = some (.ptr r 31) := by kernel_rfl
theorem aAj {m : Mem} {r : Nat} {x : Pn} (hv : m.var r = some x.row) : aL Tryz.prog m 3 (.ptr r 31) = some (iv x.swaFrom) := aK (k := 1) hv (by kernel_rfl) (by kernel_rfl) rfl
theorem qC {r : Nat} : aD Tryz.prog 34 (.ptr r 0) 16 = some (.ptr r 32) := by kernel_rfl
theorem pQ {m : Mem} {r : Nat} {x : Pn} (hv : m.var r = some x.row) : aL Tryz.prog m 3 (.ptr r 32) = some (iv x.swaEvery) := aK (k := 1) hv (by kernel_rfl) (by kernel_rfl) rfl
end
end Go.Proofs.YtmockbddhhmmeaaGreat.Ev

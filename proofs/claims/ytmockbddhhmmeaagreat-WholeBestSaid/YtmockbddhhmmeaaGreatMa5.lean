/- Tables at a function; arguments of lists of bytes and numbers. -/
import Derived.Test.YtmockbddhhmmeaaGreatMa4
import Derived.Laws.RangeAny
import Derived.MapKept
import Derived.WideKeyRuns
import Derived.Orders
import Derived.Attr
namespace Go.Proofs.YtmockbddhhmmeaaGreat.Ev
open Go Go.Proofs
set_option maxRecDepth 10000
set_option maxHeartbeats 8000000
set_option linter.unusedVariables false
set_option linter.unusedSimpArgs false
section
theorem table_at : ∀ {l : List (FuncId × (List AV → Mem → Option (AV × Mem)))} {f : FuncId} {g : List AV → Mem → Option (AV × Mem)} {args : List AV} {m : Mem}, (l.find? fun p => p.1 == f).map (·.2) = some g → table l f args m = g args m
 | [], f, g, args, m, h => by simp at h
 | (k, g0) :: rest, f, g, args, m, h => by
  by_cases e : f = k
  ·subst e
   simp at h
   rw [table, if_pos rfl, h]
  ·have e' : (k == f) = false := by simpa using fun h => e h.symm
   rw [List.find?_cons, e'] at h
   rw [table, if_neg e]
   exact table_at h
/-- Contracts one by one. -/
theorem table_nil {P : Program} : ∀ p ∈ ([] : List (FuncId × (List AV → Mem → Option (AV × Mem)))), FunOk P p.1 p.2 := fun p h => by simp at h
theorem table_more {P : Program} {f : FuncId} {g : List AV → Mem → Option (AV × Mem)} {l : List (FuncId × (List AV → Mem → Option (AV × Mem)))} (h : FunOk P f g) (hl : ∀ p ∈ l, FunOk P p.1 p.2) : ∀ p ∈ (f, g) :: l, FunOk P p.1 p.2 := fun p hp => by
 rcases List.mem_cons.1 hp with rfl | hp
 ·exact h
 ·exact hl p hp
section
variable {P : Program} {d : Nat} {t e : TypeId} {a : AV}
end
end
section
/-- An object as it is; a row of cells that stands for abstract values. -/
inductive XOb where
 | ob (o : Obj)
 | arr (cs : List AV)
@[reducible] def XOb.stringIter (s : ByteArray) (p : Nat) : XOb := .ob (.stringIter s p)
def XIn (φ : Phi) (m : Mem) (w : World) (b : Nat) : XOb → Prop
 | .ob o => w.heap[b]? = some o
 | .arr cs => ∃ arr T, w.heap[b]? = some (.cells arr T (0, 0)) ∧ Reps φ m w cs arr ∧ cs.all isRow = true ∧ ∀ (o : Nat) u, arr[o]? = some u → one u = true
abbrev Objs := List (Nat × XOb)
def setObjs (F : Objs) (b : Nat) (o : XOb) : Objs := F.map fun p => if p.1 = b then (b, o) else p
/-- They are there, since the beginning of the call; nobody else has them. -/
def ObjsIn (φ : Phi) (m : Mem) (w₀ w : World) (F : Objs) : Prop := ∀ p ∈ F, XIn φ m w p.1 p.2 ∧ w₀.heap.size ≤ p.1 ∧ ¬ Own φ m p.1 ∧ ∀ o, ¬ φ.im p.1 o
theorem xin_lt {φ : Phi} {m : Mem} {w : World} {b : Nat} {x : XOb} (h : XIn φ m w b x) : b < w.heap.size := by
 cases x with
 | ob o => exact (Array.getElem?_eq_some_iff.1 h).1
 | arr cs =>
  obtain ⟨arr, T, h1, _⟩ := h
  exact (Array.getElem?_eq_some_iff.1 h1).1
theorem xin_heap {φ φ' : Phi} {m m' : Mem} {w w' : World} {b : Nat} {x : XOb} (h : XIn φ m w b x) (hb : w'.heap[b]? = w.heap[b]?) (hr : ∀ {a : AV} {x : Value}, Rep φ m w a x → Rep φ' m' w' a x) : XIn φ' m' w' b x := by
 cases x with
 | ob o => exact hb.trans h
 | arr cs =>
  obtain ⟨arr, T, h1, h2, h3⟩ := h
  exact ⟨arr, T, hb.trans h1, ⟨h2.1, fun i a u e1 e2 => hr (h2.2 i a u e1 e2)⟩, h3⟩
def StF (φ₀ : Phi) (m₀ : Mem) (w₀ : World) (nt : Nat) (e : Env) (m : Mem) (F : Objs) (a : Act) (w : World) : Prop :=
 ∃ φ, RM φ m w ∧ Ext φ₀ m₀ w₀ φ m w ∧ EnvRep φ m w e a.tmps ∧ nt ≤ a.tmps.size ∧ a.defers = [] ∧ ObjsIn φ m w₀ w F
section
variable {P : Program} {call : CallF} {nt : Nat} {φ₀ : Phi} {m₀ : Mem} {w₀ : World} {kp : Nat → Option (List Nat)}

theorem objs_ext {φ φ' : Phi} {m m' : Mem} {w w' : World} {F : Objs} (h : ObjsIn φ m w₀ w F) (hX : Ext φ m w φ' m' w') : ObjsIn φ' m' w₀ w' F := by
 intro p hp
 obtain ⟨h1, h2, h3, h4⟩ := h p hp
 have hlt : p.1 < w.heap.size := xin_lt h1
 refine ⟨xin_heap h1 (hX.blk p.1 hlt h3) fun h => h.mono hX, h2, fun ho => ?_, fun o ho => ?_⟩
 ·rcases hX.own p.1 ho with h | h
  ·exact h3 h
  ·omega
 ·rcases hX.imn p.1 o ho with h | h | h
  ·exact h4 o h
  ·exact h3 h
  ·omega
theorem StF.drop {e : Env} {m : Mem} {F : Objs} {a : Act} {w : World} (h : StF φ₀ m₀ w₀ nt e m F a w) : St φ₀ m₀ w₀ nt e m a w :=
 let ⟨φ, h1, h2, h3, h4, h5, _⟩ := h; ⟨φ, h1, h2, h3, h4, h5⟩
theorem StF.restr {e : Env} {m : Mem} {F : Objs} {a : Act} {w : World} (h : StF φ₀ m₀ w₀ nt e m F a w) (l : Option (List Nat)) : StF φ₀ m₀ w₀ nt (restr l e) m F a w :=
 let ⟨φ, h1, h2, h3, h4, h5, h6⟩ := h; ⟨φ, h1, h2, h3.restr l, h4, h5, h6⟩

/-! ### such objects come and change -/
theorem Rep.carry {φ : Phi} {m : Mem} {w w' : World} (hc : ∀ b o, φ.im b o → w'.cell? ⟨b, o, none⟩ = w.cell? ⟨b, o, none⟩) {a : AV} {x : Value} (h : Rep φ m w a x) : Rep φ m w' a x := by
 induction h with
 | junk x => exact .junk x
 | v x => exact .v x
 | agg cs arr hn _ ih => exact .agg cs arr hn ih
 | tup cs arr hn _ ih => exact .tup cs arr hn ih
 | lst g sz rows a c val hcc hr ha hs hcell _ hg ih =>
  refine .lst g sz rows a c val hcc hr ha hs (fun ad i row j x e1 e2 e3 => ?_) ih hg
  obtain ⟨h1, h2, h5⟩ := hcell ad i row j x e1 e2 e3
  exact ⟨h1, (hc _ _ h1).trans h2, h5⟩
 | ptr r off cs h => exact .ptr r off cs h
 | eptr cs ad val hs hcell _ ih =>
  refine .eptr cs ad val hs (fun j x e => ?_) ih
  obtain ⟨h1, h2⟩ := hcell j x e
  exact ⟨h1, (hc _ _ h1).trans h2⟩
 | vs r off sz n c cs h hb hn => exact .vs r off sz n c cs h hb hn
 | fn f first caps fv cv h1 h2 _ _ ih1 ih2 => exact .fn f first caps fv cv h1 h2 ih1 ih2
theorem alloc_obj {φ : Phi} {m : Mem} {w : World} (hR : RM φ m w) (o : Obj) : RM φ m (w.alloc o) ∧ Ext φ m w φ m (w.alloc o) := by
 have hblk : ∀ b, b < w.heap.size → (w.alloc o).heap[b]? = w.heap[b]? := fun b hb => heap_alloc_old w _ hb
 have lt_of : ∀ b o, w.heap[b]? = some o → b < w.heap.size := fun b o h => (Array.getElem?_eq_some_iff.1 h).1
 have hext : Ext φ m w φ m (w.alloc o) := {
  os := rfl, tape := rfl, output := rfl, size := by rw [alloc_size]; omega
  im := fun b o hi => ⟨hi, cell_of_heap (hblk b (hR.imlt b o hi)) o⟩
  vb := fun r cs' hv => ⟨rfl, cs', hv, rfl⟩
  tk := fun i v hv => ⟨v, hv, Nat.le_refl _, fun _ => rfl⟩
  blk := fun b hb _ => hblk b hb
  own := fun b hb => .inl hb
  imn := fun b o hi => .inl hi }
 refine ⟨?_, hext⟩
 exact {
  var := fun r cs' hv => by
   obtain ⟨arr', T', h1, h2, h3⟩ := hR.var r cs' hv
   exact ⟨arr', T', by rw [hblk _ (lt_of _ _ h1)]; exact h1, h2.mono hext, h3⟩
  inj := hR.inj
  vim := hR.vim
  tok := fun i b s e hlt hk hse => by
   obtain ⟨arr', T', h1, h2, h3, h4, h5⟩ := hR.tok i b s e hlt hk hse
   exact ⟨arr', T', by rw [hblk _ (lt_of _ _ h1)]; exact h1, h2, h3, h4, h5⟩
  tinj := hR.tinj
  imlt := fun b o hi => Nat.lt_of_lt_of_le (hR.imlt b o hi) (by rw [alloc_size]; omega) }
theorem own_lt {φ : Phi} {m : Mem} {w : World} (hR : RM φ m w) {b : Nat} (h : Own φ m b) : b < w.heap.size := by
 rcases h with ⟨r, cs, hv, rfl⟩ | ⟨id, s, e, hlt, hk, hse⟩
 ·obtain ⟨arr, T, h1, _⟩ := hR.var r cs hv
  exact (Array.getElem?_eq_some_iff.1 h1).1
 ·obtain ⟨arr, T, h1, _⟩ := hR.tok id b s e hlt hk hse
  exact (Array.getElem?_eq_some_iff.1 h1).1
/-- A world with an object in place of another. -/
def putObj (w : World) (b : Nat) (o : Obj) : World := { w with heap := w.heap.setIfInBounds b o }
theorem putObj_other (w : World) {b c : Nat} (o : Obj) (h : c ≠ b) : (putObj w b o).heap[c]? = w.heap[c]? := by simp [putObj, Array.getElem?_setIfInBounds_ne (Ne.symm h)]
theorem putObj_self (w : World) {b : Nat} (o : Obj) (h : b < w.heap.size) : (putObj w b o).heap[b]? = some o := by simp [putObj, h]
theorem put_obj {φ : Phi} {m : Mem} {w : World} (hR : RM φ m w) (hX : Ext φ₀ m₀ w₀ φ m w) {b : Nat} {o' : Obj} (hlt : b < w.heap.size) (him : ∀ o, ¬ φ.im b o) (hno : ¬ Own φ m b) (hge : w₀.heap.size ≤ b) :
  RM φ m (putObj w b o') ∧ Ext φ₀ m₀ w₀ φ m (putObj w b o') ∧ ∀ {a : AV} {x : Value}, Rep φ m w a x → Rep φ m (putObj w b o') a x := by
 have hcell : ∀ c off, φ.im c off → (putObj w b o').cell? ⟨c, off, none⟩ = w.cell? ⟨c, off, none⟩ := by
  intro c off hi
  exact cell_of_heap (putObj_other w o' fun hc => him off (by rw [← hc]; exact hi)) off
 have hrep : ∀ {a : AV} {x : Value}, Rep φ m w a x → Rep φ m (putObj w b o') a x := fun h => Rep.carry hcell h
 have hsz : (putObj w b o').heap.size = w.heap.size := by simp [putObj]
 refine ⟨?_, ?_, hrep⟩
 ·exact {
   var := fun r cs' hv => by
    obtain ⟨arr', T', h1, h2, h3⟩ := hR.var r cs' hv
    exact ⟨arr', T', by rw [putObj_other w o' (fun e => hno (.inl ⟨r, cs', hv, e⟩))]; exact h1, ⟨h2.1, fun i a u e1 e2 => hrep (h2.2 i a u e1 e2)⟩, h3⟩
   inj := hR.inj
   vim := hR.vim
   tok := fun i c s e hlt hk hse => by
    obtain ⟨arr', T', h1, h2, h3, h4, h5⟩ := hR.tok i c s e hlt hk hse
    exact ⟨arr', T', by rw [putObj_other w o' (fun e2 => hno (.inr ⟨i, s, e, hlt, by rw [← e2]; exact hk, hse⟩))]; exact h1, h2, h3, h4, h5⟩
   tinj := hR.tinj
   imlt := fun c o hi => by rw [hsz]; exact hR.imlt c o hi }
 ·exact {
   os := hX.os, tape := hX.tape, output := hX.output
   size := by rw [hsz]; exact hX.size
   im := fun c off hi => ⟨(hX.im c off hi).1, (hcell c off (hX.im c off hi).1).trans (hX.im c off hi).2⟩
   vb := hX.vb
   tk := hX.tk
   blk := fun c hc hno' => by rw [putObj_other w o' (by omega)]; exact hX.blk c hc hno'
   own := hX.own
   imn := hX.imn }
theorem putAV_some {d : Nat} (h : d < nt) (av : AV) (e : Env) : putAV nt (some d) av e = some ((d, av) :: e) := if_pos h
theorem StF.new {e : Env} {m : Mem} {F : Objs} {a : Act} {w : World} (h : StF φ₀ m₀ w₀ nt e m F a w) {o : Obj} {d : Nat} (hd : d < nt) {x : Value} :
  StF φ₀ m₀ w₀ nt ((d, .v x) :: e) m ((w.heap.size, .ob o) :: F) (a.put (some d) x) (w.alloc o) := by
 obtain ⟨φ, hR, hX, hE, hn, hdf, hF⟩ := h
 obtain ⟨hR', hX'⟩ := alloc_obj hR o
 refine ⟨φ, hR', hX.trans hX', (hE.mono hX').put (putAV_some hd _ _) hn (.v x) a.defers, by rw [put_size]; exact hn, by rw [put_defers]; exact hdf, fun p hp => ?_⟩
 rcases List.mem_cons.1 hp with rfl | hp
 ·exact ⟨heap_alloc_new w o, hX.size, fun h => by have := own_lt hR h; omega, fun o h => by have := hR.imlt _ _ h; omega⟩
 ·exact objs_ext hF hX' p hp
theorem StF.set {e : Env} {m : Mem} {F : Objs} {a : Act} {w : World} (h : StF φ₀ m₀ w₀ nt e m F a w) {b : Nat} {o : XOb} {o' : Obj} (hb : (b, o) ∈ F) {d : Nat} (hd : d < nt) {av : AV} {x : Value} (hx : ∀ φ, RM φ m w → EnvRep φ m w e a.tmps → Rep φ m w av x) :
  StF φ₀ m₀ w₀ nt ((d, av) :: e) m (setObjs F b (.ob o')) (a.put (some d) x) (putObj w b o') := by
 obtain ⟨φ, hR, hX, hE, hn, hdf, hF⟩ := h
 obtain ⟨h1, h2, h3, h4⟩ := hF _ hb
 have hlt : b < w.heap.size := xin_lt h1
 obtain ⟨hR', hX', hrep⟩ := put_obj (o' := o') hR hX hlt h4 h3 h2
 have hE' : EnvRep φ m (putObj w b o') e a.tmps := fun t => hrep (hE t)
 refine ⟨φ, hR', hX', hE'.put (putAV_some hd _ _) hn (hrep (hx φ hR hE)) a.defers, by rw [put_size]; exact hn, by rw [put_defers]; exact hdf, fun p hp => ?_⟩
 obtain ⟨q, hq, rfl⟩ := List.mem_map.1 hp
 obtain ⟨g1, g2, g3, g4⟩ := hF q hq
 by_cases e1 : q.1 = b
 ·rw [if_pos e1]
  exact ⟨putObj_self w o' hlt, h2, h3, h4⟩
 ·rw [if_neg e1]
  exact ⟨xin_heap g1 (putObj_other w o' e1) hrep, g2, g3, g4⟩

/-! ### code -/
abbrev PostF := Ex → Env → Mem → Objs → Prop
def EndsF (φ₀ : Phi) (m₀ : Mem) (w₀ : World) (nt : Nat) (Q : PostF) : Exit → Act → World → Prop := fun x a w => ∃ y e m F, x = toExit y ∧ StF φ₀ m₀ w₀ nt e m F a w ∧ Q y e m F
def XRuns (P : Program) (φ₀ : Phi) (m₀ : Mem) (w₀ : World) (nt : Nat) (c : Code) (e : Env) (m : Mem) (F : Objs) (Q : PostF) : Prop :=
 ∀ a w, StF φ₀ m₀ w₀ nt e m F a w → c.wp P (EndsF φ₀ m₀ w₀ nt Q) a w
def XNext (K : Env → Mem → Objs → Prop) (Q : PostF) : PostF
 | .normal, e, m, F => K e m F
 | x, e, m, F => Q x e m F
def XInside (id : Nat) (Q : PostF) : PostF
 | .exit q, e, m, F => if q = id then Q .normal e m F else Q (.exit q) e m F
 | x, e, m, F => Q x e m F
variable {e : Env} {m : Mem} {F : Objs} {Q : PostF} {K : Env → Mem → Objs → Prop}
theorem xn_normal (h : K e m F) : XNext K Q .normal e m F := h
theorem xn_exit {id : Nat} (h : Q (.exit id) e m F) : XNext K Q (.exit id) e m F := h
theorem xn_ret (h : Q .ret e m F) : XNext K Q .ret e m F := h
theorem xi_normal {id : Nat} (h : Q .normal e m F) : XInside id Q .normal e m F := h
theorem xi_ret {id : Nat} (h : Q .ret e m F) : XInside id Q .ret e m F := h
theorem xi_exit {id : Nat} (h : Q .normal e m F) : XInside id Q (.exit id) e m F := by show (if id = id then _ else _); rw [if_pos rfl]; exact h
theorem xi_other {id q : Nat} (hq : q ≠ id) (h : Q (.exit q) e m F) : XInside id Q (.exit q) e m F := by show (if q = id then _ else _); rw [if_neg hq]; exact h
theorem x_mono {c : Code} {Q' : PostF} (h : XRuns P φ₀ m₀ w₀ nt c e m F Q) (hq : ∀ x e m F, Q x e m F → Q' x e m F) : XRuns P φ₀ m₀ w₀ nt c e m F Q' :=
 fun a w hs => wp_mono (h a w hs) fun x a w ⟨y, e, m, F, h1, h2, h3⟩ => ⟨y, e, m, F, h1, h2, hq _ _ _ _ h3⟩
theorem x_skip (h : Q .normal e m F) : XRuns P φ₀ m₀ w₀ nt .skip e m F Q := fun a w hs => wp_skip ⟨.normal, e, m, F, rfl, hs, h⟩
theorem x_exit {id : Nat} (h : Q (.exit id) e m F) : XRuns P φ₀ m₀ w₀ nt (.exit id) e m F Q := fun a w hs => wp_exit ⟨.exit id, e, m, F, rfl, hs, h⟩
theorem x_ret (h : Q .ret e m F) : XRuns P φ₀ m₀ w₀ nt .ret e m F Q := fun a w hs => wp_ret ⟨.ret, e, m, F, rfl, hs, h⟩
theorem x_seq {x y : Code} (h : XRuns P φ₀ m₀ w₀ nt x e m F (XNext (fun e m F => XRuns P φ₀ m₀ w₀ nt y e m F Q) Q)) : XRuns P φ₀ m₀ w₀ nt (.seq x y) e m F Q := fun a w hs => by
 refine wp_seq (wp_mono (h a w hs) fun x a w ⟨y, e, m, F, h1, h2, h3⟩ => ?_)
 subst h1
 cases y with
 | normal => exact h3 a w h2
 | exit id => exact ⟨.exit id, e, m, F, rfl, h2, h3⟩
 | ret => exact ⟨.ret, e, m, F, rfl, h2, h3⟩
theorem x_block {id : Nat} {b : Code} (h : XRuns P φ₀ m₀ w₀ nt b e m F (XInside id Q)) : XRuns P φ₀ m₀ w₀ nt (.block id b) e m F Q := fun a w hs => by
 refine wp_block (wp_mono (h a w hs) fun x a w ⟨y, e, m, F, h1, h2, h3⟩ => ?_)
 subst h1
 cases y with
 | normal => exact ⟨.normal, e, m, F, rfl, h2, h3⟩
 | ret => exact ⟨.ret, e, m, F, rfl, h2, h3⟩
 | exit q =>
  show (if q = id then _ else _)
  have h3' : if q = id then Q .normal e m F else Q (.exit q) e m F := h3
  by_cases hq : q = id
  ·rw [if_pos hq] at h3' ⊢
   exact ⟨.normal, e, m, F, rfl, h2, h3'⟩
  ·rw [if_neg hq] at h3' ⊢
   exact ⟨.exit q, e, m, F, rfl, h2, h3'⟩
theorem x_cond {c : Operand} {x y : Code} {t : Bool} (hc : opd P e 0 c = .v (.bool t)) (ht : t = true → XRuns P φ₀ m₀ w₀ nt x e m F Q) (hf : t = false → XRuns P φ₀ m₀ w₀ nt y e m F Q) : XRuns P φ₀ m₀ w₀ nt (.cond c x y) e m F Q := fun a w hs => by
 have hc' : a.eval c = .bool t := by
  obtain ⟨φ, _, _, hE, _⟩ := hs
  have := rep_opd (P := P) hE 0 c
  rw [hc] at this
  generalize hv : a.eval c = v at this
  cases this
  rfl
 refine wp_cond hc' ?_
 cases t with
 | true => exact ht rfl a w hs
 | false => exact hf rfl a w hs
theorem x_loop {b : Code} (I : Nat → Env → Mem → Objs → Prop) {k : Nat} (h0 : I k e m F) (round : ∀ k e m F, I k e m F → XRuns P φ₀ m₀ w₀ nt b e m F (XNext (fun e m F => ∃ k', k' < k ∧ I k' e m F) Q)) : XRuns P φ₀ m₀ w₀ nt (.loop b) e m F Q := by
 have key : ∀ n k e m F a w, k < n → I k e m F → StF φ₀ m₀ w₀ nt e m F a w → Code.rounds P b (EndsF φ₀ m₀ w₀ nt Q) n a w := by
  intro n
  induction n with
  | zero => intro k e m F a w h; omega
  | succ n ih =>
   intro k e m F a w hk hI hs
   rw [rounds_succ]
   refine wp_mono (round k e m F hI a w hs) fun x a w ⟨y, e, m, F, h1, h2, h3⟩ => ?_
   subst h1
   cases y with
   | normal =>
    obtain ⟨k', hk', hI'⟩ := h3
    exact ih k' e m F a w (by omega) hI' h2
   | exit id => exact ⟨.exit id, e, m, F, rfl, h2, h3⟩
   | ret => exact ⟨.ret, e, m, F, rfl, h2, h3⟩
 exact fun a w hs => wp_loop_rounds (k + 1) (key (k + 1) k e m F a w (Nat.lt_succ_self _) h0 hs)
/-- Code without such objects of its own. -/
theorem x_lift (hm : P.follows .mixedOrders = true) (hC : CallOk P call) {c : Code} (h : Runs P call nt kp c e m fun x e m => Q x e m F) : XRuns P φ₀ m₀ w₀ nt c e m F Q := fun a w hs => by
 obtain ⟨n, x, e', m', h1, h2⟩ := h
 obtain ⟨φ, hR, hX, hE, hn, hd, hF⟩ := hs
 refine wp_mono (code_sound (φ₀ := φ) (m₀ := m) (w₀ := w) hm hC kp n c e m _ h1 a w ⟨φ, hR, Ext.refl .., hE, hn, hd⟩) fun y a' w' hp => ?_
 obtain ⟨rfl, φ', hR', hX', hE', hn', hd'⟩ := hp
 exact ⟨x, e', m', F, rfl, ⟨φ', hR', hX.trans hX', hE', hn', hd', objs_ext hF hX'⟩, h2⟩
theorem x_region (hm : P.follows .mixedOrders = true) (hC : CallOk P call) {id : Nat} {l : List Oper} (h : Ops P call nt l.toArray false l e m fun e' m' => ∀ e2, restr (kp id) e' = e2 → Q .normal e2 m' F) : XRuns P φ₀ m₀ w₀ nt (.region id l.toArray false) e m F Q :=
 x_lift hm hC (runs_ops_kept h)

/-! ### regions with operations on such objects -/
def XOps (P : Program) (φ₀ : Phi) (m₀ : Mem) (w₀ : World) (nt : Nat) (ops : Array Oper) (l : List Oper) (e : Env) (m : Mem) (F : Objs) (K : Env → Mem → Objs → Prop) : Prop :=
 ∀ (R : Exit → Act → World → Prop), (∀ e m F a w, K e m F → StF φ₀ m₀ w₀ nt e m F a w → R .normal a w) → ∀ a w, StF φ₀ m₀ w₀ nt e m F a w → wpList P ops R l a w
variable {ops : Array Oper}
theorem x_ops {id : Nat} {l : List Oper} {l2 : Option (List Nat)} (h : XOps P φ₀ m₀ w₀ nt l.toArray l e m F fun e' m' F' => ∀ e2, Ev.restr l2 e' = e2 → Q .normal e2 m' F') : XRuns P φ₀ m₀ w₀ nt (.region id l.toArray false) e m F Q := fun a w hs =>
 wp_region_list (h (EndsF φ₀ m₀ w₀ nt Q) (fun e m F a w hK hs => ⟨.normal, _, m, F, rfl, hs.restr l2, hK _ rfl⟩) a w hs)
theorem xo_nil (h : K e m F) : XOps P φ₀ m₀ w₀ nt ops [] e m F K := fun R hR a w hs => hR e m F a w h hs
theorem wanted_none {o : Oper} (hg : o.guard = none) {a : Act} : Region.wanted o (yielded ops a.tmps) = true := by
 unfold Region.wanted
 rw [hg]
theorem xo_op (hC : CallOk P call) {o : Oper} {rest : List Oper} {av : AV} {m1 : Mem} {d : Nat} (hg : o.guard = none) (hd : o.dst = some d) (hlt : d < nt) (hk : evOp P call e m o = some (av, m1)) (h : XOps P φ₀ m₀ w₀ nt ops rest ((d, av) :: e) m1 F K) :
  XOps P φ₀ m₀ w₀ nt ops (o :: rest) e m F K := fun R hR a w hs => by
 obtain ⟨φ, hRM, hX, hE, hn, hdf, hF⟩ := hs
 unfold wpList
 rw [wanted_none hg, if_pos rfl]
 left
 refine op_wp hC hRM hE hk fun x w' φ' g1 g2 g3 => ?_
 refine h R hR _ _ ⟨φ', g1, hX.trans g2, ?_, by rw [put_size]; exact hn, by rw [put_defers]; exact hdf, objs_ext hF g2⟩
 exact (hE.mono g2).put (by rw [hd]; exact putAV_some hlt _ _) hn g3 a.defers
/-! ### a function -/
def XLeaves (P : Program) (gr : Bool) (fn : Func) (m₀ : Mem) (r : AV × Mem) : PostF
 | .normal, e, m, _ => evRet P gr fn m₀ e m = some r
 | .ret, e, m, _ => evRet P gr fn m₀ e m = some r
 | .exit _, _, _, _ => False
theorem x_leaves {gr : Bool} {fn : Func} {r : AV × Mem} (h : Leaves P gr fn m₀ r .ret e m) : XLeaves P gr fn m₀ r .ret e m F := h
theorem fun_okX {f : FuncId} {fn : Func} {c : Code} (hf : P.funcs[f]? = some fn) (hb : fn.body = some c) (gr : Bool) {g : List AV → Mem → Option (AV × Mem)} (hn : (fn.name == "runtime.NumGoroutine") = false)
  (h : ∀ args m r, g args m = some r → args.length ≤ fn.ntmps ∧ ∀ φ w, XRuns P φ m w fn.ntmps c (entry args) m [] (XLeaves P gr fn m r)) : FunOk P f g := by
 intro args m r m' hg
 obtain ⟨hl, hx⟩ := h args m (r, m') hg
 refine ⟨⟨fn, hf, by rw [hb]; rfl, hn⟩, fun φ w vals hR hA => ?_⟩
 have hst : StF φ m w fn.ntmps (entry args) m [] { tmps := vals ++ Array.replicate (fn.ntmps - vals.size) undef, defers := [] } w :=
  ⟨φ, hR, Ext.refl .., entry_rep hA _, by simp; omega, rfl, fun p hp => by simp at hp⟩
 refine calls_of_wp hf hb (wp_mono (hx φ w _ _ hst) fun x a w' ⟨y, e, m1, F, h1, h2, h3⟩ => ?_)
 subst h1
 have fin : evRet P gr fn m e m1 = some (r, m') → a.defers = [] ∧ ∃ v, (results fn a.tmps).run P w' = .ok v w' ∧ ∃ x φ', Ending.returned v = .returned x ∧ RM φ' m' w' ∧ Ext φ m w φ' m' w' ∧ Rep φ' m' w' r x := by
  intro hret
  obtain ⟨x, φ', g1, g2, g3, g4⟩ := ret_sound hR h2.drop hret
  obtain ⟨_, _, _, _, _, hd⟩ := h2.drop
  exact ⟨hd, x, g1, x, φ', rfl, g2, g3, g4⟩
 cases y with
 | normal => exact fin h3
 | ret => exact fin h3
 | exit id => exact h3.elim
end
end
section
section
variable {P : Program} {call : CallF} {nt : Nat} {φ₀ : Phi} {m₀ : Mem} {w₀ : World} {ops : Array Oper}
variable {e e1 : Env} {m m1 : Mem} {F : Objs} {K : Env → Mem → Objs → Prop} {o : Oper} {av : AV}
def XStep (P : Program) (φ₀ : Phi) (m₀ : Mem) (w₀ : World) (nt : Nat) (ops : Array Oper) (o : Oper) (e : Env) (m : Mem) (F : Objs) (K : Env → Mem → Objs → Prop) : Prop :=
 ∀ (K' : Act → World → Prop) (Q : Exit → Act → World → Prop), (∀ e m F a w, K e m F → StF φ₀ m₀ w₀ nt e m F a w → K' a w) → ∀ a w, StF φ₀ m₀ w₀ nt e m F a w →
  if Region.wanted o (yielded ops a.tmps) then o.wp P a w K' Q ∨ (o.asks P a w ∧ LetsOut Q) else K' (a.put o.dst undef) w
theorem xops_step {rest : List Oper} (h : XStep P φ₀ m₀ w₀ nt ops o e m F (fun e m F => XOps P φ₀ m₀ w₀ nt ops rest e m F K)) : XOps P φ₀ m₀ w₀ nt ops (o :: rest) e m F K := fun R hR a w hs => by
 unfold wpList
 exact h (wpList P ops R rest) R (fun e m F a w hK hs => hK R hR a w hs) a w hs
/-! ### any order -/
def XAny (P : Program) (φ₀ : Phi) (m₀ : Mem) (w₀ : World) (nt : Nat) (ops : Array Oper) (n : Nat) (listed : Array Bool) (e : Env) (m : Mem) (F : Objs) (K : Env → Mem → Objs → Prop) : Prop :=
 ∀ (R : Exit → Act → World → Prop), (∀ e m F a w, K e m F → StF φ₀ m₀ w₀ nt e m F a w → R .normal a w) → ∀ a w, StF φ₀ m₀ w₀ nt e m F a w → wpAny P .any ops R n listed a w
theorem xany_done {n : Nat} {listed : Array Bool} (hr : Region.ready .any ops listed = []) (h : K e m F) : XAny P φ₀ m₀ w₀ nt ops n listed e m F K := fun R hR a w hs => wpAny_done hr (hR e m F a w h hs) n
theorem xany_step {n : Nat} {listed : Array Bool} {rs : List Nat} (hr : Region.ready .any ops listed = rs) (hne : rs ≠ [])
  (h : ∀ i ∈ rs, ∃ o, ops[i]? = some o ∧ XStep P φ₀ m₀ w₀ nt ops o e m F (fun e m F => XAny P φ₀ m₀ w₀ nt ops n (listed.setIfInBounds i true) e m F K)) : XAny P φ₀ m₀ w₀ nt ops (n + 1) listed e m F K := fun R hR a w hs => by
 refine wpAny_all hr hne fun i hi => ?_
 obtain ⟨o, ho, hx⟩ := h i hi
 unfold wpOp
 rw [ho]
 exact hx (wpAny P .any ops R n (listed.setIfInBounds i true)) R (fun e m F a w hK hs => hK R hR a w hs) a w hs
theorem xany_one {n : Nat} {listed listed1 : Array Bool} {i : Nat} (hr : Region.ready .any ops listed = [i]) (ho : ops.toList[i]? = some o) (hl : listed.setIfInBounds i true = listed1)
  (h : XStep P φ₀ m₀ w₀ nt ops o e m F (fun e m F => XAny P φ₀ m₀ w₀ nt ops n listed1 e m F K)) : XAny P φ₀ m₀ w₀ nt ops (n + 1) listed e m F K :=
 xany_step hr (by simp) fun j hj => by
  rcases List.mem_singleton.1 hj with rfl
  exact ⟨o, by simpa using ho, by rw [hl]; exact h⟩
theorem xany_two {n : Nat} {listed listed1 listed2 : Array Bool} {i j : Nat} {o2 : Oper} (hr : Region.ready .any ops listed = [i, j]) (ho : ops.toList[i]? = some o) (hl : listed.setIfInBounds i true = listed1) (ho2 : ops.toList[j]? = some o2) (hl2 : listed.setIfInBounds j true = listed2)
  (h : XStep P φ₀ m₀ w₀ nt ops o e m F (fun e m F => XAny P φ₀ m₀ w₀ nt ops n listed1 e m F K))
  (h2 : XStep P φ₀ m₀ w₀ nt ops o2 e m F (fun e m F => XAny P φ₀ m₀ w₀ nt ops n listed2 e m F K)) : XAny P φ₀ m₀ w₀ nt ops (n + 1) listed e m F K :=
 xany_step hr (by simp) fun q hq => by
  rcases List.mem_cons.1 hq with rfl | hq
  ·exact ⟨o, by simpa using ho, by rw [hl]; exact h⟩
  ·rcases List.mem_singleton.1 hq with rfl
   exact ⟨o2, by simpa using ho2, by rw [hl2]; exact h2⟩
theorem x_any (hm : P.follows .mixedOrders = true) {id n : Nat} {l : List Oper} {l2 : Option (List Nat)} {Q : PostF} (hn : l.length = n)
  (h : XAny P φ₀ m₀ w₀ nt l.toArray n (List.replicate n false).toArray e m F fun e' m' F' => ∀ e2, Ev.restr l2 e' = e2 → Q .normal e2 m' F') : XRuns P φ₀ m₀ w₀ nt (.region id l.toArray true) e m F Q := fun a w hs => by
 refine wp_region_any hm ?_
 subst hn
 obtain ⟨φ, hRM, hX, hE, hn, hdf, hF⟩ := hs
 have hx := drew_ext φ m w
 have := h (EndsF φ₀ m₀ w₀ nt Q) (fun e m F a w hK hs => ⟨.normal, _, m, F, rfl, hs.restr l2, hK _ rfl⟩) a _ ⟨φ, drew_rm hRM, hX.trans hx, hE.mono hx, hn, hdf, objs_ext hF hx⟩
 simpa using this
theorem xstep_mono {K' : Env → Mem → Objs → Prop} (h : XStep P φ₀ m₀ w₀ nt ops o e m F K') (hk : ∀ e m F, K' e m F → K e m F) : XStep P φ₀ m₀ w₀ nt ops o e m F K :=
 fun K2 Q hK a w hs => h K2 Q (fun e m F a w h1 hs => hK e m F a w (hk _ _ _ h1) hs) a w hs
variable {J : Array Bool → Env → Mem → Objs → Prop} {n : Nat} {listed : Array Bool} {o1 o2 o3 o4 : Oper} {i j q s : Nat}
/-! ### steps -/
theorem xs_op (hC : CallOk P call) (hg : wantedAV ops e o = some true) (hk : evOp P call e m o = some (av, m1)) (hp : putAV nt o.dst av e = some e1) (h : K e1 m1 F) : XStep P φ₀ m₀ w₀ nt ops o e m F K := fun K' Q hK a w hs => by
 obtain ⟨φ, hRM, hX, hE, hn, hdf, hF⟩ := hs
 rw [wanted_sound hE hg, if_pos rfl]
 left
 refine op_wp hC hRM hE hk fun x w' φ' g1 g2 g3 => ?_
 exact hK e1 m1 F _ _ h ⟨φ', g1, hX.trans g2, (hE.mono g2).put hp hn g3 a.defers, by rw [put_size]; exact hn, by rw [put_defers]; exact hdf, objs_ext hF g2⟩
theorem xs_off (hg : wantedAV ops e o = some false) (hp : putAV nt o.dst (.v (.tuple #[])) e = some e1) (h : K e1 m F) : XStep P φ₀ m₀ w₀ nt ops o e m F K := fun K' Q hK a w hs => by
 obtain ⟨φ, hRM, hX, hE, hn, hdf, hF⟩ := hs
 rw [wanted_sound hE hg, if_neg (by simp)]
 exact hK e1 m F _ _ h ⟨φ, hRM, hX, hE.put hp hn (.v _) a.defers, by rw [put_size]; exact hn, by rw [put_defers]; exact hdf, hF⟩
theorem xs_val (hg : wantedAV ops e o = some true) (hp : putAV nt o.dst av e = some e1) (hrun : ∀ (φ : Phi) (a : Act) (w : World), RM φ m w → EnvRep φ m w e a.tmps → ObjsIn φ m w₀ w F → ∃ x, (execOp a.eval o).run P w = .ok (.value x) w ∧ Rep φ m w av x) (h : K e1 m F) :
  XStep P φ₀ m₀ w₀ nt ops o e m F K := fun K' Q hK a w hs => by
 obtain ⟨φ, hRM, hX, hE, hn, hdf, hF⟩ := hs
 rw [wanted_sound hE hg, if_pos rfl]
 left
 obtain ⟨x, hr, hx⟩ := hrun φ a w hRM hE hF
 unfold Oper.wp
 rw [hr, Oper.upon_value]
 exact hK e1 m F _ _ h ⟨φ, hRM, hX, hE.put hp hn hx a.defers, by rw [put_size]; exact hn, by rw [put_defers]; exact hdf, hF⟩
theorem xs_new {f : Nat → Value} {ob : Obj} {d : Nat} (hg : wantedAV ops e o = some true) (hd : o.dst = some d) (hlt : d < nt) (hrun : ∀ (φ : Phi) (a : Act) (w : World), RM φ m w → EnvRep φ m w e a.tmps → ObjsIn φ m w₀ w F → (execOp a.eval o).run P w = .ok (.value (f w.heap.size)) (w.alloc ob))
  (h : ∀ b, (∀ p ∈ F, p.1 ≠ b) → K ((d, .v (f b)) :: e) m ((b, .ob ob) :: F)) : XStep P φ₀ m₀ w₀ nt ops o e m F K := fun K' Q hK a w hs => by
 have hs' := hs.new (o := ob) hlt (x := f w.heap.size)
 obtain ⟨φ, hRM, hX, hE, hn, hdf, hF⟩ := hs
 rw [wanted_sound hE hg, if_pos rfl]
 left
 unfold Oper.wp
 rw [hrun φ a w hRM hE hF, Oper.upon_value, hd]
 exact hK _ m _ _ _ (h w.heap.size fun p hp he => by
  obtain ⟨h1, _⟩ := hF p hp
  have := xin_lt h1
  omega) hs'
/-- What an operation does to an object: an operation that yields, one that doesn't. -/
theorem StF.put_ob {b : Nat} {ob ob' : XOb} {o' : Obj} {a : Act} {w : World} {φ : Phi} (hRM : RM φ m w) (hX : Ext φ₀ m₀ w₀ φ m w) (hF : ObjsIn φ m w₀ w F) (hb : (b, ob) ∈ F)
  (hi : (∀ {a : AV} {x : Value}, Rep φ m w a x → Rep φ m (putObj w b o') a x) → XIn φ m (putObj w b o') b ob') :
  RM φ m (putObj w b o') ∧ Ext φ₀ m₀ w₀ φ m (putObj w b o') ∧ ObjsIn φ m w₀ (putObj w b o') (setObjs F b ob') ∧ ∀ {a : AV} {x : Value}, Rep φ m w a x → Rep φ m (putObj w b o') a x := by
 obtain ⟨h1, h2, h3, h4⟩ := hF _ hb
 have hlt2 : b < w.heap.size := xin_lt h1
 obtain ⟨hR', hX', hrep⟩ := put_obj (o' := o') hRM hX hlt2 h4 h3 h2
 refine ⟨hR', hX', fun p hp => ?_, hrep⟩
 obtain ⟨q, hq, rfl⟩ := List.mem_map.1 hp
 obtain ⟨g1, g2, g3, g4⟩ := hF q hq
 by_cases e1 : q.1 = b
 ·rw [if_pos e1]
  exact ⟨hi hrep, h2, h3, h4⟩
 ·rw [if_neg e1]
  exact ⟨xin_heap g1 (putObj_other w o' e1) hrep, g2, g3, g4⟩
theorem xs_setX {b : Nat} {ob ob' : XOb} {d : Nat} (hg : wantedAV ops e o = some true) (hd : o.dst = some d) (hlt : d < nt) (hb : (b, ob) ∈ F)
  (hrun : ∀ (φ : Phi) (a : Act) (w : World), RM φ m w → EnvRep φ m w e a.tmps → ObjsIn φ m w₀ w F → ∃ x o', (execOp a.eval o).run P w = .ok (.value x) (putObj w b o') ∧ Rep φ m w av x ∧ ((∀ {a : AV} {x : Value}, Rep φ m w a x → Rep φ m (putObj w b o') a x) → XIn φ m (putObj w b o') b ob'))
  (h : K ((d, av) :: e) m (setObjs F b ob')) : XStep P φ₀ m₀ w₀ nt ops o e m F K := fun K' Q hK a w hs => by
 obtain ⟨φ, hRM, hX, hE, hn, hdf, hF⟩ := hs
 rw [wanted_sound hE hg, if_pos rfl]
 left
 obtain ⟨x, o', hr, hx, hi⟩ := hrun φ a w hRM hE hF
 unfold Oper.wp
 rw [hr, Oper.upon_value, hd]
 obtain ⟨hR', hX', hF', hrep⟩ := StF.put_ob (a := a) hRM hX hF hb hi
 exact hK _ m _ _ _ h ⟨φ, hR', hX', EnvRep.put (fun t => hrep (hE t)) (putAV_some hlt _ _) hn (hrep hx) a.defers, by rw [put_size]; exact hn, by rw [put_defers]; exact hdf, hF'⟩
theorem xs_setX0 {b : Nat} {ob ob' : XOb} (hg : wantedAV ops e o = some true) (hd : o.dst = none) (hb : (b, ob) ∈ F)
  (hrun : ∀ (φ : Phi) (a : Act) (w : World), RM φ m w → EnvRep φ m w e a.tmps → ObjsIn φ m w₀ w F → ∃ o', (execOp a.eval o).run P w = .ok .skip (putObj w b o') ∧ ((∀ {a : AV} {x : Value}, Rep φ m w a x → Rep φ m (putObj w b o') a x) → XIn φ m (putObj w b o') b ob'))
  (h : K e m (setObjs F b ob')) : XStep P φ₀ m₀ w₀ nt ops o e m F K := fun K' Q hK a w hs => by
 obtain ⟨φ, hRM, hX, hE, hn, hdf, hF⟩ := hs
 rw [wanted_sound hE hg, if_pos rfl]
 left
 obtain ⟨o', hr, hi⟩ := hrun φ a w hRM hE hF
 unfold Oper.wp
 rw [hr, Oper.upon_skip, hd]
 obtain ⟨hR', hX', hF', hrep⟩ := StF.put_ob (a := a) hRM hX hF hb hi
 exact hK _ m _ _ _ h ⟨φ, hR', hX', fun t => hrep (hE t), hn, hdf, hF'⟩
theorem xs_set0 {b : Nat} {ob : XOb} {ob' : Obj} (hg : wantedAV ops e o = some true) (hd : o.dst = none) (hb : (b, ob) ∈ F)
  (hrun : ∀ (φ : Phi) (a : Act) (w : World), RM φ m w → EnvRep φ m w e a.tmps → ObjsIn φ m w₀ w F → (execOp a.eval o).run P w = .ok .skip (putObj w b ob'))
  (h : K e m (setObjs F b (.ob ob'))) : XStep P φ₀ m₀ w₀ nt ops o e m F K :=
 xs_setX0 (ob' := .ob ob') hg hd hb (fun φ a w h1 h2 h3 => ⟨ob', hrun φ a w h1 h2 h3, fun _ => show (putObj w b ob').heap[b]? = some ob' from putObj_self w ob' (xin_lt (h3 _ hb).1)⟩) h
/-! ### values of operands -/
/-- The one value that stands for an abstract one. -/
def concCell : AV → Option Value
 | .v x => some x
 | _ => none
def conc : AV → Option Value
 | .v x => some x
 | .agg cs => (cs.mapM concCell).map fun l => .agg l.toArray
 | _ => none
theorem conc_cells {φ : Phi} {w : World} : ∀ {cs : List AV} {l l2 : List Value}, cs.mapM concCell = some l → l2.length = cs.length → (∀ (i : Nat) a u, cs[i]? = some a → l2[i]? = some u → Rep φ m w a u) → l = l2
 | [], l, l2, h, hn, _ => by
  simp at h
  subst h
  exact (List.length_eq_zero_iff.1 hn).symm
 | c :: cs, l, l2, h, hn, hr => by
  cases c with
  | v x =>
   simp only [List.mapM_cons, concCell, Option.pure_def, Option.bind_eq_bind, Option.bind_some] at h
   rw [Option.bind_eq_some_iff] at h
   obtain ⟨r, h1, h2⟩ := h
   cases h2
   cases l2 with
   | nil => simp at hn
   | cons u us =>
    have h0 := hr 0 _ u rfl rfl
    cases h0
    rw [conc_cells h1 (by simpa using hn) fun i a u h3 h4 => hr (i + 1) a u (by simpa using h3) (by simpa using h4)]
  | _ => simp [concCell] at h
theorem conc_rep {φ : Phi} {w : World} {a : AV} {x y : Value} (h : conc a = some y) (hr : Rep φ m w a x) : x = y := by
 cases a with
 | v z => cases h; cases hr; rfl
 | agg cs =>
  cases hr with
  | agg _ arr hn hc =>
   simp only [conc, Option.map_eq_some_iff] at h
   obtain ⟨l, h1, rfl⟩ := h
   have := conc_cells (φ := φ) (m := m) (w := w) (l2 := arr.toList) h1 (by simpa using hn) fun i a u h2 h3 => hc i a u h2 (by simpa using h3)
   rw [this]
 | _ => cases h
theorem opd_conc {φ : Phi} {w : World} {a : Act} (hE : EnvRep φ m w e a.tmps) {t : TypeId} {x : Operand} {y : Value} (h : conc (opd P e t x) = some y) : a.eval x = y := conc_rep h (rep_opd hE t x)
/-! ### maps -/
structure KeyOk (P : Program) (kt : TypeId) (κ : Type) [DecidableEq κ] (enc : κ → Value) : Prop where
 ck : ∀ em k w, (Instr.checkKey em 10000 kt (enc k)).run P w = .ok () w
 eq : ∀ a b w, (Op.equal kt (enc a) (enc b)).run P w = .ok (decide (a = b)) w
 wide : (match P.underlying kt with | some (.array _ _) | some (.struct _) => true | _ => false) = true
 stay : ∀ k, Instr.sameBits 10000 (enc k) (enc k) = true
variable {κ : Type} {enc : κ → Value} {kt et mt : TypeId} {w : World}
def ents (enc : κ → Value) : Nat → List (κ × Value) → List MapEntry
 | _, [] => []
 | i, (k, v) :: r => { key := enc k, val := v, born := i } :: ents enc (i + 1) r
def mapO (enc : κ → Value) (l : List (κ × Value)) : Obj := .map (ents enc 0 l).toArray l.length
abbrev mapOb (enc : κ → Value) (l : List (κ × Value)) : XOb := .ob (mapO enc l)
theorem ents_get : ∀ (l : List (κ × Value)) (j i : Nat), (ents enc j l)[i]? = (l[i]?).map fun p => { key := enc p.1, val := p.2, born := j + i }
 | [], j, i => by simp [ents]
 | (k, v) :: r, j, 0 => rfl
 | (k, v) :: r, j, i + 1 => by
  simp only [ents, List.getElem?_cons_succ, ents_get r (j + 1) i]
  congr 1
  funext p
  rw [show j + 1 + i = j + (i + 1) by omega]
theorem ents_app : ∀ (l r : List (κ × Value)) (i : Nat), ents enc i (l ++ r) = ents enc i l ++ ents enc (i + l.length) r
 | [], r, i => by simp [ents]
 | (k, v) :: l, r, i => by
  simp only [List.cons_append, ents, ents_app l r (i + 1), List.length_cons]
  rw [show i + 1 + l.length = i + (l.length + 1) by omega]
def setV (l : List (κ × Value)) (i : Nat) (v : Value) : List (κ × Value) := l.modify i fun p => (p.1, v)
theorem xs_makeMap {d : Nat} {t : TypeId} (hg : wantedAV ops e o = some true) (hd : o.dst = some d) (hlt : d < nt) (ho : o.op = .makeMap t none)
  (h : ∀ b, (∀ p ∈ F, p.1 ≠ b) → K ((d, .v (.map (some b))) :: e) m ((b, mapOb enc []) :: F)) : XStep P φ₀ m₀ w₀ nt ops o e m F K :=
 xs_new (f := fun b => .map (some b)) hg hd hlt (fun φ a w _ _ _ => by
  unfold execOp
  rw [ho]
  rfl) h
variable [DecidableEq κ]
def posOf (k : κ) : List (κ × Value) → Nat → Option (Nat × Value)
 | [], _ => none
 | (q, v) :: r, i => if k = q then some (i, v) else posOf k r (i + 1)
theorem posOf_get {k : κ} : ∀ {l : List (κ × Value)} {j i : Nat} {v : Value}, posOf k l j = some (i, v) → j ≤ i ∧ l[i - j]? = some (k, v)
 | [], _, _, _, h => by cases h
 | (q, u) :: r, j, i, v, h => by
  unfold posOf at h
  split at h
  ·rename_i e
   cases h
   subst e
   exact ⟨Nat.le_refl _, by simp⟩
  ·obtain ⟨h1, h2⟩ := posOf_get h
   refine ⟨by omega, ?_⟩
   rw [show i - j = (i - (j + 1)) + 1 by omega, List.getElem?_cons_succ]
   exact h2
def valAt (z : Value) (k : κ) (l : List (κ × Value)) : Value := ((posOf k l 0).map (·.2)).getD z
/-! ### what a map has -/
def vAt (k : κ) : List (κ × Value) → Option Value
 | [] => none
 | (q, v) :: r => if k = q then some v else vAt k r
def putK (k : κ) (v : Value) : List (κ × Value) → List (κ × Value)
 | [] => [(k, v)]
 | (q, u) :: r => if k = q then (q, v) :: r else (q, u) :: putK k v r
theorem posOf_vAt (k : κ) : ∀ (l : List (κ × Value)) (i : Nat), (posOf k l i).map (·.2) = vAt k l
 | [], _ => rfl
 | (q, v) :: r, i => by
  unfold posOf vAt
  split
  ·rfl
  ·exact posOf_vAt k r (i + 1)
theorem valAt_eq (z : Value) (k : κ) (l : List (κ × Value)) : valAt z k l = (vAt k l).getD z := by
 unfold valAt
 rw [posOf_vAt]
theorem vAt_put (k q : κ) (v : Value) : ∀ (l : List (κ × Value)), vAt q (putK k v l) = if q = k then some v else vAt q l
 | [] => by simp [putK, vAt]
 | (p, u) :: r => by
  unfold putK
  by_cases h : k = p
  ·subst h
   rw [if_pos rfl]
   unfold vAt
   split <;> rfl
  ·rw [if_neg h]
   unfold vAt
   by_cases h2 : q = p
   ·subst h2
    rw [if_pos rfl, if_neg (fun e => h e.symm), if_pos rfl]
   ·rw [if_neg h2, if_neg h2]
    exact vAt_put k q v r
end
/-! ### guarded operations, beside such objects -/
section
variable {P : Program} {call : CallF} {nt : Nat} {φ₀ : Phi} {m₀ : Mem} {w₀ : World} {ops : Array Oper} {rest : List Oper}
variable {e : Env} {m m1 : Mem} {F : Objs} {K : Env → Mem → Objs → Prop} {o : Oper} {av : AV}
theorem xo_op0 (hC : CallOk P call) (hg : o.guard = none) (hd : o.dst = none) (hk : evOp P call e m o = some (av, m1)) (h : XOps P φ₀ m₀ w₀ nt ops rest e m1 F K) : XOps P φ₀ m₀ w₀ nt ops (o :: rest) e m F K :=
 xops_step (xs_op hC (by unfold wantedAV; rw [hg]) hk (by unfold putAV; rw [hd]) h)
theorem xo_yes (hC : CallOk P call) {d j g : Nat} {want : Bool} (hg : o.guard = some (j, want)) (hj : (ops[j]?).bind (·.dst) = some g) (hb : get e g = .v (.bool want)) (hd : o.dst = some d) (hlt : d < nt)
  (hk : evOp P call e m o = some (av, m1)) (h : XOps P φ₀ m₀ w₀ nt ops rest ((d, av) :: e) m1 F K) : XOps P φ₀ m₀ w₀ nt ops (o :: rest) e m F K :=
 xops_step (xs_op hC (by unfold wantedAV; rw [hg]; simp [hj, hb]) hk (by rw [hd]; exact putAV_some hlt _ _) h)
theorem xo_no {d j g : Nat} {want b : Bool} (hg : o.guard = some (j, want)) (hj : (ops[j]?).bind (·.dst) = some g) (hb : get e g = .v (.bool b)) (hne : b ≠ want) (hd : o.dst = some d) (hlt : d < nt)
  (h : XOps P φ₀ m₀ w₀ nt ops rest ((d, .v (.tuple #[])) :: e) m F K) : XOps P φ₀ m₀ w₀ nt ops (o :: rest) e m F K :=
 xops_step (xs_off (by unfold wantedAV; rw [hg]; simp [hj, hb, hne]) (by rw [hd]; exact putAV_some hlt _ _) h)
theorem xo_off {d j g : Nat} {want : Bool} {a : Array Value} (hg : o.guard = some (j, want)) (hj : (ops[j]?).bind (·.dst) = some g) (hb : get e g = .v (.tuple a)) (hd : o.dst = some d) (hlt : d < nt)
  (h : XOps P φ₀ m₀ w₀ nt ops rest ((d, .v (.tuple #[])) :: e) m F K) : XOps P φ₀ m₀ w₀ nt ops (o :: rest) e m F K :=
 xops_step (xs_off (by unfold wantedAV; rw [hg]; simp [hj, hb]) (by rw [hd]; exact putAV_some hlt _ _) h)
end
end
section
attribute [go_sem] evOp opd constAV constCell Ev.get evBinN nilCmp evBin evInt evUn evConvert evBuiltin evLen evField evPart tStr tInt tElem tArr tBool tAgg tField List.zipWith Option.map_some Option.map_none List.length_cons List.length_nil ne_eq not_false_eq_true and_self and_true true_and
attribute [go_sem] evCall List.size_toArray List.append_nil List.nil_append List.map_cons List.map_nil argAV argCell List.toList_toArray fieldTy restr
theorem jn {a b : Prop} (x : a) (y : b) : a ∧ b := ⟨x, y⟩
theorem go0 {A B : Prop} (k : B) (h : B → A := by intro k; (repeat (first | refine runs_seq ?_ | refine runs_block ?_ | refine next_normal ?_ | refine inside_normal ?_ | refine next_exit ?_ | refine inside_exit ?_ | refine inside_other (by decide) ?_ | refine next_ret ?_ | refine inside_ret ?_ | refine runs_ops_kept ?_ | refine runs_skip ?_ | refine runs_exit ?_ | refine runs_ret ?_ | ((first | refine' ops_op rfl rfl (by decide) ?_ ?_ ?_ | refine' ops_yes rfl rfl (by simp only [Ev.get, reduceIte, Nat.reduceEqDiff]; first | done | rfl) rfl (by decide) ?_ ?_ ?_ | refine' ops_op0 rfl rfl ?_ ?_ ?_); rotate_left 2; (focus (simp only [go_sem, reduceIte, Nat.reduceEqDiff, reduceCtorEq, Int.reduceEq]; first | done | rfl)); exact (fun h => by first | rfl | (simp at h; done) | exact absurd (Bool.and_eq_true_iff.mp h).2 (by decide))) | refine ops_no rfl rfl (by simp only [Ev.get, reduceIte, Nat.reduceEqDiff]; first | done | rfl) (by decide) rfl (by decide) ?_ | refine ops_off rfl rfl rfl rfl (by decide) ?_ | (refine ops_nil ?_; intro e2 h2; simp only [go_sem, reduceIte, Nat.reduceEqDiff] at h2; subst h2))); exact k) : A := h k
theorem go1 {A B F1 : Prop} (f1 : F1) (k : B) (h : F1 → B → A := by intro f1 k; (repeat (first | refine runs_seq ?_ | refine runs_block ?_ | refine next_normal ?_ | refine inside_normal ?_ | refine next_exit ?_ | refine inside_exit ?_ | refine inside_other (by decide) ?_ | refine next_ret ?_ | refine inside_ret ?_ | refine runs_ops_kept ?_ | refine runs_skip ?_ | refine runs_exit ?_ | refine runs_ret ?_ | ((first | refine' ops_op rfl rfl (by decide) ?_ ?_ ?_ | refine' ops_yes rfl rfl (by simp only [Ev.get, reduceIte, Nat.reduceEqDiff, f1]; first | done | rfl) rfl (by decide) ?_ ?_ ?_ | refine' ops_op0 rfl rfl ?_ ?_ ?_); rotate_left 2; (focus (simp only [go_sem, reduceIte, Nat.reduceEqDiff, reduceCtorEq, Int.reduceEq, f1]; first | done | rfl)); exact (fun h => by first | rfl | (simp at h; done) | exact absurd (Bool.and_eq_true_iff.mp h).2 (by decide))) | refine ops_no rfl rfl (by simp only [Ev.get, reduceIte, Nat.reduceEqDiff, f1]; first | done | rfl) (by decide) rfl (by decide) ?_ | refine ops_off rfl rfl rfl rfl (by decide) ?_ | (refine ops_nil ?_; intro e2 h2; simp only [go_sem, reduceIte, Nat.reduceEqDiff] at h2; subst h2))); exact k) : A := h f1 k
theorem gos0 {A B : Prop} (k : B) (h : B → A := by intro k; (first | refine runs_seq ?_ | refine runs_block ?_ | refine next_normal ?_ | refine inside_normal ?_ | refine next_exit ?_ | refine inside_exit ?_ | refine inside_other (by decide) ?_ | refine next_ret ?_ | refine inside_ret ?_ | refine runs_ops_kept ?_ | refine runs_skip ?_ | refine runs_exit ?_ | refine runs_ret ?_ | ((first | refine' ops_op rfl rfl (by decide) ?_ ?_ ?_ | refine' ops_yes rfl rfl (by simp only [Ev.get, reduceIte, Nat.reduceEqDiff]; first | done | rfl) rfl (by decide) ?_ ?_ ?_ | refine' ops_op0 rfl rfl ?_ ?_ ?_); rotate_left 2; (focus (simp only [go_sem, reduceIte, Nat.reduceEqDiff, reduceCtorEq, Int.reduceEq]; first | done | rfl)); exact (fun h => by first | rfl | (simp at h; done) | exact absurd (Bool.and_eq_true_iff.mp h).2 (by decide))) | refine ops_no rfl rfl (by simp only [Ev.get, reduceIte, Nat.reduceEqDiff]; first | done | rfl) (by decide) rfl (by decide) ?_ | refine ops_off rfl rfl rfl rfl (by decide) ?_ | (refine ops_nil ?_; intro e2 h2; simp only [go_sem, reduceIte, Nat.reduceEqDiff] at h2; subst h2)); (repeat (first | refine runs_seq ?_ | refine runs_block ?_ | refine next_normal ?_ | refine inside_normal ?_ | refine next_exit ?_ | refine inside_exit ?_ | refine inside_other (by decide) ?_ | refine next_ret ?_ | refine inside_ret ?_ | refine runs_ops_kept ?_ | refine runs_skip ?_ | refine runs_exit ?_ | refine runs_ret ?_ | ((first | refine' ops_op rfl rfl (by decide) ?_ ?_ ?_ | refine' ops_yes rfl rfl (by simp only [Ev.get, reduceIte, Nat.reduceEqDiff]; first | done | rfl) rfl (by decide) ?_ ?_ ?_ | refine' ops_op0 rfl rfl ?_ ?_ ?_); rotate_left 2; (focus (simp only [go_sem, reduceIte, Nat.reduceEqDiff, reduceCtorEq, Int.reduceEq]; first | done | rfl)); exact (fun h => by first | rfl | (simp at h; done) | exact absurd (Bool.and_eq_true_iff.mp h).2 (by decide))) | refine ops_no rfl rfl (by simp only [Ev.get, reduceIte, Nat.reduceEqDiff]; first | done | rfl) (by decide) rfl (by decide) ?_ | refine ops_off rfl rfl rfl rfl (by decide) ?_ | (refine ops_nil ?_; intro e2 h2; simp only [go_sem, reduceIte, Nat.reduceEqDiff] at h2; subst h2))); exact k) : A := h k
theorem gos1 {A B F1 : Prop} (f1 : F1) (k : B) (h : F1 → B → A := by intro f1 k; (first | refine runs_seq ?_ | refine runs_block ?_ | refine next_normal ?_ | refine inside_normal ?_ | refine next_exit ?_ | refine inside_exit ?_ | refine inside_other (by decide) ?_ | refine next_ret ?_ | refine inside_ret ?_ | refine runs_ops_kept ?_ | refine runs_skip ?_ | refine runs_exit ?_ | refine runs_ret ?_ | ((first | refine' ops_op rfl rfl (by decide) ?_ ?_ ?_ | refine' ops_yes rfl rfl (by simp only [Ev.get, reduceIte, Nat.reduceEqDiff, f1]; first | done | rfl) rfl (by decide) ?_ ?_ ?_ | refine' ops_op0 rfl rfl ?_ ?_ ?_); rotate_left 2; (focus (simp only [go_sem, reduceIte, Nat.reduceEqDiff, reduceCtorEq, Int.reduceEq, f1]; first | done | rfl)); exact (fun h => by first | rfl | (simp at h; done) | exact absurd (Bool.and_eq_true_iff.mp h).2 (by decide))) | refine ops_no rfl rfl (by simp only [Ev.get, reduceIte, Nat.reduceEqDiff, f1]; first | done | rfl) (by decide) rfl (by decide) ?_ | refine ops_off rfl rfl rfl rfl (by decide) ?_ | (refine ops_nil ?_; intro e2 h2; simp only [go_sem, reduceIte, Nat.reduceEqDiff] at h2; subst h2)); (repeat (first | refine runs_seq ?_ | refine runs_block ?_ | refine next_normal ?_ | refine inside_normal ?_ | refine next_exit ?_ | refine inside_exit ?_ | refine inside_other (by decide) ?_ | refine next_ret ?_ | refine inside_ret ?_ | refine runs_ops_kept ?_ | refine runs_skip ?_ | refine runs_exit ?_ | refine runs_ret ?_ | ((first | refine' ops_op rfl rfl (by decide) ?_ ?_ ?_ | refine' ops_yes rfl rfl (by simp only [Ev.get, reduceIte, Nat.reduceEqDiff, f1]; first | done | rfl) rfl (by decide) ?_ ?_ ?_ | refine' ops_op0 rfl rfl ?_ ?_ ?_); rotate_left 2; (focus (simp only [go_sem, reduceIte, Nat.reduceEqDiff, reduceCtorEq, Int.reduceEq, f1]; first | done | rfl)); exact (fun h => by first | rfl | (simp at h; done) | exact absurd (Bool.and_eq_true_iff.mp h).2 (by decide))) | refine ops_no rfl rfl (by simp only [Ev.get, reduceIte, Nat.reduceEqDiff, f1]; first | done | rfl) (by decide) rfl (by decide) ?_ | refine ops_off rfl rfl rfl rfl (by decide) ?_ | (refine ops_nil ?_; intro e2 h2; simp only [go_sem, reduceIte, Nat.reduceEqDiff] at h2; subst h2))); exact k) : A := h f1 k
theorem gox0 {A B : Prop} {P : Program} {call : CallF} (hC : CallOk P call) (k : B) (h : CallOk P call → B → A := by intro hC k; (repeat (first | ((first | refine' xo_op hC rfl rfl (by decide) ?_ ?_ | refine' xo_yes hC rfl rfl (by simp only [Ev.get, reduceIte, Nat.reduceEqDiff]; first | done | rfl) rfl (by decide) ?_ ?_ | refine' xo_op0 hC rfl rfl ?_ ?_); rotate_left 2; (focus (simp only [go_sem, reduceIte, Nat.reduceEqDiff, reduceCtorEq, Int.reduceEq]; first | done | rfl))) | refine xo_no rfl rfl (by simp only [Ev.get, reduceIte, Nat.reduceEqDiff]; first | done | rfl) (by decide) rfl (by decide) ?_ | refine xo_off rfl rfl rfl rfl (by decide) ?_ | (refine xo_nil ?_; intro e2 h2; simp only [go_sem, reduceIte, Nat.reduceEqDiff] at h2; subst h2))); exact k) : A := h hC k
theorem gox1 {A B F1 : Prop} {P : Program} {call : CallF} (hC : CallOk P call) (f1 : F1) (k : B) (h : CallOk P call → F1 → B → A := by intro hC f1 k; (repeat (first | ((first | refine' xo_op hC rfl rfl (by decide) ?_ ?_ | refine' xo_yes hC rfl rfl (by simp only [Ev.get, reduceIte, Nat.reduceEqDiff, f1]; first | done | rfl) rfl (by decide) ?_ ?_ | refine' xo_op0 hC rfl rfl ?_ ?_); rotate_left 2; (focus (simp only [go_sem, reduceIte, Nat.reduceEqDiff, reduceCtorEq, Int.reduceEq, f1]; first | done | rfl))) | refine xo_no rfl rfl (by simp only [Ev.get, reduceIte, Nat.reduceEqDiff, f1]; first | done | rfl) (by decide) rfl (by decide) ?_ | refine xo_off rfl rfl rfl rfl (by decide) ?_ | (refine xo_nil ?_; intro e2 h2; simp only [go_sem, reduceIte, Nat.reduceEqDiff] at h2; subst h2))); exact k) : A := h hC f1 k
end
end Go.Proofs.YtmockbddhhmmeaaGreat.Ev

namespace Go.Proofs.YtmockbddhhmmeaaGreat.Ev
theorem en {A B : Prop} (k : B) (h : B → A := by intro k; simp only [entry, List.length_cons, List.length_nil, List.range, List.range.loop, List.zip_cons_cons, List.zip_nil_right]; exact k) : A := h k
theorem xq {A B : Prop} (k : B) (h : B → A := by intro k; (repeat (first | refine x_seq ?_ | refine x_block ?_ | refine xn_normal ?_ | refine xi_normal ?_ | refine xn_exit ?_ | refine xi_exit ?_ | refine xi_other (by decide) ?_ | refine xn_ret ?_ | refine xi_ret ?_ | refine x_skip ?_ | refine x_exit ?_ | refine x_ret ?_)); exact k) : A := h k
end Go.Proofs.YtmockbddhhmmeaaGreat.Ev

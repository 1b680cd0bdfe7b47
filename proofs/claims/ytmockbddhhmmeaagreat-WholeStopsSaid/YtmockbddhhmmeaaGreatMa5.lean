/- Tables at a function; arguments of lists of bytes and numbers. -/
import Derived.Test.YtmockbddhhmmeaaGreatMa4
import Derived.Laws.RangeAny
import Derived.MapKept
import Derived.WideKeyRuns
import Derived.Orders
import Derived.Attr
namespace Go.Proofs.YtmockbddhhmmeaaGreat.Ev
open Go Go.Proofs
set_option maxRecDepth 10000
set_option maxHeartbeats 8000000
set_option linter.unusedVariables false
set_option linter.unusedSimpArgs false
section
theorem aW4 : ∀ {l : List (FuncId × (List AV → Mem → Option (AV × Mem)))} {f : FuncId} {g : List AV → Mem → Option (AV × Mem)} {args : List AV} {m : Mem}, (l.find? fun p => p.1 == f).map (·.2) = some g → bQ l f args m = g args m
 | [], f, g, args, m, h => by simp at h
 | (k, g0) :: rest, f, g, args, m, h => by
  by_cases e : f = k
  ·subst e
   simp at h
   rw [bQ, if_pos rfl, h]
  ·have e' : (k == f) = false := by simpa using fun h => e h.symm
   rw [List.find?_cons, e'] at h
   rw [bQ, if_neg e]
   exact aW4 h
/-- Contracts one by one. -/
theorem aF {P : Program} : ∀ p ∈ ([] : List (FuncId × (List AV → Mem → Option (AV × Mem)))), aO P p.1 p.2 := fun p h => by simp at h
theorem aA {P : Program} {f : FuncId} {g : List AV → Mem → Option (AV × Mem)} {l : List (FuncId × (List AV → Mem → Option (AV × Mem)))} (h : aO P f g) (hl : ∀ p ∈ l, aO P p.1 p.2) : ∀ p ∈ (f, g) :: l, aO P p.1 p.2 := fun p hp => by
 rcases List.mem_cons.1 hp with rfl | hp
 ·exact h
 ·exact hl p hp
section
variable {P : Program} {d : Nat} {t e : TypeId} {a : AV}
end
end
section
/-- An object as it is; a row of cells that stands for abstract values. -/
inductive XOb where
 | ob (o : Obj)
 | arr (cs : List AV)
@[reducible] def XOb.stringIter (s : ByteArray) (p : Nat) : XOb := .ob (.stringIter s p)
def XIn (φ : Phi) (m : Mem) (w : World) (b : Nat) : XOb → Prop
 | .ob o => w.heap[b]? = some o
 | .arr cs => ∃ arr T, w.heap[b]? = some (.cells arr T (0, 0)) ∧ Reps φ m w cs arr ∧ cs.all kD = true ∧ ∀ (o : Nat) u, arr[o]? = some u → one u = true
abbrev Objs := List (Nat × XOb)
def eS (F : Objs) (b : Nat) (o : XOb) : Objs := F.map fun p => if p.1 = b then (b, o) else p
/-- They are there, since the beginning of the call; nobody else has them. -/
def ObjsIn (φ : Phi) (m : Mem) (w₀ w : World) (F : Objs) : Prop := ∀ p ∈ F, XIn φ m w p.1 p.2 ∧ w₀.heap.size ≤ p.1 ∧ ¬ Own φ m p.1 ∧ ∀ o, ¬ φ.im p.1 o
theorem fY {φ : Phi} {m : Mem} {w : World} {b : Nat} {x : XOb} (h : XIn φ m w b x) : b < w.heap.size := by
 cases x with
 | ob o => exact (Array.getElem?_eq_some_iff.1 h).1
 | arr cs =>
  obtain ⟨arr, T, h1, _⟩ := h
  exact (Array.getElem?_eq_some_iff.1 h1).1
theorem aFh {φ φ' : Phi} {m m' : Mem} {w w' : World} {b : Nat} {x : XOb} (h : XIn φ m w b x) (hb : w'.heap[b]? = w.heap[b]?) (hr : ∀ {a : AV} {x : Value}, Rep φ m w a x → Rep φ' m' w' a x) : XIn φ' m' w' b x := by
 cases x with
 | ob o => exact hb.trans h
 | arr cs =>
  obtain ⟨arr, T, h1, h2, h3⟩ := h
  exact ⟨arr, T, hb.trans h1, ⟨h2.1, fun i a u e1 e2 => hr (h2.2 i a u e1 e2)⟩, h3⟩
def StF (φ₀ : Phi) (m₀ : Mem) (w₀ : World) (nt : Nat) (e : Env) (m : Mem) (F : Objs) (a : Act) (w : World) : Prop :=
 ∃ φ, RM φ m w ∧ Ext φ₀ m₀ w₀ φ m w ∧ cX φ m w e a.tmps ∧ nt ≤ a.tmps.size ∧ a.defers = [] ∧ ObjsIn φ m w₀ w F
section
variable {P : Program} {call : CallF} {nt : Nat} {φ₀ : Phi} {m₀ : Mem} {w₀ : World} {kp : Nat → Option (List Nat)}

theorem fN {φ φ' : Phi} {m m' : Mem} {w w' : World} {F : Objs} (h : ObjsIn φ m w₀ w F) (hX : Ext φ m w φ' m' w') : ObjsIn φ' m' w₀ w' F := by
 intro p hp
 obtain ⟨h1, h2, h3, h4⟩ := h p hp
 have hlt : p.1 < w.heap.size := fY h1
 refine ⟨aFh h1 (hX.blk p.1 hlt h3) fun h => h.mono hX, h2, fun ho => ?_, fun o ho => ?_⟩
 ·rcases hX.own p.1 ho with h | h
  ·exact h3 h
  ·omega
 ·rcases hX.imn p.1 o ho with h | h | h
  ·exact h4 o h
  ·exact h3 h
  ·omega
theorem StF.drop {e : Env} {m : Mem} {F : Objs} {a : Act} {w : World} (h : StF φ₀ m₀ w₀ nt e m F a w) : St φ₀ m₀ w₀ nt e m a w :=
 let ⟨φ, h1, h2, h3, h4, h5, _⟩ := h; ⟨φ, h1, h2, h3, h4, h5⟩
theorem StF.restr {e : Env} {m : Mem} {F : Objs} {a : Act} {w : World} (h : StF φ₀ m₀ w₀ nt e m F a w) (l : Option (List Nat)) : StF φ₀ m₀ w₀ nt (restr l e) m F a w :=
 let ⟨φ, h1, h2, h3, h4, h5, h6⟩ := h; ⟨φ, h1, h2, h3.restr l, h4, h5, h6⟩

/-! ### such objects come and change -/
theorem Rep.carry {φ : Phi} {m : Mem} {w w' : World} (hc : ∀ b o, φ.im b o → w'.cell? ⟨b, o, none⟩ = w.cell? ⟨b, o, none⟩) {a : AV} {x : Value} (h : Rep φ m w a x) : Rep φ m w' a x := by
 induction h with
 | junk x => exact .junk x
 | v x => exact .v x
 | agg cs arr hn _ ih => exact .agg cs arr hn ih
 | tup cs arr hn _ ih => exact .tup cs arr hn ih
 | lst g sz rows a c val hcc hr ha hs hcell _ hg ih =>
  refine .lst g sz rows a c val hcc hr ha hs (fun ad i row j x e1 e2 e3 => ?_) ih hg
  obtain ⟨h1, h2, h5⟩ := hcell ad i row j x e1 e2 e3
  exact ⟨h1, (hc _ _ h1).trans h2, h5⟩
 | ptr r off cs h => exact .ptr r off cs h
 | eptr cs ad val hs hcell _ ih =>
  refine .eptr cs ad val hs (fun j x e => ?_) ih
  obtain ⟨h1, h2⟩ := hcell j x e
  exact ⟨h1, (hc _ _ h1).trans h2⟩
 | vs r off sz n c cs h hb hn => exact .vs r off sz n c cs h hb hn
 | fn f first caps fv cv h1 h2 _ _ ih1 ih2 => exact .fn f first caps fv cv h1 h2 ih1 ih2
theorem aQy {φ : Phi} {m : Mem} {w : World} (hR : RM φ m w) (o : Obj) : RM φ m (w.alloc o) ∧ Ext φ m w φ m (w.alloc o) := by
 have hblk : ∀ b, b < w.heap.size → (w.alloc o).heap[b]? = w.heap[b]? := fun b hb => heap_alloc_old w _ hb
 have lt_of : ∀ b o, w.heap[b]? = some o → b < w.heap.size := fun b o h => (Array.getElem?_eq_some_iff.1 h).1
 have hext : Ext φ m w φ m (w.alloc o) := {
  os := rfl, tape := rfl, output := rfl, size := by rw [gN]; omega
  im := fun b o hi => ⟨hi, iN (hblk b (hR.imlt b o hi)) o⟩
  vb := fun r cs' hv => ⟨rfl, cs', hv, rfl⟩
  tk := fun i v hv => ⟨v, hv, Nat.le_refl _, fun _ => rfl⟩
  blk := fun b hb _ => hblk b hb
  own := fun b hb => .inl hb
  imn := fun b o hi => .inl hi }
 refine ⟨?_, hext⟩
 exact {
  var := fun r cs' hv => by
   obtain ⟨arr', T', h1, h2, h3⟩ := hR.var r cs' hv
   exact ⟨arr', T', by rw [hblk _ (lt_of _ _ h1)]; exact h1, h2.mono hext, h3⟩
  inj := hR.inj
  vim := hR.vim
  tok := fun i b s e hlt hk hse => by
   obtain ⟨arr', T', h1, h2, h3, h4, h5⟩ := hR.tok i b s e hlt hk hse
   exact ⟨arr', T', by rw [hblk _ (lt_of _ _ h1)]; exact h1, h2, h3, h4, h5⟩
  tinj := hR.tinj
  imlt := fun b o hi => Nat.lt_of_lt_of_le (hR.imlt b o hi) (by rw [gN]; omega) }
theorem bQd {φ : Phi} {m : Mem} {w : World} (hR : RM φ m w) {b : Nat} (h : Own φ m b) : b < w.heap.size := by
 rcases h with ⟨r, cs, hv, rfl⟩ | ⟨id, s, e, hlt, hk, hse⟩
 ·obtain ⟨arr, T, h1, _⟩ := hR.var r cs hv
  exact (Array.getElem?_eq_some_iff.1 h1).1
 ·obtain ⟨arr, T, h1, _⟩ := hR.tok id b s e hlt hk hse
  exact (Array.getElem?_eq_some_iff.1 h1).1
/-- A world with an object in place of another. -/
def cY (w : World) (b : Nat) (o : Obj) : World := { w with heap := w.heap.setIfInBounds b o }
theorem jQ (w : World) {b c : Nat} (o : Obj) (h : c ≠ b) : (cY w b o).heap[c]? = w.heap[c]? := by simp [cY, Array.getElem?_setIfInBounds_ne (Ne.symm h)]
theorem iE (w : World) {b : Nat} (o : Obj) (h : b < w.heap.size) : (cY w b o).heap[b]? = some o := by simp [cY, h]
theorem bEv {φ : Phi} {m : Mem} {w : World} (hR : RM φ m w) (hX : Ext φ₀ m₀ w₀ φ m w) {b : Nat} {o' : Obj} (hlt : b < w.heap.size) (him : ∀ o, ¬ φ.im b o) (hno : ¬ Own φ m b) (hge : w₀.heap.size ≤ b) :
  RM φ m (cY w b o') ∧ Ext φ₀ m₀ w₀ φ m (cY w b o') ∧ ∀ {a : AV} {x : Value}, Rep φ m w a x → Rep φ m (cY w b o') a x := by
 have hcell : ∀ c off, φ.im c off → (cY w b o').cell? ⟨c, off, none⟩ = w.cell? ⟨c, off, none⟩ := by
  intro c off hi
  exact iN (jQ w o' fun hc => him off (by rw [← hc]; exact hi)) off
 have hrep : ∀ {a : AV} {x : Value}, Rep φ m w a x → Rep φ m (cY w b o') a x := fun h => Rep.carry hcell h
 have hsz : (cY w b o').heap.size = w.heap.size := by simp [cY]
 refine ⟨?_, ?_, hrep⟩
 ·exact {
   var := fun r cs' hv => by
    obtain ⟨arr', T', h1, h2, h3⟩ := hR.var r cs' hv
    exact ⟨arr', T', by rw [jQ w o' (fun e => hno (.inl ⟨r, cs', hv, e⟩))]; exact h1, ⟨h2.1, fun i a u e1 e2 => hrep (h2.2 i a u e1 e2)⟩, h3⟩
   inj := hR.inj
   vim := hR.vim
   tok := fun i c s e hlt hk hse => by
    obtain ⟨arr', T', h1, h2, h3, h4, h5⟩ := hR.tok i c s e hlt hk hse
    exact ⟨arr', T', by rw [jQ w o' (fun e2 => hno (.inr ⟨i, s, e, hlt, by rw [← e2]; exact hk, hse⟩))]; exact h1, h2, h3, h4, h5⟩
   tinj := hR.tinj
   imlt := fun c o hi => by rw [hsz]; exact hR.imlt c o hi }
 ·exact {
   os := hX.os, tape := hX.tape, output := hX.output
   size := by rw [hsz]; exact hX.size
   im := fun c off hi => ⟨(hX.im c off hi).1, (hcell c off (hX.im c off hi).1).trans (hX.im c off hi).2⟩
   vb := hX.vb
   tk := hX.tk
   blk := fun c hc hno' => by rw [jQ w o' (by omega)]; exact hX.blk c hc hno'
   own := hX.own
   imn := hX.imn }
theorem dQ {d : Nat} (h : d < nt) (av : AV) (e : Env) : putAV nt (some d) av e = some ((d, av) :: e) := if_pos h
theorem StF.new {e : Env} {m : Mem} {F : Objs} {a : Act} {w : World} (h : StF φ₀ m₀ w₀ nt e m F a w) {o : Obj} {d : Nat} (hd : d < nt) {x : Value} :
  StF φ₀ m₀ w₀ nt ((d, .v x) :: e) m ((w.heap.size, .ob o) :: F) (a.put (some d) x) (w.alloc o) := by
 obtain ⟨φ, hR, hX, hE, hn, hdf, hF⟩ := h
 obtain ⟨hR', hX'⟩ := aQy hR o
 refine ⟨φ, hR', hX.trans hX', (hE.mono hX').put (dQ hd _ _) hn (.v x) a.defers, by rw [gG]; exact hn, by rw [eQ]; exact hdf, fun p hp => ?_⟩
 rcases List.mem_cons.1 hp with rfl | hp
 ·exact ⟨heap_alloc_new w o, hX.size, fun h => by have := bQd hR h; omega, fun o h => by have := hR.imlt _ _ h; omega⟩
 ·exact fN hF hX' p hp
theorem StF.set {e : Env} {m : Mem} {F : Objs} {a : Act} {w : World} (h : StF φ₀ m₀ w₀ nt e m F a w) {b : Nat} {o : XOb} {o' : Obj} (hb : (b, o) ∈ F) {d : Nat} (hd : d < nt) {av : AV} {x : Value} (hx : ∀ φ, RM φ m w → cX φ m w e a.tmps → Rep φ m w av x) :
  StF φ₀ m₀ w₀ nt ((d, av) :: e) m (eS F b (.ob o')) (a.put (some d) x) (cY w b o') := by
 obtain ⟨φ, hR, hX, hE, hn, hdf, hF⟩ := h
 obtain ⟨h1, h2, h3, h4⟩ := hF _ hb
 have hlt : b < w.heap.size := fY h1
 obtain ⟨hR', hX', hrep⟩ := bEv (o' := o') hR hX hlt h4 h3 h2
 have hE' : cX φ m (cY w b o') e a.tmps := fun t => hrep (hE t)
 refine ⟨φ, hR', hX', hE'.put (dQ hd _ _) hn (hrep (hx φ hR hE)) a.defers, by rw [gG]; exact hn, by rw [eQ]; exact hdf, fun p hp => ?_⟩
 obtain ⟨q, hq, rfl⟩ := List.mem_map.1 hp
 obtain ⟨g1, g2, g3, g4⟩ := hF q hq
 by_cases e1 : q.1 = b
 ·rw [if_pos e1]
  exact ⟨iE w o' hlt, h2, h3, h4⟩
 ·rw [if_neg e1]
  exact ⟨aFh g1 (jQ w o' e1) hrep, g2, g3, g4⟩

/-! ### code -/
abbrev iS := Ex → Env → Mem → Objs → Prop
def aS3 (φ₀ : Phi) (m₀ : Mem) (w₀ : World) (nt : Nat) (Q : iS) : Exit → Act → World → Prop := fun x a w => ∃ y e m F, x = bQy y ∧ StF φ₀ m₀ w₀ nt e m F a w ∧ Q y e m F
def bE (P : Program) (φ₀ : Phi) (m₀ : Mem) (w₀ : World) (nt : Nat) (c : Code) (e : Env) (m : Mem) (F : Objs) (Q : iS) : Prop :=
 ∀ a w, StF φ₀ m₀ w₀ nt e m F a w → c.wp P (aS3 φ₀ m₀ w₀ nt Q) a w
def aNp (K : Env → Mem → Objs → Prop) (Q : iS) : iS
 | .normal, e, m, F => K e m F
 | x, e, m, F => Q x e m F
def aFd (id : Nat) (Q : iS) : iS
 | .exit q, e, m, F => if q = id then Q .normal e m F else Q (.exit q) e m F
 | x, e, m, F => Q x e m F
variable {e : Env} {m : Mem} {F : Objs} {Q : iS} {K : Env → Mem → Objs → Prop}
theorem aRy (h : K e m F) : aNp K Q .normal e m F := h
theorem bS5 {id : Nat} (h : Q (.exit id) e m F) : aNp K Q (.exit id) e m F := h
theorem bY0 (h : Q .ret e m F) : aNp K Q .ret e m F := h
theorem bIt {id : Nat} (h : Q .normal e m F) : aFd id Q .normal e m F := h
theorem bYw {id : Nat} (h : Q .ret e m F) : aFd id Q .ret e m F := h
theorem bS4 {id : Nat} (h : Q .normal e m F) : aFd id Q (.exit id) e m F := by show (if id = id then _ else _); rw [if_pos rfl]; exact h
theorem bM7 {id q : Nat} (hq : q ≠ id) (h : Q (.exit q) e m F) : aFd id Q (.exit q) e m F := by show (if q = id then _ else _); rw [if_neg hq]; exact h
theorem bNb {c : Code} {Q' : iS} (h : bE P φ₀ m₀ w₀ nt c e m F Q) (hq : ∀ x e m F, Q x e m F → Q' x e m F) : bE P φ₀ m₀ w₀ nt c e m F Q' :=
 fun a w hs => wp_mono (h a w hs) fun x a w ⟨y, e, m, F, h1, h2, h3⟩ => ⟨y, e, m, F, h1, h2, hq _ _ _ _ h3⟩
theorem bYc (h : Q .normal e m F) : bE P φ₀ m₀ w₀ nt .skip e m F Q := fun a w hs => wp_skip ⟨.normal, e, m, F, rfl, hs, h⟩
theorem bYn {id : Nat} (h : Q (.exit id) e m F) : bE P φ₀ m₀ w₀ nt (.exit id) e m F Q := fun a w hs => wp_exit ⟨.exit id, e, m, F, rfl, hs, h⟩
theorem cBq (h : Q .ret e m F) : bE P φ₀ m₀ w₀ nt .ret e m F Q := fun a w hs => wp_ret ⟨.ret, e, m, F, rfl, hs, h⟩
theorem cA2 {x y : Code} (h : bE P φ₀ m₀ w₀ nt x e m F (aNp (fun e m F => bE P φ₀ m₀ w₀ nt y e m F Q) Q)) : bE P φ₀ m₀ w₀ nt (.seq x y) e m F Q := fun a w hs => by
 refine wp_seq (wp_mono (h a w hs) fun x a w ⟨y, e, m, F, h1, h2, h3⟩ => ?_)
 subst h1
 cases y with
 | normal => exact h3 a w h2
 | exit id => exact ⟨.exit id, e, m, F, rfl, h2, h3⟩
 | ret => exact ⟨.ret, e, m, F, rfl, h2, h3⟩
theorem bFr {id : Nat} {b : Code} (h : bE P φ₀ m₀ w₀ nt b e m F (aFd id Q)) : bE P φ₀ m₀ w₀ nt (.block id b) e m F Q := fun a w hs => by
 refine wp_block (wp_mono (h a w hs) fun x a w ⟨y, e, m, F, h1, h2, h3⟩ => ?_)
 subst h1
 cases y with
 | normal => exact ⟨.normal, e, m, F, rfl, h2, h3⟩
 | ret => exact ⟨.ret, e, m, F, rfl, h2, h3⟩
 | exit q =>
  show (if q = id then _ else _)
  have h3' : if q = id then Q .normal e m F else Q (.exit q) e m F := h3
  by_cases hq : q = id
  ·rw [if_pos hq] at h3' ⊢
   exact ⟨.normal, e, m, F, rfl, h2, h3'⟩
  ·rw [if_neg hq] at h3' ⊢
   exact ⟨.exit q, e, m, F, rfl, h2, h3'⟩
theorem cK {c : Operand} {x y : Code} {t : Bool} (hc : opd P e 0 c = .v (.bool t)) (ht : t = true → bE P φ₀ m₀ w₀ nt x e m F Q) (hf : t = false → bE P φ₀ m₀ w₀ nt y e m F Q) : bE P φ₀ m₀ w₀ nt (.cond c x y) e m F Q := fun a w hs => by
 have hc' : a.eval c = .bool t := by
  obtain ⟨φ, _, _, hE, _⟩ := hs
  have := fU (P := P) hE 0 c
  rw [hc] at this
  generalize hv : a.eval c = v at this
  cases this
  rfl
 refine wp_cond hc' ?_
 cases t with
 | true => exact ht rfl a w hs
 | false => exact hf rfl a w hs
theorem wZ {b : Code} (I : Nat → Env → Mem → Objs → Prop) {k : Nat} (h0 : I k e m F) (round : ∀ k e m F, I k e m F → bE P φ₀ m₀ w₀ nt b e m F (aNp (fun e m F => ∃ k', k' < k ∧ I k' e m F) Q)) : bE P φ₀ m₀ w₀ nt (.loop b) e m F Q := by
 have key : ∀ n k e m F a w, k < n → I k e m F → StF φ₀ m₀ w₀ nt e m F a w → Code.rounds P b (aS3 φ₀ m₀ w₀ nt Q) n a w := by
  intro n
  induction n with
  | zero => intro k e m F a w h; omega
  | succ n ih =>
   intro k e m F a w hk hI hs
   rw [rounds_succ]
   refine wp_mono (round k e m F hI a w hs) fun x a w ⟨y, e, m, F, h1, h2, h3⟩ => ?_
   subst h1
   cases y with
   | normal =>
    obtain ⟨k', hk', hI'⟩ := h3
    exact ih k' e m F a w (by omega) hI' h2
   | exit id => exact ⟨.exit id, e, m, F, rfl, h2, h3⟩
   | ret => exact ⟨.ret, e, m, F, rfl, h2, h3⟩
 exact fun a w hs => wp_loop_rounds (k + 1) (key (k + 1) k e m F a w (Nat.lt_succ_self _) h0 hs)
/-- Code without such objects of its own. -/
theorem bPe (hm : P.follows .mixedOrders = true) (hC : dU P call) {c : Code} (h : cF P call nt kp c e m fun x e m => Q x e m F) : bE P φ₀ m₀ w₀ nt c e m F Q := fun a w hs => by
 obtain ⟨n, x, e', m', h1, h2⟩ := h
 obtain ⟨φ, hR, hX, hE, hn, hd, hF⟩ := hs
 refine wp_mono (aDx (φ₀ := φ) (m₀ := m) (w₀ := w) hm hC kp n c e m _ h1 a w ⟨φ, hR, Ext.refl .., hE, hn, hd⟩) fun y a' w' hp => ?_
 obtain ⟨rfl, φ', hR', hX', hE', hn', hd'⟩ := hp
 exact ⟨x, e', m', F, rfl, ⟨φ', hR', hX.trans hX', hE', hn', hd', fN hF hX'⟩, h2⟩
theorem aB (hm : P.follows .mixedOrders = true) (hC : dU P call) {id : Nat} {l : List Oper} (h : Ops P call nt l.toArray false l e m fun e' m' => ∀ e2, restr (kp id) e' = e2 → Q .normal e2 m' F) : bE P φ₀ m₀ w₀ nt (.region id l.toArray false) e m F Q :=
 bPe hm hC (gQ h)

/-! ### regions with operations on such objects -/
def dH (P : Program) (φ₀ : Phi) (m₀ : Mem) (w₀ : World) (nt : Nat) (ops : Array Oper) (l : List Oper) (e : Env) (m : Mem) (F : Objs) (K : Env → Mem → Objs → Prop) : Prop :=
 ∀ (R : Exit → Act → World → Prop), (∀ e m F a w, K e m F → StF φ₀ m₀ w₀ nt e m F a w → R .normal a w) → ∀ a w, StF φ₀ m₀ w₀ nt e m F a w → wpList P ops R l a w
variable {ops : Array Oper}
theorem iF {id : Nat} {l : List Oper} {l2 : Option (List Nat)} (h : dH P φ₀ m₀ w₀ nt l.toArray l e m F fun e' m' F' => ∀ e2, Ev.restr l2 e' = e2 → Q .normal e2 m' F') : bE P φ₀ m₀ w₀ nt (.region id l.toArray false) e m F Q := fun a w hs =>
 wp_region_list (h (aS3 φ₀ m₀ w₀ nt Q) (fun e m F a w hK hs => ⟨.normal, _, m, F, rfl, hs.restr l2, hK _ rfl⟩) a w hs)
theorem bSb (h : K e m F) : dH P φ₀ m₀ w₀ nt ops [] e m F K := fun R hR a w hs => hR e m F a w h hs
theorem aZ6 {o : Oper} (hg : o.guard = none) {a : Act} : Region.wanted o (yielded ops a.tmps) = true := by
 unfold Region.wanted
 rw [hg]
theorem bWv (hC : dU P call) {o : Oper} {rest : List Oper} {av : AV} {m1 : Mem} {d : Nat} (hg : o.guard = none) (hd : o.dst = some d) (hlt : d < nt) (hk : evOp P call e m o = some (av, m1)) (h : dH P φ₀ m₀ w₀ nt ops rest ((d, av) :: e) m1 F K) :
  dH P φ₀ m₀ w₀ nt ops (o :: rest) e m F K := fun R hR a w hs => by
 obtain ⟨φ, hRM, hX, hE, hn, hdf, hF⟩ := hs
 unfold wpList
 rw [aZ6 hg, if_pos rfl]
 left
 refine aI1 hC hRM hE hk fun x w' φ' g1 g2 g3 => ?_
 refine h R hR _ _ ⟨φ', g1, hX.trans g2, ?_, by rw [gG]; exact hn, by rw [eQ]; exact hdf, fN hF g2⟩
 exact (hE.mono g2).put (by rw [hd]; exact dQ hlt _ _) hn g3 a.defers
/-! ### a function -/
def aEu (P : Program) (gr : Bool) (fn : Func) (m₀ : Mem) (r : AV × Mem) : iS
 | .normal, e, m, _ => dL P gr fn m₀ e m = some r
 | .ret, e, m, _ => dL P gr fn m₀ e m = some r
 | .exit _, _, _, _ => False
theorem aX {gr : Bool} {fn : Func} {r : AV × Mem} (h : cZ P gr fn m₀ r .ret e m) : aEu P gr fn m₀ r .ret e m F := h
theorem dJ {f : FuncId} {fn : Func} {c : Code} (hf : P.funcs[f]? = some fn) (hb : fn.body = some c) (gr : Bool) {g : List AV → Mem → Option (AV × Mem)} (hn : (fn.name == "runtime.NumGoroutine") = false)
  (h : ∀ args m r, g args m = some r → args.length ≤ fn.ntmps ∧ ∀ φ w, bE P φ m w fn.ntmps c (vP args) m [] (aEu P gr fn m r)) : aO P f g := by
 intro args m r m' hg
 obtain ⟨hl, hx⟩ := h args m (r, m') hg
 refine ⟨⟨fn, hf, by rw [hb]; rfl, hn⟩, fun φ w vals hR hA => ?_⟩
 have hst : StF φ m w fn.ntmps (vP args) m [] { tmps := vals ++ Array.replicate (fn.ntmps - vals.size) undef, defers := [] } w :=
  ⟨φ, hR, Ext.refl .., aBj hA _, by simp; omega, rfl, fun p hp => by simp at hp⟩
 refine calls_of_wp hf hb (wp_mono (hx φ w _ _ hst) fun x a w' ⟨y, e, m1, F, h1, h2, h3⟩ => ?_)
 subst h1
 have fin : dL P gr fn m e m1 = some (r, m') → a.defers = [] ∧ ∃ v, (results fn a.tmps).run P w' = .ok v w' ∧ ∃ x φ', Ending.returned v = .returned x ∧ RM φ' m' w' ∧ Ext φ m w φ' m' w' ∧ Rep φ' m' w' r x := by
  intro hret
  obtain ⟨x, φ', g1, g2, g3, g4⟩ := aSk hR h2.drop hret
  obtain ⟨_, _, _, _, _, hd⟩ := h2.drop
  exact ⟨hd, x, g1, x, φ', rfl, g2, g3, g4⟩
 cases y with
 | normal => exact fin h3
 | ret => exact fin h3
 | exit id => exact h3.elim
end
end
section
section
variable {P : Program} {call : CallF} {nt : Nat} {φ₀ : Phi} {m₀ : Mem} {w₀ : World} {ops : Array Oper}
variable {e e1 : Env} {m m1 : Mem} {F : Objs} {K : Env → Mem → Objs → Prop} {o : Oper} {av : AV}
def dF (P : Program) (φ₀ : Phi) (m₀ : Mem) (w₀ : World) (nt : Nat) (ops : Array Oper) (o : Oper) (e : Env) (m : Mem) (F : Objs) (K : Env → Mem → Objs → Prop) : Prop :=
 ∀ (K' : Act → World → Prop) (Q : Exit → Act → World → Prop), (∀ e m F a w, K e m F → StF φ₀ m₀ w₀ nt e m F a w → K' a w) → ∀ a w, StF φ₀ m₀ w₀ nt e m F a w →
  if Region.wanted o (yielded ops a.tmps) then o.wp P a w K' Q ∨ (o.asks P a w ∧ LetsOut Q) else K' (a.put o.dst undef) w
theorem bX {rest : List Oper} (h : dF P φ₀ m₀ w₀ nt ops o e m F (fun e m F => dH P φ₀ m₀ w₀ nt ops rest e m F K)) : dH P φ₀ m₀ w₀ nt ops (o :: rest) e m F K := fun R hR a w hs => by
 unfold wpList
 exact h (wpList P ops R rest) R (fun e m F a w hK hs => hK R hR a w hs) a w hs
/-! ### any order -/
def eC (P : Program) (φ₀ : Phi) (m₀ : Mem) (w₀ : World) (nt : Nat) (ops : Array Oper) (n : Nat) (listed : Array Bool) (e : Env) (m : Mem) (F : Objs) (K : Env → Mem → Objs → Prop) : Prop :=
 ∀ (R : Exit → Act → World → Prop), (∀ e m F a w, K e m F → StF φ₀ m₀ w₀ nt e m F a w → R .normal a w) → ∀ a w, StF φ₀ m₀ w₀ nt e m F a w → wpAny P .any ops R n listed a w
theorem bJ6 {n : Nat} {listed : Array Bool} (hr : Region.ready .any ops listed = []) (h : K e m F) : eC P φ₀ m₀ w₀ nt ops n listed e m F K := fun R hR a w hs => wpAny_done hr (hR e m F a w h hs) n
theorem aG9 {n : Nat} {listed : Array Bool} {rs : List Nat} (hr : Region.ready .any ops listed = rs) (hne : rs ≠ [])
  (h : ∀ i ∈ rs, ∃ o, ops[i]? = some o ∧ dF P φ₀ m₀ w₀ nt ops o e m F (fun e m F => eC P φ₀ m₀ w₀ nt ops n (listed.setIfInBounds i true) e m F K)) : eC P φ₀ m₀ w₀ nt ops (n + 1) listed e m F K := fun R hR a w hs => by
 refine wpAny_all hr hne fun i hi => ?_
 obtain ⟨o, ho, hx⟩ := h i hi
 unfold wpOp
 rw [ho]
 exact hx (wpAny P .any ops R n (listed.setIfInBounds i true)) R (fun e m F a w hK hs => hK R hR a w hs) a w hs
theorem qV {n : Nat} {listed listed1 : Array Bool} {i : Nat} (hr : Region.ready .any ops listed = [i]) (ho : ops.toList[i]? = some o) (hl : listed.setIfInBounds i true = listed1)
  (h : dF P φ₀ m₀ w₀ nt ops o e m F (fun e m F => eC P φ₀ m₀ w₀ nt ops n listed1 e m F K)) : eC P φ₀ m₀ w₀ nt ops (n + 1) listed e m F K :=
 aG9 hr (by simp) fun j hj => by
  rcases List.mem_singleton.1 hj with rfl
  exact ⟨o, by simpa using ho, by rw [hl]; exact h⟩
theorem oO {n : Nat} {listed listed1 listed2 : Array Bool} {i j : Nat} {o2 : Oper} (hr : Region.ready .any ops listed = [i, j]) (ho : ops.toList[i]? = some o) (hl : listed.setIfInBounds i true = listed1) (ho2 : ops.toList[j]? = some o2) (hl2 : listed.setIfInBounds j true = listed2)
  (h : dF P φ₀ m₀ w₀ nt ops o e m F (fun e m F => eC P φ₀ m₀ w₀ nt ops n listed1 e m F K))
  (h2 : dF P φ₀ m₀ w₀ nt ops o2 e m F (fun e m F => eC P φ₀ m₀ w₀ nt ops n listed2 e m F K)) : eC P φ₀ m₀ w₀ nt ops (n + 1) listed e m F K :=
 aG9 hr (by simp) fun q hq => by
  rcases List.mem_cons.1 hq with rfl | hq
  ·exact ⟨o, by simpa using ho, by rw [hl]; exact h⟩
  ·rcases List.mem_singleton.1 hq with rfl
   exact ⟨o2, by simpa using ho2, by rw [hl2]; exact h2⟩
theorem cCs (hm : P.follows .mixedOrders = true) {id n : Nat} {l : List Oper} {l2 : Option (List Nat)} {Q : iS} (hn : l.length = n)
  (h : eC P φ₀ m₀ w₀ nt l.toArray n (List.replicate n false).toArray e m F fun e' m' F' => ∀ e2, Ev.restr l2 e' = e2 → Q .normal e2 m' F') : bE P φ₀ m₀ w₀ nt (.region id l.toArray true) e m F Q := fun a w hs => by
 refine wp_region_any hm ?_
 subst hn
 obtain ⟨φ, hRM, hX, hE, hn, hdf, hF⟩ := hs
 have hx := iR φ m w
 have := h (aS3 φ₀ m₀ w₀ nt Q) (fun e m F a w hK hs => ⟨.normal, _, m, F, rfl, hs.restr l2, hK _ rfl⟩) a _ ⟨φ, oH hRM, hX.trans hx, hE.mono hx, hn, hdf, fN hF hx⟩
 simpa using this
theorem bK {K' : Env → Mem → Objs → Prop} (h : dF P φ₀ m₀ w₀ nt ops o e m F K') (hk : ∀ e m F, K' e m F → K e m F) : dF P φ₀ m₀ w₀ nt ops o e m F K :=
 fun K2 Q hK a w hs => h K2 Q (fun e m F a w h1 hs => hK e m F a w (hk _ _ _ h1) hs) a w hs
variable {J : Array Bool → Env → Mem → Objs → Prop} {n : Nat} {listed : Array Bool} {o1 o2 o3 o4 : Oper} {i j q s : Nat}
/-! ### steps -/
theorem aQm (hC : dU P call) (hg : wantedAV ops e o = some true) (hk : evOp P call e m o = some (av, m1)) (hp : putAV nt o.dst av e = some e1) (h : K e1 m1 F) : dF P φ₀ m₀ w₀ nt ops o e m F K := fun K' Q hK a w hs => by
 obtain ⟨φ, hRM, hX, hE, hn, hdf, hF⟩ := hs
 rw [cW hE hg, if_pos rfl]
 left
 refine aI1 hC hRM hE hk fun x w' φ' g1 g2 g3 => ?_
 exact hK e1 m1 F _ _ h ⟨φ', g1, hX.trans g2, (hE.mono g2).put hp hn g3 a.defers, by rw [gG]; exact hn, by rw [eQ]; exact hdf, fN hF g2⟩
theorem bSg (hg : wantedAV ops e o = some false) (hp : putAV nt o.dst (.v (.tuple #[])) e = some e1) (h : K e1 m F) : dF P φ₀ m₀ w₀ nt ops o e m F K := fun K' Q hK a w hs => by
 obtain ⟨φ, hRM, hX, hE, hn, hdf, hF⟩ := hs
 rw [cW hE hg, if_neg (by simp)]
 exact hK e1 m F _ _ h ⟨φ, hRM, hX, hE.put hp hn (.v _) a.defers, by rw [gG]; exact hn, by rw [eQ]; exact hdf, hF⟩
theorem aDo (hg : wantedAV ops e o = some true) (hp : putAV nt o.dst av e = some e1) (hrun : ∀ (φ : Phi) (a : Act) (w : World), RM φ m w → cX φ m w e a.tmps → ObjsIn φ m w₀ w F → ∃ x, (execOp a.eval o).run P w = .ok (.value x) w ∧ Rep φ m w av x) (h : K e1 m F) :
  dF P φ₀ m₀ w₀ nt ops o e m F K := fun K' Q hK a w hs => by
 obtain ⟨φ, hRM, hX, hE, hn, hdf, hF⟩ := hs
 rw [cW hE hg, if_pos rfl]
 left
 obtain ⟨x, hr, hx⟩ := hrun φ a w hRM hE hF
 unfold Oper.wp
 rw [hr, Oper.upon_value]
 exact hK e1 m F _ _ h ⟨φ, hRM, hX, hE.put hp hn hx a.defers, by rw [gG]; exact hn, by rw [eQ]; exact hdf, hF⟩
theorem bZo {f : Nat → Value} {ob : Obj} {d : Nat} (hg : wantedAV ops e o = some true) (hd : o.dst = some d) (hlt : d < nt) (hrun : ∀ (φ : Phi) (a : Act) (w : World), RM φ m w → cX φ m w e a.tmps → ObjsIn φ m w₀ w F → (execOp a.eval o).run P w = .ok (.value (f w.heap.size)) (w.alloc ob))
  (h : ∀ b, (∀ p ∈ F, p.1 ≠ b) → K ((d, .v (f b)) :: e) m ((b, .ob ob) :: F)) : dF P φ₀ m₀ w₀ nt ops o e m F K := fun K' Q hK a w hs => by
 have hs' := hs.new (o := ob) hlt (x := f w.heap.size)
 obtain ⟨φ, hRM, hX, hE, hn, hdf, hF⟩ := hs
 rw [cW hE hg, if_pos rfl]
 left
 unfold Oper.wp
 rw [hrun φ a w hRM hE hF, Oper.upon_value, hd]
 exact hK _ m _ _ _ (h w.heap.size fun p hp he => by
  obtain ⟨h1, _⟩ := hF p hp
  have := fY h1
  omega) hs'
/-- What an operation does to an object: an operation that yields, one that doesn't. -/
theorem StF.put_ob {b : Nat} {ob ob' : XOb} {o' : Obj} {a : Act} {w : World} {φ : Phi} (hRM : RM φ m w) (hX : Ext φ₀ m₀ w₀ φ m w) (hF : ObjsIn φ m w₀ w F) (hb : (b, ob) ∈ F)
  (hi : (∀ {a : AV} {x : Value}, Rep φ m w a x → Rep φ m (cY w b o') a x) → XIn φ m (cY w b o') b ob') :
  RM φ m (cY w b o') ∧ Ext φ₀ m₀ w₀ φ m (cY w b o') ∧ ObjsIn φ m w₀ (cY w b o') (eS F b ob') ∧ ∀ {a : AV} {x : Value}, Rep φ m w a x → Rep φ m (cY w b o') a x := by
 obtain ⟨h1, h2, h3, h4⟩ := hF _ hb
 have hlt2 : b < w.heap.size := fY h1
 obtain ⟨hR', hX', hrep⟩ := bEv (o' := o') hRM hX hlt2 h4 h3 h2
 refine ⟨hR', hX', fun p hp => ?_, hrep⟩
 obtain ⟨q, hq, rfl⟩ := List.mem_map.1 hp
 obtain ⟨g1, g2, g3, g4⟩ := hF q hq
 by_cases e1 : q.1 = b
 ·rw [if_pos e1]
  exact ⟨hi hrep, h2, h3, h4⟩
 ·rw [if_neg e1]
  exact ⟨aFh g1 (jQ w o' e1) hrep, g2, g3, g4⟩
theorem bWd {b : Nat} {ob ob' : XOb} {d : Nat} (hg : wantedAV ops e o = some true) (hd : o.dst = some d) (hlt : d < nt) (hb : (b, ob) ∈ F)
  (hrun : ∀ (φ : Phi) (a : Act) (w : World), RM φ m w → cX φ m w e a.tmps → ObjsIn φ m w₀ w F → ∃ x o', (execOp a.eval o).run P w = .ok (.value x) (cY w b o') ∧ Rep φ m w av x ∧ ((∀ {a : AV} {x : Value}, Rep φ m w a x → Rep φ m (cY w b o') a x) → XIn φ m (cY w b o') b ob'))
  (h : K ((d, av) :: e) m (eS F b ob')) : dF P φ₀ m₀ w₀ nt ops o e m F K := fun K' Q hK a w hs => by
 obtain ⟨φ, hRM, hX, hE, hn, hdf, hF⟩ := hs
 rw [cW hE hg, if_pos rfl]
 left
 obtain ⟨x, o', hr, hx, hi⟩ := hrun φ a w hRM hE hF
 unfold Oper.wp
 rw [hr, Oper.upon_value, hd]
 obtain ⟨hR', hX', hF', hrep⟩ := StF.put_ob (a := a) hRM hX hF hb hi
 exact hK _ m _ _ _ h ⟨φ, hR', hX', cX.put (fun t => hrep (hE t)) (dQ hlt _ _) hn (hrep hx) a.defers, by rw [gG]; exact hn, by rw [eQ]; exact hdf, hF'⟩
theorem bL3 {b : Nat} {ob ob' : XOb} (hg : wantedAV ops e o = some true) (hd : o.dst = none) (hb : (b, ob) ∈ F)
  (hrun : ∀ (φ : Phi) (a : Act) (w : World), RM φ m w → cX φ m w e a.tmps → ObjsIn φ m w₀ w F → ∃ o', (execOp a.eval o).run P w = .ok .skip (cY w b o') ∧ ((∀ {a : AV} {x : Value}, Rep φ m w a x → Rep φ m (cY w b o') a x) → XIn φ m (cY w b o') b ob'))
  (h : K e m (eS F b ob')) : dF P φ₀ m₀ w₀ nt ops o e m F K := fun K' Q hK a w hs => by
 obtain ⟨φ, hRM, hX, hE, hn, hdf, hF⟩ := hs
 rw [cW hE hg, if_pos rfl]
 left
 obtain ⟨o', hr, hi⟩ := hrun φ a w hRM hE hF
 unfold Oper.wp
 rw [hr, Oper.upon_skip, hd]
 obtain ⟨hR', hX', hF', hrep⟩ := StF.put_ob (a := a) hRM hX hF hb hi
 exact hK _ m _ _ _ h ⟨φ, hR', hX', fun t => hrep (hE t), hn, hdf, hF'⟩
theorem bTc {b : Nat} {ob : XOb} {ob' : Obj} (hg : wantedAV ops e o = some true) (hd : o.dst = none) (hb : (b, ob) ∈ F)
  (hrun : ∀ (φ : Phi) (a : Act) (w : World), RM φ m w → cX φ m w e a.tmps → ObjsIn φ m w₀ w F → (execOp a.eval o).run P w = .ok .skip (cY w b ob'))
  (h : K e m (eS F b (.ob ob'))) : dF P φ₀ m₀ w₀ nt ops o e m F K :=
 bL3 (ob' := .ob ob') hg hd hb (fun φ a w h1 h2 h3 => ⟨ob', hrun φ a w h1 h2 h3, fun _ => show (cY w b ob').heap[b]? = some ob' from iE w ob' (fY (h3 _ hb).1)⟩) h
/-! ### values of operands -/
/-- The one value that stands for an abstract one. -/
def aE1 : AV → Option Value
 | .v x => some x
 | _ => none
def bMy : AV → Option Value
 | .v x => some x
 | .agg cs => (cs.mapM aE1).map fun l => .agg l.toArray
 | _ => none
theorem aN0 {φ : Phi} {w : World} : ∀ {cs : List AV} {l l2 : List Value}, cs.mapM aE1 = some l → l2.length = cs.length → (∀ (i : Nat) a u, cs[i]? = some a → l2[i]? = some u → Rep φ m w a u) → l = l2
 | [], l, l2, h, hn, _ => by
  simp at h
  subst h
  exact (List.length_eq_zero_iff.1 hn).symm
 | c :: cs, l, l2, h, hn, hr => by
  cases c with
  | v x =>
   simp only [List.mapM_cons, aE1, Option.pure_def, Option.bind_eq_bind, Option.bind_some] at h
   rw [Option.bind_eq_some_iff] at h
   obtain ⟨r, h1, h2⟩ := h
   cases h2
   cases l2 with
   | nil => simp at hn
   | cons u us =>
    have h0 := hr 0 _ u rfl rfl
    cases h0
    rw [aN0 h1 (by simpa using hn) fun i a u h3 h4 => hr (i + 1) a u (by simpa using h3) (by simpa using h4)]
  | _ => simp [aE1] at h
theorem bL2 {φ : Phi} {w : World} {a : AV} {x y : Value} (h : bMy a = some y) (hr : Rep φ m w a x) : x = y := by
 cases a with
 | v z => cases h; cases hr; rfl
 | agg cs =>
  cases hr with
  | agg _ arr hn hc =>
   simp only [bMy, Option.map_eq_some_iff] at h
   obtain ⟨l, h1, rfl⟩ := h
   have := aN0 (φ := φ) (m := m) (w := w) (l2 := arr.toList) h1 (by simpa using hn) fun i a u h2 h3 => hc i a u h2 (by simpa using h3)
   rw [this]
 | _ => cases h
theorem yZ {φ : Phi} {w : World} {a : Act} (hE : cX φ m w e a.tmps) {t : TypeId} {x : Operand} {y : Value} (h : bMy (opd P e t x) = some y) : a.eval x = y := bL2 h (fU hE t x)
/-! ### maps -/
structure KeyOk (P : Program) (kt : TypeId) (κ : Type) [DecidableEq κ] (enc : κ → Value) : Prop where
 ck : ∀ em k w, (Instr.checkKey em 10000 kt (enc k)).run P w = .ok () w
 eq : ∀ a b w, (Op.equal kt (enc a) (enc b)).run P w = .ok (decide (a = b)) w
 wide : (match P.underlying kt with | some (.array _ _) | some (.struct _) => true | _ => false) = true
 stay : ∀ k, Instr.sameBits 10000 (enc k) (enc k) = true
variable {κ : Type} {enc : κ → Value} {kt et mt : TypeId} {w : World}
def zY (enc : κ → Value) : Nat → List (κ × Value) → List MapEntry
 | _, [] => []
 | i, (k, v) :: r => { key := enc k, val := v, born := i } :: zY enc (i + 1) r
def bB4 (enc : κ → Value) (l : List (κ × Value)) : Obj := .map (zY enc 0 l).toArray l.length
abbrev aGi (enc : κ → Value) (l : List (κ × Value)) : XOb := .ob (bB4 enc l)
theorem aGh : ∀ (l : List (κ × Value)) (j i : Nat), (zY enc j l)[i]? = (l[i]?).map fun p => { key := enc p.1, val := p.2, born := j + i }
 | [], j, i => by simp [zY]
 | (k, v) :: r, j, 0 => rfl
 | (k, v) :: r, j, i + 1 => by
  simp only [zY, List.getElem?_cons_succ, aGh r (j + 1) i]
  congr 1
  funext p
  rw [show j + 1 + i = j + (i + 1) by omega]
theorem aXt : ∀ (l r : List (κ × Value)) (i : Nat), zY enc i (l ++ r) = zY enc i l ++ zY enc (i + l.length) r
 | [], r, i => by simp [zY]
 | (k, v) :: l, r, i => by
  simp only [List.cons_append, zY, aXt l r (i + 1), List.length_cons]
  rw [show i + 1 + l.length = i + (l.length + 1) by omega]
def bJ2 (l : List (κ × Value)) (i : Nat) (v : Value) : List (κ × Value) := l.modify i fun p => (p.1, v)
theorem bBd {d : Nat} {t : TypeId} (hg : wantedAV ops e o = some true) (hd : o.dst = some d) (hlt : d < nt) (ho : o.op = .makeMap t none)
  (h : ∀ b, (∀ p ∈ F, p.1 ≠ b) → K ((d, .v (.map (some b))) :: e) m ((b, aGi enc []) :: F)) : dF P φ₀ m₀ w₀ nt ops o e m F K :=
 bZo (f := fun b => .map (some b)) hg hd hlt (fun φ a w _ _ _ => by
  unfold execOp
  rw [ho]
  rfl) h
variable [DecidableEq κ]
def rB (k : κ) : List (κ × Value) → Nat → Option (Nat × Value)
 | [], _ => none
 | (q, v) :: r, i => if k = q then some (i, v) else rB k r (i + 1)
theorem aHu {k : κ} : ∀ {l : List (κ × Value)} {j i : Nat} {v : Value}, rB k l j = some (i, v) → j ≤ i ∧ l[i - j]? = some (k, v)
 | [], _, _, _, h => by cases h
 | (q, u) :: r, j, i, v, h => by
  unfold rB at h
  split at h
  ·rename_i e
   cases h
   subst e
   exact ⟨Nat.le_refl _, by simp⟩
  ·obtain ⟨h1, h2⟩ := aHu h
   refine ⟨by omega, ?_⟩
   rw [show i - j = (i - (j + 1)) + 1 by omega, List.getElem?_cons_succ]
   exact h2
def aCn (z : Value) (k : κ) (l : List (κ × Value)) : Value := ((rB k l 0).map (·.2)).getD z
/-! ### what a map has -/
def vAt (k : κ) : List (κ × Value) → Option Value
 | [] => none
 | (q, v) :: r => if k = q then some v else vAt k r
def aB6 (k : κ) (v : Value) : List (κ × Value) → List (κ × Value)
 | [] => [(k, v)]
 | (q, u) :: r => if k = q then (q, v) :: r else (q, u) :: aB6 k v r
theorem aRb (k : κ) : ∀ (l : List (κ × Value)) (i : Nat), (rB k l i).map (·.2) = vAt k l
 | [], _ => rfl
 | (q, v) :: r, i => by
  unfold rB vAt
  split
  ·rfl
  ·exact aRb k r (i + 1)
theorem aYs (z : Value) (k : κ) (l : List (κ × Value)) : aCn z k l = (vAt k l).getD z := by
 unfold aCn
 rw [aRb]
theorem bGb (k q : κ) (v : Value) : ∀ (l : List (κ × Value)), vAt q (aB6 k v l) = if q = k then some v else vAt q l
 | [] => by simp [aB6, vAt]
 | (p, u) :: r => by
  unfold aB6
  by_cases h : k = p
  ·subst h
   rw [if_pos rfl]
   unfold vAt
   split <;> rfl
  ·rw [if_neg h]
   unfold vAt
   by_cases h2 : q = p
   ·subst h2
    rw [if_pos rfl, if_neg (fun e => h e.symm), if_pos rfl]
   ·rw [if_neg h2, if_neg h2]
    exact bGb k q v r
end
/-! ### guarded operations, beside such objects -/
section
variable {P : Program} {call : CallF} {nt : Nat} {φ₀ : Phi} {m₀ : Mem} {w₀ : World} {ops : Array Oper} {rest : List Oper}
variable {e : Env} {m m1 : Mem} {F : Objs} {K : Env → Mem → Objs → Prop} {o : Oper} {av : AV}
theorem bPs (hC : dU P call) (hg : o.guard = none) (hd : o.dst = none) (hk : evOp P call e m o = some (av, m1)) (h : dH P φ₀ m₀ w₀ nt ops rest e m1 F K) : dH P φ₀ m₀ w₀ nt ops (o :: rest) e m F K :=
 bX (aQm hC (by unfold wantedAV; rw [hg]) hk (by unfold putAV; rw [hd]) h)
theorem bQ5 (hC : dU P call) {d j g : Nat} {want : Bool} (hg : o.guard = some (j, want)) (hj : (ops[j]?).bind (·.dst) = some g) (hb : get e g = .v (.bool want)) (hd : o.dst = some d) (hlt : d < nt)
  (hk : evOp P call e m o = some (av, m1)) (h : dH P φ₀ m₀ w₀ nt ops rest ((d, av) :: e) m1 F K) : dH P φ₀ m₀ w₀ nt ops (o :: rest) e m F K :=
 bX (aQm hC (by unfold wantedAV; rw [hg]; simp [hj, hb]) hk (by rw [hd]; exact dQ hlt _ _) h)
theorem bWj {d j g : Nat} {want b : Bool} (hg : o.guard = some (j, want)) (hj : (ops[j]?).bind (·.dst) = some g) (hb : get e g = .v (.bool b)) (hne : b ≠ want) (hd : o.dst = some d) (hlt : d < nt)
  (h : dH P φ₀ m₀ w₀ nt ops rest ((d, .v (.tuple #[])) :: e) m F K) : dH P φ₀ m₀ w₀ nt ops (o :: rest) e m F K :=
 bX (bSg (by unfold wantedAV; rw [hg]; simp [hj, hb, hne]) (by rw [hd]; exact dQ hlt _ _) h)
theorem bMa {d j g : Nat} {want : Bool} {a : Array Value} (hg : o.guard = some (j, want)) (hj : (ops[j]?).bind (·.dst) = some g) (hb : get e g = .v (.tuple a)) (hd : o.dst = some d) (hlt : d < nt)
  (h : dH P φ₀ m₀ w₀ nt ops rest ((d, .v (.tuple #[])) :: e) m F K) : dH P φ₀ m₀ w₀ nt ops (o :: rest) e m F K :=
 bX (bSg (by unfold wantedAV; rw [hg]; simp [hj, hb]) (by rw [hd]; exact dQ hlt _ _) h)
end
end
section
attribute [go_sem] evOp opd aKl uJ Ev.get aUb bDp bHe mO bTl aB0 vJ bEw aKv mK aYi bL9 dB mM bFk oP aMz List.zipWith Option.map_some Option.map_none List.length_cons List.length_nil ne_eq not_false_eq_true and_self and_true true_and
attribute [go_sem] aUx List.size_toArray List.append_nil List.nil_append List.map_cons List.map_nil lI eR List.toList_toArray pL restr
theorem jn {a b : Prop} (x : a) (y : b) : a ∧ b := ⟨x, y⟩
theorem go0 {A B : Prop} (k : B) (h : B → A := by intro k; (repeat (first | refine dI ?_ | refine nM ?_ | refine gJ ?_ | refine jA ?_ | refine qP ?_ | refine lJ ?_ | refine jU (by decide) ?_ | refine tZ ?_ | refine nX ?_ | refine gQ ?_ | refine qG ?_ | refine qN ?_ | refine uT ?_ | ((first | refine' aId rfl rfl (by decide) ?_ ?_ ?_ | refine' aBx rfl rfl (by simp only [Ev.get, reduceIte, Nat.reduceEqDiff]; first | done | rfl) rfl (by decide) ?_ ?_ ?_ | refine' aBr rfl rfl ?_ ?_ ?_); rotate_left 2; (focus (simp only [go_sem, reduceIte, Nat.reduceEqDiff, reduceCtorEq, Int.reduceEq]; first | done | rfl)); exact (fun h => by first | rfl | (simp at h; done) | exact absurd (Bool.and_eq_true_iff.mp h).2 (by decide))) | refine aIb rfl rfl (by simp only [Ev.get, reduceIte, Nat.reduceEqDiff]; first | done | rfl) (by decide) rfl (by decide) ?_ | refine aBe rfl rfl rfl rfl (by decide) ?_ | (refine aA7 ?_; intro e2 h2; simp only [go_sem, reduceIte, Nat.reduceEqDiff] at h2; subst h2))); exact k) : A := h k
theorem go1 {A B F1 : Prop} (f1 : F1) (k : B) (h : F1 → B → A := by intro f1 k; (repeat (first | refine dI ?_ | refine nM ?_ | refine gJ ?_ | refine jA ?_ | refine qP ?_ | refine lJ ?_ | refine jU (by decide) ?_ | refine tZ ?_ | refine nX ?_ | refine gQ ?_ | refine qG ?_ | refine qN ?_ | refine uT ?_ | ((first | refine' aId rfl rfl (by decide) ?_ ?_ ?_ | refine' aBx rfl rfl (by simp only [Ev.get, reduceIte, Nat.reduceEqDiff, f1]; first | done | rfl) rfl (by decide) ?_ ?_ ?_ | refine' aBr rfl rfl ?_ ?_ ?_); rotate_left 2; (focus (simp only [go_sem, reduceIte, Nat.reduceEqDiff, reduceCtorEq, Int.reduceEq, f1]; first | done | rfl)); exact (fun h => by first | rfl | (simp at h; done) | exact absurd (Bool.and_eq_true_iff.mp h).2 (by decide))) | refine aIb rfl rfl (by simp only [Ev.get, reduceIte, Nat.reduceEqDiff, f1]; first | done | rfl) (by decide) rfl (by decide) ?_ | refine aBe rfl rfl rfl rfl (by decide) ?_ | (refine aA7 ?_; intro e2 h2; simp only [go_sem, reduceIte, Nat.reduceEqDiff] at h2; subst h2))); exact k) : A := h f1 k
theorem aX4 {A B : Prop} (k : B) (h : B → A := by intro k; (first | refine dI ?_ | refine nM ?_ | refine gJ ?_ | refine jA ?_ | refine qP ?_ | refine lJ ?_ | refine jU (by decide) ?_ | refine tZ ?_ | refine nX ?_ | refine gQ ?_ | refine qG ?_ | refine qN ?_ | refine uT ?_ | ((first | refine' aId rfl rfl (by decide) ?_ ?_ ?_ | refine' aBx rfl rfl (by simp only [Ev.get, reduceIte, Nat.reduceEqDiff]; first | done | rfl) rfl (by decide) ?_ ?_ ?_ | refine' aBr rfl rfl ?_ ?_ ?_); rotate_left 2; (focus (simp only [go_sem, reduceIte, Nat.reduceEqDiff, reduceCtorEq, Int.reduceEq]; first | done | rfl)); exact (fun h => by first | rfl | (simp at h; done) | exact absurd (Bool.and_eq_true_iff.mp h).2 (by decide))) | refine aIb rfl rfl (by simp only [Ev.get, reduceIte, Nat.reduceEqDiff]; first | done | rfl) (by decide) rfl (by decide) ?_ | refine aBe rfl rfl rfl rfl (by decide) ?_ | (refine aA7 ?_; intro e2 h2; simp only [go_sem, reduceIte, Nat.reduceEqDiff] at h2; subst h2)); (repeat (first | refine dI ?_ | refine nM ?_ | refine gJ ?_ | refine jA ?_ | refine qP ?_ | refine lJ ?_ | refine jU (by decide) ?_ | refine tZ ?_ | refine nX ?_ | refine gQ ?_ | refine qG ?_ | refine qN ?_ | refine uT ?_ | ((first | refine' aId rfl rfl (by decide) ?_ ?_ ?_ | refine' aBx rfl rfl (by simp only [Ev.get, reduceIte, Nat.reduceEqDiff]; first | done | rfl) rfl (by decide) ?_ ?_ ?_ | refine' aBr rfl rfl ?_ ?_ ?_); rotate_left 2; (focus (simp only [go_sem, reduceIte, Nat.reduceEqDiff, reduceCtorEq, Int.reduceEq]; first | done | rfl)); exact (fun h => by first | rfl | (simp at h; done) | exact absurd (Bool.and_eq_true_iff.mp h).2 (by decide))) | refine aIb rfl rfl (by simp only [Ev.get, reduceIte, Nat.reduceEqDiff]; first | done | rfl) (by decide) rfl (by decide) ?_ | refine aBe rfl rfl rfl rfl (by decide) ?_ | (refine aA7 ?_; intro e2 h2; simp only [go_sem, reduceIte, Nat.reduceEqDiff] at h2; subst h2))); exact k) : A := h k
theorem bZv {A B F1 : Prop} (f1 : F1) (k : B) (h : F1 → B → A := by intro f1 k; (first | refine dI ?_ | refine nM ?_ | refine gJ ?_ | refine jA ?_ | refine qP ?_ | refine lJ ?_ | refine jU (by decide) ?_ | refine tZ ?_ | refine nX ?_ | refine gQ ?_ | refine qG ?_ | refine qN ?_ | refine uT ?_ | ((first | refine' aId rfl rfl (by decide) ?_ ?_ ?_ | refine' aBx rfl rfl (by simp only [Ev.get, reduceIte, Nat.reduceEqDiff, f1]; first | done | rfl) rfl (by decide) ?_ ?_ ?_ | refine' aBr rfl rfl ?_ ?_ ?_); rotate_left 2; (focus (simp only [go_sem, reduceIte, Nat.reduceEqDiff, reduceCtorEq, Int.reduceEq, f1]; first | done | rfl)); exact (fun h => by first | rfl | (simp at h; done) | exact absurd (Bool.and_eq_true_iff.mp h).2 (by decide))) | refine aIb rfl rfl (by simp only [Ev.get, reduceIte, Nat.reduceEqDiff, f1]; first | done | rfl) (by decide) rfl (by decide) ?_ | refine aBe rfl rfl rfl rfl (by decide) ?_ | (refine aA7 ?_; intro e2 h2; simp only [go_sem, reduceIte, Nat.reduceEqDiff] at h2; subst h2)); (repeat (first | refine dI ?_ | refine nM ?_ | refine gJ ?_ | refine jA ?_ | refine qP ?_ | refine lJ ?_ | refine jU (by decide) ?_ | refine tZ ?_ | refine nX ?_ | refine gQ ?_ | refine qG ?_ | refine qN ?_ | refine uT ?_ | ((first | refine' aId rfl rfl (by decide) ?_ ?_ ?_ | refine' aBx rfl rfl (by simp only [Ev.get, reduceIte, Nat.reduceEqDiff, f1]; first | done | rfl) rfl (by decide) ?_ ?_ ?_ | refine' aBr rfl rfl ?_ ?_ ?_); rotate_left 2; (focus (simp only [go_sem, reduceIte, Nat.reduceEqDiff, reduceCtorEq, Int.reduceEq, f1]; first | done | rfl)); exact (fun h => by first | rfl | (simp at h; done) | exact absurd (Bool.and_eq_true_iff.mp h).2 (by decide))) | refine aIb rfl rfl (by simp only [Ev.get, reduceIte, Nat.reduceEqDiff, f1]; first | done | rfl) (by decide) rfl (by decide) ?_ | refine aBe rfl rfl rfl rfl (by decide) ?_ | (refine aA7 ?_; intro e2 h2; simp only [go_sem, reduceIte, Nat.reduceEqDiff] at h2; subst h2))); exact k) : A := h f1 k
theorem gL {A B : Prop} {P : Program} {call : CallF} (hC : dU P call) (k : B) (h : dU P call → B → A := by intro hC k; (repeat (first | ((first | refine' bWv hC rfl rfl (by decide) ?_ ?_ | refine' bQ5 hC rfl rfl (by simp only [Ev.get, reduceIte, Nat.reduceEqDiff]; first | done | rfl) rfl (by decide) ?_ ?_ | refine' bPs hC rfl rfl ?_ ?_); rotate_left 2; (focus (simp only [go_sem, reduceIte, Nat.reduceEqDiff, reduceCtorEq, Int.reduceEq]; first | done | rfl))) | refine bWj rfl rfl (by simp only [Ev.get, reduceIte, Nat.reduceEqDiff]; first | done | rfl) (by decide) rfl (by decide) ?_ | refine bMa rfl rfl rfl rfl (by decide) ?_ | (refine bSb ?_; intro e2 h2; simp only [go_sem, reduceIte, Nat.reduceEqDiff] at h2; subst h2))); exact k) : A := h hC k
theorem aFu {A B F1 : Prop} {P : Program} {call : CallF} (hC : dU P call) (f1 : F1) (k : B) (h : dU P call → F1 → B → A := by intro hC f1 k; (repeat (first | ((first | refine' bWv hC rfl rfl (by decide) ?_ ?_ | refine' bQ5 hC rfl rfl (by simp only [Ev.get, reduceIte, Nat.reduceEqDiff, f1]; first | done | rfl) rfl (by decide) ?_ ?_ | refine' bPs hC rfl rfl ?_ ?_); rotate_left 2; (focus (simp only [go_sem, reduceIte, Nat.reduceEqDiff, reduceCtorEq, Int.reduceEq, f1]; first | done | rfl))) | refine bWj rfl rfl (by simp only [Ev.get, reduceIte, Nat.reduceEqDiff, f1]; first | done | rfl) (by decide) rfl (by decide) ?_ | refine bMa rfl rfl rfl rfl (by decide) ?_ | (refine bSb ?_; intro e2 h2; simp only [go_sem, reduceIte, Nat.reduceEqDiff] at h2; subst h2))); exact k) : A := h hC f1 k
end
end Go.Proofs.YtmockbddhhmmeaaGreat.Ev

namespace Go.Proofs.YtmockbddhhmmeaaGreat.Ev
theorem en {A B : Prop} (k : B) (h : B → A := by intro k; simp only [vP, List.length_cons, List.length_nil, List.range, List.range.loop, List.zip_cons_cons, List.zip_nil_right]; exact k) : A := h k
theorem taT (l : List (FuncId × (List AV → Mem → Option (AV × Mem)))) (f : FuncId) {g : List AV → Mem → Option (AV × Mem)} (h : (l.find? fun p => p.1 == f).map (·.2) = some g) : ∀ (args : List AV) (m : Mem), bQ l f args m = g args m := fun _ _ => aW4 h
theorem nbT {a b : Nat} (h : Nat.ble a b = true := by exact rfl) : a ≤ b := Nat.le_of_ble_eq_true h
theorem rcT {P : Program} {call : CallF} {nt : Nat} {kp : Nat → Option (List Nat)} {e : Env} {m : Mem} {Q : Ex → Env → Mem → Prop} {c : Operand} {a b : Code} (hc : opd P e 0 c = .v (.bool true)) (h : cF P call nt kp a e m Q) : cF P call nt kp (.cond c a b) e m Q := aH hc (fun _ => h) (fun hh => by cases hh)
theorem rcF {P : Program} {call : CallF} {nt : Nat} {kp : Nat → Option (List Nat)} {e : Env} {m : Mem} {Q : Ex → Env → Mem → Prop} {c : Operand} {a b : Code} (hc : opd P e 0 c = .v (.bool false)) (h : cF P call nt kp b e m Q) : cF P call nt kp (.cond c a b) e m Q := aH hc (fun hh => by cases hh) (fun _ => h)
theorem xcT {P : Program} {φ₀ : Phi} {m₀ : Mem} {w₀ : World} {nt : Nat} {e : Env} {m : Mem} {F : Objs} {Q : iS} {c : Operand} {a b : Code} (hc : opd P e 0 c = .v (.bool true)) (h : bE P φ₀ m₀ w₀ nt a e m F Q) : bE P φ₀ m₀ w₀ nt (.cond c a b) e m F Q := cK hc (fun _ => h) (fun hh => by cases hh)
theorem xcF {P : Program} {φ₀ : Phi} {m₀ : Mem} {w₀ : World} {nt : Nat} {e : Env} {m : Mem} {F : Objs} {Q : iS} {c : Operand} {a b : Code} (hc : opd P e 0 c = .v (.bool false)) (h : bE P φ₀ m₀ w₀ nt b e m F Q) : bE P φ₀ m₀ w₀ nt (.cond c a b) e m F Q := cK hc (fun hh => by cases hh) (fun _ => h)
theorem xq {A B : Prop} (k : B) (h : B → A := by intro k; (repeat (first | refine cA2 ?_ | refine bFr ?_ | refine aRy ?_ | refine bIt ?_ | refine bS5 ?_ | refine bS4 ?_ | refine bM7 (by decide) ?_ | refine bY0 ?_ | refine bYw ?_ | refine bYc ?_ | refine bYn ?_ | refine cBq ?_)); exact k) : A := h k
end Go.Proofs.YtmockbddhhmmeaaGreat.Ev

/- Objects beside the abstract memory (iterators, maps): code that has such ones of its own. -/
import Derived.Test.YtojaokhkbmiidaaEv27
import Derived.Laws.RangeAny
namespace Go.Proofs.Ytojaokhkbmiidaa.Ev
open Go
set_option linter.unusedVariables false
set_option linter.unusedSimpArgs false
/-- No row of cells. -/
def plainObj : Obj → Bool
  | .cells _ _ _ => false
  | _ => true
abbrev Objs := List (Nat × Obj)
def setObjs (F : Objs) (b : Nat) (o : Obj) : Objs := F.map fun p => if p.1 = b then (b, o) else p
def ObjsIn (φ : Phi) (m : Mem) (w₀ w : World) (F : Objs) : Prop := ∀ p ∈ F, w.heap[p.1]? = some p.2 ∧ w₀.heap.size ≤ p.1 ∧ ¬ Own φ m p.1 ∧ plainObj p.2 = true
def StF (φ₀ : Phi) (m₀ : Mem) (w₀ : World) (nt : Nat) (e : Env) (m : Mem) (F : Objs) (a : Act) (w : World) : Prop :=
  ∃ φ, RM φ m w ∧ Ext φ₀ m₀ w₀ φ m w ∧ EnvRep φ m w e a.tmps ∧ nt ≤ a.tmps.size ∧ a.defers = [] ∧ ObjsIn φ m w₀ w F
section
variable {P : Program} {call : CallF} {nt : Nat} {φ₀ : Phi} {m₀ : Mem} {w₀ : World} {kp : Nat → Option (List Nat)}

theorem objs_ext {φ φ' : Phi} {m m' : Mem} {w w' : World} {F : Objs} (h : ObjsIn φ m w₀ w F) (hX : Ext φ m w φ' m' w') : ObjsIn φ' m' w₀ w' F := by
  intro p hp
  obtain ⟨h1, h2, h3, h4⟩ := h p hp
  have hlt : p.1 < w.heap.size := (Array.getElem?_eq_some_iff.1 h1).1
  refine ⟨by rw [hX.blk p.1 hlt h3]; exact h1, h2, fun ho => ?_, h4⟩
  rcases hX.own p.1 ho with h | h
  · exact h3 h
  · omega
theorem StF.drop {e : Env} {m : Mem} {F : Objs} {a : Act} {w : World} (h : StF φ₀ m₀ w₀ nt e m F a w) : St φ₀ m₀ w₀ nt e m a w :=
  let ⟨φ, h1, h2, h3, h4, h5, _⟩ := h; ⟨φ, h1, h2, h3, h4, h5⟩
theorem StF.restr {e : Env} {m : Mem} {F : Objs} {a : Act} {w : World} (h : StF φ₀ m₀ w₀ nt e m F a w) (l : Option (List Nat)) : StF φ₀ m₀ w₀ nt (restr l e) m F a w :=
  let ⟨φ, h1, h2, h3, h4, h5, h6⟩ := h; ⟨φ, h1, h2, h3.restr l, h4, h5, h6⟩

/-! ### such objects come and change -/
theorem Rep.carry {φ : Phi} {m : Mem} {w w' : World} (hc : ∀ b o, φ.im b o → w'.cell? ⟨b, o, none⟩ = w.cell? ⟨b, o, none⟩) {a : AV} {x : Value} (h : Rep φ m w a x) : Rep φ m w' a x := by
  induction h with
  | junk x => exact .junk x
  | v x => exact .v x
  | agg cs arr hn _ ih => exact .agg cs arr hn ih
  | tup cs arr hn _ ih => exact .tup cs arr hn ih
  | lst g sz rows a c val hcc hr ha hs hcell _ hg ih =>
    refine .lst g sz rows a c val hcc hr ha hs (fun ad i row j x e1 e2 e3 => ?_) ih hg
    obtain ⟨h1, h2, h5⟩ := hcell ad i row j x e1 e2 e3
    exact ⟨h1, (hc _ _ h1).trans h2, h5⟩
  | ptr r off cs h => exact .ptr r off cs h
  | eptr cs ad val hs hcell _ ih =>
    refine .eptr cs ad val hs (fun j x e => ?_) ih
    obtain ⟨h1, h2⟩ := hcell j x e
    exact ⟨h1, (hc _ _ h1).trans h2⟩
  | vs r off sz n c cs h hb hn => exact .vs r off sz n c cs h hb hn
  | fn f first caps fv cv h1 h2 _ _ ih1 ih2 => exact .fn f first caps fv cv h1 h2 ih1 ih2
theorem alloc_obj {φ : Phi} {m : Mem} {w : World} (hR : RM φ m w) (o : Obj) : RM φ m (w.alloc o) ∧ Ext φ m w φ m (w.alloc o) := by
  have hblk : ∀ b, b < w.heap.size → (w.alloc o).heap[b]? = w.heap[b]? := fun b hb => heap_alloc_old w _ hb
  have lt_of : ∀ b o, w.heap[b]? = some o → b < w.heap.size := fun b o h => (Array.getElem?_eq_some_iff.1 h).1
  have hext : Ext φ m w φ m (w.alloc o) := {
    os := rfl, tape := rfl, output := rfl, size := by rw [alloc_size]; omega
    im := fun b o hi => ⟨hi, cell_of_heap (hblk b (hR.imlt b o hi)) o⟩
    vb := fun r cs' hv => ⟨rfl, cs', hv, rfl⟩
    tk := fun i v hv => ⟨v, hv, Nat.le_refl _, fun _ => rfl⟩
    blk := fun b hb _ => hblk b hb
    own := fun b hb => .inl hb }
  refine ⟨?_, hext⟩
  exact {
    var := fun r cs' hv => by
      obtain ⟨arr', T', h1, h2, h3⟩ := hR.var r cs' hv
      exact ⟨arr', T', by rw [hblk _ (lt_of _ _ h1)]; exact h1, h2.mono hext, h3⟩
    inj := hR.inj
    vim := hR.vim
    tok := fun i b s e hlt hk hse => by
      obtain ⟨arr', T', h1, h2, h3, h4, h5⟩ := hR.tok i b s e hlt hk hse
      exact ⟨arr', T', by rw [hblk _ (lt_of _ _ h1)]; exact h1, h2, h3, h4, h5⟩
    tinj := hR.tinj
    imlt := fun b o hi => Nat.lt_of_lt_of_le (hR.imlt b o hi) (by rw [alloc_size]; omega) }
theorem own_lt {φ : Phi} {m : Mem} {w : World} (hR : RM φ m w) {b : Nat} (h : Own φ m b) : b < w.heap.size := by
  rcases h with ⟨r, cs, hv, rfl⟩ | ⟨id, s, e, hlt, hk, hse⟩
  · obtain ⟨arr, T, h1, _⟩ := hR.var r cs hv
    exact (Array.getElem?_eq_some_iff.1 h1).1
  · obtain ⟨arr, T, h1, _⟩ := hR.tok id b s e hlt hk hse
    exact (Array.getElem?_eq_some_iff.1 h1).1
/-- A world with an object in place of another. -/
def putObj (w : World) (b : Nat) (o : Obj) : World := { w with heap := w.heap.setIfInBounds b o }
theorem putObj_other (w : World) {b c : Nat} (o : Obj) (h : c ≠ b) : (putObj w b o).heap[c]? = w.heap[c]? := by simp [putObj, Array.getElem?_setIfInBounds_ne (Ne.symm h)]
theorem putObj_self (w : World) {b : Nat} (o : Obj) (h : b < w.heap.size) : (putObj w b o).heap[b]? = some o := by simp [putObj, h]
theorem cell_plain {w : World} {b : Nat} {o : Obj} (h : w.heap[b]? = some o) (hp : plainObj o = true) (off : Nat) : w.cell? ⟨b, off, none⟩ = none := by
  unfold World.cell?
  simp only [h]
  cases o <;> first | rfl | cases hp
theorem put_obj {φ : Phi} {m : Mem} {w : World} (hR : RM φ m w) (hX : Ext φ₀ m₀ w₀ φ m w) {b : Nat} {o o' : Obj} (hb : w.heap[b]? = some o) (hp : plainObj o = true) (hp' : plainObj o' = true) (hno : ¬ Own φ m b) (hge : w₀.heap.size ≤ b) :
    RM φ m (putObj w b o') ∧ Ext φ₀ m₀ w₀ φ m (putObj w b o') ∧ ∀ {a : AV} {x : Value}, Rep φ m w a x → Rep φ m (putObj w b o') a x := by
  have hlt : b < w.heap.size := (Array.getElem?_eq_some_iff.1 hb).1
  have hcell : ∀ c off, (putObj w b o').cell? ⟨c, off, none⟩ = w.cell? ⟨c, off, none⟩ := by
    intro c off
    by_cases hc : c = b
    · subst hc
      rw [cell_plain hb hp, cell_plain (putObj_self w o' hlt) hp']
    · exact cell_of_heap (putObj_other w o' hc) off
  have hrep : ∀ {a : AV} {x : Value}, Rep φ m w a x → Rep φ m (putObj w b o') a x := fun h => Rep.carry (fun c off _ => hcell c off) h
  have hsz : (putObj w b o').heap.size = w.heap.size := by simp [putObj]
  refine ⟨?_, ?_, hrep⟩
  · exact {
      var := fun r cs' hv => by
        obtain ⟨arr', T', h1, h2, h3⟩ := hR.var r cs' hv
        exact ⟨arr', T', by rw [putObj_other w o' (fun e => hno (.inl ⟨r, cs', hv, e⟩))]; exact h1, ⟨h2.1, fun i a u e1 e2 => hrep (h2.2 i a u e1 e2)⟩, h3⟩
      inj := hR.inj
      vim := hR.vim
      tok := fun i c s e hlt hk hse => by
        obtain ⟨arr', T', h1, h2, h3, h4, h5⟩ := hR.tok i c s e hlt hk hse
        exact ⟨arr', T', by rw [putObj_other w o' (fun e2 => hno (.inr ⟨i, s, e, hlt, by rw [← e2]; exact hk, hse⟩))]; exact h1, h2, h3, h4, h5⟩
      tinj := hR.tinj
      imlt := fun c o hi => by rw [hsz]; exact hR.imlt c o hi }
  · exact {
      os := hX.os, tape := hX.tape, output := hX.output
      size := by rw [hsz]; exact hX.size
      im := fun c off hi => ⟨(hX.im c off hi).1, (hcell c off).trans (hX.im c off hi).2⟩
      vb := hX.vb
      tk := hX.tk
      blk := fun c hc hno' => by rw [putObj_other w o' (by omega)]; exact hX.blk c hc hno'
      own := hX.own }
theorem putAV_some {d : Nat} (h : d < nt) (av : AV) (e : Env) : putAV nt (some d) av e = some ((d, av) :: e) := if_pos h
theorem StF.new {e : Env} {m : Mem} {F : Objs} {a : Act} {w : World} (h : StF φ₀ m₀ w₀ nt e m F a w) {o : Obj} (ho : plainObj o = true) {d : Nat} (hd : d < nt) {x : Value} :
    StF φ₀ m₀ w₀ nt ((d, .v x) :: e) m ((w.heap.size, o) :: F) (a.put (some d) x) (w.alloc o) := by
  obtain ⟨φ, hR, hX, hE, hn, hdf, hF⟩ := h
  obtain ⟨hR', hX'⟩ := alloc_obj hR o
  refine ⟨φ, hR', hX.trans hX', (hE.mono hX').put (putAV_some hd _ _) hn (.v x) a.defers, by rw [put_size]; exact hn, by rw [put_defers]; exact hdf, fun p hp => ?_⟩
  rcases List.mem_cons.1 hp with rfl | hp
  · exact ⟨heap_alloc_new w o, hX.size, fun h => by have := own_lt hR h; omega, ho⟩
  · exact objs_ext hF hX' p hp
theorem StF.set {e : Env} {m : Mem} {F : Objs} {a : Act} {w : World} (h : StF φ₀ m₀ w₀ nt e m F a w) {b : Nat} {o o' : Obj} (hb : (b, o) ∈ F) (ho' : plainObj o' = true) {d : Nat} (hd : d < nt) {av : AV} {x : Value} (hx : ∀ φ, RM φ m w → EnvRep φ m w e a.tmps → Rep φ m w av x) :
    StF φ₀ m₀ w₀ nt ((d, av) :: e) m (setObjs F b o') (a.put (some d) x) (putObj w b o') := by
  obtain ⟨φ, hR, hX, hE, hn, hdf, hF⟩ := h
  obtain ⟨h1, h2, h3, h4⟩ := hF _ hb
  have hlt : b < w.heap.size := (Array.getElem?_eq_some_iff.1 h1).1
  obtain ⟨hR', hX', hrep⟩ := put_obj hR hX h1 h4 ho' h3 h2
  have hE' : EnvRep φ m (putObj w b o') e a.tmps := fun t => hrep (hE t)
  refine ⟨φ, hR', hX', hE'.put (putAV_some hd _ _) hn (hrep (hx φ hR hE)) a.defers, by rw [put_size]; exact hn, by rw [put_defers]; exact hdf, fun p hp => ?_⟩
  obtain ⟨q, hq, rfl⟩ := List.mem_map.1 hp
  obtain ⟨g1, g2, g3, g4⟩ := hF q hq
  by_cases e1 : q.1 = b
  · rw [if_pos e1]
    exact ⟨putObj_self w o' hlt, h2, h3, ho'⟩
  · rw [if_neg e1]
    exact ⟨by rw [putObj_other w o' e1]; exact g1, g2, g3, g4⟩

/-! ### code -/
abbrev PostF := Ex → Env → Mem → Objs → Prop
def EndsF (φ₀ : Phi) (m₀ : Mem) (w₀ : World) (nt : Nat) (Q : PostF) : Exit → Act → World → Prop := fun x a w => ∃ y e m F, x = toExit y ∧ StF φ₀ m₀ w₀ nt e m F a w ∧ Q y e m F
def XRuns (P : Program) (φ₀ : Phi) (m₀ : Mem) (w₀ : World) (nt : Nat) (c : Code) (e : Env) (m : Mem) (F : Objs) (Q : PostF) : Prop :=
  ∀ a w, StF φ₀ m₀ w₀ nt e m F a w → c.wp P (EndsF φ₀ m₀ w₀ nt Q) a w
def XNext (K : Env → Mem → Objs → Prop) (Q : PostF) : PostF
  | .normal, e, m, F => K e m F
  | x, e, m, F => Q x e m F
def XInside (id : Nat) (Q : PostF) : PostF
  | .exit q, e, m, F => if q = id then Q .normal e m F else Q (.exit q) e m F
  | x, e, m, F => Q x e m F
variable {e : Env} {m : Mem} {F : Objs} {Q : PostF} {K : Env → Mem → Objs → Prop}
theorem xn_normal (h : K e m F) : XNext K Q .normal e m F := h
theorem xn_exit {id : Nat} (h : Q (.exit id) e m F) : XNext K Q (.exit id) e m F := h
theorem xn_ret (h : Q .ret e m F) : XNext K Q .ret e m F := h
theorem xi_normal {id : Nat} (h : Q .normal e m F) : XInside id Q .normal e m F := h
theorem xi_ret {id : Nat} (h : Q .ret e m F) : XInside id Q .ret e m F := h
theorem xi_exit {id : Nat} (h : Q .normal e m F) : XInside id Q (.exit id) e m F := by show (if id = id then _ else _); rw [if_pos rfl]; exact h
theorem xi_other {id q : Nat} (hq : q ≠ id) (h : Q (.exit q) e m F) : XInside id Q (.exit q) e m F := by show (if q = id then _ else _); rw [if_neg hq]; exact h
theorem x_mono {c : Code} {Q' : PostF} (h : XRuns P φ₀ m₀ w₀ nt c e m F Q) (hq : ∀ x e m F, Q x e m F → Q' x e m F) : XRuns P φ₀ m₀ w₀ nt c e m F Q' :=
  fun a w hs => wp_mono (h a w hs) fun x a w ⟨y, e, m, F, h1, h2, h3⟩ => ⟨y, e, m, F, h1, h2, hq _ _ _ _ h3⟩
theorem x_skip (h : Q .normal e m F) : XRuns P φ₀ m₀ w₀ nt .skip e m F Q := fun a w hs => wp_skip ⟨.normal, e, m, F, rfl, hs, h⟩
theorem x_exit {id : Nat} (h : Q (.exit id) e m F) : XRuns P φ₀ m₀ w₀ nt (.exit id) e m F Q := fun a w hs => wp_exit ⟨.exit id, e, m, F, rfl, hs, h⟩
theorem x_ret (h : Q .ret e m F) : XRuns P φ₀ m₀ w₀ nt .ret e m F Q := fun a w hs => wp_ret ⟨.ret, e, m, F, rfl, hs, h⟩
theorem x_seq {x y : Code} (h : XRuns P φ₀ m₀ w₀ nt x e m F (XNext (fun e m F => XRuns P φ₀ m₀ w₀ nt y e m F Q) Q)) : XRuns P φ₀ m₀ w₀ nt (.seq x y) e m F Q := fun a w hs => by
  refine wp_seq (wp_mono (h a w hs) fun x a w ⟨y, e, m, F, h1, h2, h3⟩ => ?_)
  subst h1
  cases y with
  | normal => exact h3 a w h2
  | exit id => exact ⟨.exit id, e, m, F, rfl, h2, h3⟩
  | ret => exact ⟨.ret, e, m, F, rfl, h2, h3⟩
theorem x_block {id : Nat} {b : Code} (h : XRuns P φ₀ m₀ w₀ nt b e m F (XInside id Q)) : XRuns P φ₀ m₀ w₀ nt (.block id b) e m F Q := fun a w hs => by
  refine wp_block (wp_mono (h a w hs) fun x a w ⟨y, e, m, F, h1, h2, h3⟩ => ?_)
  subst h1
  cases y with
  | normal => exact ⟨.normal, e, m, F, rfl, h2, h3⟩
  | ret => exact ⟨.ret, e, m, F, rfl, h2, h3⟩
  | exit q =>
    show (if q = id then _ else _)
    have h3' : if q = id then Q .normal e m F else Q (.exit q) e m F := h3
    by_cases hq : q = id
    · rw [if_pos hq] at h3' ⊢
      exact ⟨.normal, e, m, F, rfl, h2, h3'⟩
    · rw [if_neg hq] at h3' ⊢
      exact ⟨.exit q, e, m, F, rfl, h2, h3'⟩
theorem x_cond {c : Operand} {x y : Code} {t : Bool} (hc : opd P e 0 c = .v (.bool t)) (ht : t = true → XRuns P φ₀ m₀ w₀ nt x e m F Q) (hf : t = false → XRuns P φ₀ m₀ w₀ nt y e m F Q) : XRuns P φ₀ m₀ w₀ nt (.cond c x y) e m F Q := fun a w hs => by
  have hc' : a.eval c = .bool t := by
    obtain ⟨φ, _, _, hE, _⟩ := hs
    have := rep_opd (P := P) hE 0 c
    rw [hc] at this
    generalize hv : a.eval c = v at this
    cases this
    rfl
  refine wp_cond hc' ?_
  cases t with
  | true => exact ht rfl a w hs
  | false => exact hf rfl a w hs
theorem x_loop {b : Code} (I : Nat → Env → Mem → Objs → Prop) {k : Nat} (h0 : I k e m F) (round : ∀ k e m F, I k e m F → XRuns P φ₀ m₀ w₀ nt b e m F (XNext (fun e m F => ∃ k', k' < k ∧ I k' e m F) Q)) : XRuns P φ₀ m₀ w₀ nt (.loop b) e m F Q := by
  have key : ∀ n k e m F a w, k < n → I k e m F → StF φ₀ m₀ w₀ nt e m F a w → Code.rounds P b (EndsF φ₀ m₀ w₀ nt Q) n a w := by
    intro n
    induction n with
    | zero => intro k e m F a w h; omega
    | succ n ih =>
      intro k e m F a w hk hI hs
      rw [rounds_succ]
      refine wp_mono (round k e m F hI a w hs) fun x a w ⟨y, e, m, F, h1, h2, h3⟩ => ?_
      subst h1
      cases y with
      | normal =>
        obtain ⟨k', hk', hI'⟩ := h3
        exact ih k' e m F a w (by omega) hI' h2
      | exit id => exact ⟨.exit id, e, m, F, rfl, h2, h3⟩
      | ret => exact ⟨.ret, e, m, F, rfl, h2, h3⟩
  exact fun a w hs => wp_loop_rounds (k + 1) (key (k + 1) k e m F a w (Nat.lt_succ_self _) h0 hs)
/-- Code without such objects of its own. -/
theorem x_lift (hm : P.follows .mixedOrders = true) (hC : CallOk P call) {c : Code} (h : Runs P call nt kp c e m fun x e m => Q x e m F) : XRuns P φ₀ m₀ w₀ nt c e m F Q := fun a w hs => by
  obtain ⟨n, x, e', m', h1, h2⟩ := h
  obtain ⟨φ, hR, hX, hE, hn, hd, hF⟩ := hs
  refine wp_mono (code_sound (φ₀ := φ) (m₀ := m) (w₀ := w) hm hC kp n c e m _ h1 a w ⟨φ, hR, Ext.refl .., hE, hn, hd⟩) fun y a' w' hp => ?_
  obtain ⟨rfl, φ', hR', hX', hE', hn', hd'⟩ := hp
  exact ⟨x, e', m', F, rfl, ⟨φ', hR', hX.trans hX', hE', hn', hd', objs_ext hF hX'⟩, h2⟩
theorem x_region (hm : P.follows .mixedOrders = true) (hC : CallOk P call) {id : Nat} {l : List Oper} (h : Ops P call nt l.toArray false l e m fun e' m' => ∀ e2, restr (kp id) e' = e2 → Q .normal e2 m' F) : XRuns P φ₀ m₀ w₀ nt (.region id l.toArray false) e m F Q :=
  x_lift hm hC (runs_ops_kept h)

/-! ### regions with operations on such objects -/
def XOps (P : Program) (φ₀ : Phi) (m₀ : Mem) (w₀ : World) (nt : Nat) (ops : Array Oper) (l : List Oper) (e : Env) (m : Mem) (F : Objs) (K : Env → Mem → Objs → Prop) : Prop :=
  ∀ (R : Exit → Act → World → Prop), (∀ e m F a w, K e m F → StF φ₀ m₀ w₀ nt e m F a w → R .normal a w) → ∀ a w, StF φ₀ m₀ w₀ nt e m F a w → wpList P ops R l a w
variable {ops : Array Oper}
theorem x_ops {id : Nat} {l : List Oper} {l2 : Option (List Nat)} (h : XOps P φ₀ m₀ w₀ nt l.toArray l e m F fun e' m' F' => ∀ e2, Ev.restr l2 e' = e2 → Q .normal e2 m' F') : XRuns P φ₀ m₀ w₀ nt (.region id l.toArray false) e m F Q := fun a w hs =>
  wp_region_list (h (EndsF φ₀ m₀ w₀ nt Q) (fun e m F a w hK hs => ⟨.normal, _, m, F, rfl, hs.restr l2, hK _ rfl⟩) a w hs)
theorem xo_nil (h : K e m F) : XOps P φ₀ m₀ w₀ nt ops [] e m F K := fun R hR a w hs => hR e m F a w h hs
theorem wanted_none {o : Oper} (hg : o.guard = none) {a : Act} : Region.wanted o (yielded ops a.tmps) = true := by
  unfold Region.wanted
  rw [hg]
theorem xo_op (hC : CallOk P call) {o : Oper} {rest : List Oper} {av : AV} {m1 : Mem} {d : Nat} (hg : o.guard = none) (hd : o.dst = some d) (hlt : d < nt) (hk : evOp P call e m o = some (av, m1)) (h : XOps P φ₀ m₀ w₀ nt ops rest ((d, av) :: e) m1 F K) :
    XOps P φ₀ m₀ w₀ nt ops (o :: rest) e m F K := fun R hR a w hs => by
  obtain ⟨φ, hRM, hX, hE, hn, hdf, hF⟩ := hs
  unfold wpList
  rw [wanted_none hg, if_pos rfl]
  left
  refine op_wp hC hRM hE hk fun x w' φ' g1 g2 g3 => ?_
  refine h R hR _ _ ⟨φ', g1, hX.trans g2, ?_, by rw [put_size]; exact hn, by rw [put_defers]; exact hdf, objs_ext hF g2⟩
  exact (hE.mono g2).put (by rw [hd]; exact putAV_some hlt _ _) hn g3 a.defers
/-- A text's iterator. -/
theorem xo_range {o : Oper} {rest : List Oper} {t : TypeId} {x : Operand} {s : ByteArray} {d : Nat} (hg : o.guard = none) (hd : o.dst = some d) (hlt : d < nt) (ho : o.op = .range t x) (ht : tStr P t = true) (hx : opd P e t x = .v (.string s))
    (h : ∀ b, XOps P φ₀ m₀ w₀ nt ops rest ((d, .v (.pointer (some ⟨b, 0, none⟩))) :: e) m ((b, .stringIter s 0) :: F) K) : XOps P φ₀ m₀ w₀ nt ops (o :: rest) e m F K := fun R hR a w hs => by
  have hv : a.eval x = .string s := by
    obtain ⟨φ, _, _, hE, _⟩ := hs
    have := rep_opd (P := P) hE t x
    rw [hx] at this
    generalize hv : a.eval x = v at this
    cases this
    rfl
  unfold wpList
  rw [wanted_none hg, if_pos rfl]
  left
  have hrun : (execOp a.eval o).run P w = .ok (.value (.pointer (some ⟨w.heap.size, 0, none⟩))) (w.alloc (.stringIter s 0)) := by
    unfold execOp
    rw [ho]
    simp only [hv]
    rw [Sem.run_bind, run_range_string w t s (str_under ht)]
    rfl
  unfold Oper.wp
  rw [hrun, Oper.upon_value, hd]
  exact h _ R hR _ _ (hs.new rfl hlt)
/-- .. and its steps. -/
theorem xo_next {o : Oper} {rest : List Oper} {x : Operand} {s : ByteArray} {d b pos : Nat} (hg : o.guard = none) (hd : o.dst = some d) (hlt : d < nt) (ho : o.op = .next x true) (hx : opd P e o.type x = .v (.pointer (some ⟨b, 0, none⟩))) (hb : (b, .stringIter s pos) ∈ F)
    (h1 : pos < s.size → XOps P φ₀ m₀ w₀ nt ops rest ((d, .tup [.v (.bool true), .v (.int .i64 (pos : Int)), .v (.int .i32 ((Utf8.decode s pos).1 : Nat))]) :: e) m (setObjs F b (.stringIter s (pos + (Utf8.decode s pos).2))) K)
    (h2 : ¬ pos < s.size → XOps P φ₀ m₀ w₀ nt ops rest ((d, .tup [.v (.bool false)]) :: e) m F K) : XOps P φ₀ m₀ w₀ nt ops (o :: rest) e m F K := fun R hR a w hs => by
  have hv : a.eval x = .pointer (some ⟨b, 0, none⟩) := by
    obtain ⟨φ, _, _, hE, _⟩ := hs
    have := rep_opd (P := P) hE o.type x
    rw [hx] at this
    generalize hv : a.eval x = v at this
    cases this
    rfl
  have hheap : w.heap[b]? = some (.stringIter s pos) := by
    obtain ⟨φ, _, _, _, _, _, hF⟩ := hs
    exact (hF _ hb).1
  have tup_rep : ∀ {φ : Phi} {m : Mem} {w : World} (l : List Value), Rep φ m w (.tup (l.map .v)) (.tuple l.toArray) := fun l => .tup _ _ (by simp) fun i a u e1 e2 => by
    simp at e1 e2
    obtain ⟨y, h3, rfl⟩ := e1
    rw [e2] at h3
    cases h3
    exact .v _
  unfold wpList
  rw [wanted_none hg, if_pos rfl]
  left
  by_cases hp : pos < s.size
  · have hrun : (execOp a.eval o).run P w = .ok (.value (.tuple #[.bool true, .int .i64 pos, .int .i32 (Utf8.decode s pos).1])) (putObj w b (.stringIter s (pos + (Utf8.decode s pos).2))) := by
      unfold execOp
      rw [ho]
      simp only [hv]
      simp [Instr.next, getObj, setObj, Sem.run_bind, Sem.run, hheap, Result.andThen, hp, goInt, putObj]
    unfold Oper.wp
    rw [hrun, Oper.upon_value, hd]
    exact h1 hp R hR _ _ (hs.set hb rfl hlt fun φ _ _ => tup_rep [.bool true, .int .i64 pos, .int .i32 (Utf8.decode s pos).1])
  · have hrun : (execOp a.eval o).run P w = .ok (.value (.tuple #[.bool false])) w := by
      unfold execOp
      rw [ho]
      simp only [hv]
      simp [Instr.next, getObj, Sem.run_bind, Sem.run, hheap, Result.andThen, hp]
    unfold Oper.wp
    rw [hrun, Oper.upon_value, hd]
    obtain ⟨φ, hRM, hX, hE, hn, hdf, hF⟩ := hs
    exact h2 hp R hR _ _ ⟨φ, hRM, hX, hE.put (putAV_some hlt _ _) hn (tup_rep [.bool false]) a.defers, by rw [put_size]; exact hn, by rw [put_defers]; exact hdf, hF⟩

/-! ### a function -/
def XLeaves (P : Program) (gr : Bool) (fn : Func) (m₀ : Mem) (r : AV × Mem) : PostF
  | .normal, e, m, _ => evRet P gr fn m₀ e m = some r
  | .ret, e, m, _ => evRet P gr fn m₀ e m = some r
  | .exit _, _, _, _ => False
theorem x_leaves {gr : Bool} {fn : Func} {r : AV × Mem} (h : Leaves P gr fn m₀ r .ret e m) : XLeaves P gr fn m₀ r .ret e m F := h
theorem fun_okX {f : FuncId} {fn : Func} {c : Code} (hf : P.funcs[f]? = some fn) (hb : fn.body = some c) (gr : Bool) {g : List AV → Mem → Option (AV × Mem)} (hn : (fn.name == "runtime.NumGoroutine") = false)
    (h : ∀ args m r, g args m = some r → args.length ≤ fn.ntmps ∧ ∀ φ w, XRuns P φ m w fn.ntmps c (entry args) m [] (XLeaves P gr fn m r)) : FunOk P f g := by
  intro args m r m' hg
  obtain ⟨hl, hx⟩ := h args m (r, m') hg
  refine ⟨⟨fn, hf, by rw [hb]; rfl, hn⟩, fun φ w vals hR hA => ?_⟩
  have hst : StF φ m w fn.ntmps (entry args) m [] { tmps := vals ++ Array.replicate (fn.ntmps - vals.size) undef, defers := [] } w :=
    ⟨φ, hR, Ext.refl .., entry_rep hA _, by simp; omega, rfl, fun p hp => by simp at hp⟩
  refine calls_of_wp hf hb (wp_mono (hx φ w _ _ hst) fun x a w' ⟨y, e, m1, F, h1, h2, h3⟩ => ?_)
  subst h1
  have fin : evRet P gr fn m e m1 = some (r, m') → a.defers = [] ∧ ∃ v, (results fn a.tmps).run P w' = .ok v w' ∧ ∃ x φ', Ending.returned v = .returned x ∧ RM φ' m' w' ∧ Ext φ m w φ' m' w' ∧ Rep φ' m' w' r x := by
    intro hret
    obtain ⟨x, φ', g1, g2, g3, g4⟩ := ret_sound hR h2.drop hret
    obtain ⟨_, _, _, _, _, hd⟩ := h2.drop
    exact ⟨hd, x, g1, x, φ', rfl, g2, g3, g4⟩
  cases y with
  | normal => exact fin h3
  | ret => exact fin h3
  | exit id => exact h3.elim
end
end Go.Proofs.Ytojaokhkbmiidaa.Ev

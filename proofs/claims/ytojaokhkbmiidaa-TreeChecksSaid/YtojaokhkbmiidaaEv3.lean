/- What abstract values and an abstract memory stand for in a world, and how that is kept while the world goes on. -/
import Derived.Test.YtojaokhkbmiidaaEv2
namespace Go.Proofs.Ytojaokhkbmiidaa.Ev
open Go

/-- Where things lie: a variable's block; which cells nobody writes any more; a token's free cells. -/
structure Phi where
  vb : Nat → Nat
  im : Nat → Nat → Prop
  tk : Nat → Nat × Nat × Nat

def growOk (φ : Phi) (m : Mem) (g : Grow) (a : Option Addr) (n c sz : Nat) : Prop :=
  match g with
  | .no => True
  | .full => n = c
  | .here => a ≠ none
  | .tok id ver => ∃ v, m.toks[id]? = some v ∧ ver ≤ v ∧ (v = ver → match a with
    | none => n = c
    | some ad => φ.tk id = (ad.block, ad.off + n * sz, ad.off + c * sz))

inductive Rep (φ : Phi) (m : Mem) (w : World) : AV → Value → Prop
  | junk (x : Value) : Rep φ m w .junk x
  | v (x : Value) : Rep φ m w (.v x) x
  | agg (cs : List AV) (arr : Array Value) (hn : arr.size = cs.length) (h : ∀ (i : Nat) a u, cs[i]? = some a → arr[i]? = some u → Rep φ m w a u) : Rep φ m w (.agg cs) (.agg arr)
  | tup (cs : List AV) (arr : Array Value) (hn : arr.size = cs.length) (h : ∀ (i : Nat) a u, cs[i]? = some a → arr[i]? = some u → Rep φ m w a u) : Rep φ m w (.tup cs) (.tuple arr)
  | lst (g : Grow) (sz : Nat) (rows : List (List AV)) (a : Option Addr) (c : Nat) (val : Nat → Nat → Value) (hc : rows.length ≤ c)
      (hr : ∀ (i : Nat) row, rows[i]? = some row → row.length = sz ∧ row.all isRow = true) (ha : a = none → c = 0) (hs : ∀ ad, a = some ad → 0 < c → ad.spot = none)
      (hcell : ∀ ad (i : Nat) row (j : Nat) x, a = some ad → rows[i]? = some row → row[j]? = some x →
        φ.im ad.block (ad.off + i * sz + j) ∧ w.cell? ⟨ad.block, ad.off + i * sz + j, none⟩ = some (val i j) ∧ one (val i j) = true)
      (hrep : ∀ (i : Nat) row (j : Nat) x, rows[i]? = some row → row[j]? = some x → Rep φ m w x (val i j))
      (hg : growOk φ m g a rows.length c sz) : Rep φ m w (.lst g sz rows) (.slice a rows.length c)
  | ptr (r off : Nat) (cs : List AV) (h : m.var r = some cs) : Rep φ m w (.ptr r off) (.pointer (some ⟨φ.vb r, off, none⟩))
  | eptr (cs : List AV) (ad : Addr) (val : Nat → Value) (hs : ad.spot = none)
      (hcell : ∀ (j : Nat) x, cs[j]? = some x → φ.im ad.block (ad.off + j) ∧ w.cell? ⟨ad.block, ad.off + j, none⟩ = some (val j))
      (hrep : ∀ (j : Nat) x, cs[j]? = some x → Rep φ m w x (val j)) : Rep φ m w (.eptr cs) (.pointer (some ad))
  | vs (r off sz n c : Nat) (cs : List AV) (h : m.var r = some cs) (hb : off + c * sz ≤ cs.length) (hn : n ≤ c) : Rep φ m w (.vs r off sz n c) (.slice (some ⟨φ.vb r, off, none⟩) n c)
  | fn (f : Fn) (first caps : List AV) (fv cv : Array Value) (h1 : fv.size = first.length) (h2 : cv.size = caps.length)
      (r1 : ∀ (i : Nat) a u, first[i]? = some a → fv[i]? = some u → Rep φ m w a u) (r2 : ∀ (i : Nat) a u, caps[i]? = some a → cv[i]? = some u → Rep φ m w a u) : Rep φ m w (.fn f first caps) (.func f fv cv)

/-- Values one by one. -/
def Reps (φ : Phi) (m : Mem) (w : World) (cs : List AV) (arr : Array Value) : Prop :=
  arr.size = cs.length ∧ ∀ (i : Nat) a u, cs[i]? = some a → arr[i]? = some u → Rep φ m w a u
def EnvRep (φ : Phi) (m : Mem) (w : World) (e : Env) (tmps : Array Value) : Prop := ∀ t, Rep φ m w (get e t) (tmps.getD t undef)

/-- What the abstract memory owns: its variables' blocks, and the blocks that may still grow in place. -/
def Own (φ : Phi) (m : Mem) (b : Nat) : Prop :=
  (∃ r cs, m.var r = some cs ∧ φ.vb r = b) ∨ (∃ id s e, id < m.toks.length ∧ φ.tk id = (b, s, e) ∧ s < e)

structure RM (φ : Phi) (m : Mem) (w : World) : Prop where
  var : ∀ r cs, m.var r = some cs → ∃ arr T, w.heap[φ.vb r]? = some (.cells arr T (0, 0)) ∧ Reps φ m w cs arr ∧ cs.all okCell = true ∧ cs.all (refLe r) = true
  inj : ∀ r r' cs cs', m.var r = some cs → m.var r' = some cs' → φ.vb r = φ.vb r' → r = r'
  vim : ∀ r cs o, m.var r = some cs → ¬ φ.im (φ.vb r) o
  tok : ∀ id b s e, id < m.toks.length → φ.tk id = (b, s, e) → s < e →
    ∃ arr T, w.heap[b]? = some (.cells arr T (0, 0)) ∧ e ≤ arr.size ∧ (∀ o, s ≤ o → o < e → ¬ φ.im b o) ∧ (∀ r cs, m.var r = some cs → φ.vb r ≠ b) ∧ (∀ (o : Nat) u, arr[o]? = some u → one u = true)
  tinj : ∀ id id' b s e s' e', id < m.toks.length → id' < m.toks.length → φ.tk id = (b, s, e) → φ.tk id' = (b, s', e') → s < e → s' < e' → id = id'
  imlt : ∀ b o, φ.im b o → b < w.heap.size

structure Ext (φ : Phi) (m : Mem) (w : World) (φ' : Phi) (m' : Mem) (w' : World) : Prop where
  os : w'.os = w.os
  tape : w'.tape = w.tape
  output : w'.output = w.output
  size : w.heap.size ≤ w'.heap.size
  im : ∀ b o, φ.im b o → φ'.im b o ∧ w'.cell? ⟨b, o, none⟩ = w.cell? ⟨b, o, none⟩
  vb : ∀ r cs, m.var r = some cs → φ'.vb r = φ.vb r ∧ ∃ cs', m'.var r = some cs' ∧ cs'.length = cs.length
  tk : ∀ id v, m.toks[id]? = some v → ∃ v', m'.toks[id]? = some v' ∧ v ≤ v' ∧ (v' = v → φ'.tk id = φ.tk id)
  blk : ∀ b, b < w.heap.size → ¬ Own φ m b → w'.heap[b]? = w.heap[b]?
  own : ∀ b, Own φ' m' b → Own φ m b ∨ w.heap.size ≤ b

theorem Ext.refl (φ : Phi) (m : Mem) (w : World) : Ext φ m w φ m w :=
  ⟨rfl, rfl, rfl, Nat.le_refl _, fun _ _ h => ⟨h, rfl⟩, fun _ cs h => ⟨rfl, cs, h, rfl⟩, fun _ v h => ⟨v, h, Nat.le_refl _, fun _ => rfl⟩, fun _ _ _ => rfl, fun _ h => .inl h⟩

theorem Ext.trans {φ m w φ₁ m₁ w₁ φ₂ m₂ w₂} (h : Ext φ m w φ₁ m₁ w₁) (k : Ext φ₁ m₁ w₁ φ₂ m₂ w₂) : Ext φ m w φ₂ m₂ w₂ where
  os := k.os.trans h.os
  tape := k.tape.trans h.tape
  output := k.output.trans h.output
  size := Nat.le_trans h.size k.size
  im b o hi := ⟨(k.im b o (h.im b o hi).1).1, (k.im b o (h.im b o hi).1).2.trans (h.im b o hi).2⟩
  vb r cs hv := by
    obtain ⟨e1, cs1, hv1, l1⟩ := h.vb r cs hv
    obtain ⟨e2, cs2, hv2, l2⟩ := k.vb r cs1 hv1
    exact ⟨e2.trans e1, cs2, hv2, l2.trans l1⟩
  tk id v hv := by
    obtain ⟨v1, hv1, le1, e1⟩ := h.tk id v hv
    obtain ⟨v2, hv2, le2, e2⟩ := k.tk id v1 hv1
    refine ⟨v2, hv2, Nat.le_trans le1 le2, fun he => ?_⟩
    have : v1 = v := by omega
    subst this
    exact (e2 he).trans (e1 rfl)
  blk b hb ho := by
    rw [k.blk b (Nat.lt_of_lt_of_le hb h.size) (fun h1 => ?_), h.blk b hb ho]
    rcases h.own b h1 with h2 | h2
    · exact ho h2
    · omega
  own b hb := by
    rcases k.own b hb with h1 | h1
    · exact h.own b h1
    · exact .inr (Nat.le_trans h.size h1)

theorem growOk.mono {φ m w φ' m' w' g a n c sz} (h : growOk φ m g a n c sz) (hx : Ext φ m w φ' m' w') : growOk φ' m' g a n c sz := by
  cases g with
  | no => exact trivial
  | full => exact h
  | here => exact h
  | tok id ver =>
    obtain ⟨v, hv, hle, hr⟩ := h
    obtain ⟨v', hv', hle', he⟩ := hx.tk id v hv
    refine ⟨v', hv', Nat.le_trans hle hle', fun e => ?_⟩
    have e1 : v' = v := by omega
    have := hr (by omega)
    rw [he e1]
    exact this

theorem Rep.mono {φ m w φ' m' w' a x} (h : Rep φ m w a x) (hx : Ext φ m w φ' m' w') : Rep φ' m' w' a x := by
  induction h with
  | junk x => exact .junk x
  | v x => exact .v x
  | agg cs arr hn _ ih => exact .agg cs arr hn ih
  | tup cs arr hn _ ih => exact .tup cs arr hn ih
  | lst g sz rows a c val hc hr ha hs hcell _ hg ih =>
    refine .lst g sz rows a c val hc hr ha hs (fun ad i row j x e1 e2 e3 => ?_) ih (hg.mono hx)
    obtain ⟨h1, h2, h5⟩ := hcell ad i row j x e1 e2 e3
    obtain ⟨h3, h4⟩ := hx.im _ _ h1
    exact ⟨h3, h4.trans h2, h5⟩
  | ptr r off cs h =>
    obtain ⟨e, cs', h', _⟩ := hx.vb r cs h
    rw [← e]
    exact .ptr r off cs' h'
  | eptr cs ad val hs hcell _ ih =>
    refine .eptr cs ad val hs (fun j x e => ?_) ih
    obtain ⟨h1, h2⟩ := hcell j x e
    obtain ⟨h3, h4⟩ := hx.im _ _ h1
    exact ⟨h3, h4.trans h2⟩
  | vs r off sz n c cs h hb hn =>
    obtain ⟨e, cs', h', hl⟩ := hx.vb r cs h
    rw [← e]
    exact .vs r off sz n c cs' h' (by omega) hn
  | fn f first caps fv cv h1 h2 _ _ ih1 ih2 => exact .fn f first caps fv cv h1 h2 ih1 ih2

theorem Reps.mono {φ m w φ' m' w' cs arr} (h : Reps φ m w cs arr) (hx : Ext φ m w φ' m' w') : Reps φ' m' w' cs arr := ⟨h.1, fun i a u h1 h2 => (h.2 i a u h1 h2).mono hx⟩
theorem EnvRep.mono {φ m w φ' m' w' e tmps} (h : EnvRep φ m w e tmps) (hx : Ext φ m w φ' m' w') : EnvRep φ' m' w' e tmps := fun t => (h t).mono hx

theorem Reps.nil (φ : Phi) (m : Mem) (w : World) : Reps φ m w [] #[] := ⟨rfl, fun i a u h => by simp at h⟩

/-! ### an environment's slots -/
theorem EnvRep.put {φ m w e} {tmps : Array Value} (h : EnvRep φ m w e tmps) {nt : Nat} {dst : Option Tmp} {a : AV} {x : Value} {e' : Env} (hp : putAV nt dst a e = some e')
    (hn : nt ≤ tmps.size) (hr : Rep φ m w a x) (ds : List Deferred) : EnvRep φ m w e' ((⟨tmps, ds⟩ : Act).put dst x).tmps := by
  cases dst with
  | none =>
    simp only [putAV, Option.some.injEq] at hp
    subst hp
    exact h
  | some d =>
    simp only [putAV] at hp
    split at hp
    · rename_i hd
      simp only [Option.some.injEq] at hp
      subst hp
      intro t
      simp only [get, Act.put]
      by_cases he : d = t
      · subst he
        rw [if_pos rfl]
        have : (tmps.setIfInBounds d x).getD d undef = x := by simp [Array.getD, Nat.lt_of_lt_of_le hd hn]
        rw [this]
        exact hr
      · rw [if_neg he]
        have : (tmps.setIfInBounds d x).getD t undef = tmps.getD t undef := by
          simp only [Array.getD_eq_getD_getElem?, Array.getElem?_setIfInBounds_ne he]
        rw [this]
        exact h t
    · exact absurd hp (by simp)
theorem put_size (a : Act) (dst : Option Tmp) (x : Value) : (a.put dst x).tmps.size = a.tmps.size := by
  cases dst <;> simp [Act.put]
theorem get_restr {l : List Nat} {e : Env} (t : Nat) : get (l.map fun s => (s, get e s)) t = if t ∈ l then get e t else .junk := by
  induction l with
  | nil => simp [get]
  | cons s l ih =>
    simp only [List.map_cons, get, ih, List.mem_cons]
    by_cases he : s = t
    · subst he; simp
    · simp [he, Ne.symm he]
theorem EnvRep.restr {φ m w e tmps} (h : EnvRep φ m w e tmps) (l : Option (List Nat)) : EnvRep φ m w (restr l e) tmps := by
  cases l with
  | none => exact h
  | some l =>
    intro t
    simp only [Ev.restr, get_restr]
    split
    · exact h t
    · exact .junk _
end Go.Proofs.Ytojaokhkbmiidaa.Ev

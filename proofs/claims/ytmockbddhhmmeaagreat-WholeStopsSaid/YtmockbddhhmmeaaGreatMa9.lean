/- A row that a callee hands over becomes a variable; what is boxed may be such a row; a pointer held against nil. -/
import Derived.Test.YtmockbddhhmmeaaGreatMa8
namespace Go.Proofs.YtmockbddhhmmeaaGreat.Ev
open Go Go.Proofs
set_option maxRecDepth 10000
set_option maxHeartbeats 8000000
set_option linter.unusedVariables false
set_option linter.unusedSimpArgs false
section
section
variable {P : Program} {call : CallF} {nt : Nat} {φ₀ : Phi} {m₀ : Mem} {w₀ : World} {ops : Array Oper}
variable {e e1 : Env} {m m1 : Mem} {F : Objs} {K : Env → Mem → Objs → Prop} {o : Oper} {av : AV}
theorem bIk {φ : Phi} {m : Mem} {w : World} {cs : List AV} {arr : Array Value} (h : Reps φ m w cs arr) (hr : cs.all kD = true) (hc : cs.all okCell = true) : ∀ (i : Nat) u, arr[i]? = some u → one u = true := fun i u hu => by
 have hlt : i < cs.length := by rw [← h.1]; exact (Array.getElem?_eq_some_iff.1 hu).1
 have h1 := h.2 i _ u (List.getElem?_eq_getElem hlt) hu
 rw [List.all_eq_true] at hr hc
 have h2 := hr _ (List.getElem_mem hlt)
 have h3 := hc _ (List.getElem_mem hlt)
 generalize cs[i] = a at h1 h2 h3
 cases h1 <;> first | rfl | exact h3 | cases h2
theorem bVt {φ : Phi} {m : Mem} {w : World} {cs : List AV} {arr : Array Value} (h : Reps φ m w cs arr) (hr : cs.all kD = true) (h1 : ∀ (i : Nat) u, arr[i]? = some u → one u = true) (r : Nat) : cs.all okCell = true ∧ cs.all (refLe r) = true := by
 rw [List.all_eq_true] at hr
 refine ⟨?_, ?_⟩
 ·rw [List.all_eq_true]
  intro a ha
  obtain ⟨i, hi⟩ := List.getElem?_of_mem ha
  have hlt : i < arr.size := by rw [h.1]; exact (List.getElem?_eq_some_iff.1 hi).1
  have h2 := h.2 i a _ hi (Array.getElem?_eq_getElem hlt)
  have h3 := h1 i _ (Array.getElem?_eq_getElem hlt)
  have h4 := hr a ha
  generalize arr[i] = u at h2 h3
  cases h2 <;> first | rfl | exact h3 | cases h4
 ·rw [List.all_eq_true]
  intro a ha
  have h4 := hr a ha
  cases a <;> first | rfl | cases h4
theorem bJd {t t1 : TypeId} {x : Operand} {d : Nat} {cs : List AV} (hg : wantedAV ops e o = some true) (hd : o.dst = some d) (hlt : d < nt) (ho : o.op = .box t x) (hx : opd P e t1 x = av) (hc : cellsOf av = some cs) (hr : cs.all kD = true)
  (h : ∀ b, (∀ p ∈ F, p.1 ≠ b) → K ((d, .v (tT b 0)) :: e) m ((b, .arr cs) :: F)) : dF P φ₀ m₀ w₀ nt ops o e m F K :=
 tW hg hd hlt fun φ a w hR hX hE hF => by
  have hw := hX.size
  have hxv := fU (P := P) hE t1 x
  rw [hx] at hxv
  obtain ⟨h1, h2⟩ := aF5 hxv hc
  obtain ⟨g1, g2, g3⟩ := qD (w₀ := w₀) hR hF hw t h1 hr (bIk h1 hr h2)
  refine ⟨.pointer (some ⟨w.heap.size, 0, none⟩), w.alloc (.cells (a.eval x).cells t), φ, .v (tT w.heap.size 0), m, _, ?_, g1, hX.trans g2, hE.mono g2, .v _, g3, h w.heap.size fun p hp he => ?_⟩
  ·unfold execOp
   rw [ho]
   refine bW ?_
   simp [Instr.box, newRow, Go.newVar, World.alloc, -World.alloc_eq]
  ·have := fY (hF p hp).1
   omega
theorem bA8 {w : World} {t el : TypeId} (hu : P.underlying t = some (.pointer el)) {ad : Addr} {ox : Operand} :
  (do eqGuard .neq t ox (.const (.pointer none)) (.pointer (some ad)) (.pointer none); binOp .neq t (.pointer (some ad)) (.pointer none) : Sem Value).run P w = .ok (.bool true) w := by
 have heq : (Op.equal t (.pointer (some ad)) (.pointer none)).run P w = .ok false w := by
  have key : ∀ N, (Op.equalIn (N + 1) t (.pointer (some ad)) (.pointer none)).run P w = .ok false w := fun N => by
   unfold Op.equalIn
   simp only [Sem.run_bind, aN hu, Result.andThen_ok]
   rfl
  exact key _
 have hg : (eqGuard .neq t ox (.const (.pointer none)) (.pointer (some ad)) (.pointer none)).run P w = .ok () w := lP (fun cs h => by cases h) (fun h => by cases h)
 rw [Sem.run_bind, hg, Result.andThen_ok]
 show (do pure (Value.bool (!(← Op.equal t (.pointer (some ad)) (.pointer none)))) : Sem Value).run P w = _
 rw [Sem.run_bind, heq]
 rfl
theorem bO8 {t t1 t2 el : TypeId} {x : Operand} {d r off : Nat} (hg : wantedAV ops e o = some true) (hd : o.dst = some d) (hlt : d < nt) (ho : o.op = .binOp .neq t x (.const (.pointer none)) t2) (hu : P.underlying t = some (.pointer el)) (hx : opd P e t1 x = .ptr r off)
  (h : K ((d, .v (.bool true)) :: e) m F) : dF P φ₀ m₀ w₀ nt ops o e m F K :=
 aDo hg (by rw [hd]; exact dQ hlt _ _) (fun φ a w hR hE hF => by
  refine ⟨.bool true, ?_, .v _⟩
  have hxv := fU (P := P) hE t1 x
  rw [hx] at hxv
  generalize hv : a.eval x = v at hxv
  cases hxv with
  | ptr _ _ cs hvar =>
   unfold execOp
   rw [ho]
   have := bA8 (w := w) hu (ad := ⟨φ.vb r, off, none⟩) (ox := x)
   have hn : a.eval (.const (.pointer none)) = .pointer none := rfl
   simp only [hv, hn]
   exact bW this) h
/-- What was handed over becomes a variable of one's own. -/
theorem StF.adopt {a : Act} {w : World} {b d : Nat} {cs : List AV} (h : StF φ₀ m₀ w₀ nt e m [(b, XOb.arr cs)] a w) (hd : get e d = .v (tT b 0)) : StF φ₀ m₀ w₀ nt ((d, .ptr m.vars.length 0) :: e) (m.push cs) [] a w := by
 obtain ⟨φ, hR, hX, hE, hn, hdf, hF⟩ := h
 obtain ⟨⟨arr, T, h1, h2, h3, h4⟩, k2, k3, k4⟩ := hF _ (List.mem_singleton.2 rfl)
 have hvold : ∀ r c, m.var r = some c → r < m.vars.length ∧ (m.push cs).var r = some c := fun r c hv => by
  have hlt : r < m.vars.length := by
   unfold Mem.var at hv
   cases hx : m.vars[r]? with
   | none => rw [hx] at hv; cases hv
   | some y => exact (List.getElem?_eq_some_iff.1 hx).1
  refine ⟨hlt, ?_⟩
  unfold Mem.var Mem.push at *
  rw [List.getElem?_append_left hlt]
  exact hv
 have hvnew : ∀ r c, (m.push cs).var r = some c → (r < m.vars.length ∧ m.var r = some c) ∨ (r = m.vars.length ∧ c = cs) := fun r c hv => by
  unfold Mem.var Mem.push at *
  by_cases hlt : r < m.vars.length
  ·rw [List.getElem?_append_left hlt] at hv
   exact .inl ⟨hlt, hv⟩
  ·rw [List.getElem?_append_right (by omega)] at hv
   by_cases he : r = m.vars.length
   ·subst he
    simp at hv
    exact .inr ⟨rfl, hv.symm⟩
   ·have : r - m.vars.length = (r - m.vars.length - 1) + 1 := by omega
    rw [this] at hv
    simp at hv
 have hb : ∀ r, r < m.vars.length → (if r = m.vars.length then b else φ.vb r) = φ.vb r := fun r hr => if_neg (by omega)
 have hbn : (if m.vars.length = m.vars.length then b else φ.vb m.vars.length) = b := if_pos rfl
 have keep : ∀ {a : AV} {x : Value}, Rep φ m w a x → Rep { φ with vb := fun r => if r = m.vars.length then b else φ.vb r } (m.push cs) w a x := fun hr =>
  Rep.keep (φ := φ) (φ' := { φ with vb := fun r => if r = m.vars.length then b else φ.vb r }) (m := m) (m' := m.push cs) (fun b o h => h) (fun r c hv => ⟨hb r (hvold r c hv).1, (hvold r c hv).2⟩) (fun id v hv => ⟨v, hv, Nat.le_refl _, fun _ => rfl⟩) hr
 have hnotvar : ∀ r c, m.var r = some c → φ.vb r ≠ b := fun r c hv he => k3 (.inl ⟨r, c, hv, he⟩)
 refine ⟨{ φ with vb := fun r => if r = m.vars.length then b else φ.vb r }, ?_, ?_, ?_, hn, hdf, fun p hp => by cases hp⟩
 ·exact {
   var := fun r c hv => by
    rcases hvnew r c hv with ⟨hlt, hv'⟩ | ⟨rfl, rfl⟩
    ·obtain ⟨arr', T', g1, g2, g3, g4⟩ := hR.var r c hv'
     show ∃ arr T, w.heap[if r = m.vars.length then b else φ.vb r]? = _ ∧ _
     rw [hb r hlt]
     exact ⟨arr', T', g1, ⟨g2.1, fun i a u e1 e2 => keep (g2.2 i a u e1 e2)⟩, g3, g4⟩
    ·show ∃ arr T, w.heap[if m.vars.length = m.vars.length then b else φ.vb m.vars.length]? = _ ∧ _
     rw [hbn]
     obtain ⟨g3, g4⟩ := bVt h2 h3 h4 m.vars.length
     exact ⟨arr, T, h1, ⟨h2.1, fun i a u e1 e2 => keep (h2.2 i a u e1 e2)⟩, g3, g4⟩
   inj := fun r r' c c' hv hv' he => by
    have he' : (if r = m.vars.length then b else φ.vb r) = (if r' = m.vars.length then b else φ.vb r') := he
    rcases hvnew r c hv with ⟨hlt, hv1⟩ | ⟨rfl, _⟩
    ·rcases hvnew r' c' hv' with ⟨hlt', hv2⟩ | ⟨rfl, _⟩
     ·rw [hb r hlt, hb r' hlt'] at he'
      exact hR.inj r r' c c' hv1 hv2 he'
     ·rw [hb r hlt, hbn] at he'
      exact absurd he' (hnotvar r c hv1)
    ·rcases hvnew r' c' hv' with ⟨hlt', hv2⟩ | ⟨rfl, _⟩
     ·rw [hb r' hlt', hbn] at he'
      exact absurd he'.symm (hnotvar r' c' hv2)
     ·rfl
   vim := fun r c o hv hi => by
    have hi' : φ.im (if r = m.vars.length then b else φ.vb r) o := hi
    rcases hvnew r c hv with ⟨hlt, hv1⟩ | ⟨rfl, _⟩
    ·rw [hb r hlt] at hi'
     exact hR.vim r c o hv1 hi'
    ·rw [hbn] at hi'
     exact k4 o hi'
   tok := fun id b' s e hid hk hse => by
    obtain ⟨arr', T', g1, g2, g3, g4, g5⟩ := hR.tok id b' s e hid hk hse
    refine ⟨arr', T', g1, g2, g3, fun r c hv he => ?_, g5⟩
    have he' : (if r = m.vars.length then b else φ.vb r) = b' := he
    rcases hvnew r c hv with ⟨hlt, hv1⟩ | ⟨rfl, _⟩
    ·rw [hb r hlt] at he'
     exact g4 r c hv1 he'
    ·rw [hbn] at he'
     exact k3 (.inr ⟨id, s, e, hid, by rw [he']; exact hk, hse⟩)
   tinj := hR.tinj
   imlt := hR.imlt }
 ·exact {
   os := hX.os, tape := hX.tape, output := hX.output, size := hX.size, im := hX.im
   vb := fun r c hv => by
    obtain ⟨g1, c', g2, g3⟩ := hX.vb r c hv
    obtain ⟨hlt, g4⟩ := hvold r c' g2
    exact ⟨(hb r hlt).trans g1, c', g4, g3⟩
   tk := hX.tk
   blk := hX.blk
   own := fun b' ho => by
    rcases ho with ⟨r, c, hv, he⟩ | ⟨id, s, e, hid, hk, hse⟩
    ·have he' : (if r = m.vars.length then b else φ.vb r) = b' := he
     rcases hvnew r c hv with ⟨hlt, hv1⟩ | ⟨rfl, _⟩
     ·rw [hb r hlt] at he'
      exact hX.own b' (.inl ⟨r, c, hv1, he'⟩)
     ·rw [hbn] at he'
      subst he'
      exact .inr k2
    ·exact hX.own b' (.inr ⟨id, s, e, hid, hk, hse⟩)
   imn := hX.imn }
 ·intro t
  show Rep _ _ _ (if d = t then .ptr m.vars.length 0 else get e t) _
  by_cases ht : d = t
  ·subst ht
   rw [if_pos rfl]
   have hrep := hE d
   rw [hd] at hrep
   generalize a.tmps.getD d undef = x at hrep
   cases hrep
   have := Rep.ptr (φ := { φ with vb := fun r => if r = m.vars.length then b else φ.vb r }) (m := m.push cs) (w := w) m.vars.length 0 cs (by unfold Mem.var Mem.push; simp)
   rw [show ({ φ with vb := fun r => if r = m.vars.length then b else φ.vb r } : Phi).vb m.vars.length = b from hbn] at this
   exact this
  ·rw [if_neg ht]
   exact keep (hE t)
theorem bV9 {c : Code} {Q : iS} {b : Nat} {cs : List AV} (d : Nat) (hd : get e d = .v (tT b 0)) (h : bE P φ₀ m₀ w₀ nt c ((d, .ptr m.vars.length 0) :: e) (m.push cs) [] Q) : bE P φ₀ m₀ w₀ nt c e m [(b, XOb.arr cs)] Q :=
 fun a w hs => h a w (hs.adopt hd)
end
end
end Go.Proofs.YtmockbddhhmmeaaGreat.Ev

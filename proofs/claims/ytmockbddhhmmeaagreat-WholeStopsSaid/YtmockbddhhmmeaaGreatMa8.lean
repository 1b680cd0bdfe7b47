/- The steps of a walk through a drawn region, behind short names. (Written out by wip/tools/gen_gof.py.) -/
import Derived.Test.YtmockbddhhmmeaaGreatMa5
import Derived.Test.YtmockbddhhmmeaaGreatMa7
import Derived.KernelRfl
import Derived.Test.YtmockbddhhmmeaaGreatMa6
import Derived.Lib.AppendZerosOnto
import Derived.Lib.Overlaps
import Derived.Laws.Externs
namespace Go.Proofs.YtmockbddhhmmeaaGreat.Ev
open Go Go.Proofs
set_option maxRecDepth 10000
set_option maxHeartbeats 8000000
set_option linter.unusedVariables false
set_option linter.unusedSimpArgs false
section
section
variable {P : Program} {call : CallF} {nt : Nat} {l : List Oper} {L k : Nat} {o : Oper} {r : List Oper} {e : Env} {m : Mem} {W : List Ent} {K : Env → Mem → Prop} {a : AV} {d : Nat} {b : Mem} {Fs : List (List AV)}
theorem bN {φ₀ : Phi} {m₀ : Mem} {w₀ : World} (hm : P.follows .mixedOrders = true) (hC : dU P call) {id : Nat} {l2 : Option (List Nat)} {F : Objs} {Q : iS} (hD : aDp l = true)
  (h : mR P call nt l m.vars.length 0 l e (m.pushes []) [] fun e' m' => ∀ e2, Ev.restr l2 e' = e2 → Q .normal e2 m' F) : bE P φ₀ m₀ w₀ nt (.region id l.toArray true) e m F Q := bZx hm hC hD h
theorem aRo {t : TypeId} {z : List AV} (hw : mU l.toArray e o true) (hd : o.dst = some d) (hlt : d < nt) (ho : o.op = .alloc t) (hz : zeroCells P t = some z) (hok : z.all okCell = true) (hre : z.all (refLe (b.vars.length + 0)) = true) (hL : b.vars.length = L) (hc : chk (masks l []) k true (.new 0) W)
  (h : mR P call nt l L (k + 1) r ((d, .ptr L 0) :: e) (b.pushes [z]) ((k, true, .new 0) :: W) K) : mR P call nt l L k (o :: r) e (b.pushes []) W K := aO8 (Fs := []) hw hd hlt ho hz hok hre hL hc h
theorem aR4 {t : TypeId} {z0 z : List AV} (hw : mU l.toArray e o true) (hd : o.dst = some d) (hlt : d < nt) (ho : o.op = .alloc t) (hz : zeroCells P t = some z) (hok : z.all okCell = true) (hre : z.all (refLe (b.vars.length + 1)) = true) (hL : b.vars.length = L) (hc : chk (masks l []) k true (.new 1) W)
  (h : mR P call nt l L (k + 1) r ((d, .ptr (L + 1) 0) :: e) (b.pushes [z0, z]) ((k, true, .new 1) :: W) K) : mR P call nt l L k (o :: r) e (b.pushes [z0]) W K := aO8 (Fs := [z0]) hw hd hlt ho hz hok hre hL hc h
theorem aQp {t : TypeId} {z0 z1 z : List AV} (hw : mU l.toArray e o true) (hd : o.dst = some d) (hlt : d < nt) (ho : o.op = .alloc t) (hz : zeroCells P t = some z) (hok : z.all okCell = true) (hre : z.all (refLe (b.vars.length + 2)) = true) (hL : b.vars.length = L) (hc : chk (masks l []) k true (.new 2) W)
  (h : mR P call nt l L (k + 1) r ((d, .ptr (L + 2) 0) :: e) (b.pushes [z0, z1, z]) ((k, true, .new 2) :: W) K) : mR P call nt l L k (o :: r) e (b.pushes [z0, z1]) W K := aO8 (Fs := [z0, z1]) hw hd hlt ho hz hok hre hL hc h
theorem bDf {t : TypeId} {q off : Nat} {v : AV} {m' : Mem} (h : aR P b t (.ptr q off) v = some m') : q < b.vars.length := by
 unfold aR at h
 split at h
 ·rename_i r' o' c1 k1 hp _ _
  cases hp
  split at h
  ·rename_i old hv
   exact (vlt hv).1
  ·cases h
 ·cases h
theorem aSo {t : TypeId} {x y : Operand} {q off : Nat} {v : AV} {cs : List AV} (hw : mU l.toArray e o true) (hd : o.dst = none) (ho : o.op = .store t x y) (hx : opd P e t x = .ptr q off) (hy : opd P e t y = v) (hk : aR P b t (.ptr q off) v = some (b.putv q cs))
  (hL : b.vars.length = L) (hc : chk (masks l []) k true (.old q) W) (h : mR P call nt l L (k + 1) r e ((b.putv q cs).pushes Fs) ((k, true, .old q) :: W) K) : mR P call nt l L k (o :: r) e (b.pushes Fs) W K := bLh hw hd ho hx hy hk (bDf hk) hL hc h
end
theorem aSp {r : List AV} (h : r.all okCell = true) : cellsOf (.agg r) = some r := if_pos h
theorem bGs {x : AV} (h : okCell x = true) (hf : aEc x = [x] := by rfl) : cellsOf x = some [x] := by unfold cellsOf; rw [hf]; simp [h]
theorem cC8 {A B : Prop} (k : B) (h : B → A := by intro k; (repeat (first | (refine' bT1 (fV rfl) rfl (by decide) ?_ ?_; rotate_left 1; (focus (intro m2; simp only [go_sem, reduceIte, Nat.reduceEqDiff, reduceCtorEq, Int.reduceEq]; first | done | rfl))) | (refine' bT1 (aEg rfl rfl (by simp only [Ev.get, reduceIte, Nat.reduceEqDiff]; first | done | rfl)) rfl (by decide) ?_ ?_; rotate_left 1; (focus (intro m2; simp only [go_sem, reduceIte, Nat.reduceEqDiff, reduceCtorEq, Int.reduceEq]; first | done | rfl))) | (refine' aK1 (fV rfl) rfl (by decide) rfl ?_ ?_ (by first | rfl | simp only [Mem.putv, List.length_set]) (kA (by kernel_rfl)) ?_; rotate_left 3; (focus (simp only [go_sem, reduceIte, Nat.reduceEqDiff, reduceCtorEq, Int.reduceEq]; first | done | rfl)); (focus (simp only [go_sem, reduceIte, Nat.reduceEqDiff, reduceCtorEq, Int.reduceEq]; first | done | rfl))) | (refine' aK1 (aEg rfl rfl (by simp only [Ev.get, reduceIte, Nat.reduceEqDiff]; first | done | rfl)) rfl (by decide) rfl ?_ ?_ (by first | rfl | simp only [Mem.putv, List.length_set]) (kA (by kernel_rfl)) ?_; rotate_left 3; (focus (simp only [go_sem, reduceIte, Nat.reduceEqDiff, reduceCtorEq, Int.reduceEq]; first | done | rfl)); (focus (simp only [go_sem, reduceIte, Nat.reduceEqDiff, reduceCtorEq, Int.reduceEq]; first | done | rfl))) | ((first | refine' aRo (fV rfl) rfl (by decide) rfl ?_ ?_ ?_ (by first | rfl | simp only [Mem.putv, List.length_set]) (kA (by kernel_rfl)) ?_ | refine' aR4 (fV rfl) rfl (by decide) rfl ?_ ?_ ?_ (by first | rfl | simp only [Mem.putv, List.length_set]) (kA (by kernel_rfl)) ?_ | refine' aQp (fV rfl) rfl (by decide) rfl ?_ ?_ ?_ (by first | rfl | simp only [Mem.putv, List.length_set]) (kA (by kernel_rfl)) ?_); rotate_left 1; (focus (simp only [go_sem, reduceIte, Nat.reduceEqDiff, reduceCtorEq, Int.reduceEq]; first | done | rfl)); (focus rfl); (focus rfl)) | ((first | (refine' vC (i := 0) (fV rfl) rfl rfl ?_ ?_ ?_ ?_ rfl ?_ ?_ (by first | rfl | simp only [Mem.putv, List.length_set]) (kA (by kernel_rfl)) ?_; rotate_left 2; (focus (simp only [go_sem, reduceIte, Nat.reduceEqDiff, reduceCtorEq, Int.reduceEq]; first | done | rfl))) | (refine' vC (i := 1) (fV rfl) rfl rfl ?_ ?_ ?_ ?_ rfl ?_ ?_ (by first | rfl | simp only [Mem.putv, List.length_set]) (kA (by kernel_rfl)) ?_; rotate_left 2; (focus (simp only [go_sem, reduceIte, Nat.reduceEqDiff, reduceCtorEq, Int.reduceEq]; first | done | rfl))) | (refine' vC (i := 2) (fV rfl) rfl rfl ?_ ?_ ?_ ?_ rfl ?_ ?_ (by first | rfl | simp only [Mem.putv, List.length_set]) (kA (by kernel_rfl)) ?_; rotate_left 2; (focus (simp only [go_sem, reduceIte, Nat.reduceEqDiff, reduceCtorEq, Int.reduceEq]; first | done | rfl)))); (focus (simp only [go_sem, reduceIte, Nat.reduceEqDiff, reduceCtorEq, Int.reduceEq]; first | done | rfl)); (focus (first | exact aSp rfl | exact bGs rfl | rfl)); (focus (simp only [go_sem, reduceIte, Nat.reduceEqDiff, reduceCtorEq, Int.reduceEq]; first | done | rfl)); (focus rfl); (focus rfl)) | (refine' aSo (fV rfl) rfl rfl ?_ ?_ ?_ (by first | rfl | simp only [Mem.putv, List.length_set]) ?_ ?_; rotate_left 4; (focus (simp only [go_sem, reduceIte, Nat.reduceEqDiff, reduceCtorEq, Int.reduceEq]; first | done | rfl)); (focus (simp only [go_sem, reduceIte, Nat.reduceEqDiff, reduceCtorEq, Int.reduceEq]; first | done | rfl)); (focus (simp only [go_sem, reduceIte, Nat.reduceEqDiff, reduceCtorEq, Int.reduceEq]; first | done | rfl)); (focus (repeat (first | exact bG3 | (refine aFk (.inl rfl) ?_) | (refine aFk (.inr ?_) ?_; (focus (clear k; intro h; have h2 := Loc.old.inj h; omega))))))) | refine bGx (bG1 rfl rfl (by simp only [Ev.get, reduceIte, Nat.reduceEqDiff]; first | done | rfl) (by decide)) rfl (by decide) ?_ | refine bGx (bAa rfl rfl rfl) rfl (by decide) ?_ | (refine bNi (by simp only [List.set_cons_zero, List.set_cons_succ, Mem.pushes]; rfl) ?_; intro e2 h2; simp only [go_sem, reduceIte, Nat.reduceEqDiff] at h2; subst h2))); exact k) : A := h k
theorem eJ {A B F1 : Prop} (f1 : F1) (k : B) (h : F1 → B → A := by intro f1 k; (repeat (first | (refine' bT1 (fV rfl) rfl (by decide) ?_ ?_; rotate_left 1; (focus (intro m2; simp only [go_sem, reduceIte, Nat.reduceEqDiff, reduceCtorEq, Int.reduceEq, f1]; first | done | rfl))) | (refine' bT1 (aEg rfl rfl (by simp only [Ev.get, reduceIte, Nat.reduceEqDiff, f1]; first | done | rfl)) rfl (by decide) ?_ ?_; rotate_left 1; (focus (intro m2; simp only [go_sem, reduceIte, Nat.reduceEqDiff, reduceCtorEq, Int.reduceEq, f1]; first | done | rfl))) | (refine' aK1 (fV rfl) rfl (by decide) rfl ?_ ?_ (by first | rfl | simp only [Mem.putv, List.length_set]) (kA (by kernel_rfl)) ?_; rotate_left 3; (focus (simp only [go_sem, reduceIte, Nat.reduceEqDiff, reduceCtorEq, Int.reduceEq, f1]; first | done | rfl)); (focus (simp only [go_sem, reduceIte, Nat.reduceEqDiff, reduceCtorEq, Int.reduceEq, f1]; first | done | rfl))) | (refine' aK1 (aEg rfl rfl (by simp only [Ev.get, reduceIte, Nat.reduceEqDiff, f1]; first | done | rfl)) rfl (by decide) rfl ?_ ?_ (by first | rfl | simp only [Mem.putv, List.length_set]) (kA (by kernel_rfl)) ?_; rotate_left 3; (focus (simp only [go_sem, reduceIte, Nat.reduceEqDiff, reduceCtorEq, Int.reduceEq, f1]; first | done | rfl)); (focus (simp only [go_sem, reduceIte, Nat.reduceEqDiff, reduceCtorEq, Int.reduceEq, f1]; first | done | rfl))) | ((first | refine' aRo (fV rfl) rfl (by decide) rfl ?_ ?_ ?_ (by first | rfl | simp only [Mem.putv, List.length_set]) (kA (by kernel_rfl)) ?_ | refine' aR4 (fV rfl) rfl (by decide) rfl ?_ ?_ ?_ (by first | rfl | simp only [Mem.putv, List.length_set]) (kA (by kernel_rfl)) ?_ | refine' aQp (fV rfl) rfl (by decide) rfl ?_ ?_ ?_ (by first | rfl | simp only [Mem.putv, List.length_set]) (kA (by kernel_rfl)) ?_); rotate_left 1; (focus (simp only [go_sem, reduceIte, Nat.reduceEqDiff, reduceCtorEq, Int.reduceEq, f1]; first | done | rfl)); (focus rfl); (focus rfl)) | ((first | (refine' vC (i := 0) (fV rfl) rfl rfl ?_ ?_ ?_ ?_ rfl ?_ ?_ (by first | rfl | simp only [Mem.putv, List.length_set]) (kA (by kernel_rfl)) ?_; rotate_left 2; (focus (simp only [go_sem, reduceIte, Nat.reduceEqDiff, reduceCtorEq, Int.reduceEq, f1]; first | done | rfl))) | (refine' vC (i := 1) (fV rfl) rfl rfl ?_ ?_ ?_ ?_ rfl ?_ ?_ (by first | rfl | simp only [Mem.putv, List.length_set]) (kA (by kernel_rfl)) ?_; rotate_left 2; (focus (simp only [go_sem, reduceIte, Nat.reduceEqDiff, reduceCtorEq, Int.reduceEq, f1]; first | done | rfl))) | (refine' vC (i := 2) (fV rfl) rfl rfl ?_ ?_ ?_ ?_ rfl ?_ ?_ (by first | rfl | simp only [Mem.putv, List.length_set]) (kA (by kernel_rfl)) ?_; rotate_left 2; (focus (simp only [go_sem, reduceIte, Nat.reduceEqDiff, reduceCtorEq, Int.reduceEq, f1]; first | done | rfl)))); (focus (simp only [go_sem, reduceIte, Nat.reduceEqDiff, reduceCtorEq, Int.reduceEq, f1]; first | done | rfl)); (focus (first | exact aSp rfl | exact bGs rfl | rfl)); (focus (simp only [go_sem, reduceIte, Nat.reduceEqDiff, reduceCtorEq, Int.reduceEq, f1]; first | done | rfl)); (focus rfl); (focus rfl)) | (refine' aSo (fV rfl) rfl rfl ?_ ?_ ?_ (by first | rfl | simp only [Mem.putv, List.length_set]) ?_ ?_; rotate_left 4; (focus (simp only [go_sem, reduceIte, Nat.reduceEqDiff, reduceCtorEq, Int.reduceEq, f1]; first | done | rfl)); (focus (simp only [go_sem, reduceIte, Nat.reduceEqDiff, reduceCtorEq, Int.reduceEq, f1]; first | done | rfl)); (focus (simp only [go_sem, reduceIte, Nat.reduceEqDiff, reduceCtorEq, Int.reduceEq, f1]; first | done | rfl)); (focus (repeat (first | exact bG3 | (refine aFk (.inl rfl) ?_) | (refine aFk (.inr ?_) ?_; (focus (clear k; intro h; have h2 := Loc.old.inj h; omega))))))) | refine bGx (bG1 rfl rfl (by simp only [Ev.get, reduceIte, Nat.reduceEqDiff, f1]; first | done | rfl) (by decide)) rfl (by decide) ?_ | refine bGx (bAa rfl rfl rfl) rfl (by decide) ?_ | (refine bNi (by simp only [List.set_cons_zero, List.set_cons_succ, Mem.pushes]; rfl) ?_; intro e2 h2; simp only [go_sem, reduceIte, Nat.reduceEqDiff] at h2; subst h2))); exact k) : A := h f1 k
end
section
section
variable {P : Program} {call : CallF} {nt : Nat} {φ₀ : Phi} {m₀ : Mem} {w₀ : World} {ops : Array Oper}
variable {e e1 : Env} {m m1 : Mem} {F : Objs} {K : Env → Mem → Objs → Prop} {o : Oper} {av : AV}
theorem bOf {b : Nat} {ob ob' : XOb} (hg : wantedAV ops e o = some true) (hd : o.dst = none) (hb : (b, ob) ∈ F)
  (hrun : ∀ (φ : Phi) (a : Act) (w : World), RM φ m w → cX φ m w e a.tmps → ObjsIn φ m w₀ w F → ∃ x o', (execOp a.eval o).run P w = .ok (.value x) (cY w b o') ∧ ((∀ {a : AV} {x : Value}, Rep φ m w a x → Rep φ m (cY w b o') a x) → XIn φ m (cY w b o') b ob'))
  (h : K e m (eS F b ob')) : dF P φ₀ m₀ w₀ nt ops o e m F K := fun K' Q hK a w hs => by
 obtain ⟨φ, hRM, hX, hE, hn, hdf, hF⟩ := hs
 rw [cW hE hg, if_pos rfl]
 left
 obtain ⟨x, o', hr, hi⟩ := hrun φ a w hRM hE hF
 unfold Oper.wp
 rw [hr, Oper.upon_value, hd]
 obtain ⟨hR', hX', hF', hrep⟩ := StF.put_ob (a := a) hRM hX hF hb hi
 exact hK _ m _ _ _ h ⟨φ, hR', hX', fun t => hrep (hE t), hn, hdf, hF'⟩
theorem bAl {t el : TypeId} {x : Operand} {cl : Call} {b off n c : Nat} {cs : List AV} {z : Value} (hg : wantedAV ops e o = some true) (hd : o.dst = none) (ho : o.op = .call cl) (hc : cl.callee = .builtin .clear) (ha : cl.args = #[x]) (hat : cl.argTypes = #[t])
  (ht : dB P t = some el) (hz : zeroCells P el = some [.v z]) (hb : (b, XOb.arr cs) ∈ F) (hx : opd P e t x = .v (bS b off (n + 1) c)) (hz1 : one z = true) (hfit : off + (n + 1) ≤ cs.length)
  (h : K e m (eS F b (.arr (cB cs off (List.replicate (n + 1) (.v z)))))) : dF P φ₀ m₀ w₀ nt ops o e m F K :=
 bOf hg hd hb (fun φ a w hR hE hF => by
  obtain ⟨arr, T, h1, h2, h3, h4⟩ := (hF _ hb).1
  have hxv := eI (P := P) hE hx
  obtain ⟨zv, hzr, hzreps⟩ := mC (P := P) (φ := φ) (m := m) (w := w) hz
  have key : ∀ C : Array Value, Reps φ m w [.v z] C → C = #[z] := fun C hC => by
   have hs : C.size = 1 := hC.1
   apply Array.ext
   ·simpa using hs
   ·intro i h1 h2
    have h0 : i = 0 := by omega
    subst h0
    have hr := hC.2 0 (.v z) C[0] rfl (Array.getElem?_eq_getElem h1)
    generalize C[0] = x0 at hr
    cases hr
    rfl
  have hz0 := key _ hzreps
  have hzc : (Builtin.zeroCells zv.cells (n + 1)).toList = List.replicate (n + 1) z := by
   rw [hz0]
   unfold Builtin.zeroCells
   apply List.ext_getElem
   ·simp
   ·intro i h1 h2
    simp [Nat.mod_one]
  refine ⟨.tuple #[], .cells (arr.toList.take off ++ List.replicate (n + 1) z ++ arr.toList.drop (off + (List.replicate (n + 1) z).length)).toArray T (0, 0), ?_, fun hrep => ?_⟩
  ·have hst := run_storeCells_at P b off T (List.replicate (n + 1) z) 0 arr w h1 (by have := h2.1; simp only [Array.length_toList, List.length_replicate]; omega) (fun v hv => by rw [← zK, List.eq_of_mem_replicate hv]; exact hz1)
   simp only [Nat.add_zero] at hst
   unfold execOp
   rw [ho]
   simp only [resolve, hc, ha, hat, Sem.run_bind, Sem.run_pure, Result.andThen_ok, invoke]
   rw [← nD h1]
   have hrun : (Builtin.clear_ #[t] o.type #[bS b off (n + 1) c]).run P w = .ok (.tuple #[]) (w.setRow b (arr.toList.take off ++ List.replicate (n + 1) z ++ arr.toList.drop (off + (List.replicate (n + 1) z).length)).toArray) := by
    have hst2 : Sem.run P (storeCells { block := b, off := off } (List.replicate (n + 1) z)) w = .ok () (w.setRow b (List.take off arr.toList ++ (List.replicate (n + 1) z ++ List.drop (off + (n + 1)) arr.toList)).toArray) := by simpa using hst
    simp [Builtin.clear_, aN (bH ht), hzr, hzc, Sem.run_bind, hst2]
   exact bW (by simpa [hxv] using hrun)
  ·refine aA6 (vs := List.replicate (n + 1) z) h2 h3 h4 ?_ ?_ (fun v hv => by rw [List.eq_of_mem_replicate hv]; exact hz1) (by simpa using hfit) hrep (iE w _ (fY (hF _ hb).1))
   ·have := qO (φ := φ) (m := m) (w := w) (List.replicate (n + 1) z)
    simpa using this
   ·rw [List.all_eq_true]
    intro y hy
    rw [List.eq_of_mem_replicate hy]
    rfl) h
end
end
section
section
variable {P : Program} {call : CallF} {nt : Nat} {φ₀ : Phi} {m₀ : Mem} {w₀ : World} {ops : Array Oper}
variable {e e1 : Env} {m m1 : Mem} {F : Objs} {K : Env → Mem → Objs → Prop} {o : Oper} {av : AV}
theorem aXj {t t1 : TypeId} {x : Operand} {d : Nat} {z : Value} (hg : wantedAV ops e o = some true) (hd : o.dst = some d) (hlt : d < nt) (ho : o.op = .box t x) (hx : opd P e t1 x = .v z) (hz : z.cells = #[z]) (hz1 : one z = true)
  (h : K ((d, .eptr [.v z]) :: e) m F) : dF P φ₀ m₀ w₀ nt ops o e m F K :=
 tW hg hd hlt fun φ a w hR hX hE hF => by
  have hw := hX.size
  have hxv := eI (P := P) hE hx
  have h1 : Reps φ m w [AV.v z] #[z] := ⟨rfl, fun i a u e1 e2 => by
   match i, e1, e2 with
   | 0, e1, e2 => cases e1; cases e2; exact .v _⟩
  obtain ⟨g1, g2, g3⟩ := qD (w₀ := w₀) hR hF hw t h1 (by simp [kD]) (fun o u hu => by
   match o, hu with
   | 0, hu => cases hu; exact hz1)
  have hF1 : ObjsIn φ m w₀ (w.alloc (.cells #[z] t)) [(w.heap.size, .arr [.v z])] := fun p hp => by
   rw [List.mem_singleton] at hp
   subst hp
   exact g3 _ List.mem_cons_self
  have hF2 : ObjsIn φ m w₀ (w.alloc (.cells #[z] t)) F := fun p hp => g3 p (List.mem_cons_of_mem _ hp)
  have hne : ∀ p ∈ F, p.1 ≠ w.heap.size := fun p hp he => by
   have := fY (hF p hp).1
   omega
  refine ⟨.pointer (some ⟨w.heap.size, 0, none⟩), w.alloc (.cells #[z] t), xT φ [(w.heap.size, .arr [.v z])], .eptr [.v z], m, F, ?_, bF2 g1 hF1, aZk (hX.trans g2) hF1, fun q => aBp hF1 ((hE q).mono g2), ?_, fun p hp => ?_, h⟩
  ·unfold execOp
   rw [ho]
   simp only [hxv]
   refine bW ?_
   simp [Instr.box, newRow, Go.newVar, hz, World.alloc, -World.alloc_eq]
  ·refine .eptr [.v z] ⟨w.heap.size, 0, none⟩ (fun _ => z) rfl (fun j y hy => ?_) fun j y hy => ?_
   ·match j, hy with
    | 0, hy =>
     refine ⟨.inr ⟨_, List.mem_singleton.2 rfl, rfl⟩, ?_⟩
     have := heap_alloc_new w (.cells #[z] t)
     simp only [World.cell?, this]
     rfl
   ·match j, hy with
    | 0, hy => cases hy; exact .v _
  ·obtain ⟨k1, k2, k3, k4⟩ := hF2 p hp
   refine ⟨?_, k2, k3, fun o hi => ?_⟩
   ·exact aFh k1 rfl (fun hr => aBp hF1 hr)
   ·rcases hi with hi | ⟨q, hq, he⟩
    ·exact k4 o hi
    ·rw [List.mem_singleton] at hq
     subst hq
     exact hne p hp he.symm
end
end
section
section
variable {P : Program} {call : CallF} {nt : Nat} {φ₀ : Phi} {m₀ : Mem} {w₀ : World} {ops : Array Oper}
variable {e e1 : Env} {m m1 : Mem} {F : Objs} {K : Env → Mem → Objs → Prop} {o : Oper} {av : AV}
/-- One may begin anew. -/
theorem bN0 {c : Code} {Q : iS} (h : ∀ φ w, RM φ m w → bE P φ m w nt c e m [] Q) : bE P φ₀ m₀ w₀ nt c e m [] Q := fun a w hs => by
 obtain ⟨φ, hR, hX, hE, hn, hdf, hF⟩ := hs
 have := h φ w hR a w ⟨φ, hR, Ext.refl .., hE, hn, hdf, fun p hp => by cases hp⟩
 refine wp_mono this fun x a' w' ⟨y, e', m', F', h1, h2, h3⟩ => ?_
 obtain ⟨φ', g1, g2, g3, g4, g5, g6⟩ := h2
 refine ⟨y, e', m', F', h1, ⟨φ', g1, hX.trans g2, g3, g4, g5, fun p hp => ?_⟩, h3⟩
 obtain ⟨k1, k2, k3, k4⟩ := g6 p hp
 exact ⟨k1, Nat.le_trans hX.size k2, k3, k4⟩
/-- What a function does with objects that it is handed: its caller's memory is the base's. -/
def aNk (P : Program) (f : FuncId) (Pre : List AV → Mem → Objs → Prop) (kB : List AV → Mem → Objs → AV → Mem → Objs → Prop) : Prop :=
 ∀ args m F, Pre args m F → (∃ fn, P.funcs[f]? = some fn ∧ fn.body.isNone = false ∧ (fn.name == "runtime.NumGoroutine") = false) ∧
  ∀ φ₀ w₀ φ w vals, RM φ₀ m w₀ → RM φ m w → Ext φ₀ m w₀ φ m w → ObjsIn φ m w₀ w F → Reps φ m w args vals →
   Calls P f vals w fun e w' => ∃ x φ' r m' F', e = .returned x ∧ RM φ' m' w' ∧ Ext φ₀ m w₀ φ' m' w' ∧ Rep φ' m' w' r x ∧ ObjsIn φ' m' w₀ w' F' ∧ kB args m F r m' F'
theorem bHa {f : FuncId} {fn : Func} {c : Code} (hf : P.funcs[f]? = some fn) (hb : fn.body = some c) {Pre : List AV → Mem → Objs → Prop} {kB : List AV → Mem → Objs → AV → Mem → Objs → Prop} (hn : (fn.name == "runtime.NumGoroutine") = false)
  (h : ∀ args m F, Pre args m F → args.length ≤ fn.ntmps ∧ ∀ φ₀ w₀, bE P φ₀ m w₀ fn.ntmps c (vP args) m F (bEi P fn m (kB args m F))) : aNk P f Pre kB := by
 intro args m F hpre
 obtain ⟨hl, hx⟩ := h args m F hpre
 refine ⟨⟨fn, hf, by rw [hb]; rfl, hn⟩, fun φ₀ w₀ φ w vals hR₀ hR hX hF hA => ?_⟩
 have hst : StF φ₀ m w₀ fn.ntmps (vP args) m F { tmps := vals ++ Array.replicate (fn.ntmps - vals.size) undef, defers := [] } w :=
  ⟨φ, hR, hX, aBj hA _, by simp; omega, rfl, hF⟩
 refine calls_of_wp hf hb (wp_mono (hx φ₀ w₀ _ _ hst) fun x a w' ⟨y, e, m1, F1, h1, h2, h3⟩ => ?_)
 subst h1
 have fin : (∃ r m', dL P false fn m e m1 = some (r, m') ∧ kB args m F r m' F1) → a.defers = [] ∧ ∃ v, (results fn a.tmps).run P w' = .ok v w' ∧ ∃ x φ' r m' F', Ending.returned v = .returned x ∧ RM φ' m' w' ∧ Ext φ₀ m w₀ φ' m' w' ∧ Rep φ' m' w' r x ∧ ObjsIn φ' m' w₀ w' F' ∧ kB args m F r m' F' := by
  rintro ⟨r, m', hret, hpost⟩
  obtain ⟨φ1, hR1, hX1, hE1, hn1, hd1, hF1⟩ := h2
  obtain ⟨x, g1, rfl, g3⟩ := aO1 hR₀ hR1 hX1 hE1 hret
  exact ⟨hd1, x, g1, x, aFm φ1 m1 m.vars.length, r, bI m m1, F1, rfl, aUn hR₀ hR1 hX1, aKm hX1, g3, aZi hF1, hpost⟩
 cases y with
 | normal => exact fin h3
 | ret => exact fin h3
 | exit id => exact h3.elim
/-- What is still known of values when a callee has changed what it was handed. -/
def aNh : AV → AV
 | .v x => .v x
 | .ptr r off => .ptr r off
 | _ => .junk
def sK (e : Env) : Env := e.map fun p => (p.1, aNh p.2)
theorem aNs (e : Env) (t : Nat) : get (sK e) t = aNh (get e t) := by
 induction e with
 | nil => rfl
 | cons p e ih =>
  obtain ⟨k, a⟩ := p
  show (if k = t then aNh a else get (sK e) t) = aNh (if k = t then a else get e t)
  by_cases hk : k = t
  ·rw [if_pos hk, if_pos hk]
  ·rw [if_neg hk, if_neg hk, ih]
theorem bM0 {φ φ' : Phi} {m' : Mem} {w w' w₀ : World} (hX : Ext φ₀ m w₀ φ m w) (hX' : Ext φ₀ m w₀ φ' m' w') {a : AV} {x : Value} (h : Rep φ m w a x) : Rep φ' m' w' (aNh a) x := by
 cases h with
 | v x => exact .v x
 | ptr r off cs hv =>
  obtain ⟨e1, cs1, h1, _⟩ := hX.vb r cs hv
  obtain ⟨e2, cs2, h2, _⟩ := hX'.vb r cs hv
  rw [e1, ← e2]
  exact .ptr r off cs2 h2
 | _ => exact .junk _
theorem bL0 {f : FuncId} {Pre : List AV → Mem → Objs → Prop} {kB : List AV → Mem → Objs → AV → Mem → Objs → Prop} (hf : aNk P f Pre kB) {w₀ : World} (hR₀ : RM φ₀ m w₀) {c : Call} {args : List AV} {d : Nat} (hg : wantedAV ops e o = some true) (hd : o.dst = some d) (hlt : d < nt) (ho : o.op = .call c)
  (hc : c.callee = .value (.func f)) (hargs : ∀ (φ : Phi) (w : World) (a : Act), cX φ m w e a.tmps → Reps φ m w args (c.args.map a.eval)) (hpre : Pre (args.map lI) m F)
  (h : ∀ r m' F', kB (args.map lI) m F r m' F' → K ((d, r) :: sK e) m' F') : dF P φ₀ m w₀ nt ops o e m F K := fun K' Q hK a w hs => by
 obtain ⟨φ, hRM, hX, hE, hn, hdf, hF⟩ := hs
 rw [cW hE hg, if_pos rfl]
 left
 obtain ⟨⟨fn, hfn, hbody, hname⟩, hcalls⟩ := hf _ _ _ hpre
 have hreps := hcalls φ₀ w₀ φ w (c.args.map a.eval) hR₀ hRM hX hF (aDn (hargs φ w a hE))
 have hrun : (execOp a.eval o).run P w = .ok (.enter f (c.args.map a.eval)) w := by
  unfold execOp
  rw [ho]
  have hn : ¬ fn.name = "runtime.NumGoroutine" := by simpa using hname
  have hb : ¬ fn.body = none := by intro e; rw [e] at hbody; simp at hbody
  have hfv : a.eval (.func f) = .func (.func f) #[] #[] := rfl
  simp [resolve, hc, hfv, Deferred.ofValue, invoke, callFunc, hfn, hn, hb, Sem.run_bind, run_program]
 unfold Oper.wp
 rw [hrun, Oper.upon_enter]
 refine hreps.mono fun e' w' hh => ?_
 obtain ⟨x, φ', r, m', F', rfl, g1, g2, g3, g4, g5⟩ := hh
 have hE2 : cX φ' m' w' (sK e) a.tmps := fun t => by
  rw [aNs]
  exact bM0 hX g2 (hE t)
 exact hK _ _ _ _ _ (h r m' F' g5) ⟨φ', g1, g2, hE2.put (by rw [hd]; exact dQ hlt _ _) hn g3 a.defers, by rw [gG]; exact hn, by rw [eQ]; exact hdf, g4⟩
theorem wS {n : Nat} {listed listed1 listed2 listed3 : Array Bool} {i j k : Nat} {o2 o3 : Oper} (hr : Region.ready .any ops listed = [i, j, k]) (ho : ops.toList[i]? = some o) (hl : listed.setIfInBounds i true = listed1) (ho2 : ops.toList[j]? = some o2) (hl2 : listed.setIfInBounds j true = listed2) (ho3 : ops.toList[k]? = some o3) (hl3 : listed.setIfInBounds k true = listed3)
  (h : dF P φ₀ m₀ w₀ nt ops o e m F (fun e m F => eC P φ₀ m₀ w₀ nt ops n listed1 e m F K))
  (h2 : dF P φ₀ m₀ w₀ nt ops o2 e m F (fun e m F => eC P φ₀ m₀ w₀ nt ops n listed2 e m F K))
  (h3 : dF P φ₀ m₀ w₀ nt ops o3 e m F (fun e m F => eC P φ₀ m₀ w₀ nt ops n listed3 e m F K)) : eC P φ₀ m₀ w₀ nt ops (n + 1) listed e m F K :=
 aG9 hr (by simp) fun q hq => by
  rcases List.mem_cons.1 hq with rfl | hq
  ·exact ⟨o, by simpa using ho, by rw [hl]; exact h⟩
  ·rcases List.mem_cons.1 hq with rfl | hq
   ·exact ⟨o2, by simpa using ho2, by rw [hl2]; exact h2⟩
   ·rcases List.mem_singleton.1 hq with rfl
    exact ⟨o3, by simpa using ho3, by rw [hl3]; exact h3⟩
end
end
section
section
variable {P : Program} {call : CallF} {nt : Nat} {φ₀ : Phi} {m₀ : Mem} {w₀ : World} {ops : Array Oper}
variable {e e1 : Env} {m m1 : Mem} {F : Objs} {K : Env → Mem → Objs → Prop} {o : Oper} {av : AV}
/-- A part of a row. -/
theorem uS {φ : Phi} {w : World} {cs : List AV} {arr : Array Value} (h : Reps φ m w cs arr) {off n : Nat} (hfit : off + n ≤ cs.length) : Reps φ m w ((cs.drop off).take n) ((List.range n).map fun j => arr.getD (off + j) undef).toArray := by
 obtain ⟨h1, h2⟩ := h
 refine ⟨by simp; omega, fun i a u e1 e2 => ?_⟩
 rw [List.getElem?_take] at e1
 split at e1
 ·rename_i hi
  rw [List.getElem?_drop] at e1
  have hlt : off + i < arr.size := by omega
  simp [hi] at e2
  subst e2
  refine h2 (off + i) a _ e1 ?_
  simp [Array.getD, hlt]
 ·cases e1
theorem aHd {arr : Array Value} (h : ∀ (o : Nat) u, arr[o]? = some u → one u = true) {off n : Nat} (hfit : off + n ≤ arr.size) : ∀ v ∈ (List.range n).map fun j => arr.getD (off + j) undef, one v = true := fun v hv => by
 obtain ⟨j, hj, rfl⟩ := List.mem_map.1 hv
 have hlt : off + j < arr.size := by have := List.mem_range.1 hj; omega
 exact h (off + j) _ (by simp [Array.getD, hlt])
theorem vV {cs : List AV} (h : cs.all kD = true) (off n : Nat) : ((cs.drop off).take n).all kD = true := by
 rw [List.all_eq_true] at h ⊢
 exact fun x hx => h x (List.mem_of_mem_drop (List.mem_of_mem_take hx))
theorem aNu {t t2 el : TypeId} {x y : Operand} {cl : Call} {b off n c b2 off2 n2 c2 k d q : Nat} {cs cs2 : List AV} (hg : wantedAV ops e o = some true) (hd : o.dst = some d) (hlt : d < nt) (ho : o.op = .call cl) (hc : cl.callee = .builtin .copy) (ha : cl.args = #[x, y]) (hat : cl.argTypes = #[t, t2])
  (ht : dB P t = some el) (hk : cA P el = some k) (hb : (b, XOb.arr cs) ∈ F) (hb2 : (b2, XOb.arr cs2) ∈ F) (hx : opd P e t x = .v (bS b off n c)) (hy : opd P e t2 y = .v (bS b2 off2 n2 c2)) (hq : Nat.min n2 n = q) (hfit : off + q * k ≤ cs.length) (hfit2 : off2 + q * k ≤ cs2.length)
  (h : K ((d, .v (.int .i64 (q : Int))) :: e) m (eS F b (.arr (cB cs off ((cs2.drop off2).take (q * k)))))) : dF P φ₀ m₀ w₀ nt ops o e m F K :=
 bWd hg hd hlt hb (fun φ a w hR hE hF => by
  obtain ⟨arr, T, h1, h2, h3, h4⟩ := (hF _ hb).1
  obtain ⟨arr2, T2, g1, g2, g3, g4⟩ := (hF _ hb2).1
  have q1 := eI (P := P) hE hx
  have q2 := eI (P := P) hE hy
  have hs1 := h2.1
  have hs2 := g2.1
  have hfc := nV (P := P) (w := w) (w' := w) (c := c2) (k := k) (n := q) (off := off2) g1 (by omega) (fun _ => rfl)
  have hfc2 : (Builtin.firstCells k q (bS b2 off2 n2 c2)).run P w = .ok ((List.range (q * k)).map fun j => arr2.getD (off2 + j) undef).toArray w := hfc
  have hone := aHd g4 (off := off2) (n := q * k) (by omega)
  have hreps := uS g2 (off := off2) (n := q * k) hfit2
  generalize hvs : (List.range (q * k)).map (fun j => arr2.getD (off2 + j) undef) = vs at hfc2 hone hreps
  have hvl : vs.length = q * k := by rw [← hvs]; simp
  have hst := run_storeCells_at P b off T vs 0 arr w h1 (by omega) (fun v hv => by rw [← zK]; exact hone v hv)
  simp only [Nat.add_zero] at hst
  refine ⟨.int .i64 (q : Int), .cells (arr.toList.take off ++ vs ++ arr.toList.drop (off + vs.length)).toArray T (0, 0), ?_, .v _, fun hrep => ?_⟩
  ·unfold execOp
   rw [ho]
   simp only [resolve, hc, ha, hat, Sem.run_bind, Sem.run_pure, Result.andThen_ok, invoke]
   rw [← nD h1]
   have hrun : (Builtin.copy_ #[t, t2] o.type #[bS b off n c, bS b2 off2 n2 c2]).run P w = .ok (.int .i64 (q : Int)) (w.setRow b (arr.toList.take off ++ vs ++ arr.toList.drop (off + vs.length)).toArray) := by
    have hst2 : Sem.run P (storeCells { block := b, off := off } vs) w = .ok () (w.setRow b (List.take off arr.toList ++ (vs ++ List.drop (off + vs.length) arr.toList)).toArray) := by simpa using hst
    simp [Builtin.copy_, aN (bH ht), bL hk, Builtin.lenOf, hq, hfc2, hst2, goInt, Sem.run_bind]
   exact bW (by simpa [q1, q2] using hrun)
  ·exact aA6 (vs := vs) h2 h3 h4 hreps (vV g3 _ _) hone (by simp; omega) hrep (iE w _ (fY (hF _ hb).1))) h
/-- A row of one element. -/
theorem bIf {t el : TypeId} {x : Operand} {d k : Nat} {row z : List AV} (hg : wantedAV ops e o = some true) (hd : o.dst = some d) (hlt : d < nt) (ho : o.op = .buildSlice t 1 #[(0, x)]) (ht : dB P t = some el) (hk : cA P el = some k) (hz : zeroCells P el = some z) (hk0 : 0 < k) (h16 : k ≤ 16777216)
  (hx : opd P e (pL P t 0) x = av) (hr : aJm av = some row) (hl : row.length = k) (h : ∀ b, (∀ p ∈ F, p.1 ≠ b) → K ((d, .v (bS b 0 1 1)) :: e) m ((b, .arr row) :: F)) : dF P φ₀ m₀ w₀ nt ops o e m F K :=
 tW hg hd hlt fun φ a w hR hX hE hF => by
  have hw := hX.size
  have hps := aHi (P := P) hE t #[(0, x)]
  simp only [List.map_cons, List.map_nil, hx] at hps
  have hps2 : lT φ m w [(0, av)] (#[(0, x)].map fun (i, x) => (i, a.eval x)).toList := by simpa [hx] using hps
  have hrows : mI k 0 [(0, av)] = some [row] := by
   simp only [mI, hr]
   rw [if_pos ⟨trivial, hl⟩]
   rfl
  obtain ⟨zv, hzr, hzreps⟩ := mC (P := P) (φ := φ) (m := m) (w := w) hz
  obtain ⟨arr', r1, r2, _, _, r5⟩ := aHz (φ := φ) (m := m) (w := w) k [(0, av)] _ 0 [row] ((Array.range (1 * k)).map (zv.cells[· % zv.cells.size]!)) hps2 hrows (by simp)
  obtain ⟨⟨_, q2⟩, q3⟩ := r5 0 row rfl
  have hsz : arr'.size = k := by rw [r2]; simp
  have hreps : Reps φ m w row arr' := ⟨by rw [hsz, hl], fun i b u e1 e2 => by
   obtain ⟨u2, g1, g2, g3⟩ := q3 i b e1
   simp only [Nat.zero_add, Nat.zero_mul] at g1
   rw [e2] at g1
   cases g1
   exact g2⟩
  have hone : ∀ (o : Nat) u, arr'[o]? = some u → one u = true := fun o u hu => by
   have ho : o < row.length := by rw [hl, ← hsz]; exact (Array.getElem?_eq_some_iff.1 hu).1
   obtain ⟨u2, g1, g2, g3⟩ := q3 o _ (List.getElem?_eq_getElem ho)
   simp only [Nat.zero_add, Nat.zero_mul] at g1
   rw [hu] at g1
   cases g1
   exact g3
  obtain ⟨g1, g2, g3⟩ := qD (w₀ := w₀) hR hF hw el hreps q2 hone
  refine ⟨bS w.heap.size 0 1 1, w.alloc (.cells arr' el), φ, .v (bS w.heap.size 0 1 1), m, _, ?_, g1, hX.trans g2, hE.mono g2, .v _, g3, h w.heap.size fun p hp he => ?_⟩
  ·unfold execOp
   rw [ho]
   refine bW ?_
   have hlim' : ¬ (1 * k > 2 ^ 24) := by omega
   have h0 : ¬ (1 * k = 0) := by omega
   simp only [Instr.buildSlice, Sem.run_bind, aN (bH ht), Result.andThen_ok, bL hk, Sem.run_ite, if_neg hlim', if_neg h0, hzr, Sem.run_pure, r1]
   simp [newRow, World.alloc, -World.alloc_eq]
  ·have := fY (hF p hp).1
   omega
/-- A row of one's own appended to another. -/
theorem aPg {t t2 : TypeId} {k d b off n c b2 off2 n2 c2 : Nat} {cs cs2 : List AV} {x y : Operand} {cl : Call} (hg : wantedAV ops e o = some true) (hd : o.dst = some d) (hlt : d < nt)
  (ho : o.op = .call cl) (hc : cl.callee = .builtin .append) (ha : cl.args = #[x, y]) (hat : cl.argTypes = #[t, t2]) (happ : mS P t t2 k = true) (hb : (b, XOb.arr cs) ∈ F) (hx : opd P e t x = .v (bS b off n c)) (hfitc : off + c * k ≤ cs.length) (hnc : n ≤ c)
  (hb2 : (b2, XOb.arr cs2) ∈ F) (hy : opd P e t2 y = .v (bS b2 off2 n2 c2)) (hfit2 : off2 + n2 * k ≤ cs2.length) (hlim : n + n2 ≤ lim)
  (h1 : n + n2 ≤ c → K ((d, .v (bS b off (n + n2) c)) :: e) m (eS F b (.arr (cB cs (off + n * k) ((cs2.drop off2).take (n2 * k))))))
  (h2 : c < n + n2 → ∀ (b' c' : Nat) (vs : List Value), n + n2 ≤ c' → (∀ p ∈ F, p.1 ≠ b') → vs.length = (c' - (n + n2)) * k → K ((d, .v (bS b' 0 (n + n2) c')) :: e) m ((b', .arr ((cs.drop off).take (n * k) ++ (cs2.drop off2).take (n2 * k) ++ vs.map .v)) :: F)) : dF P φ₀ m₀ w₀ nt ops o e m F K :=
 tW hg hd hlt fun φ a w hR hX hE hF => by
  have hw := hX.size
  unfold mS at happ
  split at happ
  ·rename_i el hel
   split at happ
   ·rename_i k' bb z hk hbb hz
    simp only [Bool.and_eq_true, decide_eq_true_eq] at happ
    obtain ⟨⟨⟨⟨⟨rfl, hb4⟩, hzk⟩, hk0⟩, hzok⟩, h6⟩ := happ
    obtain ⟨e2, he2, rfl⟩ : ∃ e2, dB P t2 = some e2 ∧ e2 = el := by
     split at h6
     ·rename_i e2 he2; exact ⟨e2, he2, by simpa using h6⟩
     ·cases h6
    have hxv := eI (P := P) hE hx
    have hyv := eI (P := P) hE hy
    obtain ⟨arr2, T2, e1', e2', e3', e4'⟩ := (hF _ hb2).1
    have hs2 := e2'.1
    obtain ⟨arr, T, a1, a2, a3, a4⟩ := (hF _ hb).1
    obtain ⟨zv, i, hi, hiz, hzs, hzc⟩ := rH (P := P) hz hzk hk0 hzok w
    have hik : i.size = k' := by simpa [cA, hi] using hk
    have hib : i.bytes = bb := by simpa [lA, hi] using hbb
    have q1 := uS (φ := φ) (m := m) (w := w) e2' (off := off2) (n := n2 * k') hfit2
    have q2 := vV e3' off2 (n2 * k')
    have q3 : ∀ q, q < n2 * k' → one (arr2.getD (off2 + q) undef) = true := fun q hq => e4' (off2 + q) _ (by simp [Array.getD, show off2 + q < arr2.size by omega])
    have q4 : ((cs2.drop off2).take (n2 * k')).length = n2 * k' := by simp; omega
    obtain ⟨f2, hf2⟩ : ∃ f2 : Nat → Value, f2 = fun q => arr2.getD (off2 + q) undef := ⟨_, rfl⟩
    have fy0 : ∀ w' : World, (∀ o, w'.cell? ⟨b2, o, none⟩ = w.cell? ⟨b2, o, none⟩) → (Builtin.firstCells k' n2 (bS b2 off2 n2 c2)).run P w' = .ok ((List.range (n2 * k')).map f2).toArray w' := fun w' hw' => by rw [hf2]; exact nV e1' (by omega) hw'
    rw [show (fun q => arr2.getD (off2 + q) undef) = f2 from hf2.symm] at q1
    have q3 : ∀ q, q < n2 * k' → one (f2 q) = true := fun q hq => by rw [hf2]; exact q3 q hq
    have hmul : n * k' ≤ c * k' := Nat.mul_le_mul_right _ hnc
    have hlenA : arr.size = cs.length := a2.1
    by_cases hroom : n + n2 ≤ c
    ·have hmul2 : (n + n2) * k' ≤ c * k' := Nat.mul_le_mul_right _ hroom
     rw [Nat.add_mul] at hmul2
     have fy := fy0 w (fun _ => rfl)
     have hrun := pE (P := P) (w := w) (ty := o.type) (t := t) (bH hel) (bH he2) hk (a := some ⟨b, off, none⟩) (n := n) (c := c) (a2 := some ⟨b2, off2, none⟩) (c2 := c2) fy hroom
     let vs : List Value := (List.range (n2 * k')).map f2
     have hvl : vs.length = n2 * k' := by simp [vs]
     have hone : ∀ v ∈ vs, one v = true := fun v hv => by
      obtain ⟨q, hq, rfl⟩ := List.mem_map.1 hv
      exact q3 q (List.mem_range.1 hq)
     have hst := run_storeCells_at P b (off + n * k') T vs 0 arr w a1 (by rw [hvl]; omega) (fun v hv => by rw [← zK]; exact hone v hv)
     simp only [Nat.add_zero] at hst
     rw [nD a1] at hst
     have hi2 : (∀ {a : AV} {x : Value}, Rep φ m w a x → Rep φ m (cY w b (.cells (arr.toList.take (off + n * k') ++ vs ++ arr.toList.drop (off + n * k' + vs.length)).toArray T (0, 0))) a x) → XIn φ m (cY w b (.cells (arr.toList.take (off + n * k') ++ vs ++ arr.toList.drop (off + n * k' + vs.length)).toArray T (0, 0))) b (.arr (cB cs (off + n * k') ((cs2.drop off2).take (n2 * k')))) := fun hrep =>
      aA6 a2 a3 a4 q1 q2 hone (by rw [q4]; omega) hrep (iE w _ (fY (hF _ hb).1))
     obtain ⟨hR', hX', hF', hrep⟩ := StF.put_ob (o' := .cells (arr.toList.take (off + n * k') ++ vs ++ arr.toList.drop (off + n * k' + vs.length)).toArray T (0, 0)) (a := a) hR hX hF hb hi2
     refine ⟨_, _, φ, _, m, _, kM ho hc ha hat hxv hyv ?_, hR', hX', fun t => hrep (hE t), .v _, hF', h1 hroom⟩
     rw [hrun]
     simp only
     rw [eU rfl, show (⟨b, off, none⟩ : Addr).off = off from rfl]
     rw [show List.map f2 (List.range (n2 * k')) = vs from rfl, hst]
     rfl
    ·have hneed : (n + n2) * i.bytes ≤ 140737488355328 := by
      rw [hib]
      calc (n + n2) * bb ≤ 4294967296 * 4096 := Nat.mul_le_mul hlim hb4
       _ ≤ 140737488355328 := by decide
     have hfit := growslice_fits (need := n + n2) (old := c) (bytes := i.bytes) (by omega) hneed
     have fy : (Builtin.firstCells i.size n2 (bS b2 off2 n2 c2)).run P w.drew = .ok ((List.range (n2 * i.size)).map f2).toArray w.drew := by
      rw [hik]
      exact fy0 w.drew (fun _ => rfl)
     have fx : (Builtin.firstCells i.size n (bS b off n c)).run P w.drew = .ok ((List.range (n * i.size)).map fun q => arr.getD (off + q) undef).toArray w.drew := by
      rw [hik]
      exact nV a1 (by omega) (fun o => rfl)
     have hrun := iU (P := P) (w := w) (ty := o.type) (t := t) (t2 := t2) (bH hel) (bH he2) hi hiz (a := some ⟨b, off, none⟩) (n := n) (c := c) (a2 := some ⟨b2, off2, none⟩) (n2 := n2) (c2 := c2) fx fy (by omega) (by unfold lim at hlim; omega) hfit
     have hcap := lN w (n + n2) c e2
     generalize hC : grownCap w (n + n2) c e2 = C at hrun hcap
     rw [hik] at hrun
     have hRd := oH hR
     have hXd := iR φ m w
     have hFd := fN hF hXd
     obtain ⟨hz1, hz2⟩ := hzc (C - (n + n2))
     have hold : Reps φ m w ((cs.drop off).take (n * k')) ((List.range (n * k')).map fun q => arr.getD (off + q) undef).toArray := by
      refine ⟨by simp; omega, fun i a u e1 e2 => ?_⟩
      rw [List.getElem?_take] at e1
      split at e1
      ·rename_i hi
       rw [List.getElem?_drop] at e1
       simp [hi] at e2
       subst e2
       have hlt : off + i < arr.size := by rw [hlenA]; exact (List.getElem?_eq_some_iff.1 e1).1
       exact a2.2 _ _ _ e1 (by simp [Array.getD, hlt])
      ·cases e1
     have hoone : ∀ q, q < n * k' → one (arr.getD (off + q) undef) = true := fun q hq => by
      have hlt : off + q < arr.size := by omega
      exact a4 (off + q) _ (by simp [Array.getD, hlt])
     have harr : Reps φ m w.drew ((cs.drop off).take (n * k') ++ (cs2.drop off2).take (n2 * k') ++ (Builtin.zeroCells zv.cells (C - (n + n2))).toList.map .v)
       (((List.range (n * k')).map fun q => arr.getD (off + q) undef).toArray ++ ((List.range (n2 * k')).map f2).toArray ++ Builtin.zeroCells zv.cells (C - (n + n2))) := by
      have := gI (gI (hold.mono hXd) (q1.mono hXd)) (qO (φ := φ) (m := m) (w := w.drew) (Builtin.zeroCells zv.cells (C - (n + n2))).toList)
      simpa using this
     obtain ⟨g1, g2, g3⟩ := qD (w₀ := w₀) hRd hFd hw e2 harr (by
      rw [List.all_append, List.all_append, q2, Bool.and_true, Bool.and_eq_true]
      rw [List.all_eq_true] at a3
      refine ⟨List.all_eq_true.2 fun x hx => a3 x (List.mem_of_mem_drop (List.mem_of_mem_take hx)), List.all_eq_true.2 fun a ha => ?_⟩
      obtain ⟨v, _, rfl⟩ := List.mem_map.1 ha
      rfl) (fun o u hu => by
      rw [Array.getElem?_append] at hu
      split at hu
      ·rename_i hlt
       rw [Array.getElem?_append] at hu
       split at hu
       ·rename_i hlt2
        simp at hlt2
        have : arr.getD (off + o) undef = u := by simpa [hlt2] using hu
        rw [← this]
        exact hoone o hlt2
       ·rename_i hlt2
        simp at hlt2 hlt
        have hq : o - n * k' < n2 * k' := by omega
        have : f2 (o - n * k') = u := by simpa [hq] using hu
        rw [← this]
        exact q3 _ hq
      ·exact hz2 _ u hu)
     refine ⟨_, _, φ, .v (bS w.heap.size 0 (n + n2) C), m, _, kM ho hc ha hat hxv hyv hrun, g1, hX.trans (hXd.trans g2), hE.mono (hXd.trans g2), .v _, g3, h2 (by omega) w.heap.size C (Builtin.zeroCells zv.cells (C - (n + n2))).toList hcap (fun p hp he => ?_) (by simp [hz1])⟩
     have := fY (hF p hp).1
     omega
   ·cases happ
  ·cases happ
/-- A make appended: a new row. -/
theorem aPk {t t2 el : TypeId} {k bb d b off n c q : Nat} {cs z : List AV} {x y : Operand} {cl : Call} {kn : IntKind} (hg : wantedAV ops e o = some true) (hd : o.dst = some d) (hlt : d < nt)
  (ho : o.op = .call cl) (hc : cl.callee = .builtin .append) (ha : cl.args = #[x, y]) (hat : cl.argTypes = #[t, t2]) (ht : dB P t = some el) (ht2 : P.underlying t2 = some (.int kn)) (hk : cA P el = some k) (hbb : lA P el = some bb) (hb4 : bb ≤ 4096) (hz : zeroCells P el = some z) (hzk : z.length = k) (hk0 : 0 < k) (hzok : z.all okCell = true)
  (hb : (b, XOb.arr cs) ∈ F) (hx : opd P e t x = .v (bS b off n c)) (hfit : off + n * k ≤ cs.length) (hy : opd P e t2 y = .v (.int .i64 (q : Int))) (h0 : 0 < q) (hroom : c < n + q) (hlim : n + q ≤ lim)
  (h : ∀ (b' c' : Nat) (vs : List Value), n + q ≤ c' → (∀ p ∈ F, p.1 ≠ b') → vs.length = (c' - n) * k → K ((d, .v (bS b' 0 (n + q) c')) :: e) m ((b', .arr ((cs.drop off).take (n * k) ++ vs.map .v)) :: F)) : dF P φ₀ m₀ w₀ nt ops o e m F K :=
 tW hg hd hlt fun φ a w hR hX hE hF => by
  have hw := hX.size
  have hxv := eI (P := P) hE hx
  have hyv := eI (P := P) hE hy
  obtain ⟨arr, T, a1, a2, a3, a4⟩ := (hF _ hb).1
  have hs := a2.1
  obtain ⟨zv, i, hi, hiz, hzs, hzc⟩ := rH (P := P) hz hzk hk0 hzok w
  have hik : i.size = k := by simpa [cA, hi] using hk
  have hib : i.bytes = bb := by simpa [lA, hi] using hbb
  have hneed : (n + q) * i.bytes ≤ 140737488355328 := by
   rw [hib]
   calc (n + q) * bb ≤ 4294967296 * 4096 := Nat.mul_le_mul hlim hb4
    _ ≤ 140737488355328 := by decide
  have hq : q * i.bytes ≤ 281474976710656 := by
   have : q * i.bytes ≤ (n + q) * i.bytes := Nat.mul_le_mul_right _ (by omega)
   omega
  have hfits := growslice_fits (need := n + q) (old := c) (bytes := i.bytes) (by omega) hneed
  have fx : (Builtin.firstCells i.size n (bS b off n c)).run P w.drew = .ok ((List.range (n * k)).map fun j => arr.getD (off + j) undef).toArray w.drew := by
   rw [hik]
   exact nV a1 (by omega) (fun o => rfl)
  have hrun := Lib.run_append_grow_zeros (P := P) w t t2 o.type el i zv .i64 kn (bH ht) ht2 hi hiz (some ⟨b, off, none⟩) n c _ fx q h0 (by omega) hroom (by unfold lim at hlim; omega) hq hfits
  have hcap := lN w (n + q) c el
  generalize hC : grownCap w (n + q) c el = C at hrun hcap
  have hRd := oH hR
  have hXd := iR φ m w
  have hFd := fN hF hXd
  obtain ⟨hz1, hz2⟩ := hzc q
  obtain ⟨hz3, hz4⟩ := hzc (C - (n + q))
  have hold := uS (φ := φ) (m := m) (w := w) a2 (off := off) (n := n * k) hfit
  have hoone := aHd a4 (off := off) (n := n * k) (by omega)
  have harr : Reps φ m w.drew ((cs.drop off).take (n * k) ++ ((Builtin.zeroCells zv.cells q).toList ++ (Builtin.zeroCells zv.cells (C - (n + q))).toList).map .v)
    (((List.range (n * k)).map fun j => arr.getD (off + j) undef).toArray ++ Builtin.zeroCells zv.cells q ++ Builtin.zeroCells zv.cells (C - (n + q))) := by
   have := gI (hold.mono hXd) (qO (φ := φ) (m := m) (w := w.drew) ((Builtin.zeroCells zv.cells q).toList ++ (Builtin.zeroCells zv.cells (C - (n + q))).toList))
   refine cast (congrArg (Reps φ m w.drew _) ?_) this
   apply Array.ext'
   simp
  obtain ⟨g1, g2, g3⟩ := qD (w₀ := w₀) hRd hFd hw el harr (by
   rw [List.all_append, vV a3, Bool.true_and, List.all_eq_true]
   intro y hy
   obtain ⟨v, _, rfl⟩ := List.mem_map.1 hy
   rfl) (fun o u hu => by
   rw [Array.getElem?_append] at hu
   split at hu
   ·rename_i h5
    rw [Array.getElem?_append] at hu
    split at hu
    ·rw [List.getElem?_toArray] at hu
     exact hoone u (List.mem_of_getElem? hu)
    ·exact hz2 _ u hu
   ·exact hz4 _ u hu)
  refine ⟨_, _, φ, .v (bS w.heap.size 0 (n + q) C), m, _, kM ho hc ha hat hxv hyv hrun, g1, hX.trans (hXd.trans g2), hE.mono (hXd.trans g2), .v _, g3, h w.heap.size C _ hcap (fun p hp he => ?_) ?_⟩
  ·have := fY (hF p hp).1
   omega
  ·simp only [List.length_append, Array.length_toList, hz1, hz3]
   rw [← Nat.add_mul]
   congr 1
   omega
/-- Two rows in blocks of their own lie apart. -/
theorem bO3 {f : FuncId} {fn : Func} {t tR el : TypeId} {x y : Operand} {cl : Call} {b off n c b2 off2 n2 c2 k d : Nat} {cs cs2 : List AV} (hg : wantedAV ops e o = some true) (hd : o.dst = some d) (hlt : d < nt) (ho : o.op = .call cl) (hc : cl.callee = .value (.func f)) (ha : cl.args = #[x, y])
  (hf : P.funcs[f]? = some fn) (hname : (fn.name == "runtime.NumGoroutine") = false) (hbd : fn.body.isNone = true) (hnx : Extern.findNext fn = none) (hex : Extern.find fn = some (Extern.SlicesOverlaps.overlaps #[t, t] #[tR])) (ht : dB P t = some el) (hk : cA P el = some k)
  (hb : (b, XOb.arr cs) ∈ F) (hb2 : (b2, XOb.arr cs2) ∈ F) (hne : b ≠ b2) (hpos : 0 < cs2.length) (hx : opd P e t x = .v (bS b off n c)) (hy : opd P e t y = .v (bS b2 off2 n2 c2))
  (h : K ((d, .v (.bool false)) :: e) m F) : dF P φ₀ m₀ w₀ nt ops o e m F K :=
 tW hg hd hlt fun φ a w hR hX hE hF => by
  have q1 := eI (P := P) hE hx
  have q2 := eI (P := P) hE hy
  obtain ⟨arr, T, a1, a2, _, _⟩ := (hF _ hb).1
  obtain ⟨arr2, T2, g1, g2, _, _⟩ := (hF _ hb2).1
  have hs2 := g2.1
  have hov := Lib.run_overlaps_apart (P := P) w t tR el (bH ht) k (fun w => bL hk w) ⟨b, off, none⟩ ⟨b2, off2, none⟩ n c n2 c2 hne T T2 arr.size arr2.size (by simp [World.shape?, a1]) (by simp [World.shape?, g1]) (by omega) (by simp [World.frozen?, a1]) (by simp [World.frozen?, a1])
  have hrun0 := run_callFunc_extern (P := P) hf hname hbd hnx hex #[bS b off n c, bS b2 off2 n2 c2] w
  rw [hov] at hrun0
  refine ⟨.bool false, w, φ, .v (.bool false), m, F, ?_, hR, hX, hE, .v _, hF, h⟩
  unfold execOp
  rw [ho]
  have hfv : a.eval (.func f) = .func (.func f) #[] #[] := rfl
  simp only [resolve, hc, ha, hfv, Sem.run_bind, Sem.run_pure, Result.andThen_ok, invoke, Deferred.ofValue]
  simpa [q1, q2, run_program] using hrun0
end
end
section
section
variable {P : Program} {call : CallF} {nt : Nat} {φ₀ : Phi} {m₀ : Mem} {w₀ : World} {ops : Array Oper}
variable {e e1 : Env} {m m1 : Mem} {F : Objs} {K : Env → Mem → Objs → Prop} {o : Oper} {av : AV}
theorem oE {t t1 t2 el : TypeId} {x lo : Operand} {k b off n c l : Nat} (ho : o.op = .slice t x (some lo) none none) (ht : dB P t = some el) (hk : cA P el = some k)
  (hx : opd P e t1 x = .v (bS b off n c)) (hlo : opd P e t2 lo = .v (.int .i64 (l : Int))) (c1 : l ≤ n) (hnc : n ≤ c) : XRA P φ₀ m₀ w₀ e m F o (.v (bS b (if c = l then off else off + l * k) (n - l) (c - l))) m F :=
 aT5 fun e' hag φ a w _ hE hF => by
  refine ⟨_, ?_, .v _⟩
  have q1 := aC0 hE hag (by rw [ho]; simp [Op.operands]) hx
  have q2 := hag lo (by rw [ho]; simp [Op.operands]) t2
  unfold execOp
  rw [ho]
  simp only [q1]
  refine bW ?_
  have hl : fH (Option.map (opd P e' t2) (some lo)) 0 = some l := by
   simp only [Option.map_some, q2, hlo]
   unfold fH
   simp
  have hb := nZ (P := P) (w := w) (b := true) (xW (P := P) hE t2 (some lo)) (xW (P := P) hE t2 none) hl (show fH none n = some n from rfl) c1 hnc (fun _ => hnc)
  have ha : (⟨b, off, none⟩ : Addr).add (l * k) = ⟨b, off + l * k, none⟩ := eU rfl _
  simp only [Option.map_none, Option.map_some] at hb
  simp only [Option.map_none, Option.map_some, Instr.sliceAt, Instr.slice, Sem.run_bind, aN (bH ht), Result.andThen_ok, hb, bL hk, Sem.run_pure]
  split <;> simp [ha, *]
theorem bNh {o : Oper} {b : Nat} {ob ob' : XOb} (hb : (b, ob) ∈ F)
  (hrun : ∀ (e' : Env), (∀ x ∈ o.op.operands.toList, ∀ t, opd P e' t x = opd P e t x) → ∀ (φ : Phi) (a : Act) (w : World), RM φ m w → cX φ m w e' a.tmps → ObjsIn φ m w₀ w F → ∃ x o', (execOp a.eval o).run P w = .ok (.value x) (cY w b o') ∧ Rep φ m w av x ∧ ((∀ {a : AV} {x : Value}, Rep φ m w a x → Rep φ m (cY w b o') a x) → XIn φ m (cY w b o') b ob')) :
  XRA P φ₀ m₀ w₀ e m F o av m (eS F b ob') := fun e' hag φ a w hR hX hE hF K Q hK => by
 obtain ⟨x, o', h1, hx, h2⟩ := hrun e' hag φ a w hR hE hF
 unfold Oper.wp
 rw [h1, Oper.upon_value]
 obtain ⟨hR', hX', hF', hrep⟩ := StF.put_ob (a := a) hR hX hF hb h2
 exact hK x _ φ hR' hX' (fun _ _ h => hrep h) (hrep hx) hF'
theorem aI5 {t t2 el : TypeId} {x y : Operand} {cl : Call} {b off n c b2 off2 n2 c2 k q : Nat} {cs cs2 : List AV} (ho : o.op = .call cl) (hc : cl.callee = .builtin .copy) (ha : cl.args = #[x, y]) (hat : cl.argTypes = #[t, t2])
  (ht : dB P t = some el) (hk : cA P el = some k) (hb : (b, XOb.arr cs) ∈ F) (hb2 : (b2, XOb.arr cs2) ∈ F) (hx : opd P e t x = .v (bS b off n c)) (hy : opd P e t2 y = .v (bS b2 off2 n2 c2)) (hq : Nat.min n2 n = q) (hfit : off + q * k ≤ cs.length) (hfit2 : off2 + q * k ≤ cs2.length) :
  XRA P φ₀ m₀ w₀ e m F o (.v (.int .i64 (q : Int))) m (eS F b (.arr (cB cs off ((cs2.drop off2).take (q * k))))) :=
 bNh hb (fun e' hag φ a w hR hE hF => by
  obtain ⟨arr, T, h1, h2, h3, h4⟩ := (hF _ hb).1
  obtain ⟨arr2, T2, g1, g2, g3, g4⟩ := (hF _ hb2).1
  have q1 := aC0 hE hag (by rw [ho]; simp [Op.operands, Call.operands, ha]) hx
  have q2 := aC0 hE hag (by rw [ho]; simp [Op.operands, Call.operands, ha]) hy
  have hs1 := h2.1
  have hs2 := g2.1
  have hfc2 : (Builtin.firstCells k q (bS b2 off2 n2 c2)).run P w = .ok ((List.range (q * k)).map fun j => arr2.getD (off2 + j) undef).toArray w := nV (P := P) (w := w) (w' := w) (c := c2) (k := k) (n := q) (off := off2) g1 (by omega) (fun _ => rfl)
  have hone := aHd g4 (off := off2) (n := q * k) (by omega)
  have hreps := uS g2 (off := off2) (n := q * k) hfit2
  generalize hvs : (List.range (q * k)).map (fun j => arr2.getD (off2 + j) undef) = vs at hfc2 hone hreps
  have hvl : vs.length = q * k := by rw [← hvs]; simp
  have hst := run_storeCells_at P b off T vs 0 arr w h1 (by omega) (fun v hv => by rw [← zK]; exact hone v hv)
  simp only [Nat.add_zero] at hst
  refine ⟨.int .i64 (q : Int), .cells (arr.toList.take off ++ vs ++ arr.toList.drop (off + vs.length)).toArray T (0, 0), ?_, .v _, fun hrep => ?_⟩
  ·unfold execOp
   rw [ho]
   simp only [resolve, hc, ha, hat, Sem.run_bind, Sem.run_pure, Result.andThen_ok, invoke]
   rw [← nD h1]
   have hrun : (Builtin.copy_ #[t, t2] o.type #[bS b off n c, bS b2 off2 n2 c2]).run P w = .ok (.int .i64 (q : Int)) (w.setRow b (arr.toList.take off ++ vs ++ arr.toList.drop (off + vs.length)).toArray) := by
    have hst2 : Sem.run P (storeCells { block := b, off := off } vs) w = .ok () (w.setRow b (List.take off arr.toList ++ (vs ++ List.drop (off + vs.length) arr.toList)).toArray) := by simpa using hst
    simp [Builtin.copy_, aN (bH ht), bL hk, Builtin.lenOf, hq, hfc2, hst2, goInt, Sem.run_bind]
   exact bW (by simpa [q1, q2] using hrun)
  ·exact aA6 (vs := vs) h2 h3 h4 hreps (vV g3 _ _) hone (by simp; omega) hrep (iE w _ (fY (hF _ hb).1)))
end
end
section
section
variable {P : Program} {call : CallF} {nt : Nat} {φ₀ : Phi} {m₀ : Mem} {w₀ : World} {ops : Array Oper}
variable {e e1 : Env} {m m1 : Mem} {F : Objs} {K : Env → Mem → Objs → Prop} {o : Oper} {av : AV}
theorem bWc {d : Nat} (hg : wantedAV ops e o = some true) (hd : o.dst = some d) (hlt : d < nt) (ho : o.op = .assign (.const (.slice none 0 0))) (h : K ((d, .v (.slice none 0 0)) :: e) m F) : dF P φ₀ m₀ w₀ nt ops o e m F K :=
 aDo hg (by rw [hd]; exact dQ hlt _ _) (fun φ a w _ hE hF => by
  refine ⟨.slice none 0 0, ?_, .v _⟩
  unfold execOp
  rw [ho]
  rfl) h
theorem aYr {t t1 t2 el : TypeId} {x lo : Operand} {k d : Nat} (hg : wantedAV ops e o = some true) (hd : o.dst = some d) (hlt : d < nt) (ho : o.op = .slice t x (some lo) none none) (ht : dB P t = some el) (hk : cA P el = some k)
  (hx : opd P e t1 x = .v (.slice none 0 0)) (hlo : opd P e t2 lo = .v (.int .i64 ((0 : Nat) : Int))) (h : K ((d, .v (.slice none 0 0)) :: e) m F) : dF P φ₀ m₀ w₀ nt ops o e m F K :=
 aDo hg (by rw [hd]; exact dQ hlt _ _) (fun φ a w _ hE hF => by
  refine ⟨.slice none 0 0, ?_, .v _⟩
  have q1 := eI (P := P) hE hx
  have q2 := eI (P := P) hE hlo
  unfold execOp
  rw [ho]
  simp only [q1]
  refine bW ?_
  simp [q2, Instr.sliceAt, Instr.slice, Instr.sliceBounds, Instr.sliceBound, asIntOf, aN (bH ht), bL hk]) h
/-- An empty row. -/
theorem bKi {t el : TypeId} {d k : Nat} (hg : wantedAV ops e o = some true) (hd : o.dst = some d) (hlt : d < nt) (ho : o.op = .buildSlice t 0 #[]) (ht : dB P t = some el) (hk : cA P el = some k)
  (h : ∀ b, (∀ p ∈ F, p.1 ≠ b) → K ((d, .v (bS b 0 0 0)) :: e) m ((b, .arr []) :: F)) : dF P φ₀ m₀ w₀ nt ops o e m F K :=
 tW hg hd hlt fun φ a w hR hX hE hF => by
  have hw := hX.size
  obtain ⟨g1, g2, g3⟩ := qD (w₀ := w₀) hR hF hw el (Reps.nil φ m w) rfl (fun o u hu => by simp at hu)
  refine ⟨bS w.heap.size 0 0 0, w.alloc (.cells #[] el), φ, .v (bS w.heap.size 0 0 0), m, _, ?_, g1, hX.trans g2, hE.mono g2, .v _, g3, h w.heap.size fun p hp he => ?_⟩
  ·unfold execOp
   rw [ho]
   refine bW ?_
   simp [Instr.buildSlice, aN (bH ht), bL hk, Instr.fill, newRow, World.alloc, -World.alloc_eq]
   exact congrArg (fun c => w.heap.push (Obj.cells c el)) (by apply Array.ext' ; simp)
  ·have := fY (hF p hp).1
   omega
/-- A row appended to nil. -/
theorem aPl {t t2 : TypeId} {k d b2 off2 n2 c2 : Nat} {cs2 : List AV} {x y : Operand} {c : Call} (hg : wantedAV ops e o = some true) (hd : o.dst = some d) (hlt : d < nt)
  (ho : o.op = .call c) (hc : c.callee = .builtin .append) (ha : c.args = #[x, y]) (hat : c.argTypes = #[t, t2]) (happ : mS P t t2 k = true) (hx : opd P e t x = .v (.slice none 0 0)) (hb2 : (b2, XOb.arr cs2) ∈ F) (hy : opd P e t2 y = .v (bS b2 off2 n2 c2)) (hfit2 : off2 + n2 * k ≤ cs2.length) (h0 : 0 < n2) (hlim : n2 ≤ lim)
  (h : ∀ (b c : Nat) (vs : List Value), n2 ≤ c → (∀ p ∈ F, p.1 ≠ b) → vs.length = (c - n2) * k → K ((d, .v (bS b 0 n2 c)) :: e) m ((b, .arr ((cs2.drop off2).take (n2 * k) ++ vs.map .v)) :: F)) : dF P φ₀ m₀ w₀ nt ops o e m F K :=
 tW hg hd hlt fun φ a w hR hX hE hF => by
  have hw := hX.size
  unfold mS at happ
  split at happ
  ·rename_i el hel
   split at happ
   ·rename_i k' b z hk hb hz
    simp only [Bool.and_eq_true, decide_eq_true_eq] at happ
    obtain ⟨⟨⟨⟨⟨rfl, hb4⟩, hzk⟩, hk0⟩, hzok⟩, h6⟩ := happ
    obtain ⟨e2, he2, rfl⟩ : ∃ e2, dB P t2 = some e2 ∧ e2 = el := by
     split at h6
     ·rename_i e2 he2; exact ⟨e2, he2, by simpa using h6⟩
     ·cases h6
    have hxv := eI (P := P) hE hx
    have hyv := eI (P := P) hE hy
    obtain ⟨arr2, T2, e1', e2', e3', e4'⟩ := (hF _ hb2).1
    have hs2 := e2'.1
    have q1 := uS (φ := φ) (m := m) (w := w) e2' (off := off2) (n := n2 * k') hfit2
    have q2 := vV e3' off2 (n2 * k')
    have q3 : ∀ q, q < n2 * k' → one (arr2.getD (off2 + q) undef) = true := fun q hq => e4' (off2 + q) _ (by simp [Array.getD, show off2 + q < arr2.size by omega])
    obtain ⟨f2, hf2⟩ : ∃ f2 : Nat → Value, f2 = fun q => arr2.getD (off2 + q) undef := ⟨_, rfl⟩
    have fy0 : ∀ w' : World, (∀ o, w'.cell? ⟨b2, o, none⟩ = w.cell? ⟨b2, o, none⟩) → (Builtin.firstCells k' n2 (bS b2 off2 n2 c2)).run P w' = .ok ((List.range (n2 * k')).map f2).toArray w' := fun w' hw' => by rw [hf2]; exact nV e1' (by omega) hw'
    rw [show (fun q => arr2.getD (off2 + q) undef) = f2 from hf2.symm] at q1
    have q3 : ∀ q, q < n2 * k' → one (f2 q) = true := fun q hq => by rw [hf2]; exact q3 q hq
    obtain ⟨zv, i, hi, hiz, hzs, hzc⟩ := rH (P := P) hz hzk hk0 hzok w
    have hik : i.size = k' := by simpa [cA, hi] using hk
    have hib : i.bytes = b := by simpa [lA, hi] using hb
    have hneed : (0 + n2) * i.bytes ≤ 140737488355328 := by
     rw [hib]
     calc (0 + n2) * b ≤ 4294967296 * 4096 := Nat.mul_le_mul (by unfold lim at hlim; omega) hb4
      _ ≤ 140737488355328 := by decide
    have hfit := growslice_fits (need := 0 + n2) (old := 0) (bytes := i.bytes) (by omega) hneed
    have fy : (Builtin.firstCells i.size n2 (bS b2 off2 n2 c2)).run P w.drew = .ok ((List.range (n2 * i.size)).map f2).toArray w.drew := by
     rw [hik]
     exact fy0 w.drew (fun _ => rfl)
    have fx : (Builtin.firstCells i.size 0 (.slice none 0 0)).run P w.drew = .ok #[] w.drew := by simp [Builtin.firstCells]
    have hrun := iU (P := P) (w := w) (ty := o.type) (t := t) (t2 := t2) (bH hel) (bH he2) hi hiz (a := none) (n := 0) (c := 0) (a2 := some ⟨b2, off2, none⟩) (n2 := n2) (c2 := c2) fx fy (by omega) (by unfold lim at hlim; omega) hfit
    have hcap := lN w (0 + n2) 0 e2
    generalize hC : grownCap w (0 + n2) 0 e2 = C at hrun hcap
    rw [hik] at hrun
    simp only [Nat.zero_add] at hrun hcap
    have hRd := oH hR
    have hXd := iR φ m w
    have hFd := fN hF hXd
    obtain ⟨hz1, hz2⟩ := hzc (C - n2)
    have harr : Reps φ m w.drew ((cs2.drop off2).take (n2 * k') ++ (Builtin.zeroCells zv.cells (C - n2)).toList.map .v) (#[] ++ ((List.range (n2 * k')).map f2).toArray ++ Builtin.zeroCells zv.cells (C - n2)) := by
     have := gI (q1.mono hXd) (qO (φ := φ) (m := m) (w := w.drew) (Builtin.zeroCells zv.cells (C - n2)).toList)
     simpa using this
    obtain ⟨g1, g2, g3⟩ := qD (w₀ := w₀) hRd hFd hw e2 harr (by
     rw [List.all_append, q2, Bool.true_and, List.all_eq_true]
     intro a ha
     obtain ⟨v, _, rfl⟩ := List.mem_map.1 ha
     rfl) (fun o u hu => by
     rw [Array.getElem?_append] at hu
     split at hu
     ·rename_i hlt
      simp at hlt
      have : f2 o = u := by simpa [hlt] using hu
      rw [← this]
      exact q3 o hlt
     ·exact hz2 _ u hu)
    refine ⟨_, _, φ, .v (bS w.heap.size 0 n2 C), m, _, kM ho hc ha hat hxv hyv hrun, g1, hX.trans (hXd.trans g2), hE.mono (hXd.trans g2), .v _, g3, h w.heap.size C (Builtin.zeroCells zv.cells (C - n2)).toList hcap (fun p hp he => ?_) (by simp [hz1])⟩
    have := fY (hF p hp).1
    omega
   ·cases happ
  ·cases happ
end
end
section
section
variable {P : Program} {nt : Nat} {φ₀ : Phi} {m₀ : Mem} {w₀ : World}
/-- Which ones have come. -/
def l7 (a b c d : Nat) : Array Bool := #[decide (1 ≤ a), decide (2 ≤ a), decide (1 ≤ b), decide (1 ≤ c), decide (2 ≤ c), decide (1 ≤ d), decide (2 ≤ d)]
def r7 (a b c : Nat) : List Nat := (if a = 0 then [0] else if a = 1 then [1] else []) ++ (if b = 0 then [2] else []) ++ (if c = 0 then [3] else if c = 1 then [4] else [])
def R7 (ops : Array Oper) : Bool :=
 ((List.range 3).all fun a => (List.range 2).all fun b => (List.range 3).all fun c => Region.ready .any ops (l7 a b c 0) == (if a = 2 ∧ b = 1 ∧ c = 2 then [5] else r7 a b c)) && Region.ready .any ops (l7 2 1 2 1) == [6] && Region.ready .any ops (l7 2 1 2 2) == []
theorem mT {ops : Array Oper} (h : R7 ops = true) {a b c : Nat} (ha : a < 3) (hb : b < 2) (hc : c < 3) : Region.ready .any ops (l7 a b c 0) = (if a = 2 ∧ b = 1 ∧ c = 2 then [5] else r7 a b c) := by
 unfold R7 at h
 simp only [Bool.and_eq_true] at h
 have h1 := List.all_eq_true.1 h.1.1 a (List.mem_range.2 ha)
 have h2 := List.all_eq_true.1 h1 b (List.mem_range.2 hb)
 exact eq_of_beq (List.all_eq_true.1 h2 c (List.mem_range.2 hc))
theorem bXv (hm : P.follows .mixedOrders = true) {id : Nat} {o0 o1 o2 o3 o4 o5 o6 : Oper} {l2 : Option (List Nat)} {Q : iS} {e : Env} {m : Mem} {F : Objs} (hr : R7 [o0, o1, o2, o3, o4, o5, o6].toArray = true)
  (PI : Nat → Nat → Nat → Env → Mem → Objs → Prop) (PJ : Env → Mem → Objs → Prop)
  (s0 : ∀ b c e m F, PI 0 b c e m F → dF P φ₀ m₀ w₀ nt [o0, o1, o2, o3, o4, o5, o6].toArray o0 e m F (PI 1 b c))
  (s1 : ∀ b c e m F, PI 1 b c e m F → dF P φ₀ m₀ w₀ nt [o0, o1, o2, o3, o4, o5, o6].toArray o1 e m F (PI 2 b c))
  (s2 : ∀ a c e m F, PI a 0 c e m F → dF P φ₀ m₀ w₀ nt [o0, o1, o2, o3, o4, o5, o6].toArray o2 e m F (PI a 1 c))
  (s3 : ∀ a b e m F, PI a b 0 e m F → dF P φ₀ m₀ w₀ nt [o0, o1, o2, o3, o4, o5, o6].toArray o3 e m F (PI a b 1))
  (s4 : ∀ a b e m F, PI a b 1 e m F → dF P φ₀ m₀ w₀ nt [o0, o1, o2, o3, o4, o5, o6].toArray o4 e m F (PI a b 2))
  (s5 : ∀ e m F, PI 2 1 2 e m F → dF P φ₀ m₀ w₀ nt [o0, o1, o2, o3, o4, o5, o6].toArray o5 e m F PJ)
  (s6 : ∀ e m F, PJ e m F → dF P φ₀ m₀ w₀ nt [o0, o1, o2, o3, o4, o5, o6].toArray o6 e m F (fun e' m' F' => ∀ e2, Ev.restr l2 e' = e2 → Q .normal e2 m' F'))
  (h0 : PI 0 0 0 e m F) : bE P φ₀ m₀ w₀ nt (.region id [o0, o1, o2, o3, o4, o5, o6].toArray true) e m F Q := by
 refine cCs (n := 7) (l2 := l2) hm rfl ?_
 generalize hops : [o0, o1, o2, o3, o4, o5, o6].toArray = ops at hr s0 s1 s2 s3 s4 s5 s6 ⊢
 have g0 : ops.toList[0]? = some o0 := by rw [← hops]; rfl
 have g1 : ops.toList[1]? = some o1 := by rw [← hops]; rfl
 have g2 : ops.toList[2]? = some o2 := by rw [← hops]; rfl
 have g3 : ops.toList[3]? = some o3 := by rw [← hops]; rfl
 have g4 : ops.toList[4]? = some o4 := by rw [← hops]; rfl
 have g5 : ops.toList[5]? = some o5 := by rw [← hops]; rfl
 have g6 : ops.toList[6]? = some o6 := by rw [← hops]; rfl
 have z1 : Region.ready .any ops (l7 2 1 2 1) = [6] := by unfold R7 at hr; simp only [Bool.and_eq_true] at hr; exact eq_of_beq hr.1.2
 have z2 : Region.ready .any ops (l7 2 1 2 2) = [] := by unfold R7 at hr; simp only [Bool.and_eq_true] at hr; exact eq_of_beq hr.2
 have k6 : ∀ e m F, PJ e m F → eC P φ₀ m₀ w₀ nt ops 1 (l7 2 1 2 1) e m F (fun e' m' F' => ∀ e2, Ev.restr l2 e' = e2 → Q .normal e2 m' F') := fun e m F h =>
  qV z1 g6 (listed1 := l7 2 1 2 2) rfl (bK (s6 e m F h) fun e m F h => bJ6 z2 h)
 have k212 : ∀ e m F, PI 2 1 2 e m F → eC P φ₀ m₀ w₀ nt ops 2 (l7 2 1 2 0) e m F (fun e' m' F' => ∀ e2, Ev.restr l2 e' = e2 → Q .normal e2 m' F') := fun e m F h =>
  qV (mT hr (Nat.lt_succ_self 2) (Nat.lt_succ_self 1) (Nat.lt_succ_self 2)) g5 (listed1 := l7 2 1 2 1) rfl (bK (s5 e m F h) k6)
 have k112 : ∀ e m F, PI 1 1 2 e m F → eC P φ₀ m₀ w₀ nt ops 3 (l7 1 1 2 0) e m F (fun e' m' F' => ∀ e2, Ev.restr l2 e' = e2 → Q .normal e2 m' F') := fun e m F h =>
  qV (mT hr (by decide) (by decide) (by decide)) g1 (listed1 := l7 2 1 2 0) rfl (bK (s1 1 2 e m F h) k212)
 have k202 : ∀ e m F, PI 2 0 2 e m F → eC P φ₀ m₀ w₀ nt ops 3 (l7 2 0 2 0) e m F (fun e' m' F' => ∀ e2, Ev.restr l2 e' = e2 → Q .normal e2 m' F') := fun e m F h =>
  qV (mT hr (by decide) (by decide) (by decide)) g2 (listed1 := l7 2 1 2 0) rfl (bK (s2 2 2 e m F h) k212)
 have k211 : ∀ e m F, PI 2 1 1 e m F → eC P φ₀ m₀ w₀ nt ops 3 (l7 2 1 1 0) e m F (fun e' m' F' => ∀ e2, Ev.restr l2 e' = e2 → Q .normal e2 m' F') := fun e m F h =>
  qV (mT hr (by decide) (by decide) (by decide)) g4 (listed1 := l7 2 1 2 0) rfl (bK (s4 2 1 e m F h) k212)
 have k012 : ∀ e m F, PI 0 1 2 e m F → eC P φ₀ m₀ w₀ nt ops 4 (l7 0 1 2 0) e m F (fun e' m' F' => ∀ e2, Ev.restr l2 e' = e2 → Q .normal e2 m' F') := fun e m F h =>
  qV (mT hr (by decide) (by decide) (by decide)) g0 (listed1 := l7 1 1 2 0) rfl (bK (s0 1 2 e m F h) k112)
 have k102 : ∀ e m F, PI 1 0 2 e m F → eC P φ₀ m₀ w₀ nt ops 4 (l7 1 0 2 0) e m F (fun e' m' F' => ∀ e2, Ev.restr l2 e' = e2 → Q .normal e2 m' F') := fun e m F h =>
  oO (mT hr (by decide) (by decide) (by decide)) g1 (listed1 := l7 2 0 2 0) rfl g2 (listed2 := l7 1 1 2 0) rfl (bK (s1 0 2 e m F h) k202) (bK (s2 1 2 e m F h) k112)
 have k111 : ∀ e m F, PI 1 1 1 e m F → eC P φ₀ m₀ w₀ nt ops 4 (l7 1 1 1 0) e m F (fun e' m' F' => ∀ e2, Ev.restr l2 e' = e2 → Q .normal e2 m' F') := fun e m F h =>
  oO (mT hr (by decide) (by decide) (by decide)) g1 (listed1 := l7 2 1 1 0) rfl g4 (listed2 := l7 1 1 2 0) rfl (bK (s1 1 1 e m F h) k211) (bK (s4 1 1 e m F h) k112)
 have k201 : ∀ e m F, PI 2 0 1 e m F → eC P φ₀ m₀ w₀ nt ops 4 (l7 2 0 1 0) e m F (fun e' m' F' => ∀ e2, Ev.restr l2 e' = e2 → Q .normal e2 m' F') := fun e m F h =>
  oO (mT hr (by decide) (by decide) (by decide)) g2 (listed1 := l7 2 1 1 0) rfl g4 (listed2 := l7 2 0 2 0) rfl (bK (s2 2 1 e m F h) k211) (bK (s4 2 0 e m F h) k202)
 have k210 : ∀ e m F, PI 2 1 0 e m F → eC P φ₀ m₀ w₀ nt ops 4 (l7 2 1 0 0) e m F (fun e' m' F' => ∀ e2, Ev.restr l2 e' = e2 → Q .normal e2 m' F') := fun e m F h =>
  qV (mT hr (by decide) (by decide) (by decide)) g3 (listed1 := l7 2 1 1 0) rfl (bK (s3 2 1 e m F h) k211)
 have k002 : ∀ e m F, PI 0 0 2 e m F → eC P φ₀ m₀ w₀ nt ops 5 (l7 0 0 2 0) e m F (fun e' m' F' => ∀ e2, Ev.restr l2 e' = e2 → Q .normal e2 m' F') := fun e m F h =>
  oO (mT hr (by decide) (by decide) (by decide)) g0 (listed1 := l7 1 0 2 0) rfl g2 (listed2 := l7 0 1 2 0) rfl (bK (s0 0 2 e m F h) k102) (bK (s2 0 2 e m F h) k012)
 have k011 : ∀ e m F, PI 0 1 1 e m F → eC P φ₀ m₀ w₀ nt ops 5 (l7 0 1 1 0) e m F (fun e' m' F' => ∀ e2, Ev.restr l2 e' = e2 → Q .normal e2 m' F') := fun e m F h =>
  oO (mT hr (by decide) (by decide) (by decide)) g0 (listed1 := l7 1 1 1 0) rfl g4 (listed2 := l7 0 1 2 0) rfl (bK (s0 1 1 e m F h) k111) (bK (s4 0 1 e m F h) k012)
 have k101 : ∀ e m F, PI 1 0 1 e m F → eC P φ₀ m₀ w₀ nt ops 5 (l7 1 0 1 0) e m F (fun e' m' F' => ∀ e2, Ev.restr l2 e' = e2 → Q .normal e2 m' F') := fun e m F h =>
  wS (mT hr (by decide) (by decide) (by decide)) g1 (listed1 := l7 2 0 1 0) rfl g2 (listed2 := l7 1 1 1 0) rfl g4 (listed3 := l7 1 0 2 0) rfl (bK (s1 0 1 e m F h) k201) (bK (s2 1 1 e m F h) k111) (bK (s4 1 0 e m F h) k102)
 have k110 : ∀ e m F, PI 1 1 0 e m F → eC P φ₀ m₀ w₀ nt ops 5 (l7 1 1 0 0) e m F (fun e' m' F' => ∀ e2, Ev.restr l2 e' = e2 → Q .normal e2 m' F') := fun e m F h =>
  oO (mT hr (by decide) (by decide) (by decide)) g1 (listed1 := l7 2 1 0 0) rfl g3 (listed2 := l7 1 1 1 0) rfl (bK (s1 1 0 e m F h) k210) (bK (s3 1 1 e m F h) k111)
 have k200 : ∀ e m F, PI 2 0 0 e m F → eC P φ₀ m₀ w₀ nt ops 5 (l7 2 0 0 0) e m F (fun e' m' F' => ∀ e2, Ev.restr l2 e' = e2 → Q .normal e2 m' F') := fun e m F h =>
  oO (mT hr (by decide) (by decide) (by decide)) g2 (listed1 := l7 2 1 0 0) rfl g3 (listed2 := l7 2 0 1 0) rfl (bK (s2 2 0 e m F h) k210) (bK (s3 2 0 e m F h) k201)
 have k001 : ∀ e m F, PI 0 0 1 e m F → eC P φ₀ m₀ w₀ nt ops 6 (l7 0 0 1 0) e m F (fun e' m' F' => ∀ e2, Ev.restr l2 e' = e2 → Q .normal e2 m' F') := fun e m F h =>
  wS (mT hr (by decide) (by decide) (by decide)) g0 (listed1 := l7 1 0 1 0) rfl g2 (listed2 := l7 0 1 1 0) rfl g4 (listed3 := l7 0 0 2 0) rfl (bK (s0 0 1 e m F h) k101) (bK (s2 0 1 e m F h) k011) (bK (s4 0 0 e m F h) k002)
 have k010 : ∀ e m F, PI 0 1 0 e m F → eC P φ₀ m₀ w₀ nt ops 6 (l7 0 1 0 0) e m F (fun e' m' F' => ∀ e2, Ev.restr l2 e' = e2 → Q .normal e2 m' F') := fun e m F h =>
  oO (mT hr (by decide) (by decide) (by decide)) g0 (listed1 := l7 1 1 0 0) rfl g3 (listed2 := l7 0 1 1 0) rfl (bK (s0 1 0 e m F h) k110) (bK (s3 0 1 e m F h) k011)
 have k100 : ∀ e m F, PI 1 0 0 e m F → eC P φ₀ m₀ w₀ nt ops 6 (l7 1 0 0 0) e m F (fun e' m' F' => ∀ e2, Ev.restr l2 e' = e2 → Q .normal e2 m' F') := fun e m F h =>
  wS (mT hr (by decide) (by decide) (by decide)) g1 (listed1 := l7 2 0 0 0) rfl g2 (listed2 := l7 1 1 0 0) rfl g3 (listed3 := l7 1 0 1 0) rfl (bK (s1 0 0 e m F h) k200) (bK (s2 1 0 e m F h) k110) (bK (s3 1 0 e m F h) k101)
 have k000 : ∀ e m F, PI 0 0 0 e m F → eC P φ₀ m₀ w₀ nt ops 7 (l7 0 0 0 0) e m F (fun e' m' F' => ∀ e2, Ev.restr l2 e' = e2 → Q .normal e2 m' F') := fun e m F h =>
  wS (mT hr (by decide) (by decide) (by decide)) g0 (listed1 := l7 1 0 0 0) rfl g2 (listed2 := l7 0 1 0 0) rfl g3 (listed3 := l7 0 0 1 0) rfl (bK (s0 0 0 e m F h) k100) (bK (s2 0 0 e m F h) k010) (bK (s3 0 0 e m F h) k001)
 exact k000 e m F h0
end
end
section
section
variable {P : Program} {nt : Nat} {φ₀ : Phi} {m₀ : Mem} {w₀ : World} {ops : Array Oper} {e e1 : Env} {m : Mem} {F : Objs} {K : Env → Mem → Objs → Prop} {o : Oper}
variable {κ : Type} [DecidableEq κ] {enc : κ → Value} {kt et mt : TypeId} {w : World}
structure KeyOkN (P : Program) (kt : TypeId) (κ : Type) [DecidableEq κ] (enc : κ → Value) : Prop where
 ck : ∀ em k w, (Instr.checkKey em 10000 kt (enc k)).run P w = .ok () w
 now : ∃ d, P.underlying kt = some d ∧ ∀ a b, Instr.sameNow d (enc a) (enc b) = some (decide (a = b))
 stay : ∀ k, Instr.sameBits 10000 (enc k) (enc k) = true
theorem aIu {d : TypeDesc} (h : ∀ a b, Instr.sameNow d (enc a) (enc b) = some (decide (a = b))) (k : κ) : ∀ (l : List (κ × Value)) (j i : Nat), Instr.findNow d (enc k) (zY enc j l) i = some (rB k l i)
 | [], j, i => rfl
 | (q, v) :: r, j, i => by
  unfold zY Instr.findNow rB
  rw [h k q]
  by_cases hq : k = q
  ·simp only [hq, decide_true, if_true]
  ·simp only [hq, decide_false, Bool.false_eq_true, if_false]
   exact aIu h k r (j + 1) (i + 1)
theorem aEm (hk : KeyOkN P kt κ enc) (k : κ) (l : List (κ × Value)) : (Instr.findKey kt (enc k) (zY enc 0 l)).run P w = .ok (rB k l 0) w := by
 obtain ⟨d, hd, h⟩ := hk.now
 unfold Instr.findKey
 simp only [Sem.run_bind, run_underlying hd, Result.andThen, aIu h k l 0 0]
 rfl
theorem aXw (hk : KeyOkN P kt κ enc) (hm : P.underlying mt = some (.map kt et)) {z : Value} (hz : ∀ w, (zeroValue et).run P w = .ok z w) {b : Nat} {l : List (κ × Value)} (hb : w.heap[b]? = some (bB4 enc l)) (k : κ) :
  (Instr.lookup mt (.map (some b)) (enc k) false).run P w = .ok (aCn z k l) w := by
 unfold Instr.lookup aCn
 simp only [Sem.run_bind, run_underlying hm, Result.andThen, getObj, Sem.run, hb, bB4]
 have h1 := aEm (w := w) hk k l
 cases hp : rB k l 0 with
 | none =>
  rw [hp] at h1
  simp_all [Sem.run_bind, Result.andThen, Sem.run, hk.ck]
 | some p =>
  rw [hp] at h1
  simp_all [Sem.run_bind, Result.andThen, Sem.run, hk.ck]
theorem bDg (hk : KeyOkN P kt κ enc) (k : κ) : (Instr.keyThatStays (enc k) (enc k)).run P w = .ok (enc k) w := by
 unfold Instr.keyThatStays
 rw [hk.stay k]
 rfl
theorem aMa (hk : KeyOkN P kt κ enc) (hm : P.underlying mt = some (.map kt et)) {z : Value} (hz : ∀ w, (zeroValue et).run P w = .ok z w) {b : Nat} {l : List (κ × Value)} (hb : (b, aGi enc l) ∈ F) (k : κ) {x y : Operand}
  (hg : wantedAV ops e o = some true) (ho : o.op = .lookup mt x y false) (hx : opd P e mt x = .v (.map (some b))) {t : TypeId} (hy : bMy (opd P e t y) = some (enc k)) (hp : putAV nt o.dst (.v (aCn z k l)) e = some e1) (h : K e1 m F) : dF P φ₀ m₀ w₀ nt ops o e m F K :=
 aDo hg hp (fun φ a w _ hE hF => by
  refine ⟨aCn z k l, ?_, .v _⟩
  unfold execOp
  rw [ho]
  have h1 : a.eval x = .map (some b) := yZ (P := P) hE (t := mt) (by rw [hx]; rfl)
  have h2 : a.eval y = enc k := yZ (P := P) hE hy
  simp only [h1, h2]
  rw [Sem.run_bind, aXw hk hm hz (hF _ hb).1 k]
  rfl) h
theorem aXz (hk : KeyOkN P kt κ enc) (hm : P.underlying mt = some (.map kt et)) {b : Nat} {l : List (κ × Value)} (hb : w.heap[b]? = some (bB4 enc l)) (k : κ) (v : Value) :
  (Instr.mapUpdate mt (.map (some b)) (enc k) v).run P w = .ok () (cY w b (bB4 enc (aB6 k v l))) := by
 have hck := hk.ck false k w
 unfold Instr.mapUpdate
 simp only [Sem.run_bind, run_underlying hm, Result.andThen, getObj, Sem.run, hb, bB4, hck]
 have h1 := aEm (w := w) hk k l
 cases hp : rB k l 0 with
 | none =>
  rw [hp] at h1
  rw [h1, aQs hp]
  simp [Sem.run_bind, Result.andThen, Sem.run, setObj, cY, aXt, zY]
  rw [hb]
  rfl
 | some p =>
  obtain ⟨i, u⟩ := p
  rw [hp] at h1
  obtain ⟨_, h2⟩ := aHu hp
  rw [Nat.sub_zero] at h2
  have h3 : (zY enc 0 l)[i]? = some { key := enc k, val := u, born := i } := by rw [aGh, h2]; simp
  rw [h1, aX1 hp, Nat.sub_zero]
  have hst := bDg (P := P) (w := w) hk k
  have hil := (List.getElem?_eq_some_iff.1 h2).1
  have hmod : (zY enc 0 l).toArray.modify i (fun e => { e with key := enc k, val := v }) = (zY enc 0 (bJ2 l i v)).toArray := by
   apply Array.ext'
   simp only [Array.toList_modify]
   apply List.ext_getElem?
   intro j
   rw [List.getElem?_modify, aGh, aGh]
   unfold bJ2
   rw [List.getElem?_modify]
   by_cases hij : i = j
   ·subst hij
    rw [h2]
    simp
   ·cases l[j]? with
    | none => simp
    | some q => simp [hij]
  simp only [List.getElem?_toArray, h3, Option.map_some, Option.getD_some, Sem.run_bind, hst, Result.andThen, Sem.run, setObj, hmod]
  rw [hb]
  simp [bJ2, cY, bB4]
theorem bBx (hk : KeyOkN P kt κ enc) (hm : P.underlying mt = some (.map kt et)) {b : Nat} {l : List (κ × Value)} (hb : (b, aGi enc l) ∈ F) (k : κ) {v : Value} {x y z : Operand} {t t2 : TypeId} (hg : wantedAV ops e o = some true)
  (hd : o.dst = none) (ho : o.op = .mapUpdate mt x y z) (hx : opd P e mt x = .v (.map (some b))) (hy : bMy (opd P e t y) = some (enc k)) (hz : opd P e t2 z = .v v) (h : K e m (eS F b (aGi enc (aB6 k v l)))) : dF P φ₀ m₀ w₀ nt ops o e m F K :=
 bTc hg hd hb (fun φ a w _ hE hF => by
  unfold execOp
  rw [ho]
  have h1 : a.eval x = .map (some b) := yZ (P := P) hE (t := mt) (by rw [hx]; rfl)
  have h2 : a.eval y = enc k := yZ (P := P) hE hy
  have h3 : a.eval z = v := yZ (P := P) hE (t := t2) (by rw [hz]; rfl)
  simp only [h1, h2, h3]
  rw [Sem.run_bind, aXz hk hm (hF _ hb).1 k v]
  rfl) h
theorem bU2 (hd : P.underlying kt = some (.int .i64)) : KeyOkN P kt Int fun n => .int .i64 n where
 ck em k w := by
  unfold Instr.checkKey
  simp [Sem.run_bind, run_underlying hd, Result.andThen]
 now := ⟨_, hd, fun a b => by
  unfold Instr.sameNow
  by_cases h : a = b <;> simp [h]⟩
 stay k := by
  unfold Instr.sameBits
  simp
end
end
end Go.Proofs.YtmockbddhhmmeaaGreat.Ev

/- Operations in an order that is drawn: what one looks at, what it leaves alone; the trace of the text's order. -/
import Derived.Test.YtojaokhkbmiidaaEv14
namespace Go.Proofs.Ytojaokhkbmiidaa.Ev
open Go
set_option linter.unusedVariables false
set_option linter.unusedSimpArgs false

/-! ### what an operation looks at -/
theorem evOp_congr {P : Program} {call : CallF} {e e' : Env} {m : Mem} {o : Oper} (h : ∀ x, x ∈ o.op.operands.toList → ∀ t, opd P e t x = opd P e' t x) :
    evOp P call e m o = evOp P call e' m o := by
  cases ho : o.op <;> simp only [ho, Op.operands] at h <;> simp only [evOp, ho]
  case move x => rw [h x (by simp)]
  case assign x => rw [h x (by simp)]
  case pick c a b => rw [h c (by simp), h a (by simp), h b (by simp)]
  case box t x => rw [h x (by simp)]
  case build t ps =>
    have : (ps.toList.map fun (i, x) => (i, opd P e (fieldTy P t i) x)) = ps.toList.map fun (i, x) => (i, opd P e' (fieldTy P t i) x) :=
      List.map_congr_left fun p hp => by show (p.1, opd P e _ p.2) = (p.1, opd P e' _ p.2); rw [h p.2 (by simp; exact ⟨p.1, by simpa using hp⟩)]
    rw [this]
  case buildSlice t n ps =>
    have : (ps.toList.map fun (i, x) => (i, opd P e (fieldTy P t i) x)) = ps.toList.map fun (i, x) => (i, opd P e' (fieldTy P t i) x) :=
      List.map_congr_left fun p hp => by show (p.1, opd P e _ p.2) = (p.1, opd P e' _ p.2); rw [h p.2 (by simp; exact ⟨p.1, by simpa using hp⟩)]
    rw [this]
  case load t x => rw [h x (by simp)]
  case store t x y => rw [h x (by simp), h y (by simp)]
  case nilCheck x => rw [h x (by simp)]
  case binOp op t x y b => rw [h x (by simp), h y (by simp)]
  case unOp op t x => rw [h x (by simp)]
  case convert s d x => rw [h x (by simp)]
  case makeFunc f a b =>
    have h1 : a.toList.map (opd P e o.type) = a.toList.map (opd P e' o.type) := List.map_congr_left fun x hx => h x (by simp at hx ⊢; exact .inl hx) _
    have h2 : b.toList.map (opd P e o.type) = b.toList.map (opd P e' o.type) := List.map_congr_left fun x hx => h x (by simp at hx ⊢; exact .inr hx) _
    rw [h1, h2]
  case makeSlice t x y => rw [h x (by simp), h y (by simp)]
  case slice t x lo hi mx =>
    have h1 : lo.map (opd P e o.type) = lo.map (opd P e' o.type) := by cases lo <;> simp; exact h _ (by simp) _
    have h2 : hi.map (opd P e o.type) = hi.map (opd P e' o.type) := by cases hi <;> simp; exact h _ (by simp) _
    have h3 : mx.map (opd P e o.type) = mx.map (opd P e' o.type) := by cases mx <;> simp; exact h _ (by simp) _
    rw [h x (by simp), h1, h2, h3]
  case fieldAddr t x i => rw [h x (by simp)]
  case field t x i => rw [h x (by simp)]
  case indexAddr t x i => rw [h x (by simp), h i (by simp)]
  case index t x i => rw [h x (by simp), h i (by simp)]
  case extract x i => rw [h x (by simp)]
  case call c =>
    have hz : List.zipWith (opd P e) c.argTypes.toList c.args.toList = List.zipWith (opd P e') c.argTypes.toList c.args.toList := by
      apply List.ext_getElem?
      intro i
      simp only [List.getElem?_zipWith]
      cases h1 : c.argTypes.toList[i]? with
      | none => rfl
      | some t =>
        cases h2 : c.args.toList[i]? with
        | none => rfl
        | some x =>
          have hx : x ∈ c.args.toList := List.mem_of_getElem? h2
          simp only []
          rw [h x (by simp only [Call.operands]; cases c.callee <;> simp at hx ⊢ <;> first | exact hx | exact .inr hx)]
    split
    · cases hc : c.callee with
      | builtin b => simp only [hz]
      | value f => simp only [hz]; rw [h f (by simp [Call.operands, hc])]
      | invoke r n => rfl
    · rfl

/-- What reads no memory and is no call: the memory is all one to it. -/
theorem evOp_n {P : Program} {call : CallF} {e : Env} {m m' : Mem} {o : Oper} {a : AV} (h : evOp P call e m o = some (a, m')) (hn : clsOf P o = .n) :
    m' = m ∧ ∀ m2, evOp P call e m2 o = some (a, m2) := by
  have pure' : ∀ {x : Option AV} {y : AV × Mem}, x.map (·, m) = some y → y.2 = m ∧ ∀ m2 : Mem, x.map (·, m2) = some (y.1, m2) := by
    intro x y hy
    cases x with
    | none => simp at hy
    | some x => simp only [Option.map_some, Option.some.injEq] at hy; subst hy; exact ⟨rfl, fun m2 => rfl⟩
  have some' : ∀ {x : AV} {y : AV × Mem}, some (x, m) = some y → y.2 = m ∧ ∀ m2 : Mem, some (x, m2) = some (y.1, m2) := by
    intro x y hy
    simp only [Option.some.injEq] at hy; subst hy; exact ⟨rfl, fun m2 => rfl⟩
  unfold clsOf at hn
  unfold evOp at h ⊢
  dsimp only at h ⊢
  split at h <;> rename_i hop <;> (try (rw [hop] at hn; simp only [reduceCtorEq] at hn))
  case h_1 => simpa only [hop] using some' h
  case h_2 => simpa only [hop] using some' h
  case h_3 c x y =>
    split at h
    · rename_i t ht
      simpa only [hop, ht] using some' h
    · cases h
  case h_6 => simpa only [hop] using pure' h
  case h_7 => simpa only [hop] using pure' h
  case h_10 x =>
    split at h
    · rename_i hx; simpa only [hop, hx] using some' h
    · rename_i hx; simpa only [hop, hx] using some' h
    · rename_i hx; simpa only [hop, hx] using some' h
    · cases h
  case h_11 => simpa only [hop] using pure' h
  case h_12 => simpa only [hop] using pure' h
  case h_14 => simpa only [hop] using some' h
  case h_16 t x lo hi mx =>
    split at hn
    · cases hn
    · rename_i ht
      have e2 : ∀ m2, evSlice P m2 t (opd P e t x) (lo.map (opd P e o.type)) (hi.map (opd P e o.type)) (mx.map (opd P e o.type)) =
          evSlice P m t (opd P e t x) (lo.map (opd P e o.type)) (hi.map (opd P e o.type)) (mx.map (opd P e o.type)) := by
        intro m2
        unfold evSlice
        cases hta : tArr P t with
        | some q => simp [hta] at ht
        | none => split <;> simp
      have := pure' h
      simp only [hop, e2]
      exact this
  case h_17 => simpa only [hop] using pure' h
  case h_18 => simpa only [hop] using pure' h
  case h_19 => simpa only [hop] using pure' h
  case h_20 => simpa only [hop] using pure' h
  case h_21 x i =>
    split at h
    · rename_i hx; simpa only [hop, hx] using pure' h
    · cases h
  case h_22 c =>
    split at h
    · rename_i hsz
      simp only [hop, hsz, if_true]
      split at h
      · rename_i b hb
        unfold evBuiltin at h ⊢
        split at h
        · rename_i he; simpa only [he] using pure' h
        · exact pure' h
        · exact pure' h
        · rw [hb] at hn; simp only [reduceCtorEq] at hn
        · cases h
      · rename_i f hf; rw [hf] at hn; simp only [reduceCtorEq] at hn
      · cases h
    · cases h
  case h_23 => cases h
/-- What reads: the memory stays. -/
theorem evOp_rd {P : Program} {call : CallF} {e : Env} {m m' : Mem} {o : Oper} {a : AV} (h : evOp P call e m o = some (a, m')) (hn : clsOf P o = .rd) : m' = m := by
  have pure' : ∀ {x : Option AV} {y : AV × Mem}, x.map (·, m) = some y → y.2 = m := by
    intro x y hy
    cases x with
    | none => simp at hy
    | some x => simp only [Option.map_some, Option.some.injEq] at hy; subst hy; rfl
  unfold clsOf at hn
  unfold evOp at h
  dsimp only at h
  split at h <;> rename_i hop <;> (try (rw [hop] at hn; simp only [reduceCtorEq] at hn)) <;> first | exact pure' h | skip
  case h_22 c =>
    cases hc : c.callee with
    | builtin b => rw [hc] at hn; cases b <;> cases hn
    | value f => rw [hc] at hn; cases hn
    | invoke r n => rw [hc] at hn; cases hn
  case h_23 => cases h

/-! ### the trace -/
def OpStep (P : Program) (call : CallF) (nt : Nat) (ops : Array Oper) (pu : Bool) (o : Oper) (e : Env) (m : Mem) (a : AV) (e' : Env) (m' : Mem) : Prop :=
  putAV nt o.dst a e = some e' ∧
    ((wantedAV ops e o = some true ∧ keeps P pu o m (evOp P call e m o) = some (a, m')) ∨ (wantedAV ops e o = some false ∧ a = .v (.tuple #[]) ∧ m' = m))
theorem evOps_trace {P : Program} {call : CallF} {nt : Nat} {ops : Array Oper} {pu : Bool} : ∀ (l : List Oper) (e : Env) (m : Mem) (e' : Env) (m' : Mem), evOps P call nt ops pu l e m = some (e', m') →
    ∃ (E : Nat → Env) (M : Nat → Mem) (A : Nat → AV), E 0 = e ∧ M 0 = m ∧ E l.length = e' ∧ M l.length = m' ∧ ∀ (k : Nat) o, l[k]? = some o → OpStep P call nt ops pu o (E k) (M k) (A k) (E (k + 1)) (M (k + 1))
  | [], e, m, e', m', h => by
    simp only [evOps, Option.some.injEq, Prod.mk.injEq] at h
    exact ⟨fun _ => e, fun _ => m, fun _ => .junk, rfl, rfl, h.1, h.2, fun k o hk => by simp at hk⟩
  | o :: rest, e, m, e', m', h => by
    have cons : ∀ a e1 m1, OpStep P call nt ops pu o e m a e1 m1 → evOps P call nt ops pu rest e1 m1 = some (e', m') →
        ∃ (E : Nat → Env) (M : Nat → Mem) (A : Nat → AV), E 0 = e ∧ M 0 = m ∧ E (o :: rest).length = e' ∧ M (o :: rest).length = m' ∧ ∀ (k : Nat) o', (o :: rest)[k]? = some o' → OpStep P call nt ops pu o' (E k) (M k) (A k) (E (k + 1)) (M (k + 1)) := by
      intro a e1 m1 hs h1
      obtain ⟨E, M, A, hE, hM, hE', hM', hk⟩ := evOps_trace rest e1 m1 e' m' h1
      refine ⟨fun | 0 => e | k + 1 => E k, fun | 0 => m | k + 1 => M k, fun | 0 => a | k + 1 => A k, rfl, rfl, hE', hM', fun k o' ho => ?_⟩
      cases k with
      | zero =>
        simp only [List.getElem?_cons_zero, Option.some.injEq] at ho
        subst ho
        show OpStep P call nt ops pu o e m a (E 0) (M 0)
        rw [hE, hM]
        exact hs
      | succ k => exact hk k o' (by simpa using ho)
    unfold evOps at h
    split at h
    · cases h
    · rename_i hw
      split at h
      · rename_i av m1 hk
        split at h
        · rename_i e1 hp
          exact cons av e1 m1 ⟨hp, .inl ⟨hw, hk⟩⟩ h
        · cases h
      · cases h
    · rename_i hw
      split at h
      · rename_i e1 hp
        exact cons _ e1 m ⟨hp, .inr ⟨hw, rfl, rfl⟩⟩ h
      · cases h

/-! ### who comes ahead of whom -/
theorem fold_bit (acc : List Nat) : ∀ (es : List Edge) (s i : Nat),
    (es.foldl (fun s e => if Region.binds .any e = true then s ||| (2 ^ e.on ||| acc.getD e.on 0) else s) s).testBit i = true →
    s.testBit i = true ∨ ∃ e ∈ es, Region.binds .any e = true ∧ (e.on = i ∨ (acc.getD e.on 0).testBit i = true)
  | [], s, i, h => .inl h
  | e :: es, s, i, h => by
    rw [List.foldl_cons] at h
    rcases fold_bit acc es _ i h with h1 | ⟨e', he, hb, hh⟩
    · split at h1
      · rename_i hb
        rw [Nat.testBit_or, Nat.testBit_or, Bool.or_eq_true, Bool.or_eq_true, Nat.testBit_two_pow, decide_eq_true_eq] at h1
        rcases h1 with h1 | h1
        · exact .inl h1
        · exact .inr ⟨e, List.mem_cons_self .., hb, h1⟩
      · exact .inl h1
    · exact .inr ⟨e', List.mem_cons_of_mem _ he, hb, hh⟩
theorem masks_app : ∀ (l : List Oper) (acc : List Nat), ∃ r, masks l acc = acc ++ r
  | [], acc => ⟨[], by simp [masks]⟩
  | o :: l, acc => by
    obtain ⟨r, hr⟩ := masks_app l (acc ++ [maskOf o acc])
    exact ⟨maskOf o acc :: r, by rw [masks, hr]; simp⟩
theorem masks_at : ∀ (l : List Oper) (acc : List Nat) (j : Nat) (o : Oper), l[j]? = some o →
    ∃ pre, pre.length = acc.length + j ∧ (∃ r, masks l acc = pre ++ r) ∧ (masks l acc).getD (acc.length + j) 0 = maskOf o pre
  | [], _, j, o, h => by simp at h
  | o' :: l, acc, 0, o, h => by
    simp only [List.getElem?_cons_zero, Option.some.injEq] at h
    subst h
    obtain ⟨r, hr⟩ := masks_app l (acc ++ [maskOf o' acc])
    refine ⟨acc, rfl, ⟨maskOf o' acc :: r, by rw [masks, hr]; simp⟩, ?_⟩
    rw [masks, hr]
    simp [List.getD_eq_getElem?_getD]
  | o' :: l, acc, j + 1, o, h => by
    obtain ⟨pre, h1, h2, h3⟩ := masks_at l (acc ++ [maskOf o' acc]) j o (by simpa using h)
    refine ⟨pre, by simp at h1; omega, by rw [masks]; exact h2, ?_⟩
    rw [masks, ← h3]
    congr 1
    simp; omega
/-- If all that binds is listed ahead, then so is all that the row of bits holds. -/
theorem mask_listed {l : List Oper} {S : Nat → Prop} (hb : ∀ (j : Nat) o, l[j]? = some o → ∀ e ∈ o.after.toList, Region.binds .any e = true → e.on < j)
    (hc : ∀ (j : Nat) o, l[j]? = some o → S j → ∀ e ∈ o.after.toList, Region.binds .any e = true → S e.on) :
    ∀ (j : Nat) o, l[j]? = some o → (∀ e ∈ o.after.toList, Region.binds .any e = true → S e.on) → ∀ i, ((masks l []).getD j 0).testBit i = true → S i := by
  intro j
  induction j using Nat.strongRecOn with
  | _ j ih =>
    intro o ho hp i hi
    obtain ⟨pre, hl, ⟨r, hr⟩, he⟩ := masks_at l [] j o ho
    simp only [List.length_nil, Nat.zero_add] at hl he
    rw [he, maskOf] at hi
    rcases fold_bit pre _ 0 i hi with h0 | ⟨e, hm, hbi, h1⟩
    · simp at h0
    · have hlt := hb j o ho e hm hbi
      have hS := hp e hm hbi
      rcases h1 with rfl | h1
      · exact hS
      · have hjl : j < l.length := (List.getElem?_eq_some_iff.mp ho).1
        have hq : l[e.on]? = some l[e.on] := List.getElem?_eq_getElem (by omega)
        refine ih e.on hlt _ hq (hc e.on _ hq hS) i ?_
        rw [hr, List.getD_eq_getElem?_getD, List.getElem?_append_left (by omega), ← List.getD_eq_getElem?_getD]
        exact h1
end Go.Proofs.Ytojaokhkbmiidaa.Ev

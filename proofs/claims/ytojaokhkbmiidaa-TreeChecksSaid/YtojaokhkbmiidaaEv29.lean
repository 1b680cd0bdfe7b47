/- The evaluator as a program that the kernel can run: what it finds, the evaluator finds. -/
import Derived.Test.YtojaokhkbmiidaaEv20
namespace Go.Proofs.Ytojaokhkbmiidaa.Ev
open Go
set_option linter.unusedVariables false
set_option linter.unusedSimpArgs false
/-! ### are two things the same? (where that can be told) -/
def both : Option Bool → Option Bool → Option Bool
  | some false, _ => some false
  | some true, q => q
  | none, some false => some false
  | none, _ => none
theorem both_true {p q : Option Bool} (h : both p q = some true) : p = some true ∧ q = some true := by
  unfold both at h
  split at h
  · cases h
  · exact ⟨rfl, h⟩
  · cases h
  · cases h
theorem both_false {p q : Option Bool} (h : both p q = some false) : p = some false ∨ q = some false := by
  unfold both at h
  split at h
  · exact .inl rfl
  · exact .inr h
  · exact .inr rfl
  · cases h
def valQ : Value → Value → Option Bool
  | .int k a, .int k' b => some (decide (k = k') && decide (a = b))
  | .bool a, .bool b => some (decide (a = b))
  | .string a, .string b => some (decide (a = b))
  | _, _ => none
theorem valQ_spec {x y : Value} {b : Bool} (h : valQ x y = some b) : b = true ↔ x = y := by
  unfold valQ at h
  split at h
  · cases h; simp
  · cases h; simp
  · cases h; simp
  · cases h
def listQ {α : Type} (q : α → α → Option Bool) : List α → List α → Option Bool
  | [], [] => some true
  | a :: as, b :: bs => both (q a b) (listQ q as bs)
  | _, _ => some false
theorem listQ_spec {α : Type} {q : α → α → Option Bool} (hq : ∀ a b r, q a b = some r → (r = true ↔ a = b)) : ∀ {l l2 : List α} {r : Bool}, listQ q l l2 = some r → (r = true ↔ l = l2)
  | [], [], r, h => by cases h; simp
  | a :: l, b :: l2, r, h => by
    unfold listQ at h
    cases r with
    | true =>
      obtain ⟨h1, h2⟩ := both_true h
      simp [(hq a b _ h1).1 rfl, (listQ_spec hq h2).1 rfl]
    | false =>
      simp only [Bool.false_eq_true, false_iff, List.cons.injEq, not_and]
      rintro rfl rfl
      rcases both_false h with h1 | h1
      · exact absurd ((hq a a _ h1).2 rfl) (by simp)
      · exact absurd ((listQ_spec hq h1).2 rfl) (by simp)
  | [], _ :: _, r, h => by cases h; simp
  | _ :: _, [], r, h => by cases h; simp
def avQ : Nat → AV → AV → Option Bool
  | 0, _, _ => none
  | d + 1, a, b =>
    match a, b with
    | .junk, .junk => some true
    | .v x, .v y => valQ x y
    | .agg x, .agg y => listQ (avQ d) x y
    | .lst g s x, .lst g' s' y => both (some (decide (g = g') && decide (s = s'))) (listQ (listQ (avQ d)) x y)
    | .ptr r o, .ptr r' o' => some (decide (r = r') && decide (o = o'))
    | .v _, .lst _ _ _ => some false
    | .lst _ _ _, .v _ => some false
    | .v _, .ptr _ _ => some false
    | .ptr _ _, .v _ => some false
    | _, _ => none
theorem avQ_spec : ∀ (d : Nat) (a b : AV) (r : Bool), avQ d a b = some r → (r = true ↔ a = b)
  | 0, a, b, r, h => by cases h
  | d + 1, a, b, r, h => by
    unfold avQ at h
    split at h
    · cases h; simp
    · rename_i x y
      have := valQ_spec h
      simp [this]
    · rename_i x y
      have := listQ_spec (avQ_spec d) h
      simp [this]
    · rename_i g s x g' s' y
      have hl : ∀ r, listQ (listQ (avQ d)) x y = some r → (r = true ↔ x = y) := fun r h => listQ_spec (fun a b r h => listQ_spec (avQ_spec d) h) h
      cases r with
      | true =>
        obtain ⟨h1, h2⟩ := both_true h
        simp only [Option.some.injEq, Bool.and_eq_true, decide_eq_true_eq] at h1
        simp [h1.1, h1.2, (hl _ h2).1 rfl]
      | false =>
        simp only [Bool.false_eq_true, false_iff, AV.lst.injEq, not_and]
        rintro rfl rfl rfl
        rcases both_false h with h1 | h1
        · simp at h1
        · exact absurd ((hl _ h1).2 rfl) (by simp)
    · cases h; simp
    · cases h; simp
    · cases h; simp
    · cases h; simp
    · cases h; simp
    · cases h
def cellsQ (a b : Option (List AV)) : Option Bool :=
  match a, b with
  | none, none => some true
  | some x, some y => listQ (avQ 16) x y
  | _, _ => some false
theorem cellsQ_spec {a b : Option (List AV)} {r : Bool} (h : cellsQ a b = some r) : r = true ↔ a = b := by
  unfold cellsQ at h
  split at h
  · cases h; simp
  · have := listQ_spec (avQ_spec 16) h
    simp [this]
  · rename_i h1 h2
    cases h
    simp only [Bool.false_eq_true, false_iff]
    rintro rfl
    cases a with
    | none => exact h1 rfl rfl
    | some x => exact h2 x x rfl rfl
def memQ (m m' : Mem) : Option Bool := both (some (decide (m.toks = m'.toks))) (listQ cellsQ m.vars m'.vars)
theorem memQ_spec {m m' : Mem} (h : memQ m m' = some true) : m = m' := by
  obtain ⟨h1, h2⟩ := both_true h
  have e1 : m.toks = m'.toks := by simpa using h1
  have e2 := (listQ_spec (fun a b r h => cellsQ_spec h) h2).1 rfl
  cases m; cases m'; simp_all
def finMemC (m0 m : Mem) : Option Mem :=
  match listQ cellsQ (m.vars.take m0.vars.length) m0.vars with
  | some true => some { vars := m0.vars, toks := m.toks.take m0.toks.length }
  | some false => some { vars := m.vars.take m0.vars.length, toks := m.toks }
  | none => none
theorem finMemC_spec {m0 m r : Mem} (h : finMemC m0 m = some r) : finMem m0 m = r := by
  unfold finMemC at h
  unfold finMem
  split at h
  · rename_i hq
    cases h
    rw [if_pos ((listQ_spec (fun a b r h => cellsQ_spec h) hq).1 rfl)]
  · rename_i hq
    cases h
    rw [if_neg (fun e => absurd ((listQ_spec (fun a b r h => cellsQ_spec h) hq).2 e) (by simp))]
  · cases h

/-! ### operations, regions, code -/
def keepsC (P : Program) (pu : Bool) (o : Oper) (m : Mem) (x : Option (AV × Mem)) : Option (AV × Mem) :=
  match x with
  | some (a, m') => if (pu && clsOf P o == .ca) = true then (if memQ m' m = some true then some (a, m') else none) else some (a, m')
  | none => none
theorem keepsC_spec {P : Program} {pu : Bool} {o : Oper} {m : Mem} {x y : Option (AV × Mem)} (hxy : ∀ r, x = some r → y = some r) {r : AV × Mem} (h : keepsC P pu o m x = some r) : keeps P pu o m y = some r := by
  unfold keepsC at h
  split at h
  · rename_i a m'
    unfold keeps
    rw [hxy _ rfl]
    dsimp only
    split at h
    · split at h
      · rename_i hq
        cases h
        rw [if_pos (fun _ => memQ_spec hq)]
      · cases h
    · rename_i hn
      cases h
      rw [if_pos (fun h => absurd h hn)]
  · cases h
def evOpsC (P : Program) (call : CallF) (nt : Nat) (ops : Array Oper) (pu : Bool) : List Oper → Env → Mem → Option (Env × Mem)
  | [], e, m => some (e, m)
  | o :: rest, e, m =>
    match wantedAV ops e o with
    | none => none
    | some true =>
      match keepsC P pu o m (evOp P call e m o) with
      | some (a, m') =>
        match putAV nt o.dst a e with
        | some e' => evOpsC P call nt ops pu rest e' m'
        | none => none
      | none => none
    | some false =>
      match putAV nt o.dst (.v (.tuple #[])) e with
      | some e' => evOpsC P call nt ops pu rest e' m
      | none => none
def Sub (c c' : CallF) : Prop := ∀ f args m r, c f args m = some r → c' f args m = some r
theorem evCall_sub {c c' : CallF} (hs : Sub c c') {f : AV} {xs : List AV} {m : Mem} {r : AV × Mem} (h : evCall c f xs m = some r) : evCall c' f xs m = some r := by
  unfold evCall at h ⊢
  split at h
  · exact hs _ _ _ _ h
  · cases h
theorem evOp_sub {P : Program} {c c' : CallF} (hs : Sub c c') {e : Env} {m : Mem} {o : Oper} {r : AV × Mem} (h : evOp P c e m o = some r) : evOp P c' e m o = some r := by
  unfold evOp at h ⊢
  cases hop : o.op with
  | call cl =>
    rw [hop] at h
    dsimp only at h ⊢
    split at h
    · rename_i hsz
      rw [if_pos hsz]
      cases hce : cl.callee with
      | builtin b => rw [hce] at h; exact h
      | value f => rw [hce] at h; exact evCall_sub hs h
      | invoke a b => rw [hce] at h; exact h
    · cases h
  | _ => rw [hop] at h; exact h
theorem evOpsC_sub {P : Program} {c c' : CallF} (hs : Sub c c') {nt : Nat} {ops : Array Oper} {pu : Bool} {r : Env × Mem} : ∀ (l : List Oper) (e : Env) (m : Mem), evOpsC P c nt ops pu l e m = some r → evOps P c' nt ops pu l e m = some r
  | [], e, m, h => h
  | o :: rest, e, m, h => by
    unfold evOpsC at h
    unfold evOps
    split at h
    · cases h
    · rename_i hw
      rw [hw]
      dsimp only
      split at h
      · rename_i a m' hk
        rw [keepsC_spec (fun r h => evOp_sub hs h) hk]
        dsimp only
        split at h
        · rename_i e' he
          rw [he]
          exact evOpsC_sub hs rest e' m' h
        · cases h
      · cases h
    · rename_i hw
      rw [hw]
      dsimp only
      split at h
      · rename_i e' he
        rw [he]
        exact evOpsC_sub hs rest e' m h
      · cases h
def codeC (P : Program) (call : CallF) (nt : Nat) (kp : Nat → Option (List Nat)) (n : Nat) : Code → Env → Mem → Res
  | .skip, e, m => some (.normal, e, m)
  | .region id ops draw, e, m =>
    match (if draw then (if drawnOk P ops.toList = true then evOpsC P call nt ops.toList.toArray (anyLoose P ops.toList) ops.toList e m else none) else evOpsC P call nt ops false ops.toList e m) with
    | some (e', m') => some (.normal, restr (kp id) e', m')
    | none => none
  | .seq a b, e, m =>
    match codeC P call nt kp n a e m with
    | some (.normal, e', m') => codeC P call nt kp n b e' m'
    | x => x
  | .cond c a b, e, m =>
    match opd P e 0 c with
    | .v (.bool t) => if t then codeC P call nt kp n a e m else codeC P call nt kp n b e m
    | _ => none
  | .block id b, e, m =>
    match codeC P call nt kp n b e m with
    | some (.exit q, e', m') => if q = id then some (.normal, e', m') else some (.exit q, e', m')
    | x => x
  | .loop b, e, m => loopN (codeC P call nt kp n b) n e m
  | .exit id, e, m => some (.exit id, e, m)
  | .ret, e, m => some (.ret, e, m)
  | _, _, _ => none
theorem codeC_sub {P : Program} {c c' : CallF} (hs : Sub c c') {nt : Nat} {kp : Nat → Option (List Nat)} {n : Nat} : ∀ (k : Code) (e : Env) (m : Mem) (r : Ex × Env × Mem), codeC P c nt kp n k e m = some r → code P c' nt kp n k e m = some r := by
  intro k
  induction k with
  | region id ops draw =>
    intro e m r h
    unfold codeC at h
    unfold code
    split at h
    · rename_i e' m' h1
      have : (if draw then evDrawn P c' nt ops.toList e m else evOps P c' nt ops false ops.toList e m) = some (e', m') := by
        cases draw with
        | true =>
          simp only [if_true] at h1 ⊢
          unfold evDrawn
          split at h1
          · rename_i hd
            rw [if_pos hd]
            exact evOpsC_sub hs _ _ _ h1
          · cases h1
        | false =>
          simp only [Bool.false_eq_true, if_false] at h1 ⊢
          exact evOpsC_sub hs _ _ _ h1
      rw [this]
      exact h
    · cases h
  | seq x y ihx ihy =>
    intro e m r h
    unfold codeC at h
    unfold code
    split at h
    · rename_i e' m' h1
      rw [ihx e m _ h1]
      exact ihy e' m' r h
    · rename_i h1
      rw [ihx e m _ h]
      obtain ⟨x, e', m'⟩ := r
      cases x with
      | normal => exact absurd h (h1 e' m')
      | exit id => rfl
      | ret => rfl
  | cond cc x y ihx ihy =>
    intro e m r h
    unfold codeC at h
    unfold code
    split at h
    · rename_i t ht
      rw [ht]
      cases t with
      | true => exact ihx e m r h
      | false => exact ihy e m r h
    · cases h
  | block id b ih =>
    intro e m r h
    unfold codeC at h
    unfold code
    split at h
    · rename_i q e' m' h1
      rw [ih e m _ h1]
      exact h
    · rename_i h1
      rw [ih e m _ h]
      obtain ⟨x, e', m'⟩ := r
      cases x with
      | normal => rfl
      | exit id => exact absurd h (h1 id e' m')
      | ret => rfl
  | loop b ih =>
    intro e m r h
    unfold codeC at h
    unfold code
    exact loopN_mono ih n n e m (Nat.le_refl _) h
  | _ => intro e m r h; exact h

/-! ### functions -/
def growResC (gr : Bool) (m0 m : Mem) (a : AV) : Option (AV × Mem) :=
  match finMemC m0 m with
  | none => none
  | some mf =>
    match gr, a with
    | true, .lst .full sz rows => some (.lst (.tok mf.toks.length 0) sz rows, { mf with toks := mf.toks ++ [0] })
    | true, .lst (.tok id ver) sz rows =>
      if m.toks[id]? = some ver ∧ m0.toks.length ≤ id then some (.lst (.tok mf.toks.length 0) sz rows, { mf with toks := mf.toks.set id (ver + 1) ++ [0] }) else none
    | true, _ => none
    | false, a => (resAV m0.vars.length m a).map (·, mf)
theorem growResC_spec {gr : Bool} {m0 m : Mem} {a : AV} {r : AV × Mem} (h : growResC gr m0 m a = some r) : growRes gr m0 m a = some r := by
  unfold growResC at h
  split at h
  · cases h
  · rename_i mf hf
    obtain rfl := finMemC_spec hf
    exact h
def evRetC (P : Program) (gr : Bool) (fn : Func) (m0 : Mem) (e : Env) (m : Mem) : Option (AV × Mem) :=
  match fn.results.toList with
  | [r] => (evResult P e m r).bind (growResC gr m0 m)
  | rs =>
    match finMemC m0 m with
    | some mf => ((rs.mapM (evResult P e m)).bind fun vs => vs.mapM (resAV m0.vars.length m)).map fun vs => (.tup vs, mf)
    | none => none
theorem evRetC_spec {P : Program} {gr : Bool} {fn : Func} {m0 : Mem} {e : Env} {m : Mem} {r : AV × Mem} (h : evRetC P gr fn m0 e m = some r) : evRet P gr fn m0 e m = some r := by
  unfold evRetC at h
  unfold evRet
  split at h
  · rename_i rv hrv
    rw [hrv]
    rw [Option.bind_eq_some_iff] at h ⊢
    obtain ⟨b, h1, h2⟩ := h
    exact ⟨b, h1, growResC_spec h2⟩
  · rename_i rs hrs
    split at h
    · rename_i mf hf
      obtain rfl := finMemC_spec hf
      split
      · rename_i rv hrv
        exact absurd hrv (hrs rv)
      · exact h
    · cases h
def evBodyC (P : Program) (C : Ctx) (call : CallF) (n : Nat) (f : FuncId) (fn : Func) (c : Code) (args : List AV) (m : Mem) : Option (AV × Mem) :=
  if args.length ≤ fn.ntmps ∧ (fn.name == "runtime.NumGoroutine") = false then
    match codeC P call fn.ntmps (C.kp f) n c (entry args) m with
    | some (.normal, e, m') => evRetC P (C.gr f) fn m e m'
    | some (.ret, e, m') => evRetC P (C.gr f) fn m e m'
    | _ => none
  else none
def runC (P : Program) (C : Ctx) : Nat → CallF
  | 0, _, _, _ => none
  | n + 1, f, args, m =>
    match C.ext f with
    | some g => g args m
    | none =>
      match P.funcs[f]? with
      | some fn =>
        match fn.body with
        | some c => evBodyC P C (runC P C n) n f fn c args m
        | none => none
      | none => none
theorem evBodyC_sub {P : Program} {C : Ctx} {c c' : CallF} (hs : Sub c c') {n : Nat} {f : FuncId} {fn : Func} {k : Code} {args : List AV} {m : Mem} {r : AV × Mem} (h : evBodyC P C c n f fn k args m = some r) : evBody P C c' n f fn k args m = some r := by
  unfold evBodyC at h
  unfold evBody
  split at h
  · rename_i hc
    rw [if_pos hc]
    split at h
    · rename_i e m' h1
      rw [codeC_sub hs _ _ _ _ h1]
      exact evRetC_spec h
    · rename_i e m' h1
      rw [codeC_sub hs _ _ _ _ h1]
      exact evRetC_spec h
    · cases h
  · cases h
theorem runC_sub {P : Program} {C : Ctx} : ∀ n, Sub (runC P C n) (run P C n)
  | 0 => fun f args m r h => by cases h
  | n + 1 => fun f args m r h => by
    unfold runC at h
    unfold run
    split at h
    · rename_i g hg
      rw [hg]
      exact h
    · rename_i hg
      rw [hg]
      dsimp only
      split at h
      · rename_i fn hfn
        rw [hfn]
        dsimp only
        split at h
        · rename_i c hc
          rw [hc]
          exact evBodyC_sub (runC_sub n) h
        · cases h
      · cases h
theorem runC_ok {P : Program} (hm : P.follows .mixedOrders = true) {C : Ctx} (hx : ∀ f g, C.ext f = some g → FunOk P f g) (n : Nat) : CallOk P (runC P C n) :=
  fun f args m r m' h => run_ok hm hx n f args m r m' (runC_sub n _ _ _ _ h)

/-! ### a function of nothing, wherever it is called -/
theorem wide_ok {P : Program} {f : FuncId} {x : Value} (h : FunOk P f fun args m => if args = [] ∧ m.vars = [] ∧ m.toks = [] then some (.v x, m) else none) :
    FunOk P f fun args m => match args with | [] => some (.v x, m) | _ => none := by
  intro args m r m' hg
  dsimp only at hg
  split at hg
  · cases hg
    obtain ⟨h1, h2⟩ := h [] ⟨[], []⟩ (.v x) ⟨[], []⟩ (if_pos ⟨rfl, rfl, rfl⟩)
    refine ⟨h1, fun φ w vals hR hA => ?_⟩
    have hR0 : RM φ ⟨[], []⟩ w := {
      var := fun r cs h => by simp [Mem.var] at h
      inj := fun r r' cs cs' h => by simp [Mem.var] at h
      vim := fun r cs o h => by simp [Mem.var] at h
      tok := fun id b s e h => by simp at h
      tinj := fun id id' b s e s' e' h => by simp at h
      imlt := hR.imlt }
    refine (h2 φ w vals hR0 ⟨hA.1, fun i a u e => by simp at e⟩).mono fun e w' ⟨y, φ', he, hR', hX, hr⟩ => ?_
    have hno : ∀ b, ¬ Own φ ⟨[], []⟩ b := by
      rintro b (⟨r, cs, h, _⟩ | ⟨id, s, e, h, _⟩)
      · simp [Mem.var] at h
      · simp at h
    have hblk : ∀ b, b < w.heap.size → w'.heap[b]? = w.heap[b]? := fun b hb => hX.blk b hb (hno b)
    have hcell : ∀ b o, φ.im b o → w'.cell? ⟨b, o, none⟩ = w.cell? ⟨b, o, none⟩ := fun b o hi => (hX.im b o hi).2
    have lt_of : ∀ b o, w.heap[b]? = some o → b < w.heap.size := fun b o h => (Array.getElem?_eq_some_iff.1 h).1
    have hext : Ext φ m w φ m w' := {
      os := hX.os, tape := hX.tape, output := hX.output, size := hX.size
      im := fun b o hi => ⟨hi, hcell b o hi⟩
      vb := fun r cs hv => ⟨rfl, cs, hv, rfl⟩
      tk := fun id v hv => ⟨v, hv, Nat.le_refl _, fun _ => rfl⟩
      blk := fun b hb _ => hblk b hb
      own := fun b hb => .inl hb }
    refine ⟨y, φ, he, ?_, hext, ?_⟩
    · exact {
        var := fun r cs hv => by
          obtain ⟨arr, T, g1, g2, g3⟩ := hR.var r cs hv
          exact ⟨arr, T, by rw [hblk _ (lt_of _ _ g1)]; exact g1, g2.mono hext, g3⟩
        inj := hR.inj
        vim := hR.vim
        tok := fun id b s e hlt hk hse => by
          obtain ⟨arr, T, g1, g2⟩ := hR.tok id b s e hlt hk hse
          exact ⟨arr, T, by rw [hblk _ (lt_of _ _ g1)]; exact g1, g2⟩
        tinj := hR.tinj
        imlt := fun b o hi => Nat.lt_of_lt_of_le (hR.imlt b o hi) hX.size }
    · cases hr
      exact .v _
  · cases hg
end Go.Proofs.Ytojaokhkbmiidaa.Ev

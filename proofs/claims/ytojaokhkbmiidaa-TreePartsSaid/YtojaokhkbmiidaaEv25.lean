/- A law's row: whatever the input, true; the input reads as it did. -/
import Derived.Test.YtojaokhkbmiidaaEv24
import Derived.WalkKit
import Derived.ProofKit
import Derived.OpenShut
import Derived.ShutString
import Derived.ChangeOld
import Derived.Below
import Derived.Carry
import Derived.SizedLaws
namespace Go.Proofs.Ytojaokhkbmiidaa.Ev
open Go Go.Proofs Go.ChangeShapes Go.WideShapes Go.ChangeAt Go.RowKit
set_option linter.unusedVariables false
set_option linter.unusedSimpArgs false
def TypedAll (P : Program) (d : Nat) : List TypeId → List AV → Prop
  | [], [] => True
  | t :: ts, a :: as => TypedArg P d t a ∧ TypedAll P d ts as
  | _, _ => False
section
variable {H : Type} {enc : TypeId × Value → H} {P : Program} {W : World}
theorem arg_open (hl : laidOutB P = true) {d : Nat} {t : TypeId} (hp : plainT P d t = true) (ht : t < P.types.size) {v : Value} {x : DataW H} {ps : List MemPlace} {base : Nat} (hv : Value.okWide P W .any base t v)
    (h : DataW.Trod enc P W 0 (fun _ => true) true t v x ps) : ∃ a, TypedArg P d t a ∧ Rep (phiW W) ⟨[], []⟩ W a v := by
  obtain ⟨fuel, h⟩ := h
  have hrow := rowFine_of hl ht
  have agg : (∃ cs : Array Value, v = .agg cs ∧ cs.size = P.cellsOf t) → ∃ as, Typed P d t as ∧ Rep (phiW W) ⟨[], []⟩ W (.agg as) v := by
    rintro ⟨cs, rfl, hsz⟩
    obtain ⟨as, h1, h2⟩ := flat_same hl d t hp ht fuel _ _ h (by simpa [Value.cells] using hsz)
    refine ⟨as, h1, .agg as cs (by have := h2.len; simpa [Value.cells] using this) fun i a u e1 e2 => ?_⟩
    exact (h2.at i a u e1 (by simpa [Value.cells] using e2)).1
  have single : (v.cells.toList = [v] ∧ P.cellsOf t = 1) → ∃ a, Typed P d t [a] ∧ Rep (phiW W) ⟨[], []⟩ W a v := by
    rintro ⟨hc, h1⟩
    rw [hc] at h
    obtain ⟨as, h2, h3⟩ := flat_same hl d t hp ht fuel _ _ h (by simpa using h1.symm)
    obtain ⟨a, rfl⟩ := List.length_eq_one_iff.1 (h3.len.symm)
    exact ⟨a, h2, (h3.at 0 a v rfl rfl).1⟩
  have okc : ∀ {u : TypeDesc}, P.underlying t = some u → (∀ fs, u ≠ .struct fs) → (∀ n e, u ≠ .array n e) → Cell.okWide P W .any base t v := by
    intro u hu h1 h2
    unfold Value.okWide at hv
    rw [hu] at hv
    split at hv
    · rename_i e; cases e; exact absurd rfl (h1 _)
    · rename_i e; cases e; exact absurd rfl (h2 _ _)
    · exact hv
  unfold TypedArg
  cases d with
  | zero => simp [plainT] at hp
  | succ d =>
    have hp' := hp
    unfold plainT at hp'
    split at hp'
    · rename_i hu
      have hc := okc hu (fun _ h => by cases h) (fun _ _ h => by cases h)
      rw [hu]
      refine single ⟨?_, ?_⟩
      · unfold Cell.okWide Cell.ok at hc
        rw [hu] at hc
        cases v <;> first | rfl | (exfalso; simp at hc)
      · simp [rowFine, isVar, ht, hu, kindOk] at hrow
        exact hrow
    · rename_i k hu
      have hc := okc hu (fun _ h => by cases h) (fun _ _ h => by cases h)
      rw [hu]
      refine single ⟨?_, ?_⟩
      · unfold Cell.okWide Cell.ok at hc
        rw [hu] at hc
        cases v <;> first | rfl | (exfalso; simp at hc)
      · simp [rowFine, isVar, ht, hu, kindOk] at hrow
        exact hrow
    · rename_i hu
      have hc := okc hu (fun _ h => by cases h) (fun _ _ h => by cases h)
      rw [hu]
      refine single ⟨?_, ?_⟩
      · unfold Cell.okWide Cell.ok at hc
        rw [hu] at hc
        cases v <;> first | rfl | (exfalso; simp at hc)
      · simp [rowFine, isVar, ht, hu, kindOk] at hrow
        exact hrow
    · rename_i e hu
      have hc := okc hu (fun _ h => by cases h) (fun _ _ h => by cases h)
      rw [hu]
      refine single ⟨?_, ?_⟩
      · unfold Cell.okWide Cell.ok at hc
        rw [hu] at hc
        cases v <;> first | rfl | (exfalso; simp at hc)
      · simp [rowFine, isVar, ht, hu, kindOk] at hrow
        exact hrow.2
    · rename_i n e hu
      rw [hu]
      obtain ⟨as, h1, h2⟩ := agg (by
        unfold Value.okWide at hv
        rw [hu] at hv
        obtain ⟨cs, h1, h2, _⟩ := hv
        exact ⟨cs, h1, h2⟩)
      exact ⟨.agg as, ⟨as, rfl, h1⟩, h2⟩
    · rename_i fs hu
      rw [hu]
      obtain ⟨as, h1, h2⟩ := agg (by
        unfold Value.okWide at hv
        rw [hu] at hv
        obtain ⟨cs, h1, h2, _⟩ := hv
        exact ⟨cs, h1, h2⟩)
      exact ⟨.agg as, ⟨as, rfl, h1⟩, h2⟩
    · cases hp'
theorem args_open (hl : laidOutB P = true) {d base : Nat} : ∀ {ts : List TypeId} {vs : List Value} {ds : List (DataW H)} {ps : List MemPlace}, (∀ t ∈ ts, plainT P d t = true ∧ t < P.types.size) →
    (∀ (j : Nat) t v, ts[j]? = some t → vs[j]? = some v → Value.okWide P W .any base t v) → DataW.TrodAll enc P W 0 (fun _ => true) true ts vs ds ps →
    ds.length = ts.length ∧ ∃ as, TypedAll P d ts as ∧ vs.length = as.length ∧ ∀ (i : Nat) a u, as[i]? = some a → vs[i]? = some u → Rep (phiW W) ⟨[], []⟩ W a u
  | [], vs, ds, ps, _, _, h => by
    obtain ⟨rfl, rfl, rfl⟩ := trodAll_nil h
    exact ⟨rfl, [], trivial, rfl, fun i a u h => by simp at h⟩
  | t :: ts, vs, ds, ps, ht, hok, h => by
    obtain ⟨v, vs', d0, ds', p0, q0, rfl, rfl, rfl, h0, h1⟩ := trodAll_cons h
    obtain ⟨hlen, as, ha, hn, hr⟩ := args_open hl (fun t ht' => ht t (List.mem_cons_of_mem _ ht')) (fun j t v e1 e2 => hok (j + 1) t v (by simpa using e1) (by simpa using e2)) h1
    obtain ⟨hp, hlt⟩ := ht t (List.mem_cons_self ..)
    obtain ⟨a, ha0, hr0⟩ := arg_open hl hp hlt (hok 0 t v rfl rfl) h0
    refine ⟨by simp [hlen], a :: as, ⟨ha0, ha⟩, by simp [hn], fun i b u e1 e2 => ?_⟩
    cases i with
    | zero => simp at e1 e2; subst e1; subst e2; exact hr0
    | succ i => exact hr i b u (by simpa using e1) (by simpa using e2)
theorem args_back (hl : laidOutB P = true) {W' : World} (bel : Below W.heap.size W W') : ∀ {ts : List TypeId} {vs : List Value} {ds : List (DataW H)} {ps : List MemPlace}, (∀ t ∈ ts, P.readableRec t = true ∧ t < P.types.size) →
    DataW.TrodAll enc P W 0 (fun _ => true) true ts vs ds ps → (∀ z ∈ ps, z.block < W.heap.size) → DataW.TrodAll enc P W' 0 (fun b => decide (b < W.heap.size)) true ts vs ds ps
  | [], vs, ds, ps, _, h, _ => by
    obtain ⟨rfl, rfl, rfl⟩ := trodAll_nil h
    exact trodAll_mk0
  | t :: ts, vs, ds, ps, ht, h, hz => by
    obtain ⟨v, vs', d0, ds', p0, q0, rfl, rfl, rfl, h0, h1⟩ := trodAll_cons h
    obtain ⟨hr, hlt⟩ := ht t (List.mem_cons_self ..)
    exact trodAll_cons_mk (Below.trod hl hr hlt h0 bel fun z hz' => hz z (by simp [hz'])) (args_back hl bel (fun t ht' => ht t (List.mem_cons_of_mem _ ht')) h1 fun z hz' => hz z (by simp [hz']))
end
/-- The row of a law that has been walked. -/
theorem law_lifted {C : Checked} {os : Os} {f : FuncId} {fn : Func} {s : ChangeSpec} {conds : List PathCond} {H : Type} {enc : TypeId × Value → H} (own : ownKnob C.prog.godebug = none) (started : os.Started)
    (noInit : C.prog.inits.idxOf? f = none) (hfn : C.prog.funcs[f]? = some fn)
    (witness : ∃ (w : World) (tape : Tape) (i : Input), w.os = os ∧ (w.forCall tape i).Shaped C.prog ∧ i.vars = [] ∧ Input.okWide C.prog (w.forCall tape i) .any w.heap.size f i ∧
      s.pre6 enc C.prog fn conds false (w.forCall tape i).memory i.args ∧ Assume.holds {} C.prog (lone (Frame.enter C.prog f i.args .normal) [] (w.forCall tape i)))
    (hl : laidOutB C.prog = true) (hvars : s.vars = []) (ts : List TypeId) (hts : fn.params = ts.toArray) (d : Nat)
    (hty : ts.all (fun t => plainT C.prog d t && decide (t < C.prog.types.size) && C.prog.readableRec t) = true) {tb : TypeId} (hres : fn.resultTypes = #[tb]) (hb : C.prog.underlying tb = some .bool)
    (hs : ∀ (ds : List (DataW H)), ds.length = ts.length → s.fn H ds = { results := [.lit (.bool true)], args := ds })
    {g : List AV → Mem → Option (AV × Mem)} (hf : FunOk C.prog f g) (hg : ∀ as, TypedAll C.prog d ts as → ∃ m', g as ⟨[], []⟩ = some (.v (.bool true), m')) :
    ReturnsInHanded {} C os f .any (s.pre6 enc C.prog fn conds false) (s.post enc C.prog fn false true false false) := by
  refine returnsInHanded_of_change_sized (C := C) own started noInit hfn witness ?_
  intro W base args ds gs before hval hW hcnd hsz0 _
  have hW' := hW
  obtain ⟨p, q, hA, hV, rfl, hfz, hnd⟩ := hW
  have hlt := hA.lt
  rw [hts] at hA hval
  rw [hvars] at hV
  obtain ⟨rfl, rfl⟩ := trodVars_none hV
  have hty' : ∀ t ∈ ts, (plainT C.prog d t = true ∧ t < C.prog.types.size) ∧ C.prog.readableRec t = true := by
    intro t ht
    have := List.all_eq_true.1 hty t ht
    simpa [Bool.and_eq_true] using this
  obtain ⟨hlen, as, ha, hn, hr⟩ := args_open hl (fun t ht => (hty' t ht).1) (fun j t v e1 e2 => hval j t v (by simpa using e1) (by simpa using e2)) hA
  obtain ⟨m', hg'⟩ := hg as ha
  refine (law_calls (vals := args) hf hg' ⟨by simpa using hn, fun i a u h1 h2 => hr i a u h1 (by simpa using h2)⟩).mono fun e W' ⟨he, bel⟩ => ?_
  subst he
  refine ⟨_, rfl, ds, [], _, [], p, [], hW', ?_, ?_, ?_, bel.frame _, fun h => by cases h⟩
  · rw [List.append_nil, hs ds hlen, hres]
    exact trodAll_mk1 (shut_bool hb _)
  · rw [List.append_nil, hs ds hlen, hts]
    exact args_back hl bel (fun t ht => ⟨(hty' t ht).2, (hty' t ht).1.2⟩) hA fun z hz => hlt z hz
  · rw [hvars, List.append_nil, hs ds hlen]
    exact rfl
end Go.Proofs.Ytojaokhkbmiidaa.Ev

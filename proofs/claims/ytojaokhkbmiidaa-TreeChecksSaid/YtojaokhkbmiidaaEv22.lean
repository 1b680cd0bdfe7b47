/- Small words for the walks: what is returned, places in texts, numbers. -/
import Derived.Test.YtojaokhkbmiidaaEv21
namespace Go.Proofs.Ytojaokhkbmiidaa.Ev
open Go
set_option linter.unusedVariables false
set_option linter.unusedSimpArgs false
section
variable {P : Program} {call : CallF} {m : Mem} {e : Env}
theorem finMem_self (m : Mem) : finMem m m = m := by
  unfold finMem
  rw [if_pos (List.take_length ..), List.take_length]
theorem ret_v {fn : Func} {t : Tmp} {x : Value} (h : fn.results = #[.tmp t]) (hg : get e t = .v x) : evRet P false fn m e m = some (.v x, m) := by
  unfold evRet
  rw [h]
  simp only [evResult, hg, Option.bind_some, growRes, resAV, resCell, Option.map_some, finMem_self]
theorem ret_vv {fn : Func} {t u : Tmp} {x y : Value} (h : fn.results = #[.tmp t, .tmp u]) (hg : get e t = .v x) (hu : get e u = .v y) : evRet P false fn m e m = some (.tup [.v x, .v y], m) := by
  unfold evRet
  rw [h]
  simp [evResult, hg, hu, resAV, resCell, finMem_self]
theorem leaves_v {fn : Func} {t : Tmp} {x : Value} (h : fn.results = #[.tmp t]) (hg : get e t = .v x) : Leaves P false fn m (.v x, m) .ret e m := ret_v h hg
theorem leaves_vv {fn : Func} {t u : Tmp} {x y : Value} (h : fn.results = #[.tmp t, .tmp u]) (hg : get e t = .v x) (hu : get e u = .v y) : Leaves P false fn m (.tup [.v x, .v y], m) .ret e m := ret_vv h hg hu
theorem index_str {t : TypeId} {s : ByteArray} {k : IntKind} {i : Nat} (ht : tStr P t = true) (hi : i < s.size) : evIndex P t (.v (.string s)) (.v (.int k i)) = some (.v (.int .u8 (s.get! i).toNat)) := by
  simp [evIndex, ht, hi]
theorem slice_str {t : TypeId} {s : ByteArray} {k k' : IntKind} {i j : Nat} (ht : tStr P t = true) (hij : i ≤ j) (hj : j ≤ s.size) :
    evSlice P m t (.v (.string s)) (some (.v (.int k i))) (some (.v (.int k' j))) none = some (.v (.string (s.extract i j))) := by
  simp [evSlice, evBound, ht, hij, hj]
theorem slice_str_to {t : TypeId} {s : ByteArray} {k : IntKind} {j : Nat} (ht : tStr P t = true) (hj : j ≤ s.size) :
    evSlice P m t (.v (.string s)) none (some (.v (.int k j))) none = some (.v (.string (s.extract 0 j))) := by
  simp [evSlice, evBound, ht, hj]
theorem wrap_of (k : IntKind) (n : Int) (h0 : k.min ≤ n) (h1 : n ≤ k.max) : k.wrap n = n := by
  unfold IntKind.wrap
  cases k <;> simp [IntKind.min, IntKind.max, IntKind.bits, IntKind.signed] at * <;> omega
theorem add_str {t : TypeId} {a b : ByteArray} (h : a.size + b.size ≤ 9223372036854775807) : evBin P .add t (.v (.string a)) (.v (.string b)) = some (.v (.string (a ++ b))) := by
  simp only [evBin, evStr]
  rw [if_pos h]
/-- A memory with a variable more. -/
def Mem.push (m : Mem) (cs : List AV) : Mem := { m with vars := m.vars ++ [some cs] }
theorem newVar_push {cs : List AV} (h : cs.all (refLe m.vars.length) = true) : newVar m m.vars.length cs = some (m.push cs) := by
  unfold newVar
  rw [if_pos h, if_pos rfl]
  rfl
theorem push_var {cs : List AV} : (m.push cs).var m.vars.length = some cs := by simp [Mem.var, Mem.push]
theorem fin_push {cs : List AV} : finMem m (m.push cs) = m := by
  unfold finMem
  have h : (m.push cs).vars.take m.vars.length = m.vars := by simp [Mem.push]
  rw [if_pos h]
  show (⟨m.vars, m.toks.take m.toks.length⟩ : Mem) = m
  rw [List.take_length]
theorem store_push {t : TypeId} {x : AV} {old cs : List AV} {off : Nat} (hc : cellsOf x = some cs) (ht : tSize P t = some cs.length) (hf : off + cs.length ≤ old.length) (hr : cs.all (refLe m.vars.length) = true) :
    evStore P (m.push old) t (.ptr m.vars.length off) x = some (m.push (splice old off cs)) := by
  unfold evStore
  simp only [hc, ht, push_var]
  rw [if_pos ⟨trivial, hf, hr⟩]
  simp [Mem.push]
theorem indexAddr_arr {t e : TypeId} {n k r off : Nat} {kk : IntKind} {i : Nat} (ht : tArr P t = some (n, e)) (hk : tSize P e = some k) (hi : i < n) :
    evIndexAddr P t (.ptr r off) (.v (.int kk i)) = some (.ptr r (off + i * k)) := by
  unfold evIndexAddr
  simp only [ht, hk]
  rw [if_pos ⟨by omega, by omega⟩, Int.toNat_natCast]
  split
  · rename_i h; rw [h]; rfl
  · rfl
theorem slice_arr {t e : TypeId} {n k r off : Nat} {cs : List AV} (ht : tArr P t = some (n, e)) (hk : tSize P e = some k) (hv : m.var r = some cs) (hf : off + n * k ≤ cs.length) :
    evSlice P m t (.ptr r off) none none none = some (.vs r off k n n) := by
  unfold evSlice
  simp only [ht, hk, hv, evBound]
  rw [if_pos ⟨trivial, Nat.le_refl _, hf⟩]
theorem convert_bytes {src dst e : TypeId} {r off n c : Nat} {cs : List AV} {l : List UInt8} (he : tElem P src = some e) (hd : tStr P dst = true) (hu : tInt P e = some .u8) (hv : m.var r = some cs)
    (hf : off + n ≤ cs.length) (hl : bytesOfCells ((cs.drop off).take n) = some l) : evConvert P m src dst (.vs r off 1 n c) = some (.v (.string ⟨l.toArray⟩)) := by
  unfold evConvert
  simp only [he, hv, hl]
  rw [if_pos ⟨hd, hu, hf⟩]
  rfl
theorem leaves_fin {fn : Func} {t : Tmp} {x : Value} {m' : Mem} (h : fn.results = #[.tmp t]) (hg : get e t = .v x) (hm : finMem m m' = m) : Leaves P false fn m (.v x, m) .ret e m' := by
  show evRet P false fn m e m' = _
  unfold evRet
  rw [h]
  simp only [evResult, hg, Option.bind_some, growRes, resAV, resCell, Option.map_some, hm]
end
end Go.Proofs.Ytojaokhkbmiidaa.Ev

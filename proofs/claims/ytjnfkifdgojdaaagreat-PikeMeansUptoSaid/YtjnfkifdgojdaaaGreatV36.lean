/- Functions without a body that the model has, and those that defer, at hand. -/
import Derived.Test.YtjnfkifdgojdaaaGreatV35
namespace Go.Proofs.YtjnfkifdgojdaaaGreat.V
open Go
set_option linter.unusedVariables false
set_option linter.unusedSimpArgs false
set_option linter.unusedSectionVars false
variable [Inhabited Flag]
theorem Res.same {w : World} {F : Nat → Prop} {β : Bl} {sto : List Obj} (hS : SRel w F β sto) {v : AV} {u : Value} (h : VRel w F β v u) : Res w F β sto (.ret v) sto (.returned u) w :=
 ⟨F, β, h, hS, Ext.refl _ _ _ _ hS.dom⟩
theorem ext_run {P : Program} {f : FuncId} {fn : Func} (hf : P.funcs[f]? = some fn) (hn : (fn.name == "runtime.NumGoroutine") = false) (hb : fn.body.isNone = true) (h1 : (Extern.findNext fn).isNone = true) {e : Array Value → Sem Value} (h2 : Extern.find fn = some e) {us : Array Value} {w : World} {v : Value} (hr : (e us).run P w = .ok v w) :
  (callFunc f us).run P w = .ok (.value v) w := by
 have h2' : ¬ fn.name = "runtime.NumGoroutine" := by simpa using hn
 have h1' : Extern.findNext fn = none := by simpa using h1
 have hb' : fn.body = none := by simpa using hb
 unfold callFunc
 simp [program, Sem.run, hf, h2', hb', mark, h1', h2, hr, Result.andThen]
def idxB (s : ByteArray) (c : UInt8) : Int := match (List.range s.size).find? fun i => s[i]! == c with
 | some i => i
 | none => -1
def xIdx : List AV → List Obj → Option (Out × List Obj)
 | [.d (.str s), .d (.int .u8 c)], sto => if 0 ≤ c ∧ c < 256 then some (.ret (.d (.int .i64 (idxB s (UInt8.ofNat c.toNat)))), sto) else none
 | _, _ => none
theorem idx_run {P : Program} {s : ByteArray} {c : Int} (w : World) : (Extern.BytealgIndexByte.indexByte #[.string s, .int .u8 c]).run P w = .ok (.int .i64 (idxB s (UInt8.ofNat c.toNat))) w := by
 have e : Extern.BytealgIndexByte.indexByte #[.string s, .int .u8 c] = (do
   let b ← Extern.Bytes.bytesOf (.string s)
   let c ← Extern.Bytes.asByte (.int .u8 c)
   match (List.range b.size).find? fun i => b[i]! == c with
   | some i => pure (goInt i)
   | none => pure (goInt (-1))) := rfl
 rw [e]
 have e2 : Extern.Bytes.bytesOf (.string s) = pure s := rfl
 have e3 : Extern.Bytes.asByte (.int .u8 c) = pure (UInt8.ofNat c.toNat) := rfl
 simp only [e2, e3, pure_bind]
 unfold idxB
 split
 ·rfl
 ·rfl
end Go.Proofs.YtjnfkifdgojdaaaGreat.V

/- heads: what must come at any rate, carried out; rx.Parse by what it defers. -/
import Derived.Test.YtjnfkifdgojdaaaGreatVT
import Derived.Test.YtjnfkifdgojdaaaGreatV36
import Derived.Test.YtjnfkifdgojdaaaGreatV37
namespace Go.Proofs.YtjnfkifdgojdaaaGreat.V
open Go
set_option linter.unusedVariables false
set_option linter.unusedSimpArgs false
set_option linter.unusedSectionVars false
def XB : Calling := fun f args sto => if f = 105 then xIdx args sto else none
theorem idxB_fn {P : Program} {f : FuncId} {fn : Func} (hf : P.funcs[f]? = some fn) (hn : (fn.name == "runtime.NumGoroutine") = false) (hb : fn.body.isNone = true) (h1 : (Extern.findNext fn).isNone = true) (h2 : Extern.find fn = some Extern.BytealgIndexByte.indexByte)
  {args : List AV} {sto : List Obj} {out : Out} {sto' : List Obj} (h : xIdx args sto = some (out, sto')) {w : World} {F : Nat → Prop} {β : Bl} {us : Array Value} (hS : SRel w F β sto) (hus : ARel w F β args us) : CallsF P f us w (Res w F β sto out sto') := by
 unfold xIdx at h
 split at h
 ·rename_i s c
  split at h
  ·rename_i hc
   cases h
   have hsz : us.size = 2 := hus.1
   have e0 := hus.2 0 _ us[0] rfl (Array.getElem?_eq_getElem (by omega))
   have e1 := hus.2 1 _ us[1] rfl (Array.getElem?_eq_getElem (by omega))
   have e : us = #[.string s, .int .u8 c] := by
    apply Array.ext
    ·simp [hsz]
    ·intro i h1 h2
     match i, h1, h2 with
     | 0, _, _ => simpa using inv_str e0
     | 1, _, _ => simpa using inv_int e1
     | i + 2, h1, _ => omega
   subst e
   exact .inr ⟨_, w, ext_run hf hn hb h1 h2 (idx_run w), Res.same hS (.d _ _ (.int _ _))⟩
  ·cases h
 ·cases h
theorem XB_sound : Sound Tryz.prog XB := by
 intro f args sto out sto' h w F β us hS hus
 unfold XB at h
 split at h
 ·rename_i e
  subst e
  exact idxB_fn Tryz.func105 (by kernel_rfl) (by kernel_rfl) (by kernel_rfl) (by kernel_rfl) h hS hus
 ·cases h
def clRen : Go.Shelf.Ren := ⟨fun | 41 => 48 | n => n, fun | 4 => 4 | 22 => 38 | 23 => 76 | n => n, fun | n => n⟩
theorem clLay : Go.Proofs.SlLaysE0.n41 Tryz.prog clRen := {
 mixed := by kernel_rfl
 f41 := ⟨Tryz.f48.name, by decide, Tryz.func48.trans (congrArg some (by kernel_rfl))⟩
 t4 := Tryz.underlying4
 a4 := Tryz.isAgg4
 z4 := Tryz.sizeOf4
 v4 := Tryz.zeroValue4
 t22 := Tryz.underlying38
 a22 := Tryz.isAgg38
 z22 := Tryz.sizeOf38
 v22 := Tryz.zeroValue38 }
def XCl : Calling := fun f args sto => if f = 48 then xClone 2 args sto else none
theorem XCl_sound : Sound Tryz.prog XCl := by
 intro f args sto out sto' h w F β us hS hus
 unfold XCl at h
 split at h
 ·rename_i e
  subst e
  exact xClone_sound (z := .agg #[.int .i64 0, .int .i64 0]) (size := 2) (bytes := 16) flag_off clLay (by kernel_rfl) rfl (by decide) (fun w => Tryz.sizeOf76 w) (fn := Tryz.f48) Tryz.func48 (by kernel_rfl) (by kernel_rfl) h hS hus
 ·cases h
noncomputable def byT : FuncId → List Nat := fun g => match tab g with
 | some h => h.byref
 | none => []
noncomputable def XP (k n : Nat) : Calling := fun f args sto => if f = 27 then evalD (callF tab XB k) byT n d27 args sto else XB f args sto
theorem mixed : Tryz.prog.follows .mixedOrders = true := by kernel_rfl
theorem XP_sound (k n : Nat) : Sound Tryz.prog (XP k n) := by
 intro f args sto out sto' h w F β us hS hus
 unfold XP at h
 split at h
 ·rename_i e
  subst e
  exact defAt_sound (callF_sound mixed tab_ok XB_sound k) mixed d27_ok h hS hus
 ·exact XB_sound f args sto out sto' h w F β us hS hus
theorem heads_run : callF tab (XP 80 80) 80 12 [] [] = some (.ret (.d (.bool true)), []) := by kernel_rfl
end Go.Proofs.YtjnfkifdgojdaaaGreat.V

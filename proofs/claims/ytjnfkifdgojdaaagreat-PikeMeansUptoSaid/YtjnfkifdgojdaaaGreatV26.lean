/- A seat's table of functions. -/
import Derived.Test.YtjnfkifdgojdaaaGreatV23
namespace Go.Proofs.YtjnfkifdgojdaaaGreat.V
open Go Go.RowKit
set_option linter.unusedVariables false
set_option linter.unusedSimpArgs false
set_option linter.unusedSectionVars false
variable [Inhabited Flag]
def lowAt (P : Program) (h : Hints) (frz : Bool) (br : List Nat) (f : FuncId) : Option VFn := match P.funcs[f]? with
 | some fn => lowFn P h frz br fn
 | none => none
theorem lowAt_ok {P : Program} {h : Hints} {frz : Bool} {br : List Nat} {f : FuncId} {vf : VFn} (e : lowAt P h frz br f = some vf) : ∃ (fn : Func) (hints : Hints) (frz : Bool) (br : List Nat), P.funcs[f]? = some fn ∧ lowFn P hints frz br fn = some vf := by
 unfold lowAt at e
 split at e
 ·rename_i fn hf
  exact ⟨fn, h, frz, br, hf, e⟩
 ·cases e
def noX : Calling := fun _ _ _ => none
theorem noX_sound (P : Program) : Sound P noX := fun _ _ _ _ _ h => by cases h
theorem law_calls {P : Program} {C : Calling} (hC : Sound P C) {f : FuncId} {args : List AV} (h : C f args [] = some (.ret (.d (.bool true)), [])) {w : World} {F : Nat → Prop} {us : Array Value} (hF : ∀ b, F b → b < w.heap.size) (hus : ARel w F (fun _ => none) args us)
  (hfn : ∃ fn, P.funcs[f]? = some fn ∧ fn.body.isNone = false) (hK : Known w F := by exact known_off) : Calls P f us w fun e w' => e = .returned (.bool true) ∧ Below w.heap.size w w' := by
 have hS : SRel w F (fun _ => none) [] := ⟨fun _ _ h => by simp at h, fun _ _ => rfl, fun _ _ h => (by cases h), hF, fun _ _ _ _ _ h => by simp at h, hK⟩
 have key : ∀ e w', Res w F (fun _ => none) [] (.ret (.d (.bool true))) [] e w' → e = .returned (.bool true) ∧ Below w.heap.size w w' := by
  intro e w' ⟨F', β', h1, h2, h3⟩
  cases e with
  | returned u =>
   have := inv_bool h1
   subst this
   exact ⟨rfl, h3.os, h3.tape, h3.output, h3.size, fun k hk => h3.keep k hk fun _ _ h => by simp at h⟩
  | panicked ch => exact h1.elim
  | outgrown => exact h1.elim
 rcases hC f args [] _ _ h w F _ us hS hus with ⟨fn, _, _, _, hc⟩ | ⟨v, w', hc, _⟩
 ·exact hc.mono key
 ·exfalso
  obtain ⟨fn, hf, hb⟩ := hfn
  unfold callFunc at hc
  by_cases hn : fn.name = "runtime.NumGoroutine"
  ·simp [hf, hn] at hc
  ·have hb' : ¬ fn.body = none := by
    intro e
    rw [e] at hb
    cases hb
   simp [hf, hn, hb'] at hc
instance flagOff : Inhabited Flag := ⟨⟨False, []⟩⟩
theorem known_off {w : World} {F : Nat → Prop} : @Known flagOff w F := fun x h => by cases h
theorem flag_off : ¬ @drOn flagOff := fun h => h
end Go.Proofs.YtjnfkifdgojdaaaGreat.V

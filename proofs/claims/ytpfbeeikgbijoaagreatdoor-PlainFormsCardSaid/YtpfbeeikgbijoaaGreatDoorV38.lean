/- strings.Trim and strings.TrimLeft at ASCII letters, by the kit's own contracts. -/
import Derived.Test.YtpfbeeikgbijoaaGreatDoorV37
import Derived.Shelf.Strings.SlTrimAscii
namespace Go.Proofs.YtpfbeeikgbijoaaGreatDoor.V
open Go Go.Shelf Go.RowKit Go.Lib
set_option linter.unusedVariables false
set_option linter.unusedSimpArgs false
set_option linter.unusedSectionVars false
variable [Inhabited Flag]
variable {P : Program} {ρ : Ren}
theorem two_args {w : World} {F : Nat → Prop} {β : Bl} {x y : AV} {us : Array Value} (hus : ARel w F β [x, y] us) : ∃ u0 u1, us = #[u0, u1] ∧ VRel w F β x u0 ∧ VRel w F β y u1 := by
  have : us.size = 2 := hus.1
  refine ⟨us[0], us[1], ?_, hus.2 0 _ _ rfl (Array.getElem?_eq_getElem _), hus.2 1 _ _ rfl (Array.getElem?_eq_getElem _)⟩
  apply Array.ext
  · simp [this]
  · intro i h1 h2
    rcases i with _ | _ | i
    · rfl
    · rfl
    · simp at h2; omega
def okCut (c : ByteArray) : Bool := decide (c.size < 4294967281) && c.data.toList.all (fun b => decide (b.toNat < 128))
theorem okCut_both {c : ByteArray} (h : okCut c = true) : c.size < 4294967281 ∧ ∀ (j : Nat) b, c.data.toList[j]? = some b → b.toNat < 128 := by
  unfold okCut at h
  rw [Bool.and_eq_true] at h
  exact ⟨of_decide_eq_true h.1, ascii_of_all h.2⟩
/-- strings.TrimLeft. -/
def xTrimLeft : List AV → List Obj → Option (Out × List Obj)
  | [.d (.str s), .d (.str c)], [] => if okCut c = true then some (.ret (.d (.str ⟨(Lib.trimLeftS s.data.toList c.data.toList).toArray⟩)), []) else none
  | _, _ => none
/-- strings.Trim. -/
def xTrim : List AV → List Obj → Option (Out × List Obj)
  | [.d (.str s), .d (.str c)], [] => if okCut c = true ∧ s.size ≤ 9223372036854775807 then some (.ret (.d (.str ⟨(Lib.trimS s.data.toList c.data.toList).toArray⟩)), []) else none
  | _, _ => none
/-- strings.TrimRight. -/
def xTrimRight : List AV → List Obj → Option (Out × List Obj)
  | [.d (.str s), .d (.str c)], [] => if okCut c = true ∧ s.size ≤ 9223372036854775807 then some (.ret (.d (.str ⟨(Lib.trimRightS s.data.toList c.data.toList).toArray⟩)), []) else none
  | _, _ => none
theorem xTrimLeft_sound (hq : ¬ drOn) (L : Lays.n161 P ρ) (h116 : (P.info? (ρ.t 116)).map (fun i => (i.zero, i.size)) = some (some (.agg (Array.replicate 256 (.bool false))), 256)) {fn : Func} (hfn : P.funcs[ρ.f 161]? = some fn) (hfn2 : (fn.name == "runtime.NumGoroutine") = false) (hfn3 : fn.body.isNone = false)
    {args : List AV} {sto : List Obj} {out : Out} {sto' : List Obj} (h : xTrimLeft args sto = some (out, sto')) {w : World} {F : Nat → Prop} {β : Bl} {us : Array Value} (hS : SRel w F β sto) (hus : ARel w F β args us) :
    CallsF P (ρ.f 161) us w (Res w F β sto out sto') := by
  unfold xTrimLeft at h
  split at h
  · rename_i s c
    split at h
    · rename_i hc
      cases h
      refine .inl ⟨fn, hfn, hfn2, hfn3, ?_⟩
      obtain ⟨u0, u1, rfl, v0, v1⟩ := two_args hus
      cases v0 with | d _ _ hd =>
      cases v1 with | d _ _ he =>
      cases hd
      cases he
      obtain ⟨k1, k2⟩ := okCut_both hc
      refine (Any.strings_TrimLeft_laid L h116 s c w k1 k2).mono fun e w' ⟨h1, h2⟩ => ?_
      subst h1
      obtain ⟨r1, r2⟩ := below_rel hq hS h2
      exact ⟨F, β, .d _ _ (.str _), r1, r2⟩
    · cases h
  · cases h
theorem xTrim_sound (hq : ¬ drOn) (L : Lays.n160 P ρ) (h116 : (P.info? (ρ.t 116)).map (fun i => (i.zero, i.size)) = some (some (.agg (Array.replicate 256 (.bool false))), 256)) {fn : Func} (hfn : P.funcs[ρ.f 160]? = some fn) (hfn2 : (fn.name == "runtime.NumGoroutine") = false) (hfn3 : fn.body.isNone = false)
    {args : List AV} {sto : List Obj} {out : Out} {sto' : List Obj} (h : xTrim args sto = some (out, sto')) {w : World} {F : Nat → Prop} {β : Bl} {us : Array Value} (hS : SRel w F β sto) (hus : ARel w F β args us) :
    CallsF P (ρ.f 160) us w (Res w F β sto out sto') := by
  unfold xTrim at h
  split at h
  · rename_i s c
    split at h
    · rename_i hc
      cases h
      refine .inl ⟨fn, hfn, hfn2, hfn3, ?_⟩
      obtain ⟨u0, u1, rfl, v0, v1⟩ := two_args hus
      cases v0 with | d _ _ hd =>
      cases v1 with | d _ _ he =>
      cases hd
      cases he
      obtain ⟨k1, k2⟩ := okCut_both hc.1
      refine (Any.strings_Trim_laid L h116 s c w hc.2 k1 k2).mono fun e w' ⟨h1, h2⟩ => ?_
      subst h1
      obtain ⟨r1, r2⟩ := below_rel hq hS h2
      exact ⟨F, β, .d _ _ (.str _), r1, r2⟩
    · cases h
  · cases h
theorem xTrimRight_sound (hq : ¬ drOn) (L : Lays.n162 P ρ) (h116 : (P.info? (ρ.t 116)).map (fun i => (i.zero, i.size)) = some (some (.agg (Array.replicate 256 (.bool false))), 256)) {fn : Func} (hfn : P.funcs[ρ.f 162]? = some fn) (hfn2 : (fn.name == "runtime.NumGoroutine") = false) (hfn3 : fn.body.isNone = false)
    {args : List AV} {sto : List Obj} {out : Out} {sto' : List Obj} (h : xTrimRight args sto = some (out, sto')) {w : World} {F : Nat → Prop} {β : Bl} {us : Array Value} (hS : SRel w F β sto) (hus : ARel w F β args us) :
    CallsF P (ρ.f 162) us w (Res w F β sto out sto') := by
  unfold xTrimRight at h
  split at h
  · rename_i s c
    split at h
    · rename_i hc
      cases h
      refine .inl ⟨fn, hfn, hfn2, hfn3, ?_⟩
      obtain ⟨u0, u1, rfl, v0, v1⟩ := two_args hus
      cases v0 with | d _ _ hd =>
      cases v1 with | d _ _ he =>
      cases hd
      cases he
      obtain ⟨k1, k2⟩ := okCut_both hc.1
      refine (Any.strings_TrimRight_laid L h116 s c w hc.2 k1 k2).mono fun e w' ⟨h1, h2⟩ => ?_
      subst h1
      obtain ⟨r1, r2⟩ := below_rel hq hS h2
      exact ⟨F, β, .d _ _ (.str _), r1, r2⟩
    · cases h
  · cases h
end Go.Proofs.YtpfbeeikgbijoaaGreatDoor.V

/- A law's arguments, as data. -/
import Derived.Test.YtjnfkifdgojdaaaGreatV27
import Derived.WideShapes
namespace Go.Proofs.YtjnfkifdgojdaaaGreat.V
open Go Go.WideShapes
set_option linter.unusedVariables false
set_option linter.unusedSimpArgs false
set_option linter.unusedSectionVars false
section
variable {H : Type} {enc : TypeId × Value → H} {P : Program} {w : World} {spare : Nat → Bool} {T : List TypeId}
def TyV (P : Program) (n : Nat) (t : TypeId) (x : D) : Prop := ∃ d, P.underlying t = some d ∧ if isAggD d = true then ∃ cs, x = .agg cs ∧ TyD P n t cs else TyD P n t [x]
theorem argD (hT : typesB P T = true) {t : TypeId} (ht : t ∈ T) {base : Nat} {v : Value} (hv : Value.okWide P w .any base t v) {d : DataW H} {p : List MemPlace} (h : DataW.Trod enc P w 0 spare true t v d p) (hw : Light P t d) : ∃ x fuel, DRel w (Old w) x v ∧ TyV P fuel t x := by
 obtain ⟨fuel, hf⟩ := h
 obtain ⟨xs, c1, t1⟩ := dat hT fuel t _ _ ht hf hw
 have hb : typeB P T t = true := by
  simp only [typesB, List.all_eq_true] at hT
  exact hT t ht
 unfold typeB at hb
 have one : ∀ d, P.underlying t = some d → isAggD d = false → v.cells = #[v] → ∃ x fuel, DRel w (Old w) x v ∧ TyV P fuel t x := by
  intro d hd hag hc
  rw [hc] at c1
  match xs, c1, t1 with
  | [x], c1, t1 => exact ⟨x, fuel, (c1.2 0 x v rfl rfl).1, d, hd, by rw [hag]; exact t1⟩
  | [], c1, _ => exact absurd c1.1 (by simp)
  | _ :: _ :: _, c1, _ => exact absurd c1.1 (by simp)
 cases hu : P.underlying t with
 | none => rw [hu] at hb; cases hb
 | some d =>
  rw [hu] at hb
  cases d <;> simp only at hb <;> try (cases hb; done)
  case bool => obtain ⟨b, rfl⟩ := okWide_bool hu hv; exact one _ hu rfl rfl
  case int k => obtain ⟨n, rfl⟩ := okWide_int hu hv; exact one _ hu rfl rfl
  case string => obtain ⟨s, rfl⟩ := okWide_string hu hv; exact one _ hu rfl rfl
  case pointer e => obtain ⟨a, rfl⟩ := okWide_pointer hu hv; exact one _ hu rfl rfl
  case slice e => obtain ⟨a, l, c, rfl⟩ := okWide_slice hu hv; exact one _ hu rfl rfl
  case struct fs =>
   obtain ⟨cs, rfl, hsz⟩ := okWide_struct hu hv
   refine ⟨.agg xs, fuel, .agg xs cs (by have := c1.1; simp only [Value.cells, Array.length_toList] at this; exact this.symm) (fun j u hj => ?_) (fun j y u hy hj => ?_), _, hu, ⟨xs, rfl, t1⟩⟩
   ·have hl : j < xs.length := by
     rw [c1.1]
     have := (Array.getElem?_eq_some_iff.1 hj).1
     simpa [Value.cells] using this
    exact (c1.2 j _ u (List.getElem?_eq_getElem hl) (by simpa [Value.cells] using hj)).2
   ·exact (c1.2 j y u hy (by simpa [Value.cells] using hj)).1
theorem lights : ∀ {ts : List TypeId} {ds : List (DataW H)}, (DataW.weightsEach P ts ds).all (· ≤ reachBytes) = true → ∀ (j : Nat) (t : TypeId) (d : DataW H), ts[j]? = some t → ds[j]? = some d → Light P t d
 | [], ds, _, j, t, d, ht, _ => by simp at ht
 | t0 :: ts, [], _, j, t, d, _, hd => by simp at hd
 | t0 :: ts, d0 :: ds, h, j, t, d, ht, hd => by
  simp only [DataW.weightsEach, List.all_append, Bool.and_eq_true] at h
  cases j with
  | zero =>
   simp at ht hd
   subst ht; subst hd
   intro n hn
   have := List.all_eq_true.1 h.1 n hn
   simpa using this
  | succ j => simp at ht hd; exact lights h.2 j t d ht hd
theorem argsD_one {x : D} {v : Value} (h : DRel w (Old w) x v) : ARel w (Old w) (fun _ => none) [.d x] #[v] := by
 refine ⟨rfl, fun j y u hy hu => ?_⟩
 cases j with
 | zero => simp at hy hu; subst hy; subst hu; exact .d _ _ h
 | succ j => simp at hy
theorem argsD_cons {x : D} {v : Value} (h : DRel w (Old w) x v) {xs : List AV} {vs : Array Value} (hr : ARel w (Old w) (fun _ => none) xs vs) : ARel w (Old w) (fun _ => none) (.d x :: xs) (#[v] ++ vs) := by
 refine ⟨by simp [hr.1]; omega, fun j y u hy hu => ?_⟩
 cases j with
 | zero =>
  simp at hy
  subst hy
  rw [Array.getElem?_append_left (by simp)] at hu
  simp at hu
  subst hu
  exact .d _ _ h
 | succ j =>
  simp at hy
  rw [Array.getElem?_append_right (by simp)] at hu
  simp at hu
  exact hr.2 j y u hy hu
end
end Go.Proofs.YtjnfkifdgojdaaaGreat.V

/- What is handed in, as typed data. -/
import Derived.Test.YtjnfkifdgojdaaaGreatV28
import Derived.Test.YtjnfkifdgojdaaaGreatV30
namespace Go.Proofs.YtjnfkifdgojdaaaGreat.V
open Go
set_option linter.unusedVariables false
set_option linter.unusedSimpArgs false
set_option linter.unusedSectionVars false
def inK (k : IntKind) (z : Int) : Prop := (Lit.int k z).wf = true
def wfS {α : Type} (bytes : Nat) (W : α → Prop) (s : SL α) : Prop := s.xs.length * bytes ≤ 140737488351232 ∧ ∀ a ∈ s.xs, W a
def wfStr (s : ByteArray) : Prop := s.size ≤ 140737488351232
def ElemD (P : Program) (n : Nat) (e : TypeId) (y : D) : Prop := ∃ d, P.underlying e = some d ∧ if isAggD d = true then ∃ cs, y = .agg cs ∧ TyD P n e cs else TyD P n e [y]
section
variable {P : Program} {n : Nat} {t : TypeId} {xs : List D}
theorem dec_int {k : IntKind} (hu : P.underlying t = some (.int k)) (h : TyD P n t xs) : ∃ z, xs = [.int k z] ∧ inK k z := by
 cases n with
 | zero => exact h.elim
 | succ n => simp only [TyD, hu] at h; exact h
theorem dec_bool (hu : P.underlying t = some .bool) (h : TyD P n t xs) : ∃ b, xs = [.bool b] := by
 cases n with
 | zero => exact h.elim
 | succ n => simp only [TyD, hu] at h; exact h
theorem dec_str (hu : P.underlying t = some .string) (h : TyD P n t xs) : ∃ s, xs = [.str s] ∧ wfStr s := by
 cases n with
 | zero => exact h.elim
 | succ n => simp only [TyD, hu] at h; exact h
theorem dec_list {α : Type} {enc : α → D} {W : α → Prop} : ∀ {ys : List D}, (∀ y ∈ ys, ∃ a, y = enc a ∧ W a) → ∃ as : List α, ys = dl enc as ∧ ∀ a ∈ as, W a
 | [], _ => ⟨[], rfl, fun a ha => (by cases ha)⟩
 | y :: ys, h => by
  obtain ⟨a, h1, h2⟩ := h y (List.mem_cons_self ..)
  obtain ⟨as, h3, h4⟩ := dec_list (ys := ys) fun y hy => h y (List.mem_cons_of_mem _ hy)
  refine ⟨a :: as, by rw [h1, h3]; rfl, fun x hx => ?_⟩
  rcases List.mem_cons.1 hx with rfl | hx
  ·exact h2
  ·exact h4 x hx
theorem dec_slice {α : Type} {e : TypeId} {enc : α → D} {es bytes : Nat} {W : α → Prop} (hu : P.underlying t = some (.slice e)) (hes : P.cellsOf e = es) (hb : P.bytesOf e = bytes) (hel : ∀ y, ElemD P n e y → ∃ a, y = enc a ∧ W a) (h : TyD P (n + 1) t xs) : ∃ s : SL α, xs = [slD es enc s] ∧ wfS bytes W s := by
 simp only [TyD, hu] at h
 obtain ⟨ys, tt, h1, h2, h3⟩ := h
 obtain ⟨as, h4, h5⟩ := dec_list (enc := enc) (W := W) (ys := ys) fun y hy => hel y (h3 y hy)
 rw [hb] at h2
 have hl : ys.length = as.length := by rw [h4]; simp
 rcases h1 with h1 | ⟨h1, h6, h7⟩
 ·refine ⟨⟨es, as, tt⟩, ?_, ?_, h5⟩
  ·rw [h1, hes, h4]; simp only [slD, esOf_self]
  ·rw [← hl]; exact h2
 ·refine ⟨⟨0, [], true⟩, h1, ?_, fun a ha => (by cases ha)⟩
  simp
theorem elem_agg {d : TypeDesc} (hu : P.underlying t = some d) (hd : isAggD d = true) {y : D} (h : ElemD P n t y) : ∃ cs, y = .agg cs ∧ TyD P n t cs := by
 obtain ⟨d', h1, h2⟩ := h
 rw [hu] at h1
 cases h1
 rw [hd] at h2
 exact h2
theorem arg_one {d : TypeDesc} (hu : P.underlying t = some d) (hd : isAggD d = false) {x : D} (h : TyV P n t x) : TyD P n t [x] := by
 obtain ⟨d', h1, h2⟩ := h
 rw [hu] at h1
 cases h1
 rw [hd] at h2
 exact h2
theorem arg_agg {d : TypeDesc} (hu : P.underlying t = some d) (hd : isAggD d = true) {x : D} (h : TyV P n t x) : ∃ cs, x = .agg cs ∧ TyD P n t cs := by
 obtain ⟨d', h1, h2⟩ := h
 rw [hu] at h1
 cases h1
 rw [hd] at h2
 exact h2
end
end Go.Proofs.YtjnfkifdgojdaaaGreat.V

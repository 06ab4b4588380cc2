/- What is handed in, as typed data (printed). -/
import Derived.Test.YtjnfkifdgojdaaaVX
import Derived.Test.YtjnfkifdgojdaaaV34
import Derived.Test.YtjnfkifdgojdaaaVE
namespace Go.Proofs.Ytjnfkifdgojdaaa.V
open Go
set_option linter.unusedVariables false
set_option linter.unusedSimpArgs false
set_option maxRecDepth 100000
def wf_Range (x : Range) : Prop := inK .i64 x.From ∧ inK .i64 x.To
theorem dec_Range : ∀ {n : Nat} {xs : List D}, TyD Try.prog n 40 xs → ∃ a : Range, xs = [(di a.From), (di a.To)] ∧ wf_Range a
  | 0, _, h => h.elim
  | n + 1, xs, h => by
    simp only [TyD, Try.underlying40] at h
    obtain ⟨hl, hf⟩ := h
    rw [show Try.prog.cellsOf 40 = 2 by kernel_rfl] at hl
    have f0 : TyD Try.prog n 3 ((xs.drop 0).take (Try.prog.cellsOf 3)) := hf _ (.head _)
    rw [show Try.prog.cellsOf 3 = 1 by kernel_rfl] at f0
    have f1 : TyD Try.prog n 3 ((xs.drop 1).take (Try.prog.cellsOf 3)) := hf _ (.tail _ (.head _))
    rw [show Try.prog.cellsOf 3 = 1 by kernel_rfl] at f1
    obtain ⟨x0, x1, rfl⟩ : ∃ x0 x1, xs = [x0, x1] := by
      match xs, hl with
      | [x0, x1], _ => exact ⟨x0, x1, rfl⟩
    simp only [List.drop_succ_cons, List.drop_zero, List.take_succ_cons, List.take_zero] at f0 f1
    obtain ⟨a0, e0, w0⟩ := (dec_int Try.underlying3 f0)
    obtain ⟨a1, e1, w1⟩ := (dec_int Try.underlying3 f1)
    simp only [List.cons.injEq, and_true] at e0 e1
    subst e0
    subst e1
    exact ⟨⟨a0, a1⟩, rfl, ⟨w0, w1⟩⟩
theorem dec22 {n : Nat} {xs : List D} (h : TyD Try.prog n 22 xs) : ∃ s : SL Range, xs = [slD 2 e_Range s] ∧ wfS 16 wf_Range s := by
  cases n with
  | zero => exact h.elim
  | succ n => exact dec_slice Try.underlying22 (by kernel_rfl) (by kernel_rfl) (fun y h => by obtain ⟨cs, h1, h2⟩ := elem_agg Try.underlying40 rfl h; obtain ⟨a, h3, h4⟩ := dec_Range h2; exact ⟨a, by rw [h1, h3]; rfl, h4⟩) h
end Go.Proofs.Ytjnfkifdgojdaaa.V

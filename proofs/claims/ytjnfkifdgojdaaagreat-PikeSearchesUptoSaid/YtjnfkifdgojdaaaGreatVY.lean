/- What is handed in, as typed data (printed). -/
import Derived.Test.YtjnfkifdgojdaaaGreatVX
import Derived.Test.YtjnfkifdgojdaaaGreatV34
import Derived.Test.YtjnfkifdgojdaaaGreatVE
namespace Go.Proofs.YtjnfkifdgojdaaaGreat.V
open Go
set_option linter.unusedVariables false
set_option linter.unusedSimpArgs false
set_option maxRecDepth 100000
def wf_Range (x : Range) : Prop := inK .i64 x.From ∧ inK .i64 x.To
theorem dec_Range : ∀ {n : Nat} {xs : List D}, TyD Tryz.prog n 76 xs → ∃ a : Range, xs = [(di a.From), (di a.To)] ∧ wf_Range a
  | 0, _, h => h.elim
  | n + 1, xs, h => by
    simp only [TyD, Tryz.underlying76] at h
    obtain ⟨hl, hf⟩ := h
    rw [show Tryz.prog.cellsOf 76 = 2 by kernel_rfl] at hl
    have f0 : TyD Tryz.prog n 3 ((xs.drop 0).take (Tryz.prog.cellsOf 3)) := hf _ (.head _)
    rw [show Tryz.prog.cellsOf 3 = 1 by kernel_rfl] at f0
    have f1 : TyD Tryz.prog n 3 ((xs.drop 1).take (Tryz.prog.cellsOf 3)) := hf _ (.tail _ (.head _))
    rw [show Tryz.prog.cellsOf 3 = 1 by kernel_rfl] at f1
    obtain ⟨x0, x1, rfl⟩ : ∃ x0 x1, xs = [x0, x1] := by
      match xs, hl with
      | [x0, x1], _ => exact ⟨x0, x1, rfl⟩
    simp only [List.drop_succ_cons, List.drop_zero, List.take_succ_cons, List.take_zero] at f0 f1
    obtain ⟨a0, e0, w0⟩ := (dec_int Tryz.underlying3 f0)
    obtain ⟨a1, e1, w1⟩ := (dec_int Tryz.underlying3 f1)
    simp only [List.cons.injEq, and_true] at e0 e1
    subst e0
    subst e1
    exact ⟨⟨a0, a1⟩, rfl, ⟨w0, w1⟩⟩
theorem dec38 {n : Nat} {xs : List D} (h : TyD Tryz.prog n 38 xs) : ∃ s : SL Range, xs = [slD 2 e_Range s] ∧ wfS 16 wf_Range s := by
  cases n with
  | zero => exact h.elim
  | succ n => exact dec_slice Tryz.underlying38 (by kernel_rfl) (by kernel_rfl) (fun y h => by obtain ⟨cs, h1, h2⟩ := elem_agg Tryz.underlying76 rfl h; obtain ⟨a, h3, h4⟩ := dec_Range h2; exact ⟨a, by rw [h1, h3]; rfl, h4⟩) h
def wf_State (x : State) : Prop := inK .i64 x.Kind ∧ wfS 16 wf_Range x.Ranges ∧ inK .i64 x.A ∧ inK .i64 x.B
theorem dec_State : ∀ {n : Nat} {xs : List D}, TyD Tryz.prog n 74 xs → ∃ a : State, xs = [(di a.Kind), (slD 2 e_Range a.Ranges), (di a.A), (di a.B)] ∧ wf_State a
  | 0, _, h => h.elim
  | n + 1, xs, h => by
    simp only [TyD, Tryz.underlying74] at h
    obtain ⟨hl, hf⟩ := h
    rw [show Tryz.prog.cellsOf 74 = 4 by kernel_rfl] at hl
    have f0 : TyD Tryz.prog n 72 ((xs.drop 0).take (Tryz.prog.cellsOf 72)) := hf _ (.head _)
    rw [show Tryz.prog.cellsOf 72 = 1 by kernel_rfl] at f0
    have f1 : TyD Tryz.prog n 38 ((xs.drop 1).take (Tryz.prog.cellsOf 38)) := hf _ (.tail _ (.head _))
    rw [show Tryz.prog.cellsOf 38 = 1 by kernel_rfl] at f1
    have f2 : TyD Tryz.prog n 3 ((xs.drop 2).take (Tryz.prog.cellsOf 3)) := hf _ (.tail _ (.tail _ (.head _)))
    rw [show Tryz.prog.cellsOf 3 = 1 by kernel_rfl] at f2
    have f3 : TyD Tryz.prog n 3 ((xs.drop 3).take (Tryz.prog.cellsOf 3)) := hf _ (.tail _ (.tail _ (.tail _ (.head _))))
    rw [show Tryz.prog.cellsOf 3 = 1 by kernel_rfl] at f3
    obtain ⟨x0, x1, x2, x3, rfl⟩ : ∃ x0 x1 x2 x3, xs = [x0, x1, x2, x3] := by
      match xs, hl with
      | [x0, x1, x2, x3], _ => exact ⟨x0, x1, x2, x3, rfl⟩
    simp only [List.drop_succ_cons, List.drop_zero, List.take_succ_cons, List.take_zero] at f0 f1 f2 f3
    obtain ⟨a0, e0, w0⟩ := (dec_int Tryz.underlying72 f0)
    obtain ⟨a1, e1, w1⟩ := (dec38 f1)
    obtain ⟨a2, e2, w2⟩ := (dec_int Tryz.underlying3 f2)
    obtain ⟨a3, e3, w3⟩ := (dec_int Tryz.underlying3 f3)
    simp only [List.cons.injEq, and_true] at e0 e1 e2 e3
    subst e0
    subst e1
    subst e2
    subst e3
    exact ⟨⟨a0, a1, a2, a3⟩, rfl, ⟨w0, w1, w2, w3⟩⟩
theorem dec22 {n : Nat} {xs : List D} (h : TyD Tryz.prog n 22 xs) : ∃ s : SL State, xs = [slD 4 e_State s] ∧ wfS 48 wf_State s := by
  cases n with
  | zero => exact h.elim
  | succ n => exact dec_slice Tryz.underlying22 (by kernel_rfl) (by kernel_rfl) (fun y h => by obtain ⟨cs, h1, h2⟩ := elem_agg Tryz.underlying74 rfl h; obtain ⟨a, h3, h4⟩ := dec_State h2; exact ⟨a, by rw [h1, h3]; rfl, h4⟩) h
end Go.Proofs.YtjnfkifdgojdaaaGreat.V

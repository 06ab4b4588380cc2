/- What is handed in, as typed data (printed). -/
import Derived.Test.YtkkekfehjbbhoaaGreatDoorVX
import Derived.Test.YtkkekfehjbbhoaaGreatDoorV34
import Derived.Test.YtkkekfehjbbhoaaGreatDoorVE
namespace Go.Proofs.YtkkekfehjbbhoaaGreatDoor.V
open Go
set_option linter.unusedVariables false
set_option linter.unusedSimpArgs false
set_option maxRecDepth 100000
def wf_Dec (x : Dec) : Prop := wfStr x.Digits ∧ inK .i64 x.Exp
theorem dec_Dec : ∀ {n : Nat} {xs : List D}, TyD Tryz.prog n 23 xs → ∃ a : Dec, xs = [(.bool a.Neg), (.str a.Digits), (di a.Exp)] ∧ wf_Dec a
  | 0, _, h => h.elim
  | n + 1, xs, h => by
    simp only [TyD, Tryz.underlying23] at h
    obtain ⟨hl, hf⟩ := h
    rw [show Tryz.prog.cellsOf 23 = 3 by kernel_rfl] at hl
    have f0 : TyD Tryz.prog n 4 ((xs.drop 0).take (Tryz.prog.cellsOf 4)) := hf _ (.head _)
    rw [show Tryz.prog.cellsOf 4 = 1 by kernel_rfl] at f0
    have f1 : TyD Tryz.prog n 9 ((xs.drop 1).take (Tryz.prog.cellsOf 9)) := hf _ (.tail _ (.head _))
    rw [show Tryz.prog.cellsOf 9 = 1 by kernel_rfl] at f1
    have f2 : TyD Tryz.prog n 3 ((xs.drop 2).take (Tryz.prog.cellsOf 3)) := hf _ (.tail _ (.tail _ (.head _)))
    rw [show Tryz.prog.cellsOf 3 = 1 by kernel_rfl] at f2
    obtain ⟨x0, x1, x2, rfl⟩ : ∃ x0 x1 x2, xs = [x0, x1, x2] := by
      match xs, hl with
      | [x0, x1, x2], _ => exact ⟨x0, x1, x2, rfl⟩
    simp only [List.drop_succ_cons, List.drop_zero, List.take_succ_cons, List.take_zero] at f0 f1 f2
    obtain ⟨a0, e0⟩ := (dec_bool Tryz.underlying4 f0)
    obtain ⟨a1, e1, w1⟩ := (dec_str Tryz.underlying9 f1)
    obtain ⟨a2, e2, w2⟩ := (dec_int Tryz.underlying3 f2)
    simp only [List.cons.injEq, and_true] at e0 e1 e2
    subst e0
    subst e1
    subst e2
    exact ⟨⟨a0, a1, a2⟩, rfl, ⟨w1, w2⟩⟩
theorem dec42 {n : Nat} {xs : List D} (h : TyD Tryz.prog n 42 xs) : ∃ s : SL Int, xs = [slD 1 (D.int .u32) s] ∧ wfS 4 (inK .u32) s := by
  cases n with
  | zero => exact h.elim
  | succ n => exact dec_slice Tryz.underlying42 (by kernel_rfl) (by kernel_rfl) (fun y h => by have h1 := elem_of Tryz.underlying51 rfl h; obtain ⟨a, h3, h4⟩ := (dec_int Tryz.underlying51 h1); exact ⟨a, by simpa using h3, h4⟩) h
end Go.Proofs.YtkkekfehjbbhoaaGreatDoor.V

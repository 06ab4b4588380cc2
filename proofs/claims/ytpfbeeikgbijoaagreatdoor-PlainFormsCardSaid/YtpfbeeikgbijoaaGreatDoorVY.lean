/- What is handed in, as typed data (printed). -/
import Derived.Test.YtpfbeeikgbijoaaGreatDoorVX
import Derived.Test.YtpfbeeikgbijoaaGreatDoorV34
import Derived.Test.YtpfbeeikgbijoaaGreatDoorVE
namespace Go.Proofs.YtpfbeeikgbijoaaGreatDoor.V
open Go
set_option linter.unusedVariables false
set_option linter.unusedSimpArgs false
set_option maxRecDepth 100000
def wf_Dec (x : Dec) : Prop := wfStr x.Digits ∧ inK .i64 x.Exp
theorem dec_Dec : ∀ {n : Nat} {xs : List D}, TyD Tryz.prog n 46 xs → ∃ a : Dec, xs = [(.bool a.Neg), (.str a.Digits), (di a.Exp)] ∧ wf_Dec a
  | 0, _, h => h.elim
  | n + 1, xs, h => by
    simp only [TyD, Tryz.underlying46] at h
    obtain ⟨hl, hf⟩ := h
    rw [show Tryz.prog.cellsOf 46 = 3 by kernel_rfl] at hl
    have f0 : TyD Tryz.prog n 4 ((xs.drop 0).take (Tryz.prog.cellsOf 4)) := hf _ (.head _)
    rw [show Tryz.prog.cellsOf 4 = 1 by kernel_rfl] at f0
    have f1 : TyD Tryz.prog n 9 ((xs.drop 1).take (Tryz.prog.cellsOf 9)) := hf _ (.tail _ (.head _))
    rw [show Tryz.prog.cellsOf 9 = 1 by kernel_rfl] at f1
    have f2 : TyD Tryz.prog n 3 ((xs.drop 2).take (Tryz.prog.cellsOf 3)) := hf _ (.tail _ (.tail _ (.head _)))
    rw [show Tryz.prog.cellsOf 3 = 1 by kernel_rfl] at f2
    obtain ⟨x0, x1, x2, rfl⟩ : ∃ x0 x1 x2, xs = [x0, x1, x2] := by
      match xs, hl with
      | [x0, x1, x2], _ => exact ⟨x0, x1, x2, rfl⟩
    simp only [List.drop_succ_cons, List.drop_zero, List.take_succ_cons, List.take_zero] at f0 f1 f2
    obtain ⟨a0, e0⟩ := (dec_bool Tryz.underlying4 f0)
    obtain ⟨a1, e1, w1⟩ := (dec_str Tryz.underlying9 f1)
    obtain ⟨a2, e2, w2⟩ := (dec_int Tryz.underlying3 f2)
    simp only [List.cons.injEq, and_true] at e0 e1 e2
    subst e0
    subst e1
    subst e2
    exact ⟨⟨a0, a1, a2⟩, rfl, ⟨w1, w2⟩⟩
theorem dec48 {n : Nat} {xs : List D} (h : TyD Tryz.prog n 48 xs) : ∃ s : SL ByteArray, xs = [slD 1 D.str s] ∧ wfS 16 wfStr s := by
  cases n with
  | zero => exact h.elim
  | succ n => exact dec_slice Tryz.underlying48 (by kernel_rfl) (by kernel_rfl) (fun y h => by have h1 := elem_of Tryz.underlying9 rfl h; obtain ⟨a, h3, h4⟩ := (dec_str Tryz.underlying9 h1); exact ⟨a, by simpa using h3, h4⟩) h
inductive wf_Value : Value → Prop
  | mk {x : Value} (w0 : inK .i64 x.Kind) (w1 : wf_Dec x.Num) (w2 : wfStr x.Text) (l3 : x.List.xs.length * 104 ≤ 140737488351232) (w3 : ∀ y ∈ x.List.xs, wf_Value y) (w4 : wfS 16 wfStr x.Keys) : wf_Value x
theorem dec_Value : ∀ {n : Nat} {xs : List D}, TyD Tryz.prog n 95 xs → ∃ a : Value, xs = [(di a.Kind), (.bool a.Num.Neg), (.str a.Num.Digits), (di a.Num.Exp), (.str a.Text), (slD 7 eR_Value a.List), (slD 1 D.str a.Keys)] ∧ wf_Value a
  | 0, _, h => h.elim
  | n + 1, xs, h => by
    simp only [TyD, Tryz.underlying95] at h
    obtain ⟨hl, hf⟩ := h
    rw [show Tryz.prog.cellsOf 95 = 7 by kernel_rfl] at hl
    have f0 : TyD Tryz.prog n 93 ((xs.drop 0).take (Tryz.prog.cellsOf 93)) := hf _ (.head _)
    rw [show Tryz.prog.cellsOf 93 = 1 by kernel_rfl] at f0
    have f1 : TyD Tryz.prog n 46 ((xs.drop 1).take (Tryz.prog.cellsOf 46)) := hf _ (.tail _ (.head _))
    rw [show Tryz.prog.cellsOf 46 = 3 by kernel_rfl] at f1
    have f2 : TyD Tryz.prog n 9 ((xs.drop 4).take (Tryz.prog.cellsOf 9)) := hf _ (.tail _ (.tail _ (.head _)))
    rw [show Tryz.prog.cellsOf 9 = 1 by kernel_rfl] at f2
    have f3 : TyD Tryz.prog n 47 ((xs.drop 5).take (Tryz.prog.cellsOf 47)) := hf _ (.tail _ (.tail _ (.tail _ (.head _))))
    rw [show Tryz.prog.cellsOf 47 = 1 by kernel_rfl] at f3
    have f4 : TyD Tryz.prog n 48 ((xs.drop 6).take (Tryz.prog.cellsOf 48)) := hf _ (.tail _ (.tail _ (.tail _ (.tail _ (.head _)))))
    rw [show Tryz.prog.cellsOf 48 = 1 by kernel_rfl] at f4
    obtain ⟨x0, x1, x2, x3, x4, x5, x6, rfl⟩ : ∃ x0 x1 x2 x3 x4 x5 x6, xs = [x0, x1, x2, x3, x4, x5, x6] := by
      match xs, hl with
      | [x0, x1, x2, x3, x4, x5, x6], _ => exact ⟨x0, x1, x2, x3, x4, x5, x6, rfl⟩
    simp only [List.drop_succ_cons, List.drop_zero, List.take_succ_cons, List.take_zero] at f0 f1 f2 f3 f4
    obtain ⟨a0, e0, w0⟩ := (dec_int Tryz.underlying93 f0)
    obtain ⟨a1, e1, w1⟩ := dec_Dec f1
    obtain ⟨a2, e2, w2⟩ := (dec_str Tryz.underlying9 f2)
    cases n with
    | zero => exact f3.elim
    | succ n =>
    obtain ⟨a3, e3, w3⟩ := dec_slice (enc := eR_Value) (W := wf_Value) Tryz.underlying47 (show Tryz.prog.cellsOf 95 = 7 by kernel_rfl) (show Tryz.prog.bytesOf 95 = 104 by kernel_rfl) (fun y h => by obtain ⟨cs, h1, h2⟩ := elem_agg Tryz.underlying95 rfl h; obtain ⟨a, h3, h4⟩ := dec_Value h2; exact ⟨a, by rw [h1, h3]; exact (eR_Value_eq a).symm, h4⟩) f3
    obtain ⟨a4, e4, w4⟩ := (dec48 f4)
    simp only [List.cons.injEq, and_true] at e0 e1 e2 e3 e4
    subst e0
    obtain ⟨rfl, rfl, rfl⟩ := e1
    subst e2
    subst e3
    subst e4
    exact ⟨⟨a0, a1, a2, a3, a4⟩, rfl, .mk w0 w1 w2 w3.1 w3.2 w4⟩
theorem dec47 {n : Nat} {xs : List D} (h : TyD Tryz.prog n 47 xs) : ∃ s : SL Value, xs = [slD 7 eR_Value s] ∧ wfS 104 wf_Value s := by
  cases n with
  | zero => exact h.elim
  | succ n => exact dec_slice Tryz.underlying47 (by kernel_rfl) (by kernel_rfl) (fun y h => by obtain ⟨cs, h1, h2⟩ := elem_agg Tryz.underlying95 rfl h; obtain ⟨a, h3, h4⟩ := dec_Value h2; exact ⟨a, by rw [h1, h3]; exact (eR_Value_eq a).symm, h4⟩) h
theorem dec49 {n : Nat} {xs : List D} (h : TyD Tryz.prog n 49 xs) : ∃ s : SL Int, xs = [slD 1 (D.int .i64) s] ∧ wfS 8 (inK .i64) s := by
  cases n with
  | zero => exact h.elim
  | succ n => exact dec_slice Tryz.underlying49 (by kernel_rfl) (by kernel_rfl) (fun y h => by have h1 := elem_of Tryz.underlying3 rfl h; obtain ⟨a, h3, h4⟩ := (dec_int Tryz.underlying3 h1); exact ⟨a, by simpa using h3, h4⟩) h
def wf_Rule (x : Rule) : Prop := inK .i64 x.Kind ∧ inK .i64 x.N ∧ inK .i64 x.M ∧ wf_Dec x.Num ∧ wfS 104 wf_Value x.Vals ∧ wfS 16 wfStr x.Names ∧ wfS 16 wfStr x.Pats ∧ wfS 8 (inK .i64) x.Subs
theorem dec_Rule : ∀ {n : Nat} {xs : List D}, TyD Tryz.prog n 51 xs → ∃ a : Rule, xs = [(di a.Kind), (di a.N), (di a.M), (.bool a.Num.Neg), (.str a.Num.Digits), (di a.Num.Exp), (slD 7 eR_Value a.Vals), (slD 1 D.str a.Names), (slD 1 D.str a.Pats), (slD 1 (D.int .i64) a.Subs)] ∧ wf_Rule a
  | 0, _, h => h.elim
  | n + 1, xs, h => by
    simp only [TyD, Tryz.underlying51] at h
    obtain ⟨hl, hf⟩ := h
    rw [show Tryz.prog.cellsOf 51 = 10 by kernel_rfl] at hl
    have f0 : TyD Tryz.prog n 44 ((xs.drop 0).take (Tryz.prog.cellsOf 44)) := hf _ (.head _)
    rw [show Tryz.prog.cellsOf 44 = 1 by kernel_rfl] at f0
    have f1 : TyD Tryz.prog n 3 ((xs.drop 1).take (Tryz.prog.cellsOf 3)) := hf _ (.tail _ (.head _))
    rw [show Tryz.prog.cellsOf 3 = 1 by kernel_rfl] at f1
    have f2 : TyD Tryz.prog n 3 ((xs.drop 2).take (Tryz.prog.cellsOf 3)) := hf _ (.tail _ (.tail _ (.head _)))
    rw [show Tryz.prog.cellsOf 3 = 1 by kernel_rfl] at f2
    have f3 : TyD Tryz.prog n 46 ((xs.drop 3).take (Tryz.prog.cellsOf 46)) := hf _ (.tail _ (.tail _ (.tail _ (.head _))))
    rw [show Tryz.prog.cellsOf 46 = 3 by kernel_rfl] at f3
    have f4 : TyD Tryz.prog n 47 ((xs.drop 6).take (Tryz.prog.cellsOf 47)) := hf _ (.tail _ (.tail _ (.tail _ (.tail _ (.head _)))))
    rw [show Tryz.prog.cellsOf 47 = 1 by kernel_rfl] at f4
    have f5 : TyD Tryz.prog n 48 ((xs.drop 7).take (Tryz.prog.cellsOf 48)) := hf _ (.tail _ (.tail _ (.tail _ (.tail _ (.tail _ (.head _))))))
    rw [show Tryz.prog.cellsOf 48 = 1 by kernel_rfl] at f5
    have f6 : TyD Tryz.prog n 48 ((xs.drop 8).take (Tryz.prog.cellsOf 48)) := hf _ (.tail _ (.tail _ (.tail _ (.tail _ (.tail _ (.tail _ (.head _)))))))
    rw [show Tryz.prog.cellsOf 48 = 1 by kernel_rfl] at f6
    have f7 : TyD Tryz.prog n 49 ((xs.drop 9).take (Tryz.prog.cellsOf 49)) := hf _ (.tail _ (.tail _ (.tail _ (.tail _ (.tail _ (.tail _ (.tail _ (.head _))))))))
    rw [show Tryz.prog.cellsOf 49 = 1 by kernel_rfl] at f7
    obtain ⟨x0, x1, x2, x3, x4, x5, x6, x7, x8, x9, rfl⟩ : ∃ x0 x1 x2 x3 x4 x5 x6 x7 x8 x9, xs = [x0, x1, x2, x3, x4, x5, x6, x7, x8, x9] := by
      match xs, hl with
      | [x0, x1, x2, x3, x4, x5, x6, x7, x8, x9], _ => exact ⟨x0, x1, x2, x3, x4, x5, x6, x7, x8, x9, rfl⟩
    simp only [List.drop_succ_cons, List.drop_zero, List.take_succ_cons, List.take_zero] at f0 f1 f2 f3 f4 f5 f6 f7
    obtain ⟨a0, e0, w0⟩ := (dec_int Tryz.underlying44 f0)
    obtain ⟨a1, e1, w1⟩ := (dec_int Tryz.underlying3 f1)
    obtain ⟨a2, e2, w2⟩ := (dec_int Tryz.underlying3 f2)
    obtain ⟨a3, e3, w3⟩ := dec_Dec f3
    obtain ⟨a4, e4, w4⟩ := (dec47 f4)
    obtain ⟨a5, e5, w5⟩ := (dec48 f5)
    obtain ⟨a6, e6, w6⟩ := (dec48 f6)
    obtain ⟨a7, e7, w7⟩ := (dec49 f7)
    simp only [List.cons.injEq, and_true] at e0 e1 e2 e3 e4 e5 e6 e7
    subst e0
    subst e1
    subst e2
    obtain ⟨rfl, rfl, rfl⟩ := e3
    subst e4
    subst e5
    subst e6
    subst e7
    exact ⟨⟨a0, a1, a2, a3, a4, a5, a6, a7⟩, rfl, ⟨w0, w1, w2, w3, w4, w5, w6, w7⟩⟩
theorem dec39 {n : Nat} {xs : List D} (h : TyD Tryz.prog n 39 xs) : ∃ s : SL Rule, xs = [slD 10 e_Rule s] ∧ wfS 152 wf_Rule s := by
  cases n with
  | zero => exact h.elim
  | succ n => exact dec_slice Tryz.underlying39 (by kernel_rfl) (by kernel_rfl) (fun y h => by obtain ⟨cs, h1, h2⟩ := elem_agg Tryz.underlying51 rfl h; obtain ⟨a, h3, h4⟩ := dec_Rule h2; exact ⟨a, by rw [h1, h3]; rfl, h4⟩) h
def wf_Form (x : Form) : Prop := inK .i64 x.Resource ∧ wfS 152 wf_Rule x.Rules
theorem dec_Form : ∀ {n : Nat} {xs : List D}, TyD Tryz.prog n 41 xs → ∃ a : Form, xs = [(.bool a.Never), (di a.Resource), (slD 10 e_Rule a.Rules)] ∧ wf_Form a
  | 0, _, h => h.elim
  | n + 1, xs, h => by
    simp only [TyD, Tryz.underlying41] at h
    obtain ⟨hl, hf⟩ := h
    rw [show Tryz.prog.cellsOf 41 = 3 by kernel_rfl] at hl
    have f0 : TyD Tryz.prog n 4 ((xs.drop 0).take (Tryz.prog.cellsOf 4)) := hf _ (.head _)
    rw [show Tryz.prog.cellsOf 4 = 1 by kernel_rfl] at f0
    have f1 : TyD Tryz.prog n 3 ((xs.drop 1).take (Tryz.prog.cellsOf 3)) := hf _ (.tail _ (.head _))
    rw [show Tryz.prog.cellsOf 3 = 1 by kernel_rfl] at f1
    have f2 : TyD Tryz.prog n 39 ((xs.drop 2).take (Tryz.prog.cellsOf 39)) := hf _ (.tail _ (.tail _ (.head _)))
    rw [show Tryz.prog.cellsOf 39 = 1 by kernel_rfl] at f2
    obtain ⟨x0, x1, x2, rfl⟩ : ∃ x0 x1 x2, xs = [x0, x1, x2] := by
      match xs, hl with
      | [x0, x1, x2], _ => exact ⟨x0, x1, x2, rfl⟩
    simp only [List.drop_succ_cons, List.drop_zero, List.take_succ_cons, List.take_zero] at f0 f1 f2
    obtain ⟨a0, e0⟩ := (dec_bool Tryz.underlying4 f0)
    obtain ⟨a1, e1, w1⟩ := (dec_int Tryz.underlying3 f1)
    obtain ⟨a2, e2, w2⟩ := (dec39 f2)
    simp only [List.cons.injEq, and_true] at e0 e1 e2
    subst e0
    subst e1
    subst e2
    exact ⟨⟨a0, a1, a2⟩, rfl, ⟨w1, w2⟩⟩
end Go.Proofs.YtpfbeeikgbijoaaGreatDoor.V

/- Trees checked; how many states they have; the law NfaGrows. -/
import Derived.Test.YtgoalemieifcdaaN5
import Derived.Test.YtgoalemieifcdaaVY
namespace Go.Proofs.Ytgoalemieifcdaa.V
open Go
set_option linter.unusedVariables false
set_option linter.unusedSimpArgs false
set_option linter.unusedSectionVars false
theorem index_rx {o : Int} {s : SL Rx} {P : Rx → Prop} (hs : s.xs.length < 9000000000000) (hw : w64 (o - 1)) (hP : ∀ y ∈ s.xs, ∃ b, rx_fits y (o - 1) b ∧ (b = true ↔ P y)) : ∀ (rest : List Rx) (k : Nat), s.xs.drop k = rest →
    ((∀ y ∈ rest, P y) ∧ ∃ z, sl_IndexFunc_Rx_l0 o s (s.xs.length : Int) k (sl_IndexFunc_Rx_l0_x1 o s (s.xs.length : Int) z)) ∨ ((¬ ∀ y ∈ rest, P y) ∧ ∃ i : Nat, sl_IndexFunc_Rx_l0 o s (s.xs.length : Int) k (sl_IndexFunc_Rx_l0_x0 o i))
  | [], k, hd => .inl ⟨fun y h => (by cases h), k, sl_IndexFunc_Rx_l0_e2 (by have := drop_nil_le hd; omega)⟩
  | y :: rest, k, hd => by
    obtain ⟨h1, h2, h3⟩ := at_drop hd
    have lk : (k : Int) < (s.xs.length : Int) := by omega
    have w3 : w64 ((k : Int) + 1) := w64k (by omega)
    obtain ⟨b, hb, e⟩ := hP y (List.mem_of_mem_drop (by rw [hd]; exact List.mem_cons_self ..))
    cases b with
    | false => exact .inr ⟨fun h => (by have := e.2 (h y (List.mem_cons_self ..)); cases this), k, sl_IndexFunc_Rx_l0_e0 lk (by omega) h1 (rx_fits_f1_r1 hw hb)⟩
    | true =>
      have hy := e.1 rfl
      have st := fun {r_} (h : sl_IndexFunc_Rx_l0 o s (s.xs.length : Int) (k + 1 : Nat) r_) => sl_IndexFunc_Rx_l0_s1 lk (by omega) h1 (rx_fits_f1_r0 hw hb) w3 h
      rcases index_rx hs hw hP rest (k + 1) h2 with ⟨a, z, h⟩ | ⟨a, i, h⟩
      · exact .inl ⟨fun q hq => by rcases List.mem_cons.1 hq with rfl | hq; exact hy; exact a q hq, z, st h⟩
      · exact .inr ⟨fun hh => a (fun q hq => hh q (List.mem_cons_of_mem _ hq)), i, st h⟩
theorem contains_rx {o : Int} {s : SL Rx} {P : Rx → Prop} (hs : s.xs.length < 9000000000000) (hw : w64 (o - 1)) (hP : ∀ y ∈ s.xs, ∃ b, rx_fits y (o - 1) b ∧ (b = true ↔ P y)) :
    ((∀ y ∈ s.xs, P y) ∧ sl_ContainsFunc_Rx o s false o) ∨ ((¬ ∀ y ∈ s.xs, P y) ∧ sl_ContainsFunc_Rx o s true o) := by
  rcases index_rx hs hw hP s.xs 0 (by simp) with ⟨a, z, h⟩ | ⟨a, i, h⟩
  · exact .inl ⟨a, sl_ContainsFunc_Rx_r1 (sl_IndexFunc_Rx_r1 h) (by omega)⟩
  · exact .inr ⟨a, sl_ContainsFunc_Rx_r0 (sl_IndexFunc_Rx_r0 h) (by omega)⟩
theorem wfRx_small {x : Rx} (h : wf_Rx x) : small (x.Ranges.xs.length + 1) ∧ x.Sub.xs.length < 9000000000000 ∧ ∀ y ∈ x.Sub.xs, wf_Rx y := by
  cases h with
  | mk w0 w1 w2 w3 l5 w5 => exact ⟨by have := w1.1; unfold small; omega, by omega, w5⟩
theorem fits_run : ∀ (n : Nat) {x : Rx}, n ≤ 100000 → wf_Rx x → ∃ b, rx_fits x (n : Int) b ∧ (b = true ↔ rightR n x)
  | 0, x, hn, hx => ⟨false, rx_fits_r0 (by omega), by simp [rightR]⟩
  | n + 1, x, hn, hx => by
    obtain ⟨h1, h2, h3⟩ := wfRx_small hx
    have e : (((n + 1 : Nat) : Int) - 1) = (n : Int) := by omega
    exact fits_node (by omega) h1 (contains_rx h2 (in64 (by omega) (by omega)) (fun y hy => by rw [e]; exact fits_run n (by omega) (h3 y hy)))
theorem right_subs {x : Rx} {o : Int} {P : Rx → Prop} (hs : x.Sub.xs.length < 9000000000000) (hw : w64 (o - 1)) (hP : ∀ y ∈ x.Sub.xs, ∃ b, ref09_right y (o - 1) b ∧ (b = true ↔ P y)) : ∀ (rest : List Rx) (k : Nat), x.Sub.xs.drop k = rest →
    ((∀ y ∈ rest, P y) ∧ ∃ z, ref09_right_l0 x o (x.Sub.xs.length : Int) k (ref09_right_l0_x1 x o (x.Sub.xs.length : Int) z)) ∨ ((¬ ∀ y ∈ rest, P y) ∧ ref09_right_l0 x o (x.Sub.xs.length : Int) k (ref09_right_l0_x0 x))
  | [], k, hd => .inl ⟨fun y h => (by cases h), k, ref09_right_l0_e2 (by have := drop_nil_le hd; omega)⟩
  | y :: rest, k, hd => by
    obtain ⟨h1, h2, h3⟩ := at_drop hd
    have lk : (k : Int) < (x.Sub.xs.length : Int) := by omega
    have w3 : w64 ((k : Int) + 1) := w64k (by omega)
    obtain ⟨b, hb, e⟩ := hP y (List.mem_of_mem_drop (by rw [hd]; exact List.mem_cons_self ..))
    cases b with
    | false => exact .inr ⟨fun h => (by have := e.2 (h y (List.mem_cons_self ..)); cases this), ref09_right_l0_e1 lk (by omega) h1 hw hb⟩
    | true =>
      have hy := e.1 rfl
      have st := fun {r_} (h : ref09_right_l0 x o (x.Sub.xs.length : Int) (k + 1 : Nat) r_) => ref09_right_l0_s0 lk (by omega) h1 hw hb w3 h
      rcases right_subs hs hw hP rest (k + 1) h2 with ⟨a, z, h⟩ | ⟨a, h⟩
      · exact .inl ⟨fun q hq => by rcases List.mem_cons.1 hq with rfl | hq; exact hy; exact a q hq, z, st h⟩
      · exact .inr ⟨fun hh => a (fun q hq => hh q (List.mem_cons_of_mem _ hq)), st h⟩
theorem right_run : ∀ (n : Nat) {x : Rx}, n ≤ 100000 → wf_Rx x → ∃ b, ref09_right x (n : Int) b ∧ (b = true ↔ rightR n x)
  | 0, x, hn, hx => ⟨false, ref09_right_r0 (by omega), by simp [rightR]⟩
  | n + 1, x, hn, hx => by
    obtain ⟨h1, h2, h3⟩ := wfRx_small hx
    have e : (((n + 1 : Nat) : Int) - 1) = (n : Int) := by omega
    exact right_node (by omega) h1 (right_subs h2 (in64 (by omega) (by omega)) (fun y hy => by rw [e]; exact right_run n (by omega) (h3 y hy)) x.Sub.xs 0 (by simp))
/-- Both checks ask the same. -/
theorem checks_rx {x : Rx} (hx : wf_Rx x) : (rightR 1000 x ∧ rx_Check x 0 ∧ ref09_Check x 0) ∨ (¬ rightR 1000 x ∧ rx_Check x 91 ∧ ref09_Check x 91) := by
  obtain ⟨b, h1, e1⟩ := fits_run 1000 (by omega) hx
  obtain ⟨c, h2, e2⟩ := right_run 1000 (by omega) hx
  by_cases h : rightR 1000 x
  · rw [e1.2 h] at h1; rw [e2.2 h] at h2
    exact .inl ⟨h, rx_Check_r0 h1, ref09_Check_r0 h2⟩
  · have f1 : b = false := by cases b; rfl; exact absurd (e1.1 rfl) h
    have f2 : c = false := by cases c; rfl; exact absurd (e2.1 rfl) h
    rw [f1] at h1; rw [f2] at h2
    exact .inr ⟨h, rx_Check_r1 h1, ref09_Check_r1 h2⟩
/-! ### Sizes -/
def fR (x : Rx) (s : Int) : Int :=
  if x.Kind = 1 ∨ x.Kind = 3 then s else if x.Kind = 4 then s + 2 * ((x.Sub.xs.length : Int) - 1) else if x.Kind = 5 then (if x.Max < 0 then x.Min * s + s + 2 else x.Min * s + (x.Max - x.Min) * (s + 1)) else s + 1
def sumT (f : Rx → Int) : List Rx → Int
  | [] => 0
  | y :: r => f y + sumT f r
/-- How many states a tree has, the last one left out. -/
def totR : Nat → Rx → Int
  | 0, _ => 0
  | n + 1, x => fR x (sumT (totR n) x.Sub.xs)
theorem mul_up {p s m : Int} (hp : 0 ≤ p) (hq : p ≤ 1000) (hs : 0 ≤ s) (hm : s ≤ m) : 0 ≤ p * s ∧ p * s ≤ 1000 * m := by
  have h1 := Int.mul_nonneg hp hs
  have h2 := Int.mul_le_mul hq hm hs (by omega : (0 : Int) ≤ 1000)
  exact ⟨h1, h2⟩
theorem fR_min {x : Rx} {s m : Int} (h : nodeOK x) (hs : 0 ≤ s) (hm : 0 ≤ m) : min (fR x (min s m)) m = min (fR x s) m ∧ 0 ≤ fR x s := by
  obtain ⟨_, _, _, h⟩ := h
  unfold fR
  by_cases k : x.Kind = 1 ∨ x.Kind = 3
  · rw [if_pos k, if_pos k]; omega
  rw [if_neg k, if_neg k]
  by_cases k4 : x.Kind = 4
  · rw [if_pos k4, if_pos k4]; omega
  rw [if_neg k4, if_neg k4]
  by_cases k5 : x.Kind = 5
  · rw [if_pos k5, if_pos k5]
    obtain ⟨_, _, a1, a2, a3, a4, a5⟩ : x.Kind = 5 ∧ x.Sub.xs.length = 1 ∧ 0 ≤ x.Min ∧ x.Min ≤ 1000 ∧ -1 ≤ x.Max ∧ x.Max ≤ 1000 ∧ (x.Max < 0 ∨ x.Min ≤ x.Max) := by omega
    by_cases c : x.Max < 0
    · rw [if_pos c, if_pos c]
      have q1 := Int.mul_nonneg a1 hs
      have q2 := Int.mul_nonneg a1 hm
      rcases Int.le_total s m with d | d
      · rw [Int.min_eq_left d]; omega
      · rw [Int.min_eq_right d]; omega
    · rw [if_neg c, if_neg c]
      have q0 : ∀ z : Int, x.Min * z + (x.Max - x.Min) * (z + 1) = x.Max * z + (x.Max - x.Min) := by
        intro z; rw [Int.mul_add, Int.sub_mul]; omega
      rw [q0, q0]
      have b1 : 0 ≤ x.Max := by omega
      rcases Int.le_total s m with d | d
      · rw [Int.min_eq_left d]
        have := Int.mul_nonneg b1 hs
        omega
      · rw [Int.min_eq_right d]
        by_cases e : x.Max = 0
        · rw [e]; omega
        · have e1 : 1 ≤ x.Max := by omega
          have q1 : m ≤ x.Max * m := by have := Int.mul_le_mul_of_nonneg_right e1 hm; omega
          have q2 : s ≤ x.Max * s := by have := Int.mul_le_mul_of_nonneg_right e1 hs; omega
          omega
  · rw [if_neg k5, if_neg k5]; omega
theorem sumT_nonneg {f : Rx → Int} : ∀ {l : List Rx}, (∀ y ∈ l, 0 ≤ f y) → 0 ≤ sumT f l
  | [], _ => by simp [sumT]
  | y :: r, h => by
    have h1 := h y (List.mem_cons_self ..)
    have h2 := sumT_nonneg (l := r) (fun q hq => h q (List.mem_cons_of_mem _ hq))
    simp only [sumT]; omega
theorem totR_nonneg : ∀ (n : Nat) {x : Rx}, rightR n x → 0 ≤ totR n x
  | 0, x, h => h.elim
  | n + 1, x, h => (fR_min (m := 0) h.1 (sumT_nonneg (fun y hy => totR_nonneg n (h.2 y hy))) (by omega)).2
theorem size_loop {x : Rx} {m : Int} {s : SL Rx} {f : Rx → Int} (hs : s.xs.length < 9000000000000) (hm : 0 ≤ m) (hm2 : m ≤ 1099511627776) (hf : ∀ y ∈ s.xs, 0 ≤ f y) (hP : ∀ y ∈ s.xs, nfa_size y m (min (f y) m)) : ∀ (rest : List Rx) (k : Nat) (a : Int), s.xs.drop k = rest → 0 ≤ a →
    ∃ z, nfa_size_l0 x m (min a m) s (s.xs.length : Int) k (nfa_size_l0_x0 x m (min (a + sumT f rest) m) s (s.xs.length : Int) z)
  | [], k, a, hd, ha => ⟨k, by rw [show a + sumT f [] = a by simp [sumT]]; exact nfa_size_l0_e1 (by have := drop_nil_le hd; omega)⟩
  | y :: rest, k, a, hd, ha => by
    obtain ⟨h1, h2, h3⟩ := at_drop hd
    have lk : (k : Int) < (s.xs.length : Int) := by omega
    have w3 : w64 ((k : Int) + 1) := w64k (by omega)
    have hy := List.mem_of_mem_drop (i := k) (by rw [hd]; exact List.mem_cons_self (a := y) ..)
    have h0 := hf y hy
    obtain ⟨z, ih⟩ := size_loop (x := x) hs hm hm2 hf hP rest (k + 1) (a + f y) h2 (by omega)
    refine ⟨z, nfa_size_l0_s0 lk (by omega) h1 (hP y hy) (in64 (by omega) (by omega)) w3 ?_⟩
    rw [show min (min a m + min (f y) m) m = min (a + f y) m by omega, show a + sumT f (y :: rest) = a + f y + sumT f rest by simp only [sumT]; omega]
    exact ih
theorem size_run : ∀ (n : Nat) {x : Rx} {m : Int}, wf_Rx x → rightR n x → 0 ≤ m → m ≤ 1099511627776 → nfa_size x m (min (totR n x) m)
  | 0, x, m, hx, h, _, _ => h.elim
  | n + 1, x, m, hx, h, hm, hm2 => by
    obtain ⟨_, h2, h3⟩ := wfRx_small hx
    have hn : ∀ y ∈ x.Sub.xs, 0 ≤ totR n y := fun y hy => totR_nonneg n (h.2 y hy)
    obtain ⟨z, hl⟩ := size_loop (x := x) (f := totR n) h2 hm hm2 hn (fun y hy => size_run n (h3 y hy) (h.2 y hy) hm hm2) x.Sub.xs 0 0 (by simp) (by omega)
    rw [show min 0 m = 0 by omega, Int.zero_add] at hl
    have hS := sumT_nonneg hn
    generalize hSe : sumT (totR n) x.Sub.xs = S at hl hS
    have key := (fR_min h.1 hS hm).1
    rw [show totR (n + 1) x = fR x S by rw [← hSe]; rfl, ← key]
    have hz : 0 ≤ min S m ∧ min S m ≤ m := by omega
    generalize min S m = q at hl hz
    obtain ⟨_, _, _, h4⟩ := h.1
    unfold fR
    by_cases k1 : x.Kind = 1
    · rw [if_pos (.inl k1)]; exact nfa_size_r0 hl k1
    by_cases k3 : x.Kind = 3
    · rw [if_pos (.inr k3)]; exact nfa_size_r1 hl k1 k3
    rw [if_neg (by omega)]
    by_cases k4 : x.Kind = 4
    · rw [if_pos k4]
      exact nfa_size_r2 hl k1 k3 k4 (in64 (by omega) (by omega)) (in64 (by omega) (by omega)) (in64 (by omega) (by omega))
    rw [if_neg k4]
    by_cases k5 : x.Kind = 5
    · rw [if_pos k5]
      obtain ⟨_, _, a1, a2, a3, a4, a5⟩ : x.Kind = 5 ∧ x.Sub.xs.length = 1 ∧ 0 ≤ x.Min ∧ x.Min ≤ 1000 ∧ -1 ≤ x.Max ∧ x.Max ≤ 1000 ∧ (x.Max < 0 ∨ x.Min ≤ x.Max) := by omega
      have b1 := mul_up a1 a2 hz.1 hz.2
      by_cases c : x.Max < 0
      · rw [if_pos c]
        exact nfa_size_r3 hl k1 k3 k4 k5 c (in64 (by omega) (by omega)) (in64 (by omega) (by omega)) (in64 (by omega) (by omega))
      · rw [if_neg c]
        have b2 := mul_up (p := x.Max - x.Min) (s := q + 1) (m := m + 1) (by omega) (by omega) (by omega) (by omega)
        exact nfa_size_r4 hl k1 k3 k4 k5 c (in64 (by omega) (by omega)) (in64 (by omega) (by omega)) (in64 (by omega) (by omega)) (in64 (by omega) (by omega)) (in64 (by omega) (by omega))
    · rw [if_neg k5]
      exact nfa_size_r5 hl k1 k3 k4 k5 (in64 (by omega) (by omega))
theorem Size_run {x : Rx} {m : Int} (hx : wf_Rx x) (h : rightR 1000 x) (hc : rx_Check x 0) (hm : 0 ≤ m) (hm2 : m ≤ 1099511627776) : nfa_Size x m (min (totR 1000 x + 1) (m + 1)) 0 := by
  have h1 := size_run 1000 hx h hm hm2
  have h0 := totR_nonneg 1000 h
  have e : min m 1099511627776 = m := by omega
  have := nfa_Size_r2 (most := m) (r1 := min (totR 1000 x) m) hc rfl (by omega) (by rw [e]; exact h1) (in64 (by omega) (by omega)) (in64 (by omega) (by omega))
  rw [e] at this
  rw [show min (totR 1000 x + 1) (m + 1) = min (min (totR 1000 x) m + 1) (m + 1) by omega]
  exact this
end Go.Proofs.Ytgoalemieifcdaa.V

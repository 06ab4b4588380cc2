/- Numbers: limbs, what is reckoned, texts (several texts together). -/
import Derived.Test.YtjnfkifdgojdaaaGreatMA
import Derived.Test.YtjnfkifdgojdaaaGreatVY
namespace Go.Proofs.YtjnfkifdgojdaaaGreat.V
section
open Go
set_option linter.unusedVariables false
set_option linter.unusedSimpArgs false
set_option linter.unusedSectionVars false
theorem index_rx {o : Int} {s : SL Rx} {P : Rx → Prop} (hs : s.xs.length < 9000000000000) (hw : w64 (o - 1)) (hP : ∀ y ∈ s.xs, ∃ b, rx_fits y (o - 1) b ∧ (b = true ↔ P y)) : ∀ (rest : List Rx) (k : Nat), s.xs.drop k = rest →
  ((∀ y ∈ rest, P y) ∧ ∃ z, sl_IndexFunc_Rx_l0 o s (s.xs.length : Int) k (sl_IndexFunc_Rx_l0_x1 o s (s.xs.length : Int) z)) ∨ ((¬ ∀ y ∈ rest, P y) ∧ ∃ i : Nat, sl_IndexFunc_Rx_l0 o s (s.xs.length : Int) k (sl_IndexFunc_Rx_l0_x0 o i))
 | [], k, hd => .inl ⟨fun y h => (by cases h), k, sl_IndexFunc_Rx_l0_e2 (by have := drop_nil_le hd; omega)⟩
 | y :: rest, k, hd => by
  obtain ⟨h1, h2, h3⟩ := at_drop hd
  have lk : (k : Int) < (s.xs.length : Int) := by omega
  have w3 : w64 ((k : Int) + 1) := w64k (by omega)
  obtain ⟨b, hb, e⟩ := hP y (List.mem_of_mem_drop (by rw [hd]; exact List.mem_cons_self ..))
  cases b with
  | false => exact .inr ⟨fun h => (by have := e.2 (h y (List.mem_cons_self ..)); cases this), k, sl_IndexFunc_Rx_l0_e0 lk (by omega) h1 (rx_fits_f1_r1 hw hb)⟩
  | true =>
   have hy := e.1 rfl
   have st := fun {r_} (h : sl_IndexFunc_Rx_l0 o s (s.xs.length : Int) (k + 1 : Nat) r_) => sl_IndexFunc_Rx_l0_s1 lk (by omega) h1 (rx_fits_f1_r0 hw hb) w3 h
   rcases index_rx hs hw hP rest (k + 1) h2 with ⟨a, z, h⟩ | ⟨a, i, h⟩
   ·exact .inl ⟨fun q hq => by rcases List.mem_cons.1 hq with rfl | hq; exact hy; exact a q hq, z, st h⟩
   ·exact .inr ⟨fun hh => a (fun q hq => hh q (List.mem_cons_of_mem _ hq)), i, st h⟩
theorem contains_rx {o : Int} {s : SL Rx} {P : Rx → Prop} (hs : s.xs.length < 9000000000000) (hw : w64 (o - 1)) (hP : ∀ y ∈ s.xs, ∃ b, rx_fits y (o - 1) b ∧ (b = true ↔ P y)) :
  ((∀ y ∈ s.xs, P y) ∧ sl_ContainsFunc_Rx o s false o) ∨ ((¬ ∀ y ∈ s.xs, P y) ∧ sl_ContainsFunc_Rx o s true o) := by
 rcases index_rx hs hw hP s.xs 0 (by simp) with ⟨a, z, h⟩ | ⟨a, i, h⟩
 ·exact .inl ⟨a, sl_ContainsFunc_Rx_r1 (sl_IndexFunc_Rx_r1 h) (by omega)⟩
 ·exact .inr ⟨a, sl_ContainsFunc_Rx_r0 (sl_IndexFunc_Rx_r0 h) (by omega)⟩
theorem wfRx_small {x : Rx} (h : wf_Rx x) : small (x.Ranges.xs.length + 1) ∧ x.Sub.xs.length < 9000000000000 ∧ ∀ y ∈ x.Sub.xs, wf_Rx y := by
 cases h with
 | mk w0 w1 w2 w3 l5 w5 => exact ⟨by have := w1.1; unfold small; omega, by omega, w5⟩
theorem fits_run : ∀ (n : Nat) {x : Rx}, n ≤ 100000 → wf_Rx x → ∃ b, rx_fits x (n : Int) b ∧ (b = true ↔ rightR n x)
 | 0, x, hn, hx => ⟨false, rx_fits_r0 (by omega), by simp [rightR]⟩
 | n + 1, x, hn, hx => by
  obtain ⟨h1, h2, h3⟩ := wfRx_small hx
  have e : (((n + 1 : Nat) : Int) - 1) = (n : Int) := by omega
  exact fits_node (by omega) h1 (contains_rx h2 (in64 (by omega) (by omega)) (fun y hy => by rw [e]; exact fits_run n (by omega) (h3 y hy)))
def fR (x : Rx) (s : Int) : Int :=
 if x.Kind = 1 ∨ x.Kind = 3 then s else if x.Kind = 4 then s + 2 * ((x.Sub.xs.length : Int) - 1) else if x.Kind = 5 then (if x.Max < 0 then x.Min * s + s + 2 else x.Min * s + (x.Max - x.Min) * (s + 1)) else s + 1
def sumT (f : Rx → Int) : List Rx → Int
 | [] => 0
 | y :: r => f y + sumT f r
def totR : Nat → Rx → Int
 | 0, _ => 0
 | n + 1, x => fR x (sumT (totR n) x.Sub.xs)
theorem mul_up {p s m : Int} (hp : 0 ≤ p) (hq : p ≤ 1000) (hs : 0 ≤ s) (hm : s ≤ m) : 0 ≤ p * s ∧ p * s ≤ 1000 * m := by
 have h1 := Int.mul_nonneg hp hs
 have h2 := Int.mul_le_mul hq hm hs (by omega : (0 : Int) ≤ 1000)
 exact ⟨h1, h2⟩
theorem fR_min {x : Rx} {s m : Int} (h : nodeOK x) (hs : 0 ≤ s) (hm : 0 ≤ m) : min (fR x (min s m)) m = min (fR x s) m ∧ 0 ≤ fR x s := by
 obtain ⟨_, _, _, h⟩ := h
 unfold fR
 by_cases k : x.Kind = 1 ∨ x.Kind = 3
 ·rw [if_pos k, if_pos k]; omega
 rw [if_neg k, if_neg k]
 by_cases k4 : x.Kind = 4
 ·rw [if_pos k4, if_pos k4]; omega
 rw [if_neg k4, if_neg k4]
 by_cases k5 : x.Kind = 5
 ·rw [if_pos k5, if_pos k5]
  obtain ⟨_, _, a1, a2, a3, a4, a5⟩ : x.Kind = 5 ∧ x.Sub.xs.length = 1 ∧ 0 ≤ x.Min ∧ x.Min ≤ 1000 ∧ -1 ≤ x.Max ∧ x.Max ≤ 1000 ∧ (x.Max < 0 ∨ x.Min ≤ x.Max) := by omega
  by_cases c : x.Max < 0
  ·rw [if_pos c, if_pos c]
   have q1 := Int.mul_nonneg a1 hs
   have q2 := Int.mul_nonneg a1 hm
   rcases Int.le_total s m with d | d
   ·rw [Int.min_eq_left d]; omega
   ·rw [Int.min_eq_right d]; omega
  ·rw [if_neg c, if_neg c]
   have q0 : ∀ z : Int, x.Min * z + (x.Max - x.Min) * (z + 1) = x.Max * z + (x.Max - x.Min) := by
    intro z; rw [Int.mul_add, Int.sub_mul]; omega
   rw [q0, q0]
   have b1 : 0 ≤ x.Max := by omega
   rcases Int.le_total s m with d | d
   ·rw [Int.min_eq_left d]
    have := Int.mul_nonneg b1 hs
    omega
   ·rw [Int.min_eq_right d]
    by_cases e : x.Max = 0
    ·rw [e]; omega
    ·have e1 : 1 ≤ x.Max := by omega
     have q1 : m ≤ x.Max * m := by have := Int.mul_le_mul_of_nonneg_right e1 hm; omega
     have q2 : s ≤ x.Max * s := by have := Int.mul_le_mul_of_nonneg_right e1 hs; omega
     omega
 ·rw [if_neg k5, if_neg k5]; omega
theorem sumT_nonneg {f : Rx → Int} : ∀ {l : List Rx}, (∀ y ∈ l, 0 ≤ f y) → 0 ≤ sumT f l
 | [], _ => by simp [sumT]
 | y :: r, h => by
  have h1 := h y (List.mem_cons_self ..)
  have h2 := sumT_nonneg (l := r) (fun q hq => h q (List.mem_cons_of_mem _ hq))
  simp only [sumT]; omega
theorem totR_nonneg : ∀ (n : Nat) {x : Rx}, rightR n x → 0 ≤ totR n x
 | 0, x, h => h.elim
 | n + 1, x, h => (fR_min (m := 0) h.1 (sumT_nonneg (fun y hy => totR_nonneg n (h.2 y hy))) (by omega)).2
theorem size_loop {x : Rx} {m : Int} {s : SL Rx} {f : Rx → Int} (hs : s.xs.length < 9000000000000) (hm : 0 ≤ m) (hm2 : m ≤ 1099511627776) (hf : ∀ y ∈ s.xs, 0 ≤ f y) (hP : ∀ y ∈ s.xs, nfa_size y m (min (f y) m)) : ∀ (rest : List Rx) (k : Nat) (a : Int), s.xs.drop k = rest → 0 ≤ a →
  ∃ z, nfa_size_l0 x m (min a m) s (s.xs.length : Int) k (nfa_size_l0_x0 x m (min (a + sumT f rest) m) s (s.xs.length : Int) z)
 | [], k, a, hd, ha => ⟨k, by rw [show a + sumT f [] = a by simp [sumT]]; exact nfa_size_l0_e1 (by have := drop_nil_le hd; omega)⟩
 | y :: rest, k, a, hd, ha => by
  obtain ⟨h1, h2, h3⟩ := at_drop hd
  have lk : (k : Int) < (s.xs.length : Int) := by omega
  have w3 : w64 ((k : Int) + 1) := w64k (by omega)
  have hy := List.mem_of_mem_drop (i := k) (by rw [hd]; exact List.mem_cons_self (a := y) ..)
  have h0 := hf y hy
  obtain ⟨z, ih⟩ := size_loop (x := x) hs hm hm2 hf hP rest (k + 1) (a + f y) h2 (by omega)
  refine ⟨z, nfa_size_l0_s0 lk (by omega) h1 (hP y hy) (in64 (by omega) (by omega)) w3 ?_⟩
  rw [show min (min a m + min (f y) m) m = min (a + f y) m by omega, show a + sumT f (y :: rest) = a + f y + sumT f rest by simp only [sumT]; omega]
  exact ih
theorem size_run : ∀ (n : Nat) {x : Rx} {m : Int}, wf_Rx x → rightR n x → 0 ≤ m → m ≤ 1099511627776 → nfa_size x m (min (totR n x) m)
 | 0, x, m, hx, h, _, _ => h.elim
 | n + 1, x, m, hx, h, hm, hm2 => by
  obtain ⟨_, h2, h3⟩ := wfRx_small hx
  have hn : ∀ y ∈ x.Sub.xs, 0 ≤ totR n y := fun y hy => totR_nonneg n (h.2 y hy)
  obtain ⟨z, hl⟩ := size_loop (x := x) (f := totR n) h2 hm hm2 hn (fun y hy => size_run n (h3 y hy) (h.2 y hy) hm hm2) x.Sub.xs 0 0 (by simp) (by omega)
  rw [show min 0 m = 0 by omega, Int.zero_add] at hl
  have hS := sumT_nonneg hn
  generalize hSe : sumT (totR n) x.Sub.xs = S at hl hS
  have key := (fR_min h.1 hS hm).1
  rw [show totR (n + 1) x = fR x S by rw [← hSe]; rfl, ← key]
  have hz : 0 ≤ min S m ∧ min S m ≤ m := by omega
  generalize min S m = q at hl hz
  obtain ⟨_, _, _, h4⟩ := h.1
  unfold fR
  by_cases k1 : x.Kind = 1
  ·rw [if_pos (.inl k1)]; exact nfa_size_r0 hl k1
  by_cases k3 : x.Kind = 3
  ·rw [if_pos (.inr k3)]; exact nfa_size_r1 hl k1 k3
  rw [if_neg (by omega)]
  by_cases k4 : x.Kind = 4
  ·rw [if_pos k4]
   exact nfa_size_r2 hl k1 k3 k4 (in64 (by omega) (by omega)) (in64 (by omega) (by omega)) (in64 (by omega) (by omega))
  rw [if_neg k4]
  by_cases k5 : x.Kind = 5
  ·rw [if_pos k5]
   obtain ⟨_, _, a1, a2, a3, a4, a5⟩ : x.Kind = 5 ∧ x.Sub.xs.length = 1 ∧ 0 ≤ x.Min ∧ x.Min ≤ 1000 ∧ -1 ≤ x.Max ∧ x.Max ≤ 1000 ∧ (x.Max < 0 ∨ x.Min ≤ x.Max) := by omega
   have b1 := mul_up a1 a2 hz.1 hz.2
   by_cases c : x.Max < 0
   ·rw [if_pos c]
    exact nfa_size_r3 hl k1 k3 k4 k5 c (in64 (by omega) (by omega)) (in64 (by omega) (by omega)) (in64 (by omega) (by omega))
   ·rw [if_neg c]
    have b2 := mul_up (p := x.Max - x.Min) (s := q + 1) (m := m + 1) (by omega) (by omega) (by omega) (by omega)
    exact nfa_size_r4 hl k1 k3 k4 k5 c (in64 (by omega) (by omega)) (in64 (by omega) (by omega)) (in64 (by omega) (by omega)) (in64 (by omega) (by omega)) (in64 (by omega) (by omega))
  ·rw [if_neg k5]
   exact nfa_size_r5 hl k1 k3 k4 k5 (in64 (by omega) (by omega))
theorem Size_run {x : Rx} {m : Int} (hx : wf_Rx x) (h : rightR 1000 x) (hc : rx_Check x 0) (hm : 0 ≤ m) (hm2 : m ≤ 1099511627776) : nfa_Size x m (min (totR 1000 x + 1) (m + 1)) 0 := by
 have h1 := size_run 1000 hx h hm hm2
 have h0 := totR_nonneg 1000 h
 have e : min m 1099511627776 = m := by omega
 have := nfa_Size_r2 (most := m) (r1 := min (totR 1000 x) m) hc rfl (by omega) (by rw [e]; exact h1) (in64 (by omega) (by omega)) (in64 (by omega) (by omega))
 rw [e] at this
 rw [show min (totR 1000 x + 1) (m + 1) = min (min (totR 1000 x) m + 1) (m + 1) by omega]
 exact this
end
section
open Go
set_option linter.unusedVariables false
set_option linter.unusedSimpArgs false
set_option linter.unusedSectionVars false
set_option linter.unnecessarySimpa false
structure PS where
 k : Int
 r : List Range
 a : Int
 b : Int
def ps (s : State) : PS := ⟨s.Kind, s.Ranges.xs, s.A, s.B⟩
def pfork (a b : Nat) : PS := ⟨2, [], a, b⟩
def seqC (f : Nat → Rx → List PS) : Nat → List Rx → List PS
 | _, [] => []
 | b, y :: r => f b y ++ seqC f (b + (f b y).length) r
def timesC (f : Nat → Rx → List PS) (y : Rx) : Nat → Nat → List PS
 | 0, _ => []
 | k + 1, b => f b y ++ timesC f y k (b + (f b y).length)
def optsC (f : Nat → Rx → List PS) (y : Rx) (e : Nat) : Nat → Nat → List PS
 | 0, _ => []
 | k + 1, b => pfork (b + 1) e :: (f (b + 1) y ++ optsC f y e k (b + 1 + (f (b + 1) y).length))
def altC (f : Nat → Rx → List PS) (e : Nat) : Nat → List Rx → List PS
 | _, [] => []
 | b, [y] => f b y
 | b, y :: z :: r => pfork (b + 1) (b + (f (b + 1) y).length + 2) :: (f (b + 1) y ++ pfork e e :: altC f e (b + (f (b + 1) y).length + 2) (z :: r))
def starC (f : Nat → Rx → List PS) (y : Rx) (b : Nat) : List PS := pfork (b + 1) (b + (f (b + 1) y).length + 2) :: (f (b + 1) y ++ [pfork b b])
def leastC (n : Nat) (x y : Rx) : Nat := if totR n y = 0 then 0 else x.Min.toNat
def comp : Nat → Nat → Rx → List PS
 | 0, _, _ => []
 | n + 1, b, x =>
  if x.Kind = 2 then [⟨1, x.Ranges.xs, ((b + 1 : Nat) : Int), 0⟩]
  else if x.Kind = 3 then seqC (comp n) b x.Sub.xs
  else if x.Kind = 4 then altC (comp n) (b + (altC (comp n) 0 b x.Sub.xs).length) b x.Sub.xs
  else if x.Kind = 5 then (match x.Sub.xs with
   | y :: _ => timesC (comp n) y (leastC n x y) b ++ (if x.Max < 0 then starC (comp n) y (b + (timesC (comp n) y (leastC n x y) b).length)
     else optsC (comp n) y (b + (timesC (comp n) y (leastC n x y) b).length + (optsC (comp n) y 0 (x.Max - x.Min).toNat (b + (timesC (comp n) y (leastC n x y) b).length)).length) (x.Max - x.Min).toNat (b + (timesC (comp n) y (leastC n x y) b).length))
   | [] => [])
  else if x.Kind = 6 then [⟨3, [], ((b + 1 : Nat) : Int), 0⟩]
  else if x.Kind = 7 then [⟨4, [], ((b + 1 : Nat) : Int), 0⟩]
  else if x.Kind = 8 then [⟨5, [], ((b + 1 : Nat) : Int), 0⟩]
  else if x.Kind = 9 then [⟨6, [], ((b + 1 : Nat) : Int), 0⟩]
  else []
theorem seqC_len {f : Nat → Rx → List PS} {t : Rx → Int} : ∀ {l : List Rx} (b : Nat), (∀ y ∈ l, ∀ b, ((f b y).length : Int) = t y) → ((seqC f b l).length : Int) = sumT t l
 | [], b, h => by simp [seqC, sumT]
 | y :: r, b, h => by
  have h1 := h y (List.mem_cons_self ..) b
  have h2 := seqC_len (f := f) (t := t) (l := r) (b + (f b y).length) (fun q hq => h q (List.mem_cons_of_mem _ hq))
  simp only [seqC, sumT, List.length_append]
  omega
theorem timesC_len {f : Nat → Rx → List PS} {y : Rx} {t : Nat} (h : ∀ b, (f b y).length = t) : ∀ (k b : Nat), (timesC f y k b).length = k * t
 | 0, b => by simp [timesC]
 | k + 1, b => by
  simp only [timesC, List.length_append, timesC_len h k, h, Nat.add_mul]
  omega
theorem optsC_len {f : Nat → Rx → List PS} {y : Rx} {t e : Nat} (h : ∀ b, (f b y).length = t) : ∀ (k b : Nat), (optsC f y e k b).length = k * (t + 1)
 | 0, b => by simp [optsC]
 | k + 1, b => by
  simp only [optsC, List.length_append, List.length_cons, optsC_len h k, h]
  rw [Nat.add_mul k 1, Nat.one_mul]
  omega
theorem altC_len {f : Nat → Rx → List PS} {t : Rx → Int} {e : Nat} : ∀ {l : List Rx} (b : Nat), l ≠ [] → (∀ y ∈ l, ∀ b, ((f b y).length : Int) = t y) → ((altC f e b l).length : Int) = sumT t l + 2 * ((l.length : Int) - 1)
 | [], b, hne, h => absurd rfl hne
 | [y], b, hne, h => by
  have h1 := h y (List.mem_cons_self ..) b
  simp only [altC, sumT, List.length_singleton]
  omega
 | y :: z :: r, b, hne, h => by
  have h1 := h y (List.mem_cons_self ..) (b + 1)
  have h2 := altC_len (f := f) (t := t) (e := e) (l := z :: r) (b + (f (b + 1) y).length + 2) (by simp) (fun q hq => h q (List.mem_cons_of_mem _ hq))
  simp only [altC, List.length_append, List.length_cons]
  simp only [List.length_cons] at h2
  rw [sumT]
  omega
theorem comp_len : ∀ (n : Nat) {x : Rx} (b : Nat), rightR n x → ((comp n b x).length : Int) = totR n x
 | 0, x, b, h => h.elim
 | n + 1, x, b, h => by
  obtain ⟨⟨_, _, _, h4⟩, hs⟩ := h
  have ih : ∀ y ∈ x.Sub.xs, ∀ b, ((comp n b y).length : Int) = totR n y := fun y hy b => comp_len n b (hs y hy)
  unfold comp
  simp only [totR]
  unfold fR
  by_cases k2 : x.Kind = 2
  ·rw [if_pos k2, if_neg (by omega), if_neg (by omega), if_neg (by omega)]
   have : x.Sub.xs = [] := List.eq_nil_of_length_eq_zero (by omega)
   rw [this]; simp [sumT]
  rw [if_neg k2]
  by_cases k3 : x.Kind = 3
  ·rw [if_pos k3, if_pos (.inr k3)]
   exact seqC_len b ih
  rw [if_neg k3]
  by_cases k4 : x.Kind = 4
  ·rw [if_pos k4, if_neg (by omega), if_pos k4]
   exact altC_len b (fun e => by rw [e] at h4; simp at h4; omega) ih
  rw [if_neg k4]
  by_cases k5 : x.Kind = 5
  ·rw [if_pos k5, if_neg (by omega), if_neg k4, if_pos k5]
   obtain ⟨_, hl, a1, a2, a3, a4, a5⟩ : x.Kind = 5 ∧ x.Sub.xs.length = 1 ∧ 0 ≤ x.Min ∧ x.Min ≤ 1000 ∧ -1 ≤ x.Max ∧ x.Max ≤ 1000 ∧ (x.Max < 0 ∨ x.Min ≤ x.Max) := by omega
   obtain ⟨y, hy⟩ := List.length_eq_one_iff.1 hl
   rw [hy]
   have hy' : y ∈ x.Sub.xs := by rw [hy]; simp
   have t0 := totR_nonneg n (hs y hy')
   obtain ⟨t, ht⟩ := Int.eq_ofNat_of_zero_le t0
   have hf : ∀ b, (comp n b y).length = t := fun b => by have := ih y hy' b; omega
   dsimp only [sumT]
   rw [List.length_append, timesC_len hf]
   have hk : ((leastC n x y * t : Nat) : Int) = x.Min * (totR n y + 0) := by
    unfold leastC
    by_cases c : totR n y = 0
    ·rw [if_pos c, c]; simp
    ·rw [if_neg c, ht, Int.natCast_mul, Int.toNat_of_nonneg a1]; simp
   by_cases c : x.Max < 0
   ·rw [if_pos c, if_pos c]
    unfold starC
    rw [List.length_cons, List.length_append, hf]
    simp only [List.length_singleton]
    omega
   ·rw [if_neg c, if_neg c, optsC_len hf]
    have e : ((x.Max - x.Min).toNat : Int) = x.Max - x.Min := Int.toNat_of_nonneg (by omega)
    have e2 : (((x.Max - x.Min).toNat * (t + 1) : Nat) : Int) = (x.Max - x.Min) * (totR n y + 0 + 1) := by
     rw [Int.natCast_mul, e, ht]; simp
    rw [Int.natCast_add, hk, e2]
  have hnil : x.Sub.xs = [] := List.eq_nil_of_length_eq_zero (by omega)
  rw [hnil]
  simp only [sumT]
  have hk : x.Kind = 1 ∨ x.Kind = 6 ∨ x.Kind = 7 ∨ x.Kind = 8 ∨ x.Kind = 9 := by omega
  rcases hk with k | k | k | k | k <;> simp [k]
theorem comp_len' {n : Nat} {x : Rx} (h : rightR n x) (b : Nat) : (comp n b x).length = (totR n x).toNat := by
 have := comp_len n b h
 omega
def okP (hi : Nat) (s : PS) : Prop := 1 ≤ s.k ∧ s.k ≤ 6 ∧ (0 ≤ s.a ∧ s.a ≤ hi) ∧ (s.k = 2 → 0 ≤ s.b ∧ s.b ≤ hi) ∧ (s.k ≠ 2 → s.b = 0) ∧ (s.k ≠ 1 → s.r = []) ∧ Canon s.r
theorem okP.mono {a b : Nat} (h : a ≤ b) {s : PS} (hs : okP a s) : okP b s := by
 unfold okP at *
 refine ⟨hs.1, hs.2.1, ?_, fun k => ?_, hs.2.2.2.2⟩
 ·have := hs.2.2.1; omega
 ·have := hs.2.2.2.1 k; omega
theorem okP_fork {hi a b : Nat} (ha : a ≤ hi) (hb : b ≤ hi) : okP hi (pfork a b) := ⟨(by decide : (1 : Int) ≤ 2), (by decide : (2 : Int) ≤ 6), ⟨Int.natCast_nonneg _, by show (a : Int) ≤ hi; omega⟩, fun _ => ⟨Int.natCast_nonneg _, by show (b : Int) ≤ hi; omega⟩, fun h => absurd rfl h, fun _ => rfl, .nil⟩
theorem seqC_ok {f : Nat → Rx → List PS} : ∀ {l : List Rx} (b : Nat), (∀ y ∈ l, ∀ b, ∀ s ∈ f b y, okP (b + (f b y).length) s) → ∀ s ∈ seqC f b l, okP (b + (seqC f b l).length) s
 | [], b, h, s, hs => by simp [seqC] at hs
 | y :: r, b, h, s, hs => by
  rw [seqC, List.mem_append] at hs
  rw [seqC, List.length_append]
  rcases hs with hs | hs
  ·exact (h y (List.mem_cons_self ..) b s hs).mono (by omega)
  ·exact (seqC_ok (b + (f b y).length) (fun q hq => h q (List.mem_cons_of_mem _ hq)) s hs).mono (by omega)
theorem timesC_ok {f : Nat → Rx → List PS} {y : Rx} (h : ∀ b, ∀ s ∈ f b y, okP (b + (f b y).length) s) : ∀ (k b : Nat), ∀ s ∈ timesC f y k b, okP (b + (timesC f y k b).length) s
 | 0, b, s, hs => by simp [timesC] at hs
 | k + 1, b, s, hs => by
  rw [timesC, List.mem_append] at hs
  rw [timesC, List.length_append]
  rcases hs with hs | hs
  ·exact (h b s hs).mono (by omega)
  ·exact (timesC_ok h k (b + (f b y).length) s hs).mono (by omega)
theorem optsC_ok {f : Nat → Rx → List PS} {y : Rx} {e : Nat} (h : ∀ b, ∀ s ∈ f b y, okP (b + (f b y).length) s) : ∀ (k b : Nat), b + (optsC f y e k b).length ≤ e → ∀ s ∈ optsC f y e k b, okP e s
 | 0, b, he, s, hs => by simp [optsC] at hs
 | k + 1, b, he, s, hs => by
  rw [optsC, List.length_cons, List.length_append] at he
  rw [optsC, List.mem_cons, List.mem_append] at hs
  rcases hs with rfl | hs | hs
  ·exact okP_fork (by omega) (Nat.le_refl _)
  ·exact (h (b + 1) s hs).mono (by omega)
  ·exact optsC_ok h k _ (by omega) s hs
theorem altC_ok {f : Nat → Rx → List PS} {e : Nat} : ∀ {l : List Rx} (b : Nat), (∀ y ∈ l, ∀ b, ∀ s ∈ f b y, okP (b + (f b y).length) s) → b + (altC f e b l).length ≤ e → ∀ s ∈ altC f e b l, okP e s
 | [], b, h, he, s, hs => by simp [altC] at hs
 | [y], b, h, he, s, hs => by
  simp only [altC] at hs he
  exact (h y (List.mem_cons_self ..) b s hs).mono he
 | y :: z :: r, b, h, he, s, hs => by
  simp only [altC, List.length_cons, List.length_append] at he
  simp only [altC, List.mem_cons, List.mem_append] at hs
  rcases hs with rfl | hs | rfl | hs
  ·exact okP_fork (by omega) (by omega)
  ·exact (h y (List.mem_cons_self ..) (b + 1) s hs).mono (by omega)
  ·exact okP_fork (Nat.le_refl _) (Nat.le_refl _)
  ·exact altC_ok (b + (f (b + 1) y).length + 2) (fun q hq => h q (List.mem_cons_of_mem _ hq)) (by omega) s hs
theorem altC_len_e (f : Nat → Rx → List PS) (e e' : Nat) : ∀ (l : List Rx) (b : Nat), (altC f e b l).length = (altC f e' b l).length
 | [], b => rfl
 | [y], b => rfl
 | y :: z :: r, b => by simp only [altC, List.length_cons, List.length_append, altC_len_e f e e' (z :: r)]
theorem optsC_len_e (f : Nat → Rx → List PS) (y : Rx) (e e' : Nat) : ∀ (k b : Nat), (optsC f y e k b).length = (optsC f y e' k b).length
 | 0, b => rfl
 | k + 1, b => by simp only [optsC, List.length_cons, List.length_append, optsC_len_e f y e e' k]
theorem starC_ok {f : Nat → Rx → List PS} {y : Rx} (h : ∀ b, ∀ s ∈ f b y, okP (b + (f b y).length) s) (b : Nat) : ∀ s ∈ starC f y b, okP (b + (starC f y b).length) s := by
 intro s hs
 unfold starC at hs ⊢
 rw [List.mem_cons, List.mem_append, List.mem_singleton] at hs
 rw [List.length_cons, List.length_append, List.length_singleton]
 rcases hs with rfl | hs | rfl
 ·exact okP_fork (by omega) (by omega)
 ·exact (h (b + 1) s hs).mono (by omega)
 ·exact okP_fork (by omega) (by omega)
theorem one_ok {b : Nat} {k : Int} (h1 : 3 ≤ k) (h2 : k ≤ 6) : ∀ s ∈ [PS.mk k [] ((b + 1 : Nat) : Int) 0], okP (b + 1) s := by
 intro s hs
 rw [List.mem_singleton.1 hs]
 exact ⟨by show 1 ≤ k; omega, h2, ⟨Int.natCast_nonneg _, Int.le_refl _⟩, fun h => (by have : k = 2 := h; omega), fun _ => rfl, fun _ => rfl, .nil⟩
theorem comp_ok : ∀ (n : Nat) {x : Rx} (b : Nat), rightR n x → ∀ s ∈ comp n b x, okP (b + (comp n b x).length) s
 | 0, x, b, h => h.elim
 | n + 1, x, b, h => by
  obtain ⟨⟨_, _, hc, h4⟩, hs⟩ := h
  have ih : ∀ y ∈ x.Sub.xs, ∀ b, ∀ s ∈ comp n b y, okP (b + (comp n b y).length) s := fun y hy b => comp_ok n b (hs y hy)
  unfold comp
  by_cases k2 : x.Kind = 2
  ·rw [if_pos k2]
   intro s hs
   rw [List.mem_singleton.1 hs]
   exact ⟨(by decide : (1 : Int) ≤ 1), (by decide : (1 : Int) ≤ 6), ⟨Int.natCast_nonneg _, Int.le_refl _⟩, fun h => absurd (show (1 : Int) = 2 from h) (by decide), fun _ => rfl, fun h => absurd rfl h, hc⟩
  rw [if_neg k2]
  by_cases k3 : x.Kind = 3
  ·rw [if_pos k3]; exact seqC_ok b ih
  rw [if_neg k3]
  by_cases k4 : x.Kind = 4
  ·rw [if_pos k4]
   intro s hs
   have e := altC_len_e (comp n) (b + (altC (comp n) 0 b x.Sub.xs).length) 0 x.Sub.xs b
   rw [e]
   exact altC_ok b ih (by rw [e]; exact Nat.le_refl _) s hs
  rw [if_neg k4]
  by_cases k5 : x.Kind = 5
  ·rw [if_pos k5]
   cases hy : x.Sub.xs with
   | nil => intro s hs; simp at hs
   | cons y r =>
    have hf : ∀ b, ∀ s ∈ comp n b y, okP (b + (comp n b y).length) s := ih y (by rw [hy]; exact List.mem_cons_self ..)
    intro s hs
    dsimp only at hs ⊢
    rw [List.mem_append] at hs
    rw [List.length_append]
    rcases hs with hs | hs
    ·exact (timesC_ok hf _ b s hs).mono (by omega)
    ·by_cases c : x.Max < 0
     ·rw [if_pos c] at hs ⊢
      have := starC_ok hf _ s hs
      exact this.mono (by omega)
     ·rw [if_neg c] at hs ⊢
      have e := optsC_len_e (comp n) y (b + (timesC (comp n) y (leastC n x y) b).length + (optsC (comp n) y 0 (x.Max - x.Min).toNat (b + (timesC (comp n) y (leastC n x y) b).length)).length) 0 (x.Max - x.Min).toNat (b + (timesC (comp n) y (leastC n x y) b).length)
      have := optsC_ok hf _ _ (by rw [e]; exact Nat.le_refl _) s hs
      exact this.mono (by rw [e]; omega)
  rw [if_neg k5]
  by_cases k6 : x.Kind = 6
  ·rw [if_pos k6]; exact one_ok (by decide) (by decide)
  rw [if_neg k6]
  by_cases k7 : x.Kind = 7
  ·rw [if_pos k7]; exact one_ok (by decide) (by decide)
  rw [if_neg k7]
  by_cases k8 : x.Kind = 8
  ·rw [if_pos k8]; exact one_ok (by decide) (by decide)
  rw [if_neg k8]
  by_cases k9 : x.Kind = 9
  ·rw [if_pos k9]; exact one_ok (by decide) (by decide)
  rw [if_neg k9]
  intro s hs
  simp at hs
end
section
open Go
set_option linter.unusedVariables false
set_option linter.unusedSimpArgs false
set_option linter.unusedSectionVars false
set_option linter.unnecessarySimpa false
def bld (m t : Bool) (o : List State) (x : Rx) (o' : List State) (t' : Bool) : Prop := match m with
 | true => nb_build_m t o.length o x o' o'.length t'
 | false => nb_build t o.length o x o' ∧ t' = t ∧ o'.length = o.length
def rpt (m t : Bool) (o : List State) (x : Rx) (o' : List State) (t' : Bool) : Prop := match m with
 | true => nb_repeat_m t o.length o x o' o'.length t'
 | false => nb_repeat t o.length o x o' ∧ t' = t ∧ o'.length = o.length
theorem put_run {t : Bool} {o : List State} {s : State} (h : o.length < 1000000000) : nb_put_m t o.length o s o.length (o ++ [State.mk s.Kind s.Ranges ((o.length : Int) + 1) s.B]) (o ++ [State.mk s.Kind s.Ranges ((o.length : Int) + 1) s.B]).length false := by
 have := nb_put_r0 (bst := t) (bsn := o.length) (o1 := o) (s := s) (in64 (by omega) (by omega)) (by omega) (Nat.le_refl _)
 rwa [List.take_length] at this
def fk (a : Int) (b : Int) : State := ⟨2, ⟨0, [], true⟩, a, b⟩
theorem fork_run {t : Bool} {o : List State} (h : o.length < 1000000000) : nb_fork_m t o.length o o.length (o ++ [fk ((o.length : Int) + 1) 0]) (o ++ [fk ((o.length : Int) + 1) 0]).length false := nb_fork_r0 (put_run h)
theorem jump_run {t : Bool} {o : List State} (h : o.length < 1000000000) : nb_jump_m t o.length o o.length (o ++ [fk ((o.length : Int) + 1) 0]) (o ++ [fk ((o.length : Int) + 1) 0]).length false := nb_jump_r0 (put_run h)
theorem forkf_run {t : Bool} {o : List State} {i : Nat} {pre post : List PS} {p : PS} (h : o.map ps = pre ++ p :: post) (hi : pre.length = i) :
  ∃ o', nb_fork_f1 t o.length o (i : Int) o' ∧ o'.length = o.length ∧ o'.map ps = pre ++ ⟨p.k, p.r, p.a, (o.length : Int)⟩ :: post := by
 have hl : i < o.length := by
  have := congrArg List.length h
  simp at this
  omega
 obtain ⟨y, hy⟩ : ∃ y, o[i]? = some y := ⟨_, List.getElem?_eq_getElem hl⟩
 have hp : ps y = p := by
  have h1 : (o.map ps)[i]? = some (ps y) := by rw [List.getElem?_map, hy]; rfl
  rw [h, List.getElem?_append_right (by omega), hi] at h1
  simpa using h1.symm
 refine ⟨_, nb_fork_f1_r0 (y0 := y) (by omega) (by rw [Int.toNat_natCast]; exact hy) (by rw [Int.toNat_natCast]; exact hl), by simp, ?_⟩
 rw [Int.toNat_natCast, List.map_set, h, List.set_append_right _ _ (by omega), hi, Nat.sub_self, List.set_cons_zero]
 subst hp
 rfl
theorem jumpf_run {t : Bool} {o : List State} {i : Nat} {to : Int} {pre post : List PS} {p : PS} (h : o.map ps = pre ++ p :: post) (hi : pre.length = i) :
  ∃ o', nb_jump_f1 t o.length o to (i : Int) o' ∧ o'.length = o.length ∧ o'.map ps = pre ++ ⟨p.k, p.r, to, to⟩ :: post := by
 have hl : i < o.length := by
  have := congrArg List.length h
  simp at this
  omega
 obtain ⟨y, hy⟩ : ∃ y, o[i]? = some y := ⟨_, List.getElem?_eq_getElem hl⟩
 have hp : ps y = p := by
  have h1 : (o.map ps)[i]? = some (ps y) := by rw [List.getElem?_map, hy]; rfl
  rw [h, List.getElem?_append_right (by omega), hi] at h1
  simpa using h1.symm
 refine ⟨_, nb_jump_f1_r0 (y0 := y) (y1 := State.mk y.Kind y.Ranges to y.B) (by omega) (by rw [Int.toNat_natCast]; exact hy) (by rw [Int.toNat_natCast]; exact hl) (by rw [Int.toNat_natCast, List.getElem?_set_self hl]), by simp, ?_⟩
 rw [Int.toNat_natCast, List.map_set, List.map_set, h, List.set_append_right _ _ (by omega), hi, Nat.sub_self, List.set_cons_zero, List.set_append_right _ _ (by omega), hi, Nat.sub_self, List.set_cons_zero]
 subst hp
 rfl
def Bd (f : Nat → Rx → List PS) (y : Rx) (T : Nat) : Prop := (∀ b, (f b y).length = T) ∧ ∀ (o : List State) (t : Bool), o.length + T ≤ 1000000 → ∃ m o' t', bld m t o y o' t' ∧ o'.map ps = o.map ps ++ f o.length y
theorem len_ps {o o' : List State} {l : List PS} (h : o'.map ps = o.map ps ++ l) : o'.length = o.length + l.length := by
 have := congrArg List.length h
 simpa using this
def L0 (m t : Bool) (o : List State) (x : Rx) (a b : Int) (rs : Ex × XSt) : Prop := match m with
 | false => nb_repeat_l0 t o.length o x a b rs
 | true => nb_repeat_l0_b t o.length x o a b rs
def X0 (m t : Bool) (o : List State) (x : Rx) (a b : Int) : Ex × XSt := match m with
 | false => nb_repeat_l0_x0 t o.length o x a b
 | true => nb_repeat_l0_x1 t o.length x o a b
theorem L0_step {m m' t t' : Bool} {o r : List State} {x y : Rx} {a b : Int} {rs : Ex × XSt} (h0 : b < a) (h1 : x.Sub.xs[Int.toNat 0]? = some y) (h2 : bld m' t o y r t') (h3 : w64 (b + 1)) (hk : L0 (m || m') t' r x a (b + 1) rs) : L0 m t o x a b rs := by
 cases m <;> cases m'
 ·obtain ⟨h2, rfl, hl⟩ := h2
  have hk' : nb_repeat_l0 t' r.length r x a (b + 1) rs := hk
  rw [hl] at hk'
  exact nb_repeat_l0_s0 h0 h1 h2 h3 hk'
 ·exact nb_repeat_l0_s1 h0 h1 h2 h3 hk
 ·obtain ⟨h2, rfl, hl⟩ := h2
  have hk' : nb_repeat_l0_b t' r.length x r a (b + 1) rs := hk
  rw [hl] at hk'
  exact nb_repeat_l0_b_s3 h0 h1 h2 h3 hk'
 ·exact nb_repeat_l0_b_s4 h0 h1 h2 h3 hk
theorem L0_exit {m t : Bool} {o : List State} {x : Rx} {a b : Int} (h0 : ¬ b < a) : L0 m t o x a b (X0 m t o x a b) := by
 cases m
 ·exact nb_repeat_l0_e2 h0
 ·exact nb_repeat_l0_b_e5 h0
theorem times_run {f : Nat → Rx → List PS} {x y : Rx} {T : Nat} {a : Int} (hB : Bd f y T) (h1 : x.Sub.xs[Int.toNat 0]? = some y) (ha : a < 100000000) : ∀ (k : Nat) (o : List State) (t m : Bool) (b : Int), a = b + k → 0 ≤ b → o.length + k * T ≤ 1000000 →
  ∃ m' o' t', L0 m t o x a b (X0 m' t' o' x a a) ∧ (m = true → m' = true) ∧ (m' = false → t' = t ∧ o'.length = o.length) ∧ o'.map ps = o.map ps ++ timesC f y k o.length
 | 0, o, t, m, b, hb, h0, hl => by
  have : a = b := by omega
  subst this
  exact ⟨m, o, t, L0_exit (by omega), fun h => h, fun _ => ⟨rfl, rfl⟩, by simp [timesC]⟩
 | k + 1, o, t, m, b, hb, h0, hl => by
  rw [Nat.add_mul k 1, Nat.one_mul] at hl
  obtain ⟨m1, o1, t1, g1, g2⟩ := hB.2 o t (by omega)
  have l1 := len_ps g2
  rw [hB.1] at l1
  obtain ⟨m2, o2, t2, g3, g4, g5, g6⟩ := times_run hB h1 ha k o1 t1 (m || m1) (b + 1) (by omega) (by omega) (by omega)
  refine ⟨m2, o2, t2, L0_step (by omega) h1 g1 (in64 (by omega) (by omega)) g3, fun h => g4 (by rw [h]; rfl), fun h => ?_, ?_⟩
  ·have hm : (m || m1) = false := by
    cases hh : (m || m1) with
    | false => rfl
    | true => rw [g4 hh] at h; cases h
   have hm1 : m1 = false := by cases m <;> cases m1 <;> simp_all
   subst hm1
   obtain ⟨_, rfl, e⟩ := g1
   obtain ⟨e1, e2⟩ := g5 h
   exact ⟨e1, by omega⟩
  ·rw [g6, g2, l1]
   simp only [timesC, hB.1, List.append_assoc]
def optsI (f : Nat → Rx → List PS) (y : Rx) : Nat → Nat → List Int
 | 0, _ => []
 | k + 1, b => (b : Int) :: optsI f y k (b + 1 + (f (b + 1) y).length)
def L1 (m t : Bool) (o : List State) (x : Rx) (outs : List Int) (ot : Bool) (a b : Int) (rs : Ex × XSt) : Prop := match m with
 | false => nb_repeat_l1 t o.length o x outs ot outs.length a b rs
 | true => nb_repeat_l1_b t o.length x outs o ot outs.length a b rs
def X1 (m t : Bool) (o : List State) (x : Rx) (outs : List Int) (ot : Bool) (a b : Int) : Ex × XSt := match m with
 | false => nb_repeat_l1_x0 t o.length o x outs ot outs.length a b
 | true => nb_repeat_l1_x1 t o.length x outs o ot outs.length a b
theorem L1_step {m m' t t' t1 : Bool} {o o1 r : List State} {x y : Rx} {outs : List Int} {ot : Bool} {a b i : Int} {rs : Ex × XSt} (h0 : b < a) (hf : nb_fork_m t o.length o i o1 o1.length t1) (hb : (outs.length + 1) * 8 ≤ 140737488355328) (h1 : x.Sub.xs[Int.toNat 0]? = some y) (h2 : bld m' t1 o1 y r t') (h3 : w64 (b + 1)) (hk : L1 true t' r x (outs ++ [i]) false a (b + 1) rs) : L1 m t o x outs ot a b rs := by
 have tk : outs.take outs.length = outs := List.take_length ..
 have hk' : nb_repeat_l1_b t' r.length x (outs ++ [i]) r false (outs ++ [i]).length a (b + 1) rs := hk
 rw [show (outs ++ [i]).length = outs.length + 1 by simp] at hk'
 cases m <;> cases m'
 ·obtain ⟨h2, rfl, hl⟩ := h2
  rw [hl] at hk'
  exact nb_repeat_l1_s0 h0 hf (Nat.le_refl _) hb h1 h2 h3 (by rw [tk]; exact hk')
 ·exact nb_repeat_l1_s1 h0 hf (Nat.le_refl _) hb h1 h2 h3 (by rw [tk]; exact hk')
 ·obtain ⟨h2, rfl, hl⟩ := h2
  rw [hl] at hk'
  exact nb_repeat_l1_b_s3 h0 hf (Nat.le_refl _) hb h1 h2 h3 (by rw [tk]; exact hk')
 ·exact nb_repeat_l1_b_s4 h0 hf (Nat.le_refl _) hb h1 h2 h3 (by rw [tk]; exact hk')
theorem L1_exit {m t : Bool} {o : List State} {x : Rx} {outs : List Int} {ot : Bool} {a b : Int} (h0 : ¬ b < a) : L1 m t o x outs ot a b (X1 m t o x outs ot a b) := by
 cases m
 ·exact nb_repeat_l1_e2 h0
 ·exact nb_repeat_l1_b_e5 h0
theorem opts_run {f : Nat → Rx → List PS} {x y : Rx} {T : Nat} {a : Int} (hB : Bd f y T) (h1 : x.Sub.xs[Int.toNat 0]? = some y) (ha : a < 100000000) : ∀ (k : Nat) (o : List State) (t m : Bool) (outs : List Int) (ot : Bool) (b : Int), a = b + k → 0 ≤ b → (outs.length : Int) = b → o.length + k * (T + 1) ≤ 1000000 →
  ∃ m' o' t' ot', L1 m t o x outs ot a b (X1 m' t' o' x (outs ++ optsI f y k o.length) ot' a a) ∧ (m = true → m' = true) ∧ (m' = false → t' = t ∧ o'.length = o.length) ∧ o'.map ps = o.map ps ++ optsC f y 0 k o.length
 | 0, o, t, m, outs, ot, b, hb, h0, ho, hl => by
  have : a = b := by omega
  subst this
  refine ⟨m, o, t, ot, ?_, fun h => h, fun _ => ⟨rfl, rfl⟩, by simp [optsC]⟩
  rw [optsI, List.append_nil]
  exact L1_exit (by omega)
 | k + 1, o, t, m, outs, ot, b, hb, h0, ho, hl => by
  rw [Nat.add_mul k 1, Nat.one_mul] at hl
  have hf := fork_run (t := t) (o := o) (by omega)
  obtain ⟨m1, o1, t1, g1, g2⟩ := hB.2 (o ++ [fk ((o.length : Int) + 1) 0]) false (by simp; omega)
  have l1 := len_ps g2
  rw [hB.1, List.length_append, List.length_singleton] at l1
  obtain ⟨m2, o2, t2, ot2, g3, g4, g5, g6⟩ := opts_run hB h1 ha k o1 t1 true (outs ++ [(o.length : Int)]) false (b + 1) (by omega) (by omega) (by simp; omega) (by omega)
  have hm2 := g4 rfl
  subst hm2
  refine ⟨true, o2, t2, ot2, L1_step (by omega) hf (by omega) h1 g1 (in64 (by omega) (by omega)) ?_, fun _ => rfl, fun h => (by cases h), ?_⟩
  ·rw [optsI, hB.1, show outs ++ (o.length : Int) :: optsI f y k (o.length + 1 + T) = (outs ++ [(o.length : Int)]) ++ optsI f y k (o.length + 1 + T) by simp, ← l1]
   exact g3
  ·rw [g6, g2, l1]
   simp only [optsC, hB.1, List.length_append, List.length_singleton, List.map_append, List.map_cons, List.map_nil, List.append_assoc, List.singleton_append, List.cons_append]
   rfl
def L2 (m t : Bool) (o : List State) (outs : List Int) (ot : Bool) (a b : Int) (rs : Ex × XSt) : Prop := match m with
 | false => nb_repeat_l2 t o.length o outs ot outs.length a b rs
 | true => nb_repeat_l2v1 t o.length outs o ot outs.length a b rs
def X2 (m t : Bool) (o : List State) (outs : List Int) (ot : Bool) (a b : Int) : Ex × XSt := match m with
 | false => nb_repeat_l2_x0 t o.length o outs ot outs.length a b
 | true => nb_repeat_l2v1_x0 t o.length outs o ot outs.length a b
theorem L2_step {m t : Bool} {o r : List State} {outs : List Int} {ot : Bool} {a b i : Int} {rs : Ex × XSt} (h0 : b < a) (h1 : 0 ≤ b) (h2 : b.toNat < outs.length) (h3 : outs[b.toNat]? = some i) (h4 : nb_fork_f1 t o.length o i r) (hl : r.length = o.length) (h5 : w64 (b + 1)) (hk : L2 m t r outs ot a (b + 1) rs) : L2 m t o outs ot a b rs := by
 cases m
 ·have hk' : nb_repeat_l2 t r.length r outs ot outs.length a (b + 1) rs := hk
  rw [hl] at hk'
  exact nb_repeat_l2_s0 h0 h1 h2 h3 h4 h5 hk'
 ·have hk' : nb_repeat_l2v1 t r.length outs r ot outs.length a (b + 1) rs := hk
  rw [hl] at hk'
  exact nb_repeat_l2v1_s0 h0 h1 h2 h3 h4 h5 hk'
theorem L2_exit {m t : Bool} {o : List State} {outs : List Int} {ot : Bool} {a b : Int} (h0 : ¬ b < a) : L2 m t o outs ot a b (X2 m t o outs ot a b) := by
 cases m
 ·exact nb_repeat_l2_e1 h0
 ·exact nb_repeat_l2v1_e1 h0
theorem patch_run {f : Nat → Rx → List PS} {y : Rx} {m t : Bool} {outs : List Int} {ot : Bool} {e : Nat} (hs : outs.length < 1000000000) : ∀ (k j : Nat) (o : List State) (pre : List PS), o.length = e → outs.drop j = optsI f y k pre.length → o.map ps = pre ++ optsC f y 0 k pre.length →
  ∃ o' z, L2 m t o outs ot outs.length j (X2 m t o' outs ot outs.length z) ∧ o'.length = o.length ∧ o'.map ps = pre ++ optsC f y e k pre.length
 | 0, j, o, pre, he, hd, ho => by
  have := drop_nil_le hd
  exact ⟨o, j, L2_exit (by omega), rfl, by simpa [optsC] using ho⟩
 | k + 1, j, o, pre, he, hd, ho => by
  rw [optsI] at hd
  obtain ⟨h1, h2, h3⟩ := at_drop hd
  rw [optsC] at ho
  obtain ⟨o1, g1, g2, g3⟩ := forkf_run (t := t) ho rfl
  rw [he] at g3
  have e3 : (pre ++ pfork (pre.length + 1) e :: f (pre.length + 1) y).length = pre.length + 1 + (f (pre.length + 1) y).length := by simp; omega
  obtain ⟨o2, z, k1, k2, k3⟩ := patch_run (m := m) (t := t) (ot := ot) (e := e) hs k (j + 1) o1 (pre ++ pfork (pre.length + 1) e :: f (pre.length + 1) y) (by omega) (by rw [h2, e3]) (by
   rw [g3, e3]; simp [pfork])
  refine ⟨o2, z, L2_step (by omega) (by omega) (by omega) h1 g1 g2 (in64 (by omega) (by omega)) k1, by omega, ?_⟩
  rw [k3, e3, optsC]
  simp
theorem rpt_star {m m' t z0 : Bool} {o z2 : List State} {x y : Rx} {r0 a b i : Int} {t1 t2 t3 : Bool} {o1 o2 o3 o4 o5 : List State} {j : Int} (h0 : x.Sub.xs[Int.toNat 0]? = some y) (h1 : nfa_size y 1 r0) (h3 : L0 false t o x (if r0 = 0 then 0 else x.Min) 0 (X0 m z0 z2 x a b)) (hz : m = false → z0 = t ∧ z2.length = o.length) (h4 : x.Max < 0)
  (h5 : nb_fork_m z0 z2.length z2 i o1 o1.length t1) (h7 : bld m' t1 o1 y o2 t2) (h8 : nb_jump_m t2 o2.length o2 j o3 o3.length t3) (h9 : nb_jump_f1 t3 o3.length o3 (z2.length : Int) j o4) (h10 : nb_fork_f1 t3 o3.length o4 i o5) (hl : o5.length = o3.length) : nb_repeat_m t o.length o x o5 o5.length t3 := by
 rw [hl]
 have h3' : nb_repeat_l0 t o.length o x (if r0 = 0 then 0 else x.Min) 0 (X0 m z0 z2 x a b) := h3
 cases m <;> cases m' <;> by_cases c : r0 = 0
 ·rw [if_pos c] at h3'; obtain ⟨h7, rfl, e⟩ := h7
  rw [e] at h8
  exact nb_repeat_r0 h0 h1 c h3' h4 h5 h0 h7 h8 h9 h10
 ·rw [if_neg c] at h3'; obtain ⟨h7, rfl, e⟩ := h7
  rw [e] at h8
  exact nb_repeat_r8 h0 h1 c h3' h4 h5 h0 h7 h8 h9 h10
 ·rw [if_pos c] at h3'
  exact nb_repeat_r1 h0 h1 c h3' h4 h5 h0 h7 h8 h9 h10
 ·rw [if_neg c] at h3'
  exact nb_repeat_r9 h0 h1 c h3' h4 h5 h0 h7 h8 h9 h10
 ·rw [if_pos c] at h3'; obtain ⟨h7, rfl, e⟩ := h7
  rw [e] at h8
  exact nb_repeat_r4 h0 h1 c h3' h4 h5 h0 h7 h8 h9 h10
 ·rw [if_neg c] at h3'; obtain ⟨h7, rfl, e⟩ := h7
  rw [e] at h8
  exact nb_repeat_r12 h0 h1 c h3' h4 h5 h0 h7 h8 h9 h10
 ·rw [if_pos c] at h3'
  exact nb_repeat_r5 h0 h1 c h3' h4 h5 h0 h7 h8 h9 h10
 ·rw [if_neg c] at h3'
  exact nb_repeat_r13 h0 h1 c h3' h4 h5 h0 h7 h8 h9 h10
theorem rpt_opts {m m' t z0 : Bool} {o z2 : List State} {x y : Rx} {r0 a b z : Int} {t2 ot : Bool} {o2 o3 : List State} {outs : List Int} (h0 : x.Sub.xs[Int.toNat 0]? = some y) (h1 : nfa_size y 1 r0) (h3 : L0 false t o x (if r0 = 0 then 0 else x.Min) 0 (X0 m z0 z2 x a b)) (hz : m = false → z0 = t ∧ z2.length = o.length) (h4 : ¬ x.Max < 0) (h5 : w64 (x.Max - x.Min))
  (h6 : L1 m z0 z2 x [] true (x.Max - x.Min) 0 (X1 m' t2 o2 x outs ot (x.Max - x.Min) (x.Max - x.Min))) (hmm : m = true → m' = true) (hz2 : m' = false → t2 = z0 ∧ o2.length = z2.length) (h7 : L2 m' t2 o2 outs ot outs.length 0 (X2 m' t2 o3 outs ot outs.length z)) (hl : o3.length = o2.length) : rpt m' t o x o3 t2 := by
 have h3' : nb_repeat_l0 t o.length o x (if r0 = 0 then 0 else x.Min) 0 (X0 m z0 z2 x a b) := h3
 cases m' with
 | false =>
  obtain ⟨rfl, e2⟩ := hz2 rfl
  have hm : m = false := by cases m with
   | false => rfl
   | true => cases hmm rfl
  subst hm
  obtain ⟨rfl, e1⟩ := hz rfl
  refine ⟨?_, rfl, by omega⟩
  have h6' : nb_repeat_l1 t2 z2.length z2 x [] true 0 (x.Max - x.Min) 0 (nb_repeat_l1_x0 t2 o2.length o2 x outs ot outs.length (x.Max - x.Min) (x.Max - x.Min)) := h6
  have h7' : nb_repeat_l2 t2 o2.length o2 outs ot outs.length outs.length 0 (nb_repeat_l2_x0 t2 o3.length o3 outs ot outs.length outs.length z) := h7
  rw [hl, e2, e1] at h7'
  rw [e2, e1] at h6'
  have h3'' : nb_repeat_l0 t2 o.length o x (if r0 = 0 then 0 else x.Min) 0 (nb_repeat_l0_x0 t2 z2.length z2 x a b) := h3'
  rw [e1] at h3''
  by_cases c : r0 = 0
  ·rw [if_pos c] at h3''
   exact nb_repeat_r2 h0 h1 c h3'' h4 h5 h6' h7'
  ·rw [if_neg c] at h3''
   exact nb_repeat_r10 h0 h1 c h3'' h4 h5 h6' h7'
 | true =>
  have h7' : nb_repeat_l2v1 t2 o2.length outs o2 ot outs.length outs.length 0 (nb_repeat_l2v1_x0 t2 o3.length outs o3 ot outs.length outs.length z) := h7
  rw [hl] at h7'
  show nb_repeat_m t o.length o x o3 o3.length t2
  rw [hl]
  cases m with
  | false =>
   by_cases c : r0 = 0
   ·rw [if_pos c] at h3'
    exact nb_repeat_r3 h0 h1 c h3' h4 h5 h6 h7'
   ·rw [if_neg c] at h3'
    exact nb_repeat_r11 h0 h1 c h3' h4 h5 h6 h7'
  | true =>
   by_cases c : r0 = 0
   ·rw [if_pos c] at h3'
    exact nb_repeat_r7 h0 h1 c h3' h4 h5 h6 h7'
   ·rw [if_neg c] at h3'
    exact nb_repeat_r15 h0 h1 c h3' h4 h5 h6 h7'
end
section
open Go
set_option linter.unusedVariables false
set_option linter.unusedSimpArgs false
set_option linter.unusedSectionVars false
set_option linter.unnecessarySimpa false
theorem clone_run {s : SL Range} (h : s.xs.length < 8796093022207) : ∃ t, sl_Clone_Range s ⟨2, s.xs, t⟩ := by
 obtain ⟨e, xs, t⟩ := s
 cases xs with
 | nil => exact ⟨false, lim_x rfl⟩
 | cons a l =>
  have hl : (a :: l).length < 8796093022207 := h
  exact ⟨false, R_fn tab_48 rfl ⟨0, fun n hn => xFn_run (p := some _) [.b false, .ap (dl e_Range (a :: l)) (dl e_Range (a :: l)) (a :: l).length, .snap (slD 2 e_Range ⟨2, a :: l, false⟩) [2]] (by kernel_rfl) (And.intro (And.intro (show isNil .slice (.d (slD 2 e_Range (⟨e, a :: l, t⟩ : SL Range))) = some false from rfl) (ap_o e_Range [] (a :: l) 16 [] 0 rfl rfl rfl (elems_slD 2 e_Range (⟨e, a :: l, t⟩ : SL _)) (by omega))) (snap_row 2 e_Range false 2 (a :: l)))⟩⟩
theorem rpt_run {n : Nat} {x : Rx} {o : List State} {t : Bool} (hx : wf_Rx x) (h : rightR (n + 1) x) (k5 : x.Kind = 5) (hB : ∀ y ∈ x.Sub.xs, Bd (comp n) y (totR n y).toNat) (hl : o.length + (comp (n + 1) o.length x).length ≤ 1000000) :
  ∃ m o' t', rpt m t o x o' t' ∧ o'.map ps = o.map ps ++ comp (n + 1) o.length x := by
 obtain ⟨⟨_, _, _, h4⟩, hs⟩ := h
 obtain ⟨_, hl1, a1, a2, a3, a4, a5⟩ : x.Kind = 5 ∧ x.Sub.xs.length = 1 ∧ 0 ≤ x.Min ∧ x.Min ≤ 1000 ∧ -1 ≤ x.Max ∧ x.Max ≤ 1000 ∧ (x.Max < 0 ∨ x.Min ≤ x.Max) := by omega
 obtain ⟨y, hy⟩ := List.length_eq_one_iff.1 hl1
 have hm : y ∈ x.Sub.xs := by rw [hy]; simp
 have hsub : x.Sub.xs[Int.toNat 0]? = some y := by rw [hy]; rfl
 obtain ⟨_, _, hw⟩ := wfRx_small hx
 have t0 := totR_nonneg n (hs y hm)
 have hsz := size_run n (hw y hm) (hs y hm) (m := 1) (by omega) (by omega)
 have hBd := hB y hm
 generalize hT : (totR n y).toNat = T at hBd
 have hleast : (if min (totR n y) 1 = 0 then (0 : Int) else x.Min) = (leastC n x y : Int) := by
  unfold leastC
  by_cases c : totR n y = 0
  ·rw [if_pos (by omega), if_pos c]; rfl
  ·rw [if_neg (by omega), if_neg c]; omega
 have hle : leastC n x y ≤ 1000 := by unfold leastC; split <;> omega
 have hcomp : comp (n + 1) o.length x = timesC (comp n) y (leastC n x y) o.length ++ (if x.Max < 0 then starC (comp n) y (o.length + (timesC (comp n) y (leastC n x y) o.length).length)
     else optsC (comp n) y (o.length + (timesC (comp n) y (leastC n x y) o.length).length + (optsC (comp n) y 0 (x.Max - x.Min).toNat (o.length + (timesC (comp n) y (leastC n x y) o.length).length)).length) (x.Max - x.Min).toNat (o.length + (timesC (comp n) y (leastC n x y) o.length).length)) := by
  rw [comp, if_neg (by omega), if_neg (by omega), if_neg (by omega), if_pos k5, hy]
 rw [hcomp, List.length_append, timesC_len hBd.1] at hl
 obtain ⟨m1, z2, z0, g1, _, g3, g4⟩ := times_run (a := (leastC n x y : Int)) hBd hsub (by omega) (leastC n x y) o t false 0 (by omega) (by omega) (by omega)
 have lz := len_ps g4
 rw [timesC_len hBd.1] at lz
 rw [← hleast] at g1
 rw [hcomp, timesC_len hBd.1, ← lz]
 rw [← lz] at hl
 by_cases c : x.Max < 0
 ·rw [if_pos c] at hl ⊢
  unfold starC at hl ⊢
  rw [List.length_cons, List.length_append, hBd.1, List.length_singleton] at hl
  rw [hBd.1]
  have f1 := fork_run (t := z0) (o := z2) (by omega)
  obtain ⟨m2, o2, t2, b1, b2⟩ := hBd.2 (z2 ++ [fk ((z2.length : Int) + 1) 0]) false (by simp; omega)
  have l2 := len_ps b2
  rw [hBd.1, List.length_append, List.length_singleton] at l2
  have f2 := jump_run (t := t2) (o := o2) (by omega)
  have e3 : (o2 ++ [fk ((o2.length : Int) + 1) 0]).map ps = (z2.map ps ++ ps (fk ((z2.length : Int) + 1) 0) :: comp n (z2.length + 1) y) ++ ps (fk ((o2.length : Int) + 1) 0) :: [] := by
   rw [List.map_append, b2]
   simp
  obtain ⟨o4, q1, q2, q3⟩ := jumpf_run (t := false) (to := (z2.length : Int)) (i := o2.length) e3 (by simp only [List.length_append, List.length_cons, List.length_map, hBd.1]; omega)
  have e4 : o4.map ps = z2.map ps ++ ps (fk ((z2.length : Int) + 1) 0) :: (comp n (z2.length + 1) y ++ [pfork z2.length z2.length]) := by
   rw [q3]
   simp only [List.append_assoc, List.cons_append]
   rfl
  obtain ⟨o5, r1, r2, r3⟩ := forkf_run (t := false) (i := z2.length) e4 (by simp)
  rw [q2] at r1
  refine ⟨true, o5, false, rpt_star hsub hsz g1 g3 c f1 b1 f2 q1 r1 (by omega), ?_⟩
  rw [r3, g4]
  have e5 : (o4.length : Int) = ((z2.length + T + 2 : Nat) : Int) := by rw [q2, List.length_append, List.length_singleton]; omega
  rw [e5]
  simp only [List.append_assoc]
  rfl
 ·rw [if_neg c] at hl ⊢
  rw [optsC_len hBd.1] at hl
  rw [optsC_len hBd.1]
  have hk : x.Max - x.Min = (((x.Max - x.Min).toNat : Nat) : Int) := by omega
  obtain ⟨m2, o2, t2, ot, p1, p2, p3, p4⟩ := opts_run (a := x.Max - x.Min) hBd hsub (by omega) (x.Max - x.Min).toNat z2 z0 m1 [] true 0 (by omega) (by omega) (by rfl) (by rw [lz, Nat.add_assoc]; exact hl)
  rw [List.nil_append] at p1
  have l2 := len_ps p4
  rw [optsC_len hBd.1] at l2
  have hil : ∀ (k b : Nat), (optsI (comp n) y k b).length = k := by
   intro k
   induction k with
   | zero => intro b; rfl
   | succ k ih => intro b; rw [optsI, List.length_cons, ih]
  obtain ⟨o3, z, q1, q2, q3⟩ := patch_run (f := comp n) (y := y) (m := m2) (t := t2) (outs := optsI (comp n) y (x.Max - x.Min).toNat z2.length) (ot := ot) (e := z2.length + (x.Max - x.Min).toNat * (T + 1)) (by rw [hil]; omega) (x.Max - x.Min).toNat 0 o2 (z2.map ps) l2 (by rw [List.drop_zero, List.length_map]) (by rw [p4, List.length_map])
  refine ⟨m2, o3, t2, rpt_opts hsub hsz g1 g3 c (in64 (by omega) (by omega)) p1 p2 p3 q1 q2, ?_⟩
  rw [q3, List.length_map, g4, List.append_assoc]
def S0 (m t : Bool) (o : List State) (l : SL Rx) (i : Int) (rs : Ex × XSt) : Prop := match m with
 | false => nb_build_l0 t o.length o l l.xs.length i rs
 | true => nb_build_l0_b t o.length o l l.xs.length i rs
def SX (m t : Bool) (o : List State) (l : SL Rx) (i : Int) : Ex × XSt := match m with
 | false => nb_build_l0_x0 t o.length o l l.xs.length i
 | true => nb_build_l0_x1 t o.length o l l.xs.length i
theorem S0_step {m m' t t' : Bool} {o r : List State} {l : SL Rx} {y : Rx} {b : Int} {rs : Ex × XSt} (h0 : b < l.xs.length) (hb : 0 ≤ b) (h1 : l.xs[b.toNat]? = some y) (h2 : bld m' t o y r t') (h3 : w64 (b + 1)) (hk : S0 (m || m') t' r l (b + 1) rs) : S0 m t o l b rs := by
 cases m <;> cases m'
 ·obtain ⟨h2, rfl, hl⟩ := h2
  have hk' : nb_build_l0 t' r.length r l l.xs.length (b + 1) rs := hk
  rw [hl] at hk'
  exact nb_build_l0_s0 h0 hb h1 h2 h3 hk'
 ·exact nb_build_l0_s1 h0 hb h1 h2 h3 hk
 ·obtain ⟨h2, rfl, hl⟩ := h2
  have hk' : nb_build_l0_b t' r.length r l l.xs.length (b + 1) rs := hk
  rw [hl] at hk'
  exact nb_build_l0_b_s3 h0 hb h1 h2 h3 hk'
 ·exact nb_build_l0_b_s4 h0 hb h1 h2 h3 hk
theorem S0_exit {m t : Bool} {o : List State} {l : SL Rx} {b : Int} (h0 : ¬ b < l.xs.length) : S0 m t o l b (SX m t o l b) := by
 cases m
 ·exact nb_build_l0_e2 h0
 ·exact nb_build_l0_b_e5 h0
theorem seq_run {f : Nat → Rx → List PS} {l : SL Rx} (hs : l.xs.length < 9000000000000) (hB : ∀ y ∈ l.xs, ∃ T, Bd f y T) : ∀ (rest : List Rx) (k : Nat) (o : List State) (t m : Bool), l.xs.drop k = rest → o.length + (seqC f o.length rest).length ≤ 1000000 →
  ∃ m' o' t' z, S0 m t o l k (SX m' t' o' l z) ∧ (m = true → m' = true) ∧ (m' = false → t' = t ∧ o'.length = o.length) ∧ o'.map ps = o.map ps ++ seqC f o.length rest
 | [], k, o, t, m, hd, hl => by
  have := drop_nil_le hd
  exact ⟨m, o, t, k, S0_exit (by omega), fun h => h, fun _ => ⟨rfl, rfl⟩, by simp [seqC]⟩
 | y :: rest, k, o, t, m, hd, hl => by
  obtain ⟨h1, h2, h3⟩ := at_drop hd
  have hy : y ∈ l.xs := List.mem_of_mem_drop (by rw [hd]; exact List.mem_cons_self ..)
  obtain ⟨T, hT⟩ := hB y hy
  rw [seqC, List.length_append, hT.1] at hl
  obtain ⟨m1, o1, t1, g1, g2⟩ := hT.2 o t (by omega)
  have l1 := len_ps g2
  rw [hT.1] at l1
  obtain ⟨m2, o2, t2, z, g3, g4, g5, g6⟩ := seq_run hs hB rest (k + 1) o1 t1 (m || m1) h2 (by rw [l1]; omega)
  refine ⟨m2, o2, t2, z, S0_step (by omega) (by omega) h1 g1 (in64 (by omega) (by omega)) g3, fun h => g4 (by rw [h]; rfl), fun h => ?_, ?_⟩
  ·have hm : (m || m1) = false := by
    cases hh : (m || m1) with
    | false => rfl
    | true => rw [g4 hh] at h; cases h
   have hm1 : m1 = false := by cases m <;> cases m1 <;> simp_all
   subst hm1
   obtain ⟨_, rfl, e⟩ := g1
   obtain ⟨e1, e2⟩ := g5 h
   exact ⟨e1, by omega⟩
  ·rw [g6, g2, l1]
   simp only [seqC, hT.1, List.append_assoc]
def altZ (f : Nat → Rx → List PS) : Nat → List Rx → List PS
 | _, [] => []
 | b, [y] => f b y
 | b, y :: z :: r => pfork (b + 1) (b + (f (b + 1) y).length + 2) :: (f (b + 1) y ++ pfork (b + (f (b + 1) y).length + 2) 0 :: altZ f (b + (f (b + 1) y).length + 2) (z :: r))
def altI (f : Nat → Rx → List PS) : Nat → List Rx → List Int
 | _, [] => []
 | _, [_] => []
 | b, y :: z :: r => ((b + 1 + (f (b + 1) y).length : Nat) : Int) :: altI f (b + (f (b + 1) y).length + 2) (z :: r)
theorem altZ_len (f : Nat → Rx → List PS) (e : Nat) : ∀ (l : List Rx) (b : Nat), (altZ f b l).length = (altC f e b l).length
 | [], b => rfl
 | [y], b => rfl
 | y :: z :: r, b => by simp only [altZ, altC, List.length_cons, List.length_append, altZ_len f e (z :: r)]
def A1 (m t : Bool) (o : List State) (x : Rx) (outs : List Int) (ot : Bool) (i : Int) (rs : Ex × XSt) : Prop := match m with
 | false => nb_build_l1 t o.length o x outs ot outs.length x.Sub x.Sub.xs.length i rs
 | true => nb_build_l1_b t o.length x outs o ot outs.length x.Sub x.Sub.xs.length i rs
def AX (m m' t : Bool) (o : List State) (x : Rx) (outs : List Int) (y : Rx) (ot : Bool) : Ex × XSt := match m, m' with
 | false, false => nb_build_l1_x0 t o.length o x outs y ot outs.length
 | false, true => nb_build_l1_x1 t o.length x outs y o ot outs.length
 | true, false => nb_build_l1_x3 t o.length x outs o y ot outs.length
 | true, true => nb_build_l1_x4 t o.length x outs y o ot outs.length
theorem A1_last {m m' t t' : Bool} {o r : List State} {x y : Rx} {outs : List Int} {ot : Bool} {i : Int} (h0 : i < x.Sub.xs.length) (hi : 0 ≤ i) (h1 : x.Sub.xs[i.toNat]? = some y) (hw : w64 ((x.Sub.xs.length : Int) - 1)) (he : i = (x.Sub.xs.length : Int) - 1) (h2 : bld m' t o y r t') : A1 m t o x outs ot i (AX m m' t' r x outs y ot) := by
 cases m <;> cases m'
 ·obtain ⟨h2, rfl, hl⟩ := h2
  show nb_build_l1 t' o.length o x outs ot outs.length x.Sub x.Sub.xs.length i (nb_build_l1_x0 t' r.length r x outs y ot outs.length)
  rw [hl]
  exact nb_build_l1_e0 h0 hi h1 hw he h2
 ·exact nb_build_l1_e1 h0 hi h1 hw he h2
 ·obtain ⟨h2, rfl, hl⟩ := h2
  show nb_build_l1_b t' o.length x outs o ot outs.length x.Sub x.Sub.xs.length i (nb_build_l1_x3 t' r.length x outs r y ot outs.length)
  rw [hl]
  exact nb_build_l1_b_e5 h0 hi h1 hw he h2
 ·exact nb_build_l1_b_e6 h0 hi h1 hw he h2
theorem A1_step {m m' t t1 t2 t3 : Bool} {o o1 o2 o3 o4 : List State} {x y : Rx} {outs : List Int} {ot : Bool} {i p j : Int} {rs : Ex × XSt} (h0 : i < x.Sub.xs.length) (hi : 0 ≤ i) (h1 : x.Sub.xs[i.toNat]? = some y) (hw : w64 ((x.Sub.xs.length : Int) - 1)) (he : ¬ i = (x.Sub.xs.length : Int) - 1)
  (hf : nb_fork_m t o.length o p o1 o1.length t1) (h2 : bld m' t1 o1 y o2 t2) (hj : nb_jump_m t2 o2.length o2 j o3 o3.length t3) (hb : (outs.length + 1) * 8 ≤ 140737488355328) (hp : nb_fork_f1 t3 o3.length o3 p o4) (hl4 : o4.length = o3.length) (h3 : w64 (i + 1)) (hk : A1 true t3 o4 x (outs ++ [j]) false (i + 1) rs) : A1 m t o x outs ot i rs := by
 have tk : outs.take outs.length = outs := List.take_length ..
 have hk' : nb_build_l1_b t3 o4.length x (outs ++ [j]) o4 false (outs ++ [j]).length x.Sub x.Sub.xs.length (i + 1) rs := hk
 rw [show (outs ++ [j]).length = outs.length + 1 by simp, hl4] at hk'
 cases m <;> cases m'
 ·obtain ⟨h2, rfl, hl⟩ := h2
  rw [hl] at hj
  exact nb_build_l1_s2 h0 hi h1 hw he hf h2 hj (Nat.le_refl _) hb hp h3 (by rw [tk]; exact hk')
 ·exact nb_build_l1_s3 h0 hi h1 hw he hf h2 hj (Nat.le_refl _) hb hp h3 (by rw [tk]; exact hk')
 ·obtain ⟨h2, rfl, hl⟩ := h2
  rw [hl] at hj
  exact nb_build_l1_b_s7 h0 hi h1 hw he hf h2 hj (Nat.le_refl _) hb hp h3 (by rw [tk]; exact hk')
 ·exact nb_build_l1_b_s8 h0 hi h1 hw he hf h2 hj (Nat.le_refl _) hb hp h3 (by rw [tk]; exact hk')
theorem alt_run {f : Nat → Rx → List PS} {x : Rx} (hs : x.Sub.xs.length < 9000000000000) (hB : ∀ y ∈ x.Sub.xs, ∃ T, Bd f y T) : ∀ (rest : List Rx) (k : Nat) (o : List State) (t m : Bool) (outs : List Int) (ot : Bool), rest ≠ [] → x.Sub.xs.drop k = rest → outs.length ≤ k → o.length + (altZ f o.length rest).length ≤ 1000000 →
  ∃ m1 m2 o' t' ot' y', A1 m t o x outs ot k (AX m1 m2 t' o' x (outs ++ altI f o.length rest) y' ot') ∧ (m = true → m1 = true) ∧ (m1 = false → m2 = false → t' = t ∧ o'.length = o.length) ∧ o'.map ps = o.map ps ++ altZ f o.length rest
 | [], k, o, t, m, outs, ot, hne, hd, ho, hl => absurd rfl hne
 | [y], k, o, t, m, outs, ot, hne, hd, ho, hl => by
  obtain ⟨h1, h2, h3⟩ := at_drop hd
  have h4 := drop_nil_le h2
  have hy : y ∈ x.Sub.xs := List.mem_of_mem_drop (by rw [hd]; exact List.mem_cons_self ..)
  obtain ⟨T, hT⟩ := hB y hy
  simp only [altZ, hT.1] at hl
  obtain ⟨m1, o1, t1, g1, g2⟩ := hT.2 o t hl
  refine ⟨m, m1, o1, t1, ot, y, ?_, fun h => h, fun _ h => ?_, by rw [g2]; simp only [altZ]⟩
  ·rw [altI, List.append_nil]
   exact A1_last (by omega) (by omega) h1 (in64 (by omega) (by omega)) (by omega) g1
  ·subst h
   exact ⟨g1.2.1, g1.2.2⟩
 | y :: z :: r, k, o, t, m, outs, ot, hne, hd, ho, hl => by
  obtain ⟨h1, h2, h3⟩ := at_drop hd
  obtain ⟨_, _, h5⟩ := at_drop h2
  have hy : y ∈ x.Sub.xs := List.mem_of_mem_drop (by rw [hd]; exact List.mem_cons_self ..)
  obtain ⟨T, hT⟩ := hB y hy
  simp only [altZ, hT.1, List.length_cons, List.length_append] at hl
  have f1 := fork_run (t := t) (o := o) (by omega)
  obtain ⟨m2, o2, t2, b1, b2⟩ := hT.2 (o ++ [fk ((o.length : Int) + 1) 0]) false (by simp; omega)
  have l2 := len_ps b2
  rw [hT.1, List.length_append, List.length_singleton] at l2
  have f2 := jump_run (t := t2) (o := o2) (by omega)
  have e3 : (o2 ++ [fk ((o2.length : Int) + 1) 0]).map ps = o.map ps ++ ps (fk ((o.length : Int) + 1) 0) :: (f (o.length + 1) y ++ [ps (fk ((o2.length : Int) + 1) 0)]) := by
   rw [List.map_append, b2]
   simp
  obtain ⟨o4, q1, q2, q3⟩ := forkf_run (t := false) (i := o.length) e3 (by simp)
  have l3 : (o2 ++ [fk ((o2.length : Int) + 1) 0]).length = o.length + T + 2 := by rw [List.length_append, List.length_singleton]; omega
  obtain ⟨n1, n2, o5, t5, ot5, y5, r1, r2, r3, r4⟩ := alt_run hs hB (z :: r) (k + 1) o4 false true (outs ++ [(o2.length : Int)]) false (by simp) h2 (by simp; omega) (by rw [q2, l3]; omega)
  have hn1 := r2 rfl
  subst hn1
  refine ⟨true, n2, o5, t5, ot5, y5, ?_, fun _ => rfl, fun h => (by cases h), ?_⟩
  ·refine A1_step (by omega) (by omega) h1 (in64 (by omega) (by omega)) (by omega) f1 b1 f2 (by omega) q1 q2 (in64 (by omega) (by omega)) ?_
   rw [altI, hT.1, show ((o.length + 1 + T : Nat) : Int) = (o2.length : Int) by omega, show outs ++ (o2.length : Int) :: altI f (o.length + T + 2) (z :: r) = (outs ++ [(o2.length : Int)]) ++ altI f (o.length + T + 2) (z :: r) by simp, ← l3, ← q2]
   exact r1
  ·rw [r4, q3, q2, l3, altZ, hT.1]
   simp only [List.append_assoc, List.cons_append, List.nil_append]
   rw [show ps (fk ((o2.length : Int) + 1) 0) = pfork (o.length + T + 2) 0 by
    unfold ps fk pfork
    rw [show (o2.length : Int) + 1 = ((o.length + T + 2 : Nat) : Int) by omega]
    rfl]
   rfl
def A2 (m t : Bool) (o : List State) (outs : List Int) (ot : Bool) (a b : Int) (rs : Ex × XSt) : Prop := match m with
 | false => nb_build_l2 t o.length o outs ot outs.length a b rs
 | true => nb_build_l2v1 t o.length outs o ot outs.length a b rs
def AX2 (m t : Bool) (o : List State) (outs : List Int) (ot : Bool) (a b : Int) : Ex × XSt := match m with
 | false => nb_build_l2_x0 t o.length o outs ot outs.length a b
 | true => nb_build_l2v1_x0 t o.length outs o ot outs.length a b
theorem A2_step {m t : Bool} {o r : List State} {outs : List Int} {ot : Bool} {a b i : Int} {rs : Ex × XSt} (h0 : b < a) (h1 : 0 ≤ b) (h2 : b.toNat < outs.length) (h3 : outs[b.toNat]? = some i) (h4 : nb_jump_f1 t o.length o o.length i r) (hl : r.length = o.length) (h5 : w64 (b + 1)) (hk : A2 m t r outs ot a (b + 1) rs) : A2 m t o outs ot a b rs := by
 cases m
 ·have hk' : nb_build_l2 t r.length r outs ot outs.length a (b + 1) rs := hk
  rw [hl] at hk'
  exact nb_build_l2_s0 h0 h1 h2 h3 h4 h5 hk'
 ·have hk' : nb_build_l2v1 t r.length outs r ot outs.length a (b + 1) rs := hk
  rw [hl] at hk'
  exact nb_build_l2v1_s0 h0 h1 h2 h3 h4 h5 hk'
theorem A2_exit {m t : Bool} {o : List State} {outs : List Int} {ot : Bool} {a b : Int} (h0 : ¬ b < a) : A2 m t o outs ot a b (AX2 m t o outs ot a b) := by
 cases m
 ·exact nb_build_l2_e1 h0
 ·exact nb_build_l2v1_e1 h0
theorem patchA_run {f : Nat → Rx → List PS} {m t : Bool} {outs : List Int} {ot : Bool} {e : Nat} (hs : outs.length < 9000000000000) : ∀ (l : List Rx) (j : Nat) (o : List State) (pre : List PS), o.length = e → outs.drop j = altI f pre.length l → o.map ps = pre ++ altZ f pre.length l →
  ∃ o' z, A2 m t o outs ot outs.length j (AX2 m t o' outs ot outs.length z) ∧ o'.length = o.length ∧ o'.map ps = pre ++ altC f e pre.length l
 | [], j, o, pre, he, hd, ho => by
  have := drop_nil_le hd
  exact ⟨o, j, A2_exit (by omega), rfl, by simpa [altC, altZ] using ho⟩
 | [y], j, o, pre, he, hd, ho => by
  have := drop_nil_le hd
  exact ⟨o, j, A2_exit (by omega), rfl, by simpa [altC, altZ] using ho⟩
 | y :: w :: r, j, o, pre, he, hd, ho => by
  rw [altI] at hd
  obtain ⟨h1, h2, h3⟩ := at_drop hd
  rw [altZ] at ho
  have ho' : o.map ps = (pre ++ pfork (pre.length + 1) (pre.length + (f (pre.length + 1) y).length + 2) :: f (pre.length + 1) y) ++ pfork (pre.length + (f (pre.length + 1) y).length + 2) 0 :: altZ f (pre.length + (f (pre.length + 1) y).length + 2) (w :: r) := by
   rw [ho]; simp
  obtain ⟨o1, g1, g2, g3⟩ := jumpf_run (t := t) (to := (o.length : Int)) (i := pre.length + 1 + (f (pre.length + 1) y).length) ho' (by simp; omega)
  have e3 : (pre ++ pfork (pre.length + 1) (pre.length + (f (pre.length + 1) y).length + 2) :: (f (pre.length + 1) y ++ [pfork e e])).length = pre.length + (f (pre.length + 1) y).length + 2 := by simp; omega
  obtain ⟨o2, z, k1, k2, k3⟩ := patchA_run (m := m) (t := t) (ot := ot) (e := e) hs (w :: r) (j + 1) o1 (pre ++ pfork (pre.length + 1) (pre.length + (f (pre.length + 1) y).length + 2) :: (f (pre.length + 1) y ++ [pfork e e])) (by omega) (by rw [h2, e3]) (by
   rw [g3, e3, he]
   simp [pfork])
  refine ⟨o2, z, A2_step (by omega) (by omega) (by omega) h1 g1 g2 (in64 (by omega) (by omega)) k1, by omega, ?_⟩
  rw [k3, e3, altC]
  simp
theorem altI_len (f : Nat → Rx → List PS) : ∀ (l : List Rx) (b : Nat), (altI f b l).length ≤ l.length
 | [], b => Nat.le_refl _
 | [y], b => Nat.zero_le _
 | y :: z :: r, b => by
  rw [altI, List.length_cons]
  have := altI_len f (z :: r) (b + (f (b + 1) y).length + 2)
  simp only [List.length_cons] at this ⊢
  omega
theorem bld_alt {m1 m2 t t2 ot : Bool} {o o2 o3 : List State} {x y : Rx} {outs : List Int} {z : Int} (k4 : x.Kind = 4) (h1 : A1 false t o x [] true 0 (AX m1 m2 t2 o2 x outs y ot)) (hz : m1 = false → m2 = false → t2 = t ∧ o2.length = o.length)
  (h2 : A2 (m1 || m2) t2 o2 outs ot outs.length 0 (AX2 (m1 || m2) t2 o3 outs ot outs.length z)) (hl : o3.length = o2.length) : bld (m1 || m2) t o x o3 t2 := by
 have n2 : ¬ x.Kind = 2 := by omega
 have n3 : ¬ x.Kind = 3 := by omega
 have n6 : ¬ x.Kind = 6 := by omega
 have n7 : ¬ x.Kind = 7 := by omega
 have n8 : ¬ x.Kind = 8 := by omega
 have n9 : ¬ x.Kind = 9 := by omega
 cases m1 <;> cases m2
 ·obtain ⟨rfl, e⟩ := hz rfl rfl
  have h1' : nb_build_l1 t2 o.length o x [] true 0 x.Sub x.Sub.xs.length 0 (nb_build_l1_x0 t2 o2.length o2 x outs y ot outs.length) := h1
  have h2' : nb_build_l2 t2 o2.length o2 outs ot outs.length outs.length 0 (nb_build_l2_x0 t2 o3.length o3 outs ot outs.length outs.length z) := h2
  rw [hl] at h2'
  rw [e] at h1' h2'
  exact ⟨nb_build_r7 n2 n6 n7 n8 n9 n3 k4 h1' h2', rfl, by omega⟩
 ·have h2' : nb_build_l2v1 t2 o2.length outs o2 ot outs.length outs.length 0 (nb_build_l2v1_x0 t2 o3.length outs o3 ot outs.length outs.length z) := h2
  show nb_build_m t o.length o x o3 o3.length t2
  rw [hl] at h2' ⊢
  exact nb_build_r8 n2 n6 n7 n8 n9 n3 k4 h1 h2'
 ·have h2' : nb_build_l2v1 t2 o2.length outs o2 ot outs.length outs.length 0 (nb_build_l2v1_x0 t2 o3.length outs o3 ot outs.length outs.length z) := h2
  show nb_build_m t o.length o x o3 o3.length t2
  rw [hl] at h2' ⊢
  exact nb_build_r10 n2 n6 n7 n8 n9 n3 k4 h1 h2'
 ·have h2' : nb_build_l2v1 t2 o2.length outs o2 ot outs.length outs.length 0 (nb_build_l2v1_x0 t2 o3.length outs o3 ot outs.length outs.length z) := h2
  show nb_build_m t o.length o x o3 o3.length t2
  rw [hl] at h2' ⊢
  exact nb_build_r11 n2 n6 n7 n8 n9 n3 k4 h1 h2'
theorem one_run {t : Bool} {o : List State} {s : State} {b : Nat} (h : o.length < 1000000000) (hb : s.B = 0) : ∃ o' t', nb_put_m t o.length o s o.length o' o'.length t' ∧ o'.map ps = o.map ps ++ [⟨s.Kind, s.Ranges.xs, ((o.length + 1 : Nat) : Int), 0⟩] := by
 refine ⟨_, _, put_run h, ?_⟩
 rw [List.map_append, List.map_cons, List.map_nil]
 unfold ps
 rw [hb]
 rfl
theorem build_run : ∀ (n : Nat) {x : Rx}, wf_Rx x → rightR n x → Bd (comp n) x (totR n x).toNat
 | 0, x, hx, h => h.elim
 | n + 1, x, hx, h => by
  obtain ⟨w1, w2, w3⟩ := wfRx_small hx
  have hB : ∀ y ∈ x.Sub.xs, Bd (comp n) y (totR n y).toNat := fun y hy => build_run n (w3 y hy) (h.2 y hy)
  refine ⟨fun b => comp_len' h b, fun o t hl => ?_⟩
  rw [← comp_len' h o.length] at hl
  have h4 := h.1.2.2.2
  by_cases k2 : x.Kind = 2
  ·obtain ⟨ct, hc⟩ := clone_run (s := x.Ranges) (by unfold small at w1; omega)
   obtain ⟨o', t', g1, g2⟩ := one_run (b := 0) (t := t) (o := o) (s := State.mk 1 ⟨2, x.Ranges.xs, ct⟩ 0 0) (by omega) rfl
   exact ⟨true, o', t', nb_build_r0 k2 hc g1, by rw [g2, comp, if_pos k2]⟩
  by_cases k6 : x.Kind = 6
  ·obtain ⟨o', t', g1, g2⟩ := one_run (b := 0) (t := t) (o := o) (s := State.mk 3 ⟨0, [], true⟩ 0 0) (by omega) rfl
   exact ⟨true, o', t', nb_build_r1 k2 k6 g1, by rw [g2]; simp [comp, k6]⟩
  by_cases k7 : x.Kind = 7
  ·obtain ⟨o', t', g1, g2⟩ := one_run (b := 0) (t := t) (o := o) (s := State.mk 4 ⟨0, [], true⟩ 0 0) (by omega) rfl
   exact ⟨true, o', t', nb_build_r2 k2 k6 k7 g1, by rw [g2]; simp [comp, k7]⟩
  by_cases k8 : x.Kind = 8
  ·obtain ⟨o', t', g1, g2⟩ := one_run (b := 0) (t := t) (o := o) (s := State.mk 5 ⟨0, [], true⟩ 0 0) (by omega) rfl
   exact ⟨true, o', t', nb_build_r3 k2 k6 k7 k8 g1, by rw [g2]; simp [comp, k8]⟩
  by_cases k9 : x.Kind = 9
  ·obtain ⟨o', t', g1, g2⟩ := one_run (b := 0) (t := t) (o := o) (s := State.mk 6 ⟨0, [], true⟩ 0 0) (by omega) rfl
   exact ⟨true, o', t', nb_build_r4 k2 k6 k7 k8 k9 g1, by rw [g2]; simp [comp, k9]⟩
  by_cases k3 : x.Kind = 3
  ·have ec : comp (n + 1) o.length x = seqC (comp n) o.length x.Sub.xs := by rw [comp, if_neg k2, if_pos k3]
   rw [ec] at hl ⊢
   obtain ⟨m, o', t', z, g1, g2, g3, g4⟩ := seq_run (f := comp n) w2 (fun y hy => ⟨_, hB y hy⟩) x.Sub.xs 0 o t false (by simp) hl
   refine ⟨m, o', t', ?_, g4⟩
   cases m with
   | false =>
    obtain ⟨rfl, e⟩ := g3 rfl
    have g1' : nb_build_l0 t' o.length o x.Sub x.Sub.xs.length 0 (nb_build_l0_x0 t' o'.length o' x.Sub x.Sub.xs.length z) := g1
    rw [e] at g1'
    exact ⟨nb_build_r5 k2 k6 k7 k8 k9 k3 g1', rfl, e⟩
   | true => exact nb_build_r6 k2 k6 k7 k8 k9 k3 g1
  by_cases k4 : x.Kind = 4
  ·have ec : comp (n + 1) o.length x = altC (comp n) (o.length + (altC (comp n) 0 o.length x.Sub.xs).length) o.length x.Sub.xs := by rw [comp, if_neg k2, if_neg k3, if_pos k4]
   have hne : x.Sub.xs ≠ [] := fun e => by rw [e] at h4; simp at h4; omega
   have el := altZ_len (comp n) 0 x.Sub.xs o.length
   rw [ec, altC_len_e (comp n) _ 0, ← el] at hl
   rw [ec]
   obtain ⟨m1, m2, o2, t2, ot, y, g1, _, g3, g4⟩ := alt_run (f := comp n) w2 (fun y hy => ⟨_, hB y hy⟩) x.Sub.xs 0 o t false [] true hne (by simp) (by simp) hl
   rw [List.nil_append] at g1
   have l2 := len_ps g4
   obtain ⟨o3, z, q1, q2, q3⟩ := patchA_run (f := comp n) (m := m1 || m2) (t := t2) (outs := altI (comp n) o.length x.Sub.xs) (ot := ot) (e := o.length + (altC (comp n) 0 o.length x.Sub.xs).length) (by
    have := altI_len (comp n) x.Sub.xs o.length
    omega) x.Sub.xs 0 o2 (o.map ps) (by rw [l2, el]) (by rw [List.drop_zero, List.length_map]) (by rw [g4, List.length_map])
   exact ⟨m1 || m2, o3, t2, bld_alt k4 g1 g3 q1 q2, by rw [q3, List.length_map]⟩
  by_cases k5 : x.Kind = 5
  ·obtain ⟨m, o', t', g1, g2⟩ := rpt_run (t := t) hx h k5 hB hl
   refine ⟨m, o', t', ?_, g2⟩
   cases m with
   | false => exact ⟨nb_build_r13 k2 k6 k7 k8 k9 k3 k4 k5 g1.1, g1.2⟩
   | true => exact nb_build_r14 k2 k6 k7 k8 k9 k3 k4 k5 g1
  ·exact ⟨false, o, t, ⟨nb_build_r15 k2 k6 k7 k8 k9 k3 k4 k5, rfl, rfl⟩, by simp [comp, k2, k3, k4, k5, k6, k7, k8, k9]⟩
end
section
open Go
set_option linter.unusedVariables false
set_option linter.unusedSimpArgs false
set_option linter.unusedSectionVars false
set_option linter.unnecessarySimpa false
def doneS : State := State.mk 7 ⟨0, [], true⟩ 0 0
theorem compile_run {x : Rx} {most : Int} (hx : wf_Rx x) (h : rightR 1000 x) (hc : rx_Check x 0) :
  (totR 1000 x + 1 ≤ 65536 ∧ totR 1000 x + 1 ≤ most ∧ ∃ l : List State, nfa_Compile x most ⟨4, l ++ [doneS], false⟩ 0 ∧ l.map ps = comp 1000 0 x) ∨
   ((65536 < totR 1000 x + 1 ∨ most < totR 1000 x + 1) ∧ nfa_Compile x most ⟨4, [], true⟩ 100) := by
 have t0 := totR_nonneg 1000 h
 have hs := Size_run hx h hc (m := 65536) (by omega) (by omega)
 by_cases c1 : min (totR 1000 x + 1) (65536 + 1) > most
 ·exact .inr ⟨by omega, nfa_Compile_r1 hs rfl c1⟩
 by_cases c2 : min (totR 1000 x + 1) (65536 + 1) > 65536
 ·exact .inr ⟨by omega, nfa_Compile_r2 hs rfl c1 c2⟩
 refine .inl ⟨by omega, by omega, ?_⟩
 obtain ⟨m, l, t', g1, g2⟩ := (build_run 1000 hx h).2 [] true (by simp; omega)
 have hl := len_ps g2
 rw [List.length_nil] at hl
 have hcl := comp_len 1000 0 h
 rw [List.length_nil, List.map_nil, List.nil_append] at g2
 refine ⟨l, ?_, g2⟩
 cases m with
 | false =>
  have e : l = [] := List.eq_nil_of_length_eq_zero (by have := g1.2.2; simpa using this)
  have := nfa_Compile_r3 hs rfl c1 c2 g1.1 (Nat.zero_le _)
  rw [List.take_zero] at this
  rw [e]
  exact this
 | true =>
  have := nfa_Compile_r4 hs rfl c1 c2 g1 (by rw [Int.toNat_natCast]; exact Nat.le_refl _) (by rw [Int.toNat_natCast]; omega) (by rw [Int.toNat_natCast]; exact Nat.le_refl _)
  rw [Int.toNat_natCast, List.take_length] at this
  exact this
theorem Canon.len {l : List Range} (h : Canon l) : l.length ≤ 1114112 ∧ ∀ r, l.head? = some r → (l.length : Int) + r.From ≤ 1114112 := by
 induction h with
 | nil => exact ⟨by simp, fun r hr => by simp at hr⟩
 | one h =>
  refine ⟨by simp, fun r hr => ?_⟩
  simp at hr
  subst hr
  unfold okR top at h
  simp only [List.length_singleton]
  omega
 | @cons a b l h g t ih =>
  have h1 := ih.2 b rfl
  unfold gap at g
  unfold okR at h
  have h2 := ih.1
  simp only [List.length_cons] at h1 h2 ⊢
  exact ⟨by omega, fun r hr => by simp at hr; subst hr; omega⟩
theorem comp_fits {x : Rx} (h : rightR 1000 x) (hb : totR 1000 x + 1 ≤ 65536) {l : List State} (hl : l.map ps = comp 1000 0 x) : (l.length : Int) = totR 1000 x ∧ (∀ s ∈ l, okP l.length (ps s)) := by
 have h1 := comp_len 1000 0 h
 have h2 := congrArg List.length hl
 rw [List.length_map] at h2
 refine ⟨by omega, fun s hs => ?_⟩
 have h3 := comp_ok 1000 0 h (ps s) (by rw [← hl]; exact List.mem_map_of_mem hs)
 rw [Nat.zero_add, ← h2] at h3
 exact h3
theorem fits_okL {l : List State} (h : ∀ s ∈ l, okP l.length (ps s)) (hn : l.length < 65536) : wfStates ⟨4, l ++ [doneS], false⟩ ∧ okL ⟨4, l ++ [doneS], false⟩ := by
 have hc : ∀ s ∈ l ++ [doneS], Canon s.Ranges.xs := fun s hs => by
  rcases List.mem_append.1 hs with hs | hs
  ·exact (h s hs).2.2.2.2.2.2
  ·rw [List.mem_singleton.1 hs]; exact .nil
 refine ⟨⟨?_, fun s hs => ?_⟩, ?_, fun s hs => ?_⟩
 ·unfold small
  simp only [List.length_append, List.length_singleton]
  omega
 ·have := (hc s hs).len.1
  unfold small
  omega
 ·simp
 ·have hcs := hc s hs
  rcases List.mem_append.1 hs with hs | hs
  ·obtain ⟨a1, a2, a3, a4, a5, a6, a7⟩ := h s hs
   have e : ((⟨4, l ++ [doneS], false⟩ : SL State).xs.length : Int) = (l.length : Int) + 1 := by simp
   unfold okS
   unfold ps at *
   dsimp only at *
   refine ⟨a1, by omega, fun _ => ⟨a3.1, by simp; omega⟩, fun k => by omega, fun k => ?_, a5, a6, mergeR_self hcs⟩
   have := a4 k
   exact ⟨this.1, by simp; omega⟩
  ·rw [List.mem_singleton.1 hs]
   exact ⟨by decide, by decide, fun h => absurd rfl h, fun _ => rfl, fun h => absurd (show (7 : Int) = 2 from h) (by decide), fun _ => rfl, fun _ => rfl, mergeR_self .nil⟩
end
end Go.Proofs.YtjnfkifdgojdaaaGreat.V

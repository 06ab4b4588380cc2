/- The states that a tree is made into, in plain Lean. -/
import Derived.Test.YtgoalemieifcdaaN6
namespace Go.Proofs.Ytgoalemieifcdaa.V
open Go
set_option linter.unusedVariables false
set_option linter.unusedSimpArgs false
set_option linter.unusedSectionVars false
set_option linter.unnecessarySimpa false
/-- A state by what counts. -/
structure PS where
  k : Int
  r : List Range
  a : Int
  b : Int
def ps (s : State) : PS := ⟨s.Kind, s.Ranges.xs, s.A, s.B⟩
def pfork (a b : Nat) : PS := ⟨2, [], a, b⟩
def seqC (f : Nat → Rx → List PS) : Nat → List Rx → List PS
  | _, [] => []
  | b, y :: r => f b y ++ seqC f (b + (f b y).length) r
def timesC (f : Nat → Rx → List PS) (y : Rx) : Nat → Nat → List PS
  | 0, _ => []
  | k + 1, b => f b y ++ timesC f y k (b + (f b y).length)
def optsC (f : Nat → Rx → List PS) (y : Rx) (e : Nat) : Nat → Nat → List PS
  | 0, _ => []
  | k + 1, b => pfork (b + 1) e :: (f (b + 1) y ++ optsC f y e k (b + 1 + (f (b + 1) y).length))
def altC (f : Nat → Rx → List PS) (e : Nat) : Nat → List Rx → List PS
  | _, [] => []
  | b, [y] => f b y
  | b, y :: z :: r => pfork (b + 1) (b + (f (b + 1) y).length + 2) :: (f (b + 1) y ++ pfork e e :: altC f e (b + (f (b + 1) y).length + 2) (z :: r))
def starC (f : Nat → Rx → List PS) (y : Rx) (b : Nat) : List PS := pfork (b + 1) (b + (f (b + 1) y).length + 2) :: (f (b + 1) y ++ [pfork b b])
/-- How often a part must come: what makes no states makes none, however often. -/
def leastC (n : Nat) (x y : Rx) : Nat := if totR n y = 0 then 0 else x.Min.toNat
/-- A tree's states, the first of which has the number 'b'. -/
def comp : Nat → Nat → Rx → List PS
  | 0, _, _ => []
  | n + 1, b, x =>
    if x.Kind = 2 then [⟨1, x.Ranges.xs, ((b + 1 : Nat) : Int), 0⟩]
    else if x.Kind = 3 then seqC (comp n) b x.Sub.xs
    else if x.Kind = 4 then altC (comp n) (b + (altC (comp n) 0 b x.Sub.xs).length) b x.Sub.xs
    else if x.Kind = 5 then (match x.Sub.xs with
      | y :: _ => timesC (comp n) y (leastC n x y) b ++ (if x.Max < 0 then starC (comp n) y (b + (timesC (comp n) y (leastC n x y) b).length)
          else optsC (comp n) y (b + (timesC (comp n) y (leastC n x y) b).length + (optsC (comp n) y 0 (x.Max - x.Min).toNat (b + (timesC (comp n) y (leastC n x y) b).length)).length) (x.Max - x.Min).toNat (b + (timesC (comp n) y (leastC n x y) b).length))
      | [] => [])
    else if x.Kind = 6 then [⟨3, [], ((b + 1 : Nat) : Int), 0⟩]
    else if x.Kind = 7 then [⟨4, [], ((b + 1 : Nat) : Int), 0⟩]
    else if x.Kind = 8 then [⟨5, [], ((b + 1 : Nat) : Int), 0⟩]
    else if x.Kind = 9 then [⟨6, [], ((b + 1 : Nat) : Int), 0⟩]
    else []
/-! ### How many -/
theorem seqC_len {f : Nat → Rx → List PS} {t : Rx → Int} : ∀ {l : List Rx} (b : Nat), (∀ y ∈ l, ∀ b, ((f b y).length : Int) = t y) → ((seqC f b l).length : Int) = sumT t l
  | [], b, h => by simp [seqC, sumT]
  | y :: r, b, h => by
    have h1 := h y (List.mem_cons_self ..) b
    have h2 := seqC_len (f := f) (t := t) (l := r) (b + (f b y).length) (fun q hq => h q (List.mem_cons_of_mem _ hq))
    simp only [seqC, sumT, List.length_append]
    omega
theorem timesC_len {f : Nat → Rx → List PS} {y : Rx} {t : Nat} (h : ∀ b, (f b y).length = t) : ∀ (k b : Nat), (timesC f y k b).length = k * t
  | 0, b => by simp [timesC]
  | k + 1, b => by
    simp only [timesC, List.length_append, timesC_len h k, h, Nat.add_mul]
    omega
theorem optsC_len {f : Nat → Rx → List PS} {y : Rx} {t e : Nat} (h : ∀ b, (f b y).length = t) : ∀ (k b : Nat), (optsC f y e k b).length = k * (t + 1)
  | 0, b => by simp [optsC]
  | k + 1, b => by
    simp only [optsC, List.length_append, List.length_cons, optsC_len h k, h]
    rw [Nat.add_mul k 1, Nat.one_mul]
    omega
theorem altC_len {f : Nat → Rx → List PS} {t : Rx → Int} {e : Nat} : ∀ {l : List Rx} (b : Nat), l ≠ [] → (∀ y ∈ l, ∀ b, ((f b y).length : Int) = t y) → ((altC f e b l).length : Int) = sumT t l + 2 * ((l.length : Int) - 1)
  | [], b, hne, h => absurd rfl hne
  | [y], b, hne, h => by
    have h1 := h y (List.mem_cons_self ..) b
    simp only [altC, sumT, List.length_singleton]
    omega
  | y :: z :: r, b, hne, h => by
    have h1 := h y (List.mem_cons_self ..) (b + 1)
    have h2 := altC_len (f := f) (t := t) (e := e) (l := z :: r) (b + (f (b + 1) y).length + 2) (by simp) (fun q hq => h q (List.mem_cons_of_mem _ hq))
    simp only [altC, List.length_append, List.length_cons]
    simp only [List.length_cons] at h2
    rw [sumT]
    omega
theorem Canon_nil' : Canon [] := .nil
theorem comp_len : ∀ (n : Nat) {x : Rx} (b : Nat), rightR n x → ((comp n b x).length : Int) = totR n x
  | 0, x, b, h => h.elim
  | n + 1, x, b, h => by
    obtain ⟨⟨_, _, _, h4⟩, hs⟩ := h
    have ih : ∀ y ∈ x.Sub.xs, ∀ b, ((comp n b y).length : Int) = totR n y := fun y hy b => comp_len n b (hs y hy)
    unfold comp
    simp only [totR]
    unfold fR
    by_cases k2 : x.Kind = 2
    · rw [if_pos k2, if_neg (by omega), if_neg (by omega), if_neg (by omega)]
      have : x.Sub.xs = [] := List.eq_nil_of_length_eq_zero (by omega)
      rw [this]; simp [sumT]
    rw [if_neg k2]
    by_cases k3 : x.Kind = 3
    · rw [if_pos k3, if_pos (.inr k3)]
      exact seqC_len b ih
    rw [if_neg k3]
    by_cases k4 : x.Kind = 4
    · rw [if_pos k4, if_neg (by omega), if_pos k4]
      exact altC_len b (fun e => by rw [e] at h4; simp at h4; omega) ih
    rw [if_neg k4]
    by_cases k5 : x.Kind = 5
    · rw [if_pos k5, if_neg (by omega), if_neg k4, if_pos k5]
      obtain ⟨_, hl, a1, a2, a3, a4, a5⟩ : x.Kind = 5 ∧ x.Sub.xs.length = 1 ∧ 0 ≤ x.Min ∧ x.Min ≤ 1000 ∧ -1 ≤ x.Max ∧ x.Max ≤ 1000 ∧ (x.Max < 0 ∨ x.Min ≤ x.Max) := by omega
      obtain ⟨y, hy⟩ := List.length_eq_one_iff.1 hl
      rw [hy]
      have hy' : y ∈ x.Sub.xs := by rw [hy]; simp
      have t0 := totR_nonneg n (hs y hy')
      obtain ⟨t, ht⟩ := Int.eq_ofNat_of_zero_le t0
      have hf : ∀ b, (comp n b y).length = t := fun b => by have := ih y hy' b; omega
      dsimp only [sumT]
      rw [List.length_append, timesC_len hf]
      have hk : ((leastC n x y * t : Nat) : Int) = x.Min * (totR n y + 0) := by
        unfold leastC
        by_cases c : totR n y = 0
        · rw [if_pos c, c]; simp
        · rw [if_neg c, ht, Int.natCast_mul, Int.toNat_of_nonneg a1]; simp
      by_cases c : x.Max < 0
      · rw [if_pos c, if_pos c]
        unfold starC
        rw [List.length_cons, List.length_append, hf]
        simp only [List.length_singleton]
        omega
      · rw [if_neg c, if_neg c, optsC_len hf]
        have e : ((x.Max - x.Min).toNat : Int) = x.Max - x.Min := Int.toNat_of_nonneg (by omega)
        have e2 : (((x.Max - x.Min).toNat * (t + 1) : Nat) : Int) = (x.Max - x.Min) * (totR n y + 0 + 1) := by
          rw [Int.natCast_mul, e, ht]; simp
        rw [Int.natCast_add, hk, e2]
    have hnil : x.Sub.xs = [] := List.eq_nil_of_length_eq_zero (by omega)
    rw [hnil]
    simp only [sumT]
    have hk : x.Kind = 1 ∨ x.Kind = 6 ∨ x.Kind = 7 ∨ x.Kind = 8 ∨ x.Kind = 9 := by omega
    rcases hk with k | k | k | k | k <;> simp [k]
theorem comp_len' {n : Nat} {x : Rx} (h : rightR n x) (b : Nat) : (comp n b x).length = (totR n x).toNat := by
  have := comp_len n b h
  omega
/-! ### What they may be -/
def okP (hi : Nat) (s : PS) : Prop := 1 ≤ s.k ∧ s.k ≤ 6 ∧ (0 ≤ s.a ∧ s.a ≤ hi) ∧ (s.k = 2 → 0 ≤ s.b ∧ s.b ≤ hi) ∧ (s.k ≠ 2 → s.b = 0) ∧ (s.k ≠ 1 → s.r = []) ∧ Canon s.r
theorem okP.mono {a b : Nat} (h : a ≤ b) {s : PS} (hs : okP a s) : okP b s := by
  unfold okP at *
  refine ⟨hs.1, hs.2.1, ?_, fun k => ?_, hs.2.2.2.2⟩
  · have := hs.2.2.1; omega
  · have := hs.2.2.2.1 k; omega
theorem okP_fork {hi a b : Nat} (ha : a ≤ hi) (hb : b ≤ hi) : okP hi (pfork a b) := ⟨(by decide : (1 : Int) ≤ 2), (by decide : (2 : Int) ≤ 6), ⟨Int.natCast_nonneg _, by show (a : Int) ≤ hi; omega⟩, fun _ => ⟨Int.natCast_nonneg _, by show (b : Int) ≤ hi; omega⟩, fun h => absurd rfl h, fun _ => rfl, .nil⟩
theorem seqC_ok {f : Nat → Rx → List PS} : ∀ {l : List Rx} (b : Nat), (∀ y ∈ l, ∀ b, ∀ s ∈ f b y, okP (b + (f b y).length) s) → ∀ s ∈ seqC f b l, okP (b + (seqC f b l).length) s
  | [], b, h, s, hs => by simp [seqC] at hs
  | y :: r, b, h, s, hs => by
    rw [seqC, List.mem_append] at hs
    rw [seqC, List.length_append]
    rcases hs with hs | hs
    · exact (h y (List.mem_cons_self ..) b s hs).mono (by omega)
    · exact (seqC_ok (b + (f b y).length) (fun q hq => h q (List.mem_cons_of_mem _ hq)) s hs).mono (by omega)
theorem timesC_ok {f : Nat → Rx → List PS} {y : Rx} (h : ∀ b, ∀ s ∈ f b y, okP (b + (f b y).length) s) : ∀ (k b : Nat), ∀ s ∈ timesC f y k b, okP (b + (timesC f y k b).length) s
  | 0, b, s, hs => by simp [timesC] at hs
  | k + 1, b, s, hs => by
    rw [timesC, List.mem_append] at hs
    rw [timesC, List.length_append]
    rcases hs with hs | hs
    · exact (h b s hs).mono (by omega)
    · exact (timesC_ok h k (b + (f b y).length) s hs).mono (by omega)
theorem optsC_ok {f : Nat → Rx → List PS} {y : Rx} {e : Nat} (h : ∀ b, ∀ s ∈ f b y, okP (b + (f b y).length) s) : ∀ (k b : Nat), b + (optsC f y e k b).length ≤ e → ∀ s ∈ optsC f y e k b, okP e s
  | 0, b, he, s, hs => by simp [optsC] at hs
  | k + 1, b, he, s, hs => by
    rw [optsC, List.length_cons, List.length_append] at he
    rw [optsC, List.mem_cons, List.mem_append] at hs
    rcases hs with rfl | hs | hs
    · exact okP_fork (by omega) (Nat.le_refl _)
    · exact (h (b + 1) s hs).mono (by omega)
    · exact optsC_ok h k _ (by omega) s hs
theorem altC_ok {f : Nat → Rx → List PS} {e : Nat} : ∀ {l : List Rx} (b : Nat), (∀ y ∈ l, ∀ b, ∀ s ∈ f b y, okP (b + (f b y).length) s) → b + (altC f e b l).length ≤ e → ∀ s ∈ altC f e b l, okP e s
  | [], b, h, he, s, hs => by simp [altC] at hs
  | [y], b, h, he, s, hs => by
    simp only [altC] at hs he
    exact (h y (List.mem_cons_self ..) b s hs).mono he
  | y :: z :: r, b, h, he, s, hs => by
    simp only [altC, List.length_cons, List.length_append] at he
    simp only [altC, List.mem_cons, List.mem_append] at hs
    rcases hs with rfl | hs | rfl | hs
    · exact okP_fork (by omega) (by omega)
    · exact (h y (List.mem_cons_self ..) (b + 1) s hs).mono (by omega)
    · exact okP_fork (Nat.le_refl _) (Nat.le_refl _)
    · exact altC_ok (b + (f (b + 1) y).length + 2) (fun q hq => h q (List.mem_cons_of_mem _ hq)) (by omega) s hs
theorem altC_len_e (f : Nat → Rx → List PS) (e e' : Nat) : ∀ (l : List Rx) (b : Nat), (altC f e b l).length = (altC f e' b l).length
  | [], b => rfl
  | [y], b => rfl
  | y :: z :: r, b => by simp only [altC, List.length_cons, List.length_append, altC_len_e f e e' (z :: r)]
theorem optsC_len_e (f : Nat → Rx → List PS) (y : Rx) (e e' : Nat) : ∀ (k b : Nat), (optsC f y e k b).length = (optsC f y e' k b).length
  | 0, b => rfl
  | k + 1, b => by simp only [optsC, List.length_cons, List.length_append, optsC_len_e f y e e' k]
theorem starC_ok {f : Nat → Rx → List PS} {y : Rx} (h : ∀ b, ∀ s ∈ f b y, okP (b + (f b y).length) s) (b : Nat) : ∀ s ∈ starC f y b, okP (b + (starC f y b).length) s := by
  intro s hs
  unfold starC at hs ⊢
  rw [List.mem_cons, List.mem_append, List.mem_singleton] at hs
  rw [List.length_cons, List.length_append, List.length_singleton]
  rcases hs with rfl | hs | rfl
  · exact okP_fork (by omega) (by omega)
  · exact (h (b + 1) s hs).mono (by omega)
  · exact okP_fork (by omega) (by omega)
theorem one_ok {b : Nat} {k : Int} (h1 : 3 ≤ k) (h2 : k ≤ 6) : ∀ s ∈ [PS.mk k [] ((b + 1 : Nat) : Int) 0], okP (b + 1) s := by
  intro s hs
  rw [List.mem_singleton.1 hs]
  exact ⟨by show 1 ≤ k; omega, h2, ⟨Int.natCast_nonneg _, Int.le_refl _⟩, fun h => (by have : k = 2 := h; omega), fun _ => rfl, fun _ => rfl, .nil⟩
theorem comp_ok : ∀ (n : Nat) {x : Rx} (b : Nat), rightR n x → ∀ s ∈ comp n b x, okP (b + (comp n b x).length) s
  | 0, x, b, h => h.elim
  | n + 1, x, b, h => by
    obtain ⟨⟨_, _, hc, h4⟩, hs⟩ := h
    have ih : ∀ y ∈ x.Sub.xs, ∀ b, ∀ s ∈ comp n b y, okP (b + (comp n b y).length) s := fun y hy b => comp_ok n b (hs y hy)
    unfold comp
    by_cases k2 : x.Kind = 2
    · rw [if_pos k2]
      intro s hs
      rw [List.mem_singleton.1 hs]
      exact ⟨(by decide : (1 : Int) ≤ 1), (by decide : (1 : Int) ≤ 6), ⟨Int.natCast_nonneg _, Int.le_refl _⟩, fun h => absurd (show (1 : Int) = 2 from h) (by decide), fun _ => rfl, fun h => absurd rfl h, hc⟩
    rw [if_neg k2]
    by_cases k3 : x.Kind = 3
    · rw [if_pos k3]; exact seqC_ok b ih
    rw [if_neg k3]
    by_cases k4 : x.Kind = 4
    · rw [if_pos k4]
      intro s hs
      have e := altC_len_e (comp n) (b + (altC (comp n) 0 b x.Sub.xs).length) 0 x.Sub.xs b
      rw [e]
      exact altC_ok b ih (by rw [e]; exact Nat.le_refl _) s hs
    rw [if_neg k4]
    by_cases k5 : x.Kind = 5
    · rw [if_pos k5]
      cases hy : x.Sub.xs with
      | nil => intro s hs; simp at hs
      | cons y r =>
        have hf : ∀ b, ∀ s ∈ comp n b y, okP (b + (comp n b y).length) s := ih y (by rw [hy]; exact List.mem_cons_self ..)
        intro s hs
        dsimp only at hs ⊢
        rw [List.mem_append] at hs
        rw [List.length_append]
        rcases hs with hs | hs
        · exact (timesC_ok hf _ b s hs).mono (by omega)
        · by_cases c : x.Max < 0
          · rw [if_pos c] at hs ⊢
            have := starC_ok hf _ s hs
            exact this.mono (by omega)
          · rw [if_neg c] at hs ⊢
            have e := optsC_len_e (comp n) y (b + (timesC (comp n) y (leastC n x y) b).length + (optsC (comp n) y 0 (x.Max - x.Min).toNat (b + (timesC (comp n) y (leastC n x y) b).length)).length) 0 (x.Max - x.Min).toNat (b + (timesC (comp n) y (leastC n x y) b).length)
            have := optsC_ok hf _ _ (by rw [e]; exact Nat.le_refl _) s hs
            exact this.mono (by rw [e]; omega)
    rw [if_neg k5]
    by_cases k6 : x.Kind = 6
    · rw [if_pos k6]; exact one_ok (by decide) (by decide)
    rw [if_neg k6]
    by_cases k7 : x.Kind = 7
    · rw [if_pos k7]; exact one_ok (by decide) (by decide)
    rw [if_neg k7]
    by_cases k8 : x.Kind = 8
    · rw [if_pos k8]; exact one_ok (by decide) (by decide)
    rw [if_neg k8]
    by_cases k9 : x.Kind = 9
    · rw [if_pos k9]; exact one_ok (by decide) (by decide)
    rw [if_neg k9]
    intro s hs
    simp at hs
end Go.Proofs.Ytgoalemieifcdaa.V

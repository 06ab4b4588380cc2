/- Numbers: limbs, what is reckoned, texts (several texts together). -/
import Derived.Test.YtkkekfehjbbhoaaGreatDoorV30
import Derived.Test.YtkkekfehjbbhoaaGreatDoorVP
namespace Go.Proofs.YtkkekfehjbbhoaaGreatDoor.V
section
open Go
set_option linter.unusedVariables false
set_option linter.unnecessarySimpa false
set_option linter.unusedSimpArgs false
set_option linter.unusedSectionVars false
def val : List Int → Int
  | [] => 0
  | x :: r => x + (1000000000 : Int) * val r
def limbs (l : List Int) : Prop := ∀ x ∈ l, 0 ≤ x ∧ x < (1000000000 : Int)
def isNum (l : List Int) : Prop := limbs l ∧ l.getLast? ≠ some 0
def trimL : List Int → List Int
  | [] => []
  | x :: r => match trimL r with
    | [] => if x = 0 then [] else [x]
    | y :: q => x :: y :: q
theorem powB_succ (n : Nat) : (1000000000 : Int) ^ (n + 1) = (1000000000 : Int) ^ n * (1000000000 : Int) := Int.pow_succ _ _
theorem limbs_cons {x : Int} {r : List Int} : limbs (x :: r) ↔ (0 ≤ x ∧ x < (1000000000 : Int)) ∧ limbs r := by
  unfold limbs; simp
theorem limbs_nil : limbs [] := by intro x h; cases h
theorem limbs_append {a b : List Int} : limbs (a ++ b) ↔ limbs a ∧ limbs b := by
  unfold limbs
  constructor
  · intro h; exact ⟨fun x hx => h x (List.mem_append_left _ hx), fun x hx => h x (List.mem_append_right _ hx)⟩
  · rintro ⟨h1, h2⟩ x hx
    rcases List.mem_append.1 hx with h | h
    · exact h1 x h
    · exact h2 x h
theorem val_append : ∀ (a b : List Int), val (a ++ b) = val a + (1000000000 : Int) ^ a.length * val b
  | [], b => by simp [val]
  | x :: r, b => by
    have := val_append r b
    simp only [List.cons_append, val, List.length_cons, powB_succ, this]
    grind
theorem val_trim : ∀ l, val (trimL l) = val l
  | [] => rfl
  | x :: r => by
    have ih := val_trim r
    simp only [trimL]
    split
    · rename_i e
      rw [e] at ih
      by_cases c : x = 0
      · rw [if_pos c]; simp only [val] at *; omega
      · rw [if_neg c]; simp only [val] at *; omega
    · rename_i y q e
      rw [e] at ih
      simp only [val] at *; omega
theorem limbs_trim : ∀ {l}, limbs l → limbs (trimL l)
  | [], h => h
  | x :: r, h => by
    have h1 := limbs_cons.1 h
    have ih := limbs_trim h1.2
    simp only [trimL]
    split
    · split
      · exact limbs_nil
      · exact limbs_cons.2 ⟨h1.1, limbs_nil⟩
    · rename_i y q e
      rw [e] at ih
      exact limbs_cons.2 ⟨h1.1, ih⟩
theorem last_trim : ∀ l, (trimL l).getLast? ≠ some 0
  | [] => by simp [trimL]
  | x :: r => by
    have ih := last_trim r
    simp only [trimL]
    split
    · split
      · simp
      · rename_i c; simp; exact c
    · rename_i y q e
      rw [e] at ih
      rw [List.getLast?_cons_cons]; exact ih
theorem isNum_trim {l : List Int} (h : limbs l) : isNum (trimL l) := ⟨limbs_trim h, last_trim l⟩
theorem isNum_tail {x : Int} {r : List Int} (h : isNum (x :: r)) : isNum r := by
  refine ⟨(limbs_cons.1 h.1).2, ?_⟩
  cases r with
  | nil => simp
  | cons y q => have := h.2; rwa [List.getLast?_cons_cons] at this
theorem val_pos : ∀ {l : List Int}, isNum l → l ≠ [] → 0 < val l
  | [], _, h => absurd rfl h
  | [x], h, _ => by
    have h1 := limbs_cons.1 h.1
    have h2 := h.2
    simp at h2
    simp only [val]; omega
  | x :: y :: r, h, _ => by
    have h1 := limbs_cons.1 h.1
    have := val_pos (isNum_tail h) (by simp)
    simp only [val] at *; omega
theorem val_inj : ∀ {a b : List Int}, isNum a → isNum b → val a = val b → a = b
  | [], [], _, _, _ => rfl
  | [], y :: r, _, hb, h => by have := val_pos hb (by simp); rw [← h] at this; simp [val] at this
  | x :: r, [], ha, _, h => by have := val_pos ha (by simp); rw [h] at this; simp [val] at this
  | x :: r, y :: q, ha, hb, h => by
    have h1 := (limbs_cons.1 ha.1).1
    have h2 := (limbs_cons.1 hb.1).1
    simp only [val] at h
    have e1 : x = y := by omega
    have e2 : val r = val q := by omega
    rw [e1, val_inj (isNum_tail ha) (isNum_tail hb) e2]
/-- What is left when noughts behind a place are gone. -/
theorem take_trim : ∀ {l : List Int} {n : Nat}, n ≤ l.length → (∀ i x, n ≤ i → l[i]? = some x → x = 0) → (n = 0 ∨ ∃ y, y ≠ 0 ∧ l[n - 1]? = some y) → l.take n = trimL l
  | [], n, hn, _, _ => by simp [trimL]
  | x :: r, 0, hn, hz, _ => by
    have ih := take_trim (l := r) (n := 0) (by omega) (fun i y _ h => hz (i + 1) y (by omega) (by simpa using h)) (.inl rfl)
    have h0 := hz 0 x (by omega) rfl
    rw [List.take_zero] at ih
    simp only [trimL, ← ih, List.take_zero]
    rw [if_pos h0]
  | x :: r, n + 1, hn, hz, hy => by
    simp only [List.length_cons] at hn
    simp only [Nat.add_sub_cancel, Nat.succ_ne_zero, false_or] at hy
    obtain ⟨y, hy0, hy1⟩ := hy
    have ih := take_trim (l := r) (n := n) (by omega) (fun i z hi h => hz (i + 1) z (by omega) (by simpa using h)) (by
      rcases Nat.eq_zero_or_pos n with h | h
      · exact .inl h
      · refine .inr ⟨y, hy0, ?_⟩
        obtain ⟨m, rfl⟩ : ∃ m, n = m + 1 := ⟨n - 1, by omega⟩
        simpa using hy1)
    rw [List.take_succ_cons, ih]
    simp only [trimL]
    split
    · rename_i e
      rw [e] at ih
      have : n = 0 := by
        rcases Nat.eq_zero_or_pos n with h | h
        · exact h
        · exfalso
          have hl : (r.take n).length = 0 := by rw [ih]; rfl
          rw [List.length_take] at hl
          omega
      subst this
      simp at hy1; subst hy1
      rw [if_neg hy0, e]
    · rename_i y' q e
      rw [e]
/-! ### Limbs behind the last one are nought -/
def limb (l : List Int) (i : Nat) : Int := l[i]?.getD 0
end
section
open Go
set_option linter.unusedVariables false
set_option linter.unnecessarySimpa false
set_option linter.unusedSimpArgs false
set_option linter.unusedSectionVars false
theorem at_drop {α : Type} {l : List α} {k : Nat} {y : α} {r : List α} (h : l.drop k = y :: r) : l[(k : Int).toNat]? = some y ∧ l.drop (k + 1) = r ∧ k < l.length := by
  have h1 : l[k]? = some y := by
    have := congrArg List.head? h
    rwa [List.head?_drop] at this
  refine ⟨by simpa using h1, ?_, (List.getElem?_eq_some_iff.1 h1).1⟩
  have := congrArg List.tail h
  simpa using this
theorem drop_nil_le {α : Type} {l : List α} {k : Nat} (h : l.drop k = []) : l.length ≤ k := by simpa using h
theorem b_em (b : Bool) : b = true ∨ b = false := by cases b <;> simp
/-- Limbs as they come: whole numbers of 32 bits; a slice of at most so many. -/
def u32s (l : List Int) : Prop := ∀ x ∈ l, 0 ≤ x ∧ x < 4294967296
def few (l : List Int) : Prop := l.length < 1000000000000
def huge (l : List Int) : Prop := l.length < 100000000000000
def wide (l : List Int) : Prop := l.length < 8000000000000
theorem heads_ok : law_heads true := R_heads
/-! ### The greatest limb -/
/-! ### Noughts cut off -/
theorem trim_loop {a : SL Int} (hf : wide a.xs) : ∀ n : Nat, n ≤ a.xs.length → (∀ i x, n ≤ i → a.xs[i]? = some x → x = 0) → ∃ m : Nat, nat_trim_l0 a n (nat_trim_l0_x0 a m) ∧ m ≤ a.xs.length ∧ a.xs.take m = trimL a.xs
  | 0, hn, hz => ⟨0, nat_trim_l0_e2 (by omega), by omega, take_trim (by omega) hz (.inl rfl)⟩
  | n + 1, hn, hz => by
    unfold wide at hf
    have e : (((n + 1 : Nat) : Int) - 1) = n := by omega
    have hg : a.xs[(((n + 1 : Nat) : Int) - 1).toNat]? = some (a.xs[n]'(by omega)) := by rw [e]; simp
    have hg' : a.xs[n]? = some (a.xs[n]'(by omega)) := List.getElem?_eq_getElem _
    have w1 : w64 (((n + 1 : Nat) : Int) - 1) := in64 (by omega) (by omega)
    by_cases c : a.xs[n]'(by omega) = 0
    · obtain ⟨m, h, h2, h3⟩ := trim_loop (a := a) (by unfold wide; exact hf) n (by omega) (fun i x hi hx => by
        rcases Nat.eq_or_lt_of_le hi with h | h
        · subst h; rw [hg'] at hx; cases hx; exact c
        · exact hz i x h hx)
      refine ⟨m, nat_trim_l0_s0 (by omega) w1 (by omega) hg c ?_, h2, h3⟩
      rw [e]; exact h
    · exact ⟨n + 1, nat_trim_l0_e1 (by omega) w1 (by omega) hg c, hn, take_trim hn hz (.inr ⟨_, c, by rw [Nat.add_sub_cancel]; exact hg'⟩)⟩
theorem trim_run {a : SL Int} (hf : wide a.xs) : nat_trim a ⟨1, trimL a.xs, true⟩ := by
  obtain ⟨m, h, h2, h3⟩ := trim_loop hf a.xs.length (Nat.le_refl _) (fun i x hi hx => by rw [List.getElem?_eq_none hi] at hx; cases hx)
  have := nat_trim_r0 h (by omega) (by simpa using h2)
  rwa [show ((m : Int)).toNat = m by omega, h3] at this
/-! ### Compared -/
def cmpI (a b : Int) : Int := if a < b then -1 else if a > b then 1 else 0
theorem cmp_int (a b : Int) : cmp_Compare_int a b (cmpI a b) := by
  have n1 := cmp_isNaN_int_r1 (x := a) rfl
  have n2 := cmp_isNaN_int_r1 (x := b) rfl
  unfold cmpI
  by_cases h1 : a < b
  · rw [if_pos h1]; exact cmp_Compare_int_r3 n1 n2 h1
  · rw [if_neg h1]
    by_cases h2 : a > b
    · rw [if_pos h2]; exact cmp_Compare_int_r4 n1 n2 h1 h2
    · rw [if_neg h2]; exact cmp_Compare_int_r5 n1 n2 h1 h2
/-! ### Same limbs -/
/-- Noughts from a place on. -/
def tailZ (l : List Int) (i : Nat) : Prop := ∀ j x, i ≤ j → l[j]? = some x → x = 0
theorem trim_limbs {l : List Int} (hf : wide l) (hl : limbs l) (t : Bool) : ∃ q : SL Int, nat_trim ⟨1, l, t⟩ q ∧ isNum q.xs ∧ val q.xs = val l ∧ q.xs.length ≤ l.length := by
  refine ⟨_, trim_run (a := ⟨1, l, t⟩) hf, isNum_trim hl, val_trim l, ?_⟩
  show (trimL l).length ≤ l.length
  obtain ⟨m, _, h2, h3⟩ := trim_loop (a := ⟨1, l, t⟩) hf l.length (Nat.le_refl _) (fun i x hi hx => by
    have : l[i]? = some x := hx
    rw [List.getElem?_eq_none hi] at this; cases this)
  have h3' : l.take m = trimL l := h3
  rw [← h3', List.length_take]
  omega
end
section
open Go
set_option linter.unusedVariables false
set_option linter.unnecessarySimpa false
set_option linter.unusedSimpArgs false
set_option linter.unusedSectionVars false
/-! ### Products -/
/-! ### Divided by one limb -/
def headZ (l : List Int) (n : Nat) : Prop := ∀ j x, j < n → l[j]? = some x → x = 0
theorem val_one (z : Int) : val [z] = z := by simp [val]
/-! ### Times one limb -/
end
section
open Go
set_option linter.unusedVariables false
set_option linter.unnecessarySimpa false
set_option linter.unusedSimpArgs false
set_option linter.unusedSectionVars false
/-! ### A window of limbs -/
/-! ### A limb guessed -/
end
section
open Go
set_option linter.unusedVariables false
set_option linter.unnecessarySimpa false
set_option linter.unusedSimpArgs false
set_option linter.unusedSectionVars false
/-! ### NatRests -/
end
section
open Go
set_option linter.unusedVariables false
set_option linter.unnecessarySimpa false
set_option linter.unusedSimpArgs false
set_option linter.unusedSectionVars false
end
end Go.Proofs.YtkkekfehjbbhoaaGreatDoor.V

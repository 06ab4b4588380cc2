/- Numbers: limbs, what is reckoned, texts (several texts together). -/
import Derived.Test.YtkkekfehjbbhoaaGreatDoorV30
import Derived.Test.YtkkekfehjbbhoaaGreatDoorVP
namespace Go.Proofs.YtkkekfehjbbhoaaGreatDoor.V
section
open Go
set_option linter.unusedVariables false
set_option linter.unnecessarySimpa false
set_option linter.unusedSimpArgs false
set_option linter.unusedSectionVars false
def val : List Int → Int
  | [] => 0
  | x :: r => x + (1000000000 : Int) * val r
def limbs (l : List Int) : Prop := ∀ x ∈ l, 0 ≤ x ∧ x < (1000000000 : Int)
def isNum (l : List Int) : Prop := limbs l ∧ l.getLast? ≠ some 0
def trimL : List Int → List Int
  | [] => []
  | x :: r => match trimL r with
    | [] => if x = 0 then [] else [x]
    | y :: q => x :: y :: q
theorem powB_pos (n : Nat) : 0 < (1000000000 : Int) ^ n := Int.pow_pos (by decide)
theorem powB_succ (n : Nat) : (1000000000 : Int) ^ (n + 1) = (1000000000 : Int) ^ n * (1000000000 : Int) := Int.pow_succ _ _
theorem powB_add (n m : Nat) : (1000000000 : Int) ^ (n + m) = (1000000000 : Int) ^ n * (1000000000 : Int) ^ m := Int.pow_add _ _ _
theorem powB_le {n m : Nat} (h : n ≤ m) : (1000000000 : Int) ^ n ≤ (1000000000 : Int) ^ m := by
  obtain ⟨k, rfl⟩ := Nat.exists_eq_add_of_le h
  rw [powB_add]
  have h1 := powB_pos n
  have h2 := powB_pos k
  have := Int.mul_le_mul_of_nonneg_left (show 1 ≤ (1000000000 : Int) ^ k by omega) (show 0 ≤ (1000000000 : Int) ^ n by omega)
  omega
theorem limbs_cons {x : Int} {r : List Int} : limbs (x :: r) ↔ (0 ≤ x ∧ x < (1000000000 : Int)) ∧ limbs r := by
  unfold limbs; simp
theorem limbs_nil : limbs [] := by intro x h; cases h
theorem limbs_append {a b : List Int} : limbs (a ++ b) ↔ limbs a ∧ limbs b := by
  unfold limbs
  constructor
  · intro h; exact ⟨fun x hx => h x (List.mem_append_left _ hx), fun x hx => h x (List.mem_append_right _ hx)⟩
  · rintro ⟨h1, h2⟩ x hx
    rcases List.mem_append.1 hx with h | h
    · exact h1 x h
    · exact h2 x h
theorem limbs_set {l : List Int} {i : Nat} {x : Int} (h : limbs l) (h0 : 0 ≤ x) (h1 : x < (1000000000 : Int)) : limbs (l.set i x) := by
  intro y hy
  rcases List.mem_or_eq_of_mem_set hy with h' | h'
  · exact h y h'
  · subst h'; exact ⟨h0, h1⟩
theorem limbs_take {l : List Int} (h : limbs l) (i : Nat) : limbs (l.take i) := fun x hx => h x (List.mem_of_mem_take hx)
theorem limbs_drop {l : List Int} (h : limbs l) (i : Nat) : limbs (l.drop i) := fun x hx => h x (List.mem_of_mem_drop hx)
theorem limbs_get {l : List Int} (h : limbs l) {i : Nat} {x : Int} (hx : l[i]? = some x) : 0 ≤ x ∧ x < (1000000000 : Int) := h x (List.mem_of_getElem? hx)
theorem limbs_zeros (n : Nat) : limbs (List.replicate n 0) := by
  intro x hx
  have := List.eq_of_mem_replicate hx
  subst this; exact ⟨by decide, by decide⟩
theorem val_nonneg : ∀ {l : List Int}, limbs l → 0 ≤ val l
  | [], _ => by simp [val]
  | x :: r, h => by
    have h1 := limbs_cons.1 h
    have h2 := val_nonneg h1.2
    simp only [val]; omega
theorem val_lt : ∀ {l : List Int}, limbs l → val l < (1000000000 : Int) ^ l.length
  | [], _ => by simp [val]
  | x :: r, h => by
    have h1 := limbs_cons.1 h
    have h2 := val_lt h1.2
    simp only [val, List.length_cons, powB_succ]; omega
theorem val_append : ∀ (a b : List Int), val (a ++ b) = val a + (1000000000 : Int) ^ a.length * val b
  | [], b => by simp [val]
  | x :: r, b => by
    have := val_append r b
    simp only [List.cons_append, val, List.length_cons, powB_succ, this]
    grind
theorem val_zeros : ∀ n, val (List.replicate n 0) = 0
  | 0 => rfl
  | n + 1 => by rw [List.replicate_succ, val, val_zeros n]; rfl
theorem val_take_drop (l : List Int) (i : Nat) (h : i ≤ l.length) : val l = val (l.take i) + (1000000000 : Int) ^ i * val (l.drop i) := by
  have := val_append (l.take i) (l.drop i)
  rw [List.take_append_drop] at this
  rw [this, List.length_take, Nat.min_eq_left h]
theorem val_drop_get {l : List Int} {i : Nat} {x : Int} (h : l[i]? = some x) : val (l.drop i) = x + (1000000000 : Int) * val (l.drop (i + 1)) := by
  obtain ⟨hi, hx⟩ := List.getElem?_eq_some_iff.1 h
  rw [List.drop_eq_getElem_cons hi, val, hx]
theorem val_take_get {l : List Int} {i : Nat} {x : Int} (h : l[i]? = some x) : val (l.take (i + 1)) = val (l.take i) + (1000000000 : Int) ^ i * x := by
  obtain ⟨hi, hx⟩ := List.getElem?_eq_some_iff.1 h
  rw [List.take_add_one, h, Option.toList_some, val_append, List.length_take, Nat.min_eq_left (by omega)]
  simp [val]
theorem val_set : ∀ {l : List Int} {i : Nat} {o : Int} (x : Int), l[i]? = some o → val (l.set i x) = val l + (1000000000 : Int) ^ i * (x - o)
  | [], i, o, x, h => by simp at h
  | y :: r, 0, o, x, h => by
    simp at h; subst h
    simp only [List.set_cons_zero, val, Int.pow_zero]; omega
  | y :: r, i + 1, o, x, h => by
    have := val_set (l := r) (i := i) x (by simpa using h)
    simp only [List.set_cons_succ, val, powB_succ, this]
    grind
theorem val_trim : ∀ l, val (trimL l) = val l
  | [] => rfl
  | x :: r => by
    have ih := val_trim r
    simp only [trimL]
    split
    · rename_i e
      rw [e] at ih
      by_cases c : x = 0
      · rw [if_pos c]; simp only [val] at *; omega
      · rw [if_neg c]; simp only [val] at *; omega
    · rename_i y q e
      rw [e] at ih
      simp only [val] at *; omega
theorem limbs_trim : ∀ {l}, limbs l → limbs (trimL l)
  | [], h => h
  | x :: r, h => by
    have h1 := limbs_cons.1 h
    have ih := limbs_trim h1.2
    simp only [trimL]
    split
    · split
      · exact limbs_nil
      · exact limbs_cons.2 ⟨h1.1, limbs_nil⟩
    · rename_i y q e
      rw [e] at ih
      exact limbs_cons.2 ⟨h1.1, ih⟩
theorem last_trim : ∀ l, (trimL l).getLast? ≠ some 0
  | [] => by simp [trimL]
  | x :: r => by
    have ih := last_trim r
    simp only [trimL]
    split
    · split
      · simp
      · rename_i c; simp; exact c
    · rename_i y q e
      rw [e] at ih
      rw [List.getLast?_cons_cons]; exact ih
theorem isNum_trim {l : List Int} (h : limbs l) : isNum (trimL l) := ⟨limbs_trim h, last_trim l⟩
theorem isNum_tail {x : Int} {r : List Int} (h : isNum (x :: r)) : isNum r := by
  refine ⟨(limbs_cons.1 h.1).2, ?_⟩
  cases r with
  | nil => simp
  | cons y q => have := h.2; rwa [List.getLast?_cons_cons] at this
theorem val_pos : ∀ {l : List Int}, isNum l → l ≠ [] → 0 < val l
  | [], _, h => absurd rfl h
  | [x], h, _ => by
    have h1 := limbs_cons.1 h.1
    have h2 := h.2
    simp at h2
    simp only [val]; omega
  | x :: y :: r, h, _ => by
    have h1 := limbs_cons.1 h.1
    have := val_pos (isNum_tail h) (by simp)
    simp only [val] at *; omega
theorem isNum_nil : isNum [] := ⟨limbs_nil, by simp⟩
theorem val_inj : ∀ {a b : List Int}, isNum a → isNum b → val a = val b → a = b
  | [], [], _, _, _ => rfl
  | [], y :: r, _, hb, h => by have := val_pos hb (by simp); rw [← h] at this; simp [val] at this
  | x :: r, [], ha, _, h => by have := val_pos ha (by simp); rw [h] at this; simp [val] at this
  | x :: r, y :: q, ha, hb, h => by
    have h1 := (limbs_cons.1 ha.1).1
    have h2 := (limbs_cons.1 hb.1).1
    simp only [val] at h
    have e1 : x = y := by omega
    have e2 : val r = val q := by omega
    rw [e1, val_inj (isNum_tail ha) (isNum_tail hb) e2]
theorem trim_self {l : List Int} (h : isNum l) : trimL l = l := val_inj (isNum_trim h.1) h (val_trim l)
theorem val_ge {l : List Int} (h : isNum l) (hne : l ≠ []) : (1000000000 : Int) ^ (l.length - 1) ≤ val l := by
  have hlen : 0 < l.length := List.length_pos_iff.2 hne
  have hd := val_take_drop l (l.length - 1) (by omega)
  have hl : l[l.length - 1]? = some (l[l.length - 1]'(by omega)) := List.getElem?_eq_getElem _
  have hv := val_drop_get hl
  have h0 := limbs_get h.1 hl
  have hnz : l[l.length - 1]'(by omega) ≠ 0 := by
    intro e
    apply h.2
    rw [List.getLast?_eq_getElem?, hl, e]
  rw [show l.length - 1 + 1 = l.length by omega, List.drop_length] at hv
  have h1 := val_nonneg (limbs_take h.1 (l.length - 1))
  rw [hv] at hd
  simp only [val] at hd
  have := Int.mul_le_mul_of_nonneg_left (show 1 ≤ l[l.length - 1]'(by omega) by omega) (show 0 ≤ (1000000000 : Int) ^ (l.length - 1) by have := powB_pos (l.length - 1); omega)
  rw [Int.mul_zero, Int.add_zero] at hd
  omega
theorem val_len_lt {a b : List Int} (ha : isNum a) (hb : isNum b) (h : a.length < b.length) : val a < val b := by
  have h1 := val_lt ha.1
  have h2 := val_ge hb (by intro e; rw [e] at h; simp at h)
  have h3 := powB_le (show a.length ≤ b.length - 1 by omega)
  omega
theorem val_top {a b : List Int} (ha : limbs a) (hb : limbs b) (hl : a.length = b.length) {i : Nat} {x y : Int} (hx : a[i]? = some x) (hy : b[i]? = some y) (hd : a.drop (i + 1) = b.drop (i + 1)) (h : x < y) : val a < val b := by
  have hi := (List.getElem?_eq_some_iff.1 hx).1
  have e1 := val_take_drop a i (by omega)
  have e2 := val_take_drop b i (by omega)
  rw [val_drop_get hx] at e1
  rw [val_drop_get hy, ← hd] at e2
  have h1 := val_lt (limbs_take ha i)
  have h2 := val_nonneg (limbs_take hb i)
  rw [List.length_take, Nat.min_eq_left (by omega)] at h1
  have h3 := Int.mul_le_mul_of_nonneg_left (show x + 1 ≤ y by omega) (show 0 ≤ (1000000000 : Int) ^ i by have := powB_pos i; omega)
  have e3 : (1000000000 : Int) ^ i * (x + (1000000000 : Int) * val (a.drop (i + 1))) = (1000000000 : Int) ^ i * x + (1000000000 : Int) ^ i * ((1000000000 : Int) * val (a.drop (i + 1))) := Int.mul_add ..
  have e4 : (1000000000 : Int) ^ i * (y + (1000000000 : Int) * val (a.drop (i + 1))) = (1000000000 : Int) ^ i * y + (1000000000 : Int) ^ i * ((1000000000 : Int) * val (a.drop (i + 1))) := Int.mul_add ..
  have e5 : (1000000000 : Int) ^ i * (x + 1) = (1000000000 : Int) ^ i * x + (1000000000 : Int) ^ i := by rw [Int.mul_add, Int.mul_one]
  omega
/-- What is left when noughts behind a place are gone. -/
theorem take_trim : ∀ {l : List Int} {n : Nat}, n ≤ l.length → (∀ i x, n ≤ i → l[i]? = some x → x = 0) → (n = 0 ∨ ∃ y, y ≠ 0 ∧ l[n - 1]? = some y) → l.take n = trimL l
  | [], n, hn, _, _ => by simp [trimL]
  | x :: r, 0, hn, hz, _ => by
    have ih := take_trim (l := r) (n := 0) (by omega) (fun i y _ h => hz (i + 1) y (by omega) (by simpa using h)) (.inl rfl)
    have h0 := hz 0 x (by omega) rfl
    rw [List.take_zero] at ih
    simp only [trimL, ← ih, List.take_zero]
    rw [if_pos h0]
  | x :: r, n + 1, hn, hz, hy => by
    simp only [List.length_cons] at hn
    simp only [Nat.add_sub_cancel, Nat.succ_ne_zero, false_or] at hy
    obtain ⟨y, hy0, hy1⟩ := hy
    have ih := take_trim (l := r) (n := n) (by omega) (fun i z hi h => hz (i + 1) z (by omega) (by simpa using h)) (by
      rcases Nat.eq_zero_or_pos n with h | h
      · exact .inl h
      · refine .inr ⟨y, hy0, ?_⟩
        obtain ⟨m, rfl⟩ : ∃ m, n = m + 1 := ⟨n - 1, by omega⟩
        simpa using hy1)
    rw [List.take_succ_cons, ih]
    simp only [trimL]
    split
    · rename_i e
      rw [e] at ih
      have : n = 0 := by
        rcases Nat.eq_zero_or_pos n with h | h
        · exact h
        · exfalso
          have hl : (r.take n).length = 0 := by rw [ih]; rfl
          rw [List.length_take] at hl
          omega
      subst this
      simp at hy1; subst hy1
      rw [if_neg hy0, e]
    · rename_i y' q e
      rw [e]
/-! ### Limbs behind the last one are nought -/
def limb (l : List Int) (i : Nat) : Int := l[i]?.getD 0
theorem limb_some {l : List Int} {i : Nat} {x : Int} (h : l[i]? = some x) : limb l i = x := by simp [limb, h]
theorem limb_none {l : List Int} {i : Nat} (h : l.length ≤ i) : limb l i = 0 := by simp [limb, List.getElem?_eq_none h]
theorem limb_bound {l : List Int} (h : limbs l) (i : Nat) : 0 ≤ limb l i ∧ limb l i < (1000000000 : Int) := by
  unfold limb
  cases e : l[i]? with
  | none => exact ⟨by decide, by decide⟩
  | some x => exact limbs_get h e
theorem take_lim (l : List Int) (i : Nat) : val (l.take (i + 1)) = val (l.take i) + (1000000000 : Int) ^ i * limb l i := by
  cases e : l[i]? with
  | some x => rw [val_take_get e, limb_some e]
  | none =>
    have := List.getElem?_eq_none_iff.1 e
    rw [List.take_of_length_le (by omega), List.take_of_length_le (by omega), limb_none this]; omega
end
section
open Go
set_option linter.unusedVariables false
set_option linter.unnecessarySimpa false
set_option linter.unusedSimpArgs false
set_option linter.unusedSectionVars false
theorem at_drop {α : Type} {l : List α} {k : Nat} {y : α} {r : List α} (h : l.drop k = y :: r) : l[(k : Int).toNat]? = some y ∧ l.drop (k + 1) = r ∧ k < l.length := by
  have h1 : l[k]? = some y := by
    have := congrArg List.head? h
    rwa [List.head?_drop] at this
  refine ⟨by simpa using h1, ?_, (List.getElem?_eq_some_iff.1 h1).1⟩
  have := congrArg List.tail h
  simpa using this
theorem drop_nil_le {α : Type} {l : List α} {k : Nat} (h : l.drop k = []) : l.length ≤ k := by simpa using h
theorem w64k {k : Nat} (h : k < 9223372036854775807) : w64 ((k : Int) + 1) := in64 (by omega) (by omega)
theorem b_em (b : Bool) : b = true ∨ b = false := by cases b <;> simp
/-- Limbs as they come: whole numbers of 32 bits; a slice of at most so many. -/
def u32s (l : List Int) : Prop := ∀ x ∈ l, 0 ≤ x ∧ x < 4294967296
def few (l : List Int) : Prop := l.length < 1000000000000
def huge (l : List Int) : Prop := l.length < 100000000000000
def wide (l : List Int) : Prop := l.length < 8000000000000
theorem limbs_u32 {l : List Int} (h : limbs l) : u32s l := fun x hx => by have := h x hx; omega
theorem heads_ok : law_heads true := R_heads
/-! ### The greatest limb -/
theorem foldl_max_lt : ∀ (l : List Int) (m : Int), l.foldl max m < 1000000000 ↔ m < 1000000000 ∧ ∀ y ∈ l, y < 1000000000
  | [], m => by simp
  | x :: r, m => by
    rw [List.foldl_cons, foldl_max_lt r]
    simp only [List.mem_cons, forall_eq_or_imp]
    constructor
    · rintro ⟨h1, h2⟩; exact ⟨by omega, by omega, h2⟩
    · rintro ⟨h1, h2, h3⟩; exact ⟨by omega, h3⟩
theorem max_loop {x : SL Int} (hf : huge x.xs) : ∀ (rest : List Int) (k : Nat) (m : Int), x.xs.drop k = rest → ∃ z, sl_Max_uint32_uint32_l0 x m k (sl_Max_uint32_uint32_l0_x0 x (rest.foldl max m) z)
  | [], k, m, hd => ⟨k, sl_Max_uint32_uint32_l0_e1 (by have := drop_nil_le hd; omega)⟩
  | y :: rest, k, m, hd => by
    obtain ⟨h1, h2, h3⟩ := at_drop hd
    unfold huge at hf
    obtain ⟨z, h⟩ := max_loop hf rest (k + 1) (max m y) h2
    exact ⟨z, sl_Max_uint32_uint32_l0_s0 (by omega) (by omega) h1 (w64k (by omega)) h⟩
theorem fits_run {a : SL Int} (hf : huge a.xs) (hu : u32s a.xs) : (isNum a.xs ∧ nat_fits a true) ∨ (¬ isNum a.xs ∧ nat_fits a false) := by
  have hf' := hf
  unfold huge at hf'
  cases hx : a.xs with
  | nil => exact .inl ⟨isNum_nil, nat_fits_r0 (by rw [hx]; rfl)⟩
  | cons x r =>
    rw [← hx]
    have hlen : 0 < a.xs.length := by rw [hx]; simp
    have hl : a.xs[((a.xs.length : Int) - 1).toNat]? = some (a.xs[a.xs.length - 1]'(by omega)) := by
      rw [show ((a.xs.length : Int) - 1).toNat = a.xs.length - 1 by omega]
      exact List.getElem?_eq_getElem _
    have hlast : a.xs.getLast? = some (a.xs[a.xs.length - 1]'(by omega)) := by rw [List.getLast?_eq_getElem?, List.getElem?_eq_getElem]
    have w1 : w64 ((a.xs.length : Int) - 1) := in64 (by omega) (by omega)
    have h0 : ¬ (a.xs.length : Int) = 0 := by omega
    by_cases c : a.xs[a.xs.length - 1]'(by omega) = 0
    · exact .inr ⟨fun h => h.2 (by rw [hlast, c]), nat_fits_r3 h0 w1 (by omega) hl c⟩
    · obtain ⟨z, hm⟩ := max_loop hf (a.xs.drop 1) 1 x rfl
      have h1 : ¬ (a.xs.length : Int) < 1 := by omega
      have hmx := sl_Max_uint32_uint32_r1 h1 (by rw [hx]; rfl) hm
      have hiff : (a.xs.drop 1).foldl max x < 1000000000 ↔ ∀ y ∈ a.xs, y < 1000000000 := by
        rw [foldl_max_lt, hx]; simp
      by_cases c2 : (a.xs.drop 1).foldl max x < 1000000000
      · refine .inl ⟨⟨fun y hy => ⟨(hu y hy).1, hiff.1 c2 y hy⟩, ?_⟩, nat_fits_r1 h0 w1 (by omega) hl c hmx c2⟩
        rw [hlast]
        intro e; exact c (Option.some.inj e)
      · exact .inr ⟨fun h => c2 (hiff.2 fun y hy => (h.1 y hy).2), nat_fits_r2 h0 w1 (by omega) hl c hmx c2⟩
theorem fits_true {a : SL Int} (hf : few a.xs) (h : isNum a.xs) : nat_fits a true := by
  rcases fits_run (show huge a.xs by unfold few at hf; unfold huge; omega) (limbs_u32 h.1) with ⟨_, h1⟩ | ⟨h1, _⟩
  · exact h1
  · exact absurd h h1
theorem both_true {a b : SL Int} (hfa : few a.xs) (ha : isNum a.xs) (hfb : few b.xs) (hb : isNum b.xs) : nat_both a b 0 := nat_both_r0 (fits_true hfa ha) (fits_true hfb hb)
/-! ### Noughts cut off -/
theorem trim_loop {a : SL Int} (hf : wide a.xs) : ∀ n : Nat, n ≤ a.xs.length → (∀ i x, n ≤ i → a.xs[i]? = some x → x = 0) → ∃ m : Nat, nat_trim_l0 a n (nat_trim_l0_x0 a m) ∧ m ≤ a.xs.length ∧ a.xs.take m = trimL a.xs
  | 0, hn, hz => ⟨0, nat_trim_l0_e2 (by omega), by omega, take_trim (by omega) hz (.inl rfl)⟩
  | n + 1, hn, hz => by
    unfold wide at hf
    have e : (((n + 1 : Nat) : Int) - 1) = n := by omega
    have hg : a.xs[(((n + 1 : Nat) : Int) - 1).toNat]? = some (a.xs[n]'(by omega)) := by rw [e]; simp
    have hg' : a.xs[n]? = some (a.xs[n]'(by omega)) := List.getElem?_eq_getElem _
    have w1 : w64 (((n + 1 : Nat) : Int) - 1) := in64 (by omega) (by omega)
    by_cases c : a.xs[n]'(by omega) = 0
    · obtain ⟨m, h, h2, h3⟩ := trim_loop (a := a) (by unfold wide; exact hf) n (by omega) (fun i x hi hx => by
        rcases Nat.eq_or_lt_of_le hi with h | h
        · subst h; rw [hg'] at hx; cases hx; exact c
        · exact hz i x h hx)
      refine ⟨m, nat_trim_l0_s0 (by omega) w1 (by omega) hg c ?_, h2, h3⟩
      rw [e]; exact h
    · exact ⟨n + 1, nat_trim_l0_e1 (by omega) w1 (by omega) hg c, hn, take_trim hn hz (.inr ⟨_, c, by rw [Nat.add_sub_cancel]; exact hg'⟩)⟩
theorem trim_run {a : SL Int} (hf : wide a.xs) : nat_trim a ⟨1, trimL a.xs, true⟩ := by
  obtain ⟨m, h, h2, h3⟩ := trim_loop hf a.xs.length (Nat.le_refl _) (fun i x hi hx => by rw [List.getElem?_eq_none hi] at hx; cases hx)
  have := nat_trim_r0 h (by omega) (by simpa using h2)
  rwa [show ((m : Int)).toNat = m by omega, h3] at this
/-! ### Compared -/
def cmpI (a b : Int) : Int := if a < b then -1 else if a > b then 1 else 0
theorem cmp_int (a b : Int) : cmp_Compare_int a b (cmpI a b) := by
  have n1 := cmp_isNaN_int_r1 (x := a) rfl
  have n2 := cmp_isNaN_int_r1 (x := b) rfl
  unfold cmpI
  by_cases h1 : a < b
  · rw [if_pos h1]; exact cmp_Compare_int_r3 n1 n2 h1
  · rw [if_neg h1]
    by_cases h2 : a > b
    · rw [if_pos h2]; exact cmp_Compare_int_r4 n1 n2 h1 h2
    · rw [if_neg h2]; exact cmp_Compare_int_r5 n1 n2 h1 h2
theorem cmp_u32 (a b : Int) : cmp_Compare_uint32 a b (cmpI a b) := by
  have n1 := cmp_isNaN_uint32_r1 (x := a) rfl
  have n2 := cmp_isNaN_uint32_r1 (x := b) rfl
  unfold cmpI
  by_cases h1 : a < b
  · rw [if_pos h1]; exact cmp_Compare_uint32_r3 n1 n2 h1
  · rw [if_neg h1]
    by_cases h2 : a > b
    · rw [if_pos h2]; exact cmp_Compare_uint32_r4 n1 n2 h1 h2
    · rw [if_neg h2]; exact cmp_Compare_uint32_r5 n1 n2 h1 h2
theorem cmpI_lt {a b : Int} : cmpI a b < 0 ↔ a < b := by
  unfold cmpI
  split
  · omega
  · split <;> omega
theorem cmpI_eq {a b : Int} : cmpI a b = 0 ↔ a = b := by
  unfold cmpI
  split
  · omega
  · split <;> omega
theorem compare_loop {a b : SL Int} (hf : few a.xs) (ha : limbs a.xs) (hb : limbs b.xs) (hl : a.xs.length = b.xs.length) : ∀ n : Nat, n ≤ a.xs.length → a.xs.drop n = b.xs.drop n →
    (a.xs = b.xs ∧ ∃ z, nat_compare_l0 a b ((n : Int) - 1) (nat_compare_l0_x1 a b z)) ∨ (val a.xs < val b.xs ∧ nat_compare_l0 a b ((n : Int) - 1) (nat_compare_l0_x0 (-1))) ∨ (val b.xs < val a.xs ∧ nat_compare_l0 a b ((n : Int) - 1) (nat_compare_l0_x0 1))
  | 0, hn, hd => .inl ⟨by simpa using hd, _, nat_compare_l0_e2 (by omega)⟩
  | n + 1, hn, hd => by
    have hf' := hf
    unfold few at hf'
    have e : (((n + 1 : Nat) : Int) - 1) = n := by omega
    have ga : a.xs[n]? = some (a.xs[n]'(by omega)) := List.getElem?_eq_getElem _
    have gb : b.xs[n]? = some (b.xs[n]'(by omega)) := List.getElem?_eq_getElem _
    have ga' : a.xs[((n : Int)).toNat]? = some (a.xs[n]'(by omega)) := by simpa using ga
    have gb' : b.xs[((n : Int)).toNat]? = some (b.xs[n]'(by omega)) := by simpa using gb
    rw [e]
    have hc := cmp_u32 (a.xs[n]'(by omega)) (b.xs[n]'(by omega))
    rcases Int.lt_trichotomy (a.xs[n]'(by omega)) (b.xs[n]'(by omega)) with h | h | h
    · have hv := val_top ha hb hl ga gb hd h
      have : cmpI (a.xs[n]'(by omega)) (b.xs[n]'(by omega)) = -1 := by unfold cmpI; rw [if_pos h]
      rw [this] at hc
      exact .inr (.inl ⟨hv, nat_compare_l0_e0 (by omega) (by omega) ga' gb' hc (by decide)⟩)
    · have : cmpI (a.xs[n]'(by omega)) (b.xs[n]'(by omega)) = 0 := cmpI_eq.2 h
      rw [this] at hc
      have hd' : a.xs.drop n = b.xs.drop n := by
        rw [List.drop_eq_getElem_cons (l := a.xs) (i := n) (by omega), List.drop_eq_getElem_cons (l := b.xs) (i := n) (by omega), hd, h]
      have st := fun {r_} (k : nat_compare_l0 a b ((n : Int) - 1) r_) => nat_compare_l0_s1 (i := (n : Int)) (by omega) (by omega) ga' gb' hc rfl (in64 (by omega) (by omega)) k
      rcases compare_loop hf ha hb hl n (by omega) hd' with ⟨h1, z, h2⟩ | ⟨h1, h2⟩ | ⟨h1, h2⟩
      · exact .inl ⟨h1, z, st h2⟩
      · exact .inr (.inl ⟨h1, st h2⟩)
      · exact .inr (.inr ⟨h1, st h2⟩)
    · have hv := val_top hb ha hl.symm gb ga hd.symm h
      have : cmpI (a.xs[n]'(by omega)) (b.xs[n]'(by omega)) = 1 := by unfold cmpI; rw [if_neg (by omega), if_pos h]
      rw [this] at hc
      exact .inr (.inr ⟨hv, nat_compare_l0_e0 (by omega) (by omega) ga' gb' hc (by decide)⟩)
theorem compare_run {a b : SL Int} (hfa : few a.xs) (hfb : few b.xs) (ha : isNum a.xs) (hb : isNum b.xs) : nat_compare a b (cmpI (val a.xs) (val b.xs)) := by
  have hfa' := hfa
  have hfb' := hfb
  unfold few at hfa' hfb'
  have hc := cmp_int (a.xs.length : Int) (b.xs.length : Int)
  rcases Nat.lt_trichotomy a.xs.length b.xs.length with h | h | h
  · have hv := val_len_lt ha hb h
    have e1 : cmpI (a.xs.length : Int) (b.xs.length : Int) = -1 := by unfold cmpI; rw [if_pos (by omega)]
    have e2 : cmpI (val a.xs) (val b.xs) = -1 := by unfold cmpI; rw [if_pos hv]
    rw [e1] at hc
    rw [e2]
    exact nat_compare_r0 hc (by decide)
  · have e1 : cmpI (a.xs.length : Int) (b.xs.length : Int) = 0 := cmpI_eq.2 (by omega)
    rw [e1] at hc
    have w1 : w64 ((a.xs.length : Int) - 1) := in64 (by omega) (by omega)
    rcases compare_loop hfa ha.1 hb.1 h a.xs.length (Nat.le_refl _) (by rw [List.drop_length, h, List.drop_length]) with ⟨h1, z, h2⟩ | ⟨h1, h2⟩ | ⟨h1, h2⟩
    · have e2 : cmpI (val a.xs) (val b.xs) = 0 := cmpI_eq.2 (by rw [h1])
      rw [e2]
      exact nat_compare_r2 hc rfl w1 h2
    · have e2 : cmpI (val a.xs) (val b.xs) = -1 := by unfold cmpI; rw [if_pos h1]
      rw [e2]
      exact nat_compare_r1 hc rfl w1 h2
    · have e2 : cmpI (val a.xs) (val b.xs) = 1 := by unfold cmpI; rw [if_neg (by omega), if_pos h1]
      rw [e2]
      exact nat_compare_r1 hc rfl w1 h2
  · have hv := val_len_lt hb ha h
    have e1 : cmpI (a.xs.length : Int) (b.xs.length : Int) = 1 := by unfold cmpI; rw [if_neg (by omega), if_pos (by omega)]
    have e2 : cmpI (val a.xs) (val b.xs) = 1 := by unfold cmpI; rw [if_neg (by omega), if_pos hv]
    rw [e1] at hc
    rw [e2]
    exact nat_compare_r0 hc (by decide)
/-! ### Same limbs -/
/-- Noughts from a place on. -/
def tailZ (l : List Int) (i : Nat) : Prop := ∀ j x, i ≤ j → l[j]? = some x → x = 0
theorem tailZ_zeros (n i : Nat) : tailZ (List.replicate n 0) i := fun j x _ h => by
  have := List.mem_of_getElem? h
  exact List.eq_of_mem_replicate this
theorem tailZ_set {l : List Int} {i j : Nat} {v : Int} (h : tailZ l i) (hj : j < i) : tailZ (l.set j v) i := fun k x hk hx => by
  rw [List.getElem?_set_ne (by omega)] at hx
  exact h k x hk hx
theorem tailZ_mono {l : List Int} {i j : Nat} (h : tailZ l i) (hij : i ≤ j) : tailZ l j := fun k x hk hx => h k x (by omega) hx
theorem trim_limbs {l : List Int} (hf : wide l) (hl : limbs l) (t : Bool) : ∃ q : SL Int, nat_trim ⟨1, l, t⟩ q ∧ isNum q.xs ∧ val q.xs = val l ∧ q.xs.length ≤ l.length := by
  refine ⟨_, trim_run (a := ⟨1, l, t⟩) hf, isNum_trim hl, val_trim l, ?_⟩
  show (trimL l).length ≤ l.length
  obtain ⟨m, _, h2, h3⟩ := trim_loop (a := ⟨1, l, t⟩) hf l.length (Nat.le_refl _) (fun i x hi hx => by
    have : l[i]? = some x := hx
    rw [List.getElem?_eq_none hi] at this; cases this)
  have h3' : l.take m = trimL l := h3
  rw [← h3', List.length_take]
  omega
theorem few_u32 {z : Int} (h0 : 0 ≤ z) (h1 : z < 4294967296) : wk .u32 z := inU32 h0 h1
theorem few_max {a b : SL Int} (hfa : few a.xs) (hfb : few b.xs) : max (a.xs.length : Int) (b.xs.length : Int) + 1 = ((max a.xs.length b.xs.length + 1 : Nat) : Int) := by omega
end
section
open Go
set_option linter.unusedVariables false
set_option linter.unnecessarySimpa false
set_option linter.unusedSimpArgs false
set_option linter.unusedSectionVars false
theorem mul_lt_sq {x y : Int} (hx : 0 ≤ x ∧ x < 1000000000) (hy : 0 ≤ y ∧ y < 1000000000) : 0 ≤ x * y ∧ x * y ≤ 999999998000000001 := by
  have h1 := Int.mul_nonneg hx.1 hy.1
  have h2 := Int.mul_le_mul (show x ≤ 999999999 by omega) (show y ≤ 999999999 by omega) hy.1 (by decide)
  omega
/-! ### Products -/
theorem times_in {b : SL Int} {N i : Nat} {x : Int} {t18 : SL Int} {t19 t20 : Int} (hN : N < 4000000000000) (hb : limbs b.xs) (hi : i + b.xs.length ≤ N) (hx : 0 ≤ x ∧ x < 1000000000) (V0 : Int) : ∀ (m k : Nat) (out : List Int) (c : Int), b.xs.length - k = m → k ≤ b.xs.length → out.length = N → limbs out → tailZ out (i + b.xs.length) → (0 ≤ c ∧ c < 1000000000) → val out + 1000000000 ^ (i + k) * c = V0 + 1000000000 ^ i * (x * val (b.xs.take k)) →
    ∃ out' c' z, nat_times_l0 out b true N i x c t18 t19 t20 b (b.xs.length : Int) k (nat_times_l0_x0 out' b true N i x c' t18 t19 t20 b (b.xs.length : Int) z) ∧ out'.length = N ∧ limbs out' ∧ tailZ out' (i + b.xs.length) ∧ (0 ≤ c' ∧ c' < 1000000000) ∧ val out' + 1000000000 ^ (i + b.xs.length) * c' = V0 + 1000000000 ^ i * (x * val b.xs)
  | 0, k, out, c, hm, hk, hl, ho, ht, hc, hv => by
    have : k = b.xs.length := by omega
    subst this
    rw [List.take_length] at hv
    exact ⟨out, c, _, nat_times_l0_e1 (by omega), hl, ho, ht, hc, hv⟩
  | m + 1, k, out, c, hm, hk, hl, ho, ht, hc, hv => by
    have hlt : k < b.xs.length := by omega
    have gb : b.xs[k]? = some (b.xs[k]'hlt) := List.getElem?_eq_getElem _
    have go : out[i + k]? = some (out[i + k]'(by omega)) := List.getElem?_eq_getElem _
    have bb := limbs_get hb gb
    have bo := limbs_get ho go
    generalize b.xs[k]'hlt = y at gb bb
    generalize out[i + k]'(by omega) = o at go bo
    have hm2 := mul_lt_sq hx bb
    have e1 : ((k : Int)).toNat = k := by omega
    have e2 : ((i : Int) + (k : Int)).toNat = i + k := by omega
    have hq : 0 ≤ (x * y + o + c) / 1000000000 ∧ (x * y + o + c) / 1000000000 < 1000000000 := by omega
    have hr : 0 ≤ (x * y + o + c) % 1000000000 ∧ (x * y + o + c) % 1000000000 < 1000000000 := by omega
    have hs : (x * y + o + c) % 1000000000 + 1000000000 * ((x * y + o + c) / 1000000000) = x * y + o + c := Int.emod_add_mul_ediv _ _
    obtain ⟨out', c', z, g1, g2, g3, g4, g5, g6⟩ := times_in (t18 := t18) (t19 := t19) (t20 := t20) hN hb hi hx V0 m (k + 1) (out.set (i + k) ((x * y + o + c) % 1000000000)) ((x * y + o + c) / 1000000000) (by omega) (by omega) (by simpa using hl) (limbs_set ho hr.1 hr.2) (tailZ_set ht (by omega)) hq (by
      rw [val_set _ go, val_take_get gb, ← Nat.add_assoc, powB_succ]
      rw [powB_add] at hv ⊢
      generalize (x * y + o + c) % 1000000000 = r at hs ⊢
      generalize (x * y + o + c) / 1000000000 = q at hs ⊢
      grind)
    exact ⟨out', c', z, nat_times_l0_s0 (by omega) (by omega) (by rw [e1]; exact gb) (inU64 (by omega) (by omega)) (inU64 (by omega) (by omega)) (inU64 (by omega) (by omega)) (in64 (by omega) (by omega)) (by omega) (by rw [e2]; exact go) (by rw [e2]; omega) (inU64 (by omega) (by omega)) (inU64 (by omega) (by omega)) (inU64 (by omega) (by omega)) (by omega) (inU32 (by omega) (by omega)) (inU64 (by omega) (by omega)) (w64k (by omega)) (by rw [e2]; exact g1), g2, g3, g4, g5, g6⟩
theorem times_out {a b : SL Int} {N : Nat} (hNe : N = a.xs.length + b.xs.length) (hN : N < 4000000000000) (ha : limbs a.xs) (hb : limbs b.xs) : ∀ (m i : Nat) (out : List Int), a.xs.length - i = m → i ≤ a.xs.length → out.length = N → limbs out → tailZ out (i + b.xs.length) → val out = val (a.xs.take i) * val b.xs →
    ∃ out' z, nat_times_l1 out b true N a (a.xs.length : Int) i (nat_times_l1_x0 out' b true N a (a.xs.length : Int) z) ∧ out'.length = N ∧ limbs out' ∧ val out' = val a.xs * val b.xs
  | 0, i, out, hm, hi, hl, ho, ht, hv => by
    have : i = a.xs.length := by omega
    subst this
    rw [List.take_length] at hv
    exact ⟨out, _, nat_times_l1_e2 (by omega), hl, ho, hv⟩
  | m + 1, i, out, hm, hi, hl, ho, ht, hv => by
    have hlt : i < a.xs.length := by omega
    have ga : a.xs[i]? = some (a.xs[i]'hlt) := List.getElem?_eq_getElem _
    have ba := limbs_get ha ga
    generalize a.xs[i]'hlt = x at ga ba
    have e1 : ((i : Int)).toNat = i := by omega
    obtain ⟨out', c', z, g1, g2, g3, g4, g5, g6⟩ := times_in (b := b) (N := N) (i := i) (x := x) (t18 := a) (t19 := (a.xs.length : Int)) (t20 := i) hN hb (by omega) ba (val out) b.xs.length 0 out 0 (by omega) (by omega) hl ho ht ⟨by omega, by omega⟩ (by simp [val])
    have hvt := val_take_get ga
    by_cases hb0 : (b.xs.length : Int) > 0
    · have e2 : ((i : Int) + (b.xs.length : Int)).toNat = i + b.xs.length := by omega
      have go : out'[i + b.xs.length]? = some (out'[i + b.xs.length]'(by omega)) := List.getElem?_eq_getElem _
      have gz := g4 _ _ (Nat.le_refl _) go
      rw [gz] at go
      obtain ⟨out2, z2, k1, k2, k3, k4⟩ := times_out hNe hN ha hb m (i + 1) (out'.set (i + b.xs.length) c') (by omega) (by omega) (by simpa using g2) (limbs_set g3 g5.1 g5.2) (by
        refine fun j y hj hy => ?_
        rw [List.getElem?_set_ne (by omega)] at hy
        exact g4 j y (by omega) hy) (by
        rw [val_set _ go, hvt]
        rw [powB_add] at g6 ⊢
        rw [hv] at g6
        grind)
      exact ⟨out2, z2, nat_times_l1_s0 (by omega) (by omega) (by rw [e1]; exact ga) g1 hb0 (in64 (by omega) (by omega)) (inU32 (by omega) (by omega)) (by omega) (by rw [e2]; exact go) (by rw [e2]; omega) (w64k (by omega)) (by rw [e2]; exact k1), k2, k3, k4⟩
    · have hbn : b.xs = [] := by
        apply List.eq_nil_of_length_eq_zero; omega
      obtain ⟨out2, z2, k1, k2, k3, k4⟩ := times_out hNe hN ha hb m (i + 1) out' (by omega) (by omega) g2 g3 (tailZ_mono g4 (by omega)) (by
        rw [hbn] at g6 hv ⊢
        simp only [val, Int.mul_zero, Int.add_zero, List.length_nil, Nat.add_zero] at g6 hv ⊢
        have hc0 : val out' + 1000000000 ^ i * c' = 0 := by rw [g6, hv]
        have h1 := val_nonneg g3
        have h2 := Int.mul_nonneg (Int.le_of_lt (powB_pos i)) g5.1
        omega)
      exact ⟨out2, z2, nat_times_l1_s1 (by omega) (by omega) (by rw [e1]; exact ga) g1 hb0 (w64k (by omega)) k1, k2, k3, k4⟩
theorem times_run {a b : SL Int} (hfa : few a.xs) (hfb : few b.xs) (ha : limbs a.xs) (hb : limbs b.xs) : ∃ q : SL Int, nat_times a b q ∧ isNum q.xs ∧ val q.xs = val a.xs * val b.xs ∧ q.xs.length ≤ a.xs.length + b.xs.length := by
  unfold few at hfa hfb
  have e : (a.xs.length : Int) + (b.xs.length : Int) = ((a.xs.length + b.xs.length : Nat) : Int) := by omega
  generalize hn : a.xs.length + b.xs.length = n at e
  have ht : ((n : Int)).toNat = n := by omega
  obtain ⟨out, z, g1, g2, g3, g4⟩ := times_out (a := a) (b := b) hn.symm (by omega) ha hb a.xs.length 0 (List.replicate n 0) (by omega) (by omega) (by simp) (limbs_zeros n) (tailZ_zeros n _) (by rw [val_zeros]; simp [val])
  obtain ⟨q, k1, k2, k3, k4⟩ := trim_limbs (l := out) (by unfold wide; omega) g3 true
  refine ⟨q, nat_times_r0 (z0 := out) (z1 := z) ?_ ?_ ?_ ?_ ?_ ?_, k2, by rw [k3, g4], by omega⟩
  · rw [e]; exact in64 (by omega) (by omega)
  · omega
  · omega
  · rw [e, ht]; exact g1
  · rw [e, ht]; omega
  · rw [e, ht, ← g2, List.take_length]; exact k1
theorem mul_run {a b : SL Int} (hfa : few a.xs) (hfb : few b.xs) (ha : isNum a.xs) (hb : isNum b.xs) : ∃ q : SL Int, nat_Mul a b q 0 ∧ isNum q.xs ∧ val q.xs = val a.xs * val b.xs ∧ q.xs.length ≤ a.xs.length + b.xs.length := by
  obtain ⟨q, h1, h2⟩ := times_run hfa hfb ha.1 hb.1
  exact ⟨q, nat_Mul_r1 (both_true hfa ha hfb hb) rfl h1, h2⟩
/-! ### Divided by one limb -/
def headZ (l : List Int) (n : Nat) : Prop := ∀ j x, j < n → l[j]? = some x → x = 0
theorem small_loop {a : SL Int} {d : Int} {N : Nat} (hNe : N = a.xs.length) (hN : N < 4000000000000) (ha : limbs a.xs) (hd : 0 < d ∧ d < 1000000000) : ∀ (n : Nat) (out : List Int) (rest : Int), n ≤ N → out.length = N → limbs out → headZ out n → (0 ≤ rest ∧ rest < d) → val out * d + 1000000000 ^ n * rest = 1000000000 ^ n * val (a.xs.drop n) →
    ∃ out' rest' z, nat_small_l0 out a d true N rest ((n : Int) - 1) (nat_small_l0_x0 out' a d true N rest' z) ∧ out'.length = N ∧ limbs out' ∧ (0 ≤ rest' ∧ rest' < d) ∧ val out' * d + rest' = val a.xs
  | 0, out, rest, hn, hl, ho, hz, hr, hv => ⟨out, rest, _, nat_small_l0_e1 (by omega), hl, ho, hr, by simpa using hv⟩
  | n + 1, out, rest, hn, hl, ho, hz, hr, hv => by
    have e : (((n + 1 : Nat) : Int) - 1) = n := by omega
    have e1 : ((n : Int)).toNat = n := by omega
    have ga : a.xs[n]? = some (a.xs[n]'(by omega)) := List.getElem?_eq_getElem _
    have ba := limbs_get ha ga
    generalize a.xs[n]'(by omega) = x at ga ba
    have go : out[n]? = some (out[n]'(by omega)) := List.getElem?_eq_getElem _
    have gz := hz n _ (by omega) go
    rw [gz] at go
    have hq0 : 0 ≤ (rest * 1000000000 + x) / d := Int.ediv_nonneg (by omega) (by omega)
    have hq1 : (rest * 1000000000 + x) / d < 1000000000 := by
      apply Int.ediv_lt_of_lt_mul hd.1
      have : (rest + 1) * 1000000000 ≤ d * 1000000000 := by omega
      omega
    have hr0 := Int.emod_nonneg (rest * 1000000000 + x) (show d ≠ 0 by omega)
    have hr1 := Int.emod_lt_of_pos (rest * 1000000000 + x) hd.1
    have hs := Int.emod_add_mul_ediv (rest * 1000000000 + x) d
    have hdr := val_drop_get ga
    rw [e]
    obtain ⟨out', rest', z, g1, g2, g3, g4, g5⟩ := small_loop hNe hN ha hd n (out.set n ((rest * 1000000000 + x) / d)) ((rest * 1000000000 + x) % d) (by omega) (by simpa using hl) (limbs_set ho hq0 hq1) (by
      refine fun j y hj hy => ?_
      rw [List.getElem?_set_ne (by omega)] at hy
      exact hz j y (by omega) hy) ⟨hr0, hr1⟩ (by
      rw [val_set _ go, hdr]
      rw [powB_succ] at hv
      generalize (rest * 1000000000 + x) % d = r at hs ⊢
      generalize (rest * 1000000000 + x) / d = q at hs ⊢
      grind)
    exact ⟨out', rest', z, nat_small_l0_s0 (by omega) (inU64 (by omega) (by omega)) (by omega) (by rw [e1]; exact ga) (inU64 (by omega) (by omega)) (inU64 (by omega) (by omega)) (inU64 (by omega) (by omega)) (by omega) (by omega) (inU64 (by omega) (by omega)) (inU32 (by omega) (by omega)) (by rw [e1]; exact go) (by rw [e1]; omega) (in64 (by omega) (by omega)) (by rw [e1]; exact g1), g2, g3, g4, g5⟩
theorem val_one (z : Int) : val [z] = z := by simp [val]
theorem small_run {a : SL Int} {d : Int} (hfa : wide a.xs ∧ a.xs.length < 4000000000000) (ha : limbs a.xs) (hd : 0 < d ∧ d < 1000000000) : ∃ q r : SL Int, nat_small a d q r ∧ isNum q.xs ∧ isNum r.xs ∧ val a.xs = val q.xs * d + val r.xs ∧ val r.xs < d ∧ q.xs.length ≤ a.xs.length ∧ r.xs.length ≤ 1 := by
  obtain ⟨hw, hl⟩ := hfa
  obtain ⟨out, rest, z, g1, g2, g3, g4, g5⟩ := small_loop (a := a) (d := d) (N := a.xs.length) rfl hl ha hd a.xs.length (List.replicate a.xs.length 0) 0 (Nat.le_refl _) (by simp) (limbs_zeros _) (fun j x _ h => List.eq_of_mem_replicate (List.mem_of_getElem? h)) ⟨by omega, hd.1⟩ (by rw [val_zeros, List.drop_length]; simp [val])
  obtain ⟨q, k1, k2, k3, k4⟩ := trim_limbs (l := out) (by unfold wide; omega) g3 true
  have hr1 : limbs [rest] := by
    intro y hy; simp at hy; subst hy; omega
  obtain ⟨r, m1, m2, m3, m4⟩ := trim_limbs (l := [rest]) (by unfold wide; simp) hr1 true
  rw [val_one] at m3
  refine ⟨q, r, nat_small_r0 (z0 := out) (z1 := rest) (z2 := z) (by omega) (in64 (by omega) (by omega)) g1 (by omega) ?_ (inU32 (by omega) (by omega)) m1, k2, m2, by rw [k3, m3]; omega, by omega, by omega, by simpa using m4⟩
  rw [← g2, List.take_length]; exact k1
/-! ### Times one limb -/
theorem scaled_loop {a : SL Int} {d : Int} {N : Nat} (hNe : N = a.xs.length + 1) (hN : N < 4000000000000) (ha : limbs a.xs) (hd : 0 ≤ d ∧ d < 1000000000) : ∀ (m k : Nat) (out : List Int) (c : Int), a.xs.length - k = m → k ≤ a.xs.length → out.length = N → limbs out → tailZ out k → (0 ≤ c ∧ c < 1000000000) → val out + 1000000000 ^ k * c = val (a.xs.take k) * d →
    ∃ out' c' z, nat_scaled_l0 out a d true N c a (a.xs.length : Int) k (nat_scaled_l0_x0 out' a d true N c' a (a.xs.length : Int) z) ∧ out'.length = N ∧ limbs out' ∧ tailZ out' a.xs.length ∧ (0 ≤ c' ∧ c' < 1000000000) ∧ val out' + 1000000000 ^ a.xs.length * c' = val a.xs * d
  | 0, k, out, c, hm, hk, hl, ho, ht, hc, hv => by
    have : k = a.xs.length := by omega
    subst this
    rw [List.take_length] at hv
    exact ⟨out, c, _, nat_scaled_l0_e1 (by omega), hl, ho, ht, hc, hv⟩
  | m + 1, k, out, c, hm, hk, hl, ho, ht, hc, hv => by
    have hlt : k < a.xs.length := by omega
    have ga : a.xs[k]? = some (a.xs[k]'hlt) := List.getElem?_eq_getElem _
    have ba := limbs_get ha ga
    generalize a.xs[k]'hlt = y at ga ba
    have go : out[k]? = some (out[k]'(by omega)) := List.getElem?_eq_getElem _
    have gz := ht k _ (Nat.le_refl _) go
    rw [gz] at go
    have e1 : ((k : Int)).toNat = k := by omega
    have hm2 := mul_lt_sq ba hd
    have hq : 0 ≤ (y * d + c) / 1000000000 ∧ (y * d + c) / 1000000000 < 1000000000 := by omega
    have hr : 0 ≤ (y * d + c) % 1000000000 ∧ (y * d + c) % 1000000000 < 1000000000 := by omega
    have hs : (y * d + c) % 1000000000 + 1000000000 * ((y * d + c) / 1000000000) = y * d + c := Int.emod_add_mul_ediv _ _
    obtain ⟨out', c', z, g1, g2, g3, g4, g5, g6⟩ := scaled_loop hNe hN ha hd m (k + 1) (out.set k ((y * d + c) % 1000000000)) ((y * d + c) / 1000000000) (by omega) (by omega) (by simpa using hl) (limbs_set ho hr.1 hr.2) (by
      refine fun j x hj hx => ?_
      rw [List.getElem?_set_ne (by omega)] at hx
      exact ht j x (by omega) hx) hq (by
      rw [val_set _ go, val_take_get ga, powB_succ]
      generalize (y * d + c) % 1000000000 = r at hs ⊢
      generalize (y * d + c) / 1000000000 = q at hs ⊢
      grind)
    exact ⟨out', c', z, nat_scaled_l0_s0 (by omega) (by omega) (by rw [e1]; exact ga) (inU64 (by omega) (by omega)) (inU64 (by omega) (by omega)) (inU64 (by omega) (by omega)) (inU64 (by omega) (by omega)) (by omega) (inU32 (by omega) (by omega)) (inU64 (by omega) (by omega)) (by rw [e1]; exact go) (by rw [e1]; omega) (w64k (by omega)) (by rw [e1]; exact g1), g2, g3, g4, g5, g6⟩
theorem scaled_run {a : SL Int} {d : Int} (hfa : a.xs.length < 3000000000000) (ha : limbs a.xs) (hd : 0 ≤ d ∧ d < 1000000000) : ∃ l : List Int, nat_scaled a d ⟨1, l, true⟩ ∧ l.length = a.xs.length + 1 ∧ limbs l ∧ val l = val a.xs * d := by
  have e : (a.xs.length : Int) + 1 = ((a.xs.length + 1 : Nat) : Int) := by omega
  have ht : (((a.xs.length + 1 : Nat) : Int)).toNat = a.xs.length + 1 := by omega
  have ht2 : ((a.xs.length : Int)).toNat = a.xs.length := by omega
  obtain ⟨out, c, z, g1, g2, g3, g4, g5, g6⟩ := scaled_loop (a := a) (d := d) (N := a.xs.length + 1) rfl (by omega) ha hd a.xs.length 0 (List.replicate (a.xs.length + 1) 0) 0 (by omega) (by omega) (by simp) (limbs_zeros _) (tailZ_zeros _ _) ⟨by omega, by omega⟩ (by rw [val_zeros]; simp [val])
  have go : out[a.xs.length]? = some (out[a.xs.length]'(by omega)) := List.getElem?_eq_getElem _
  have gz := g4 _ _ (Nat.le_refl _) go
  rw [gz] at go
  refine ⟨out.set a.xs.length c, ?_, by simp [g2], limbs_set g3 g5.1 g5.2, by rw [val_set _ go, Int.sub_zero]; exact g6⟩
  have := nat_scaled_r0 (a := a) (d := d) (z0 := out) (z1 := c) (z2 := z) (y0 := 0) (by rw [e]; exact in64 (by omega) (by omega)) (by omega) (by omega) (by rw [e, ht]; exact g1) (inU32 (by omega) (by omega)) (by rw [ht2]; exact go) (by rw [e, ht, ht2]; omega) (by rw [e, ht, ht2]; simp [g2])
  rw [e, ht, ht2, List.take_of_length_le (by simp [g2])] at this
  exact this
end
section
open Go
set_option linter.unusedVariables false
set_option linter.unnecessarySimpa false
set_option linter.unusedSimpArgs false
set_option linter.unusedSectionVars false
/-! ### A window of limbs -/
theorem win_get {α : Type} (pre w post : List α) (i : Nat) (hi : i < w.length) : (pre ++ (w ++ post))[pre.length + i]? = w[i]? := by
  rw [List.getElem?_append_right (by omega), show pre.length + i - pre.length = i by omega, List.getElem?_append_left hi]
theorem win_set {α : Type} (pre w post : List α) (i : Nat) (x : α) (hi : i < w.length) : (pre ++ (w ++ post)).set (pre.length + i) x = pre ++ (w.set i x ++ post) := by
  rw [List.set_append_right _ _ (by omega), show pre.length + i - pre.length = i by omega, List.set_append_left _ _ hi]
theorem taken_cmp {v p : SL Int} {pre w post : List Int} {n N : Nat} {t : Bool} (hp : limbs p.xs) (hw : limbs w) (hpl : p.xs.length = n + 1) (hwl : w.length = n + 1) (hn : n < 4000000000000) : ∀ m : Nat, m ≤ n + 1 → p.xs.drop m = w.drop m →
    (val p.xs ≤ val w ∧ (nat_taken_l0 (pre ++ (w ++ post)) p t (n + 1) pre.length ((m : Int) - 1) (nat_taken_l0_x1 (pre ++ (w ++ post)) p t (n + 1) pre.length) ∨ ∃ z, nat_taken_l0 (pre ++ (w ++ post)) p t (n + 1) pre.length ((m : Int) - 1) (nat_taken_l0_x2 (pre ++ (w ++ post)) p t (n + 1) pre.length z))) ∨
    (val w < val p.xs ∧ nat_taken_l0 (pre ++ (w ++ post)) p t (n + 1) pre.length ((m : Int) - 1) (nat_taken_l0_x0 (pre ++ (w ++ post))))
  | 0, hm, hd => .inl ⟨by have : p.xs = w := by simpa using hd
                          rw [this]; omega, .inr ⟨_, nat_taken_l0_e3 (by omega)⟩⟩
  | m + 1, hm, hd => by
    have e : (((m + 1 : Nat) : Int) - 1) = m := by omega
    have e1 : ((m : Int)).toNat = m := by omega
    have gp : p.xs[m]? = some (p.xs[m]'(by omega)) := List.getElem?_eq_getElem _
    have gw : w[m]? = some (w[m]'(by omega)) := List.getElem?_eq_getElem _
    have gu : (pre ++ (w ++ post))[pre.length + ((m : Int)).toNat]? = some (w[m]'(by omega)) := by rw [e1, win_get _ _ _ _ (by omega), gw]
    have gp' : p.xs[((m : Int)).toNat]? = some (p.xs[m]'(by omega)) := by rw [e1]; exact gp
    have hdr : p.xs[m]'(by omega) = w[m]'(by omega) → p.xs.drop m = w.drop m := fun h => by
      rw [List.drop_eq_getElem_cons (l := p.xs) (i := m) (by omega), List.drop_eq_getElem_cons (l := w) (i := m) (by omega), hd, h]
    generalize p.xs[m]'(by omega) = x at gp gp' hdr
    generalize w[m]'(by omega) = y at gw gu hdr
    rw [e]
    rcases Int.lt_trichotomy x y with h | h | h
    · have := val_top hp hw (by omega) gp gw hd h
      exact .inl ⟨by omega, .inl (nat_taken_l0_e1 (by omega) (by omega) gp' (by omega) gu (by omega) (by omega))⟩
    · have st := fun {r_} (k : nat_taken_l0 (pre ++ (w ++ post)) p t (n + 1) pre.length ((m : Int) - 1) r_) => nat_taken_l0_s2 (i := (m : Int)) (by omega) (by omega) gp' (by omega) gu h (in64 (by omega) (by omega)) k
      rcases taken_cmp (v := v) (N := N) hp hw hpl hwl hn m (by omega) (hdr h) with ⟨h1, h2 | ⟨z, h2⟩⟩ | ⟨h1, h2⟩
      · exact .inl ⟨h1, .inl (st h2)⟩
      · exact .inl ⟨h1, .inr ⟨z, st h2⟩⟩
      · exact .inr ⟨h1, st h2⟩
    · have := val_top hw hp (by omega) gw gp hd.symm h
      exact .inr ⟨this, nat_taken_l0_e0 (by omega) (by omega) gp' (by omega) gu (by omega) h⟩
theorem taken_sub {p : SL Int} {pre post : List Int} {n : Nat} {t : Bool} (hp : limbs p.xs) (hpl : p.xs.length = n + 1) (hn : n < 4000000000000) (W : Int) : ∀ (m i : Nat) (w : List Int) (c : Int), n + 1 - i = m → i ≤ n + 1 → w.length = n + 1 → limbs w → (c = 0 ∨ c = 1) → val w = W - val (p.xs.take i) + 1000000000 ^ i * c →
    ∃ w' c' z, nat_taken_l1 (pre ++ (w ++ post)) p t (n + 1) pre.length c ((n + 1 : Nat) : Int) i (nat_taken_l1_x0 (pre ++ (w' ++ post)) p t (n + 1) pre.length c' ((n + 1 : Nat) : Int) z) ∧ w'.length = n + 1 ∧ limbs w' ∧ (c' = 0 ∨ c' = 1) ∧ val w' = W - val p.xs + 1000000000 ^ (n + 1) * c'
  | 0, i, w, c, hm, hi, hl, hw, hc, hv => by
    have : i = n + 1 := by omega
    subst this
    rw [List.take_of_length_le (by omega)] at hv
    exact ⟨w, c, _, nat_taken_l1_e2 (by omega), hl, hw, hc, hv⟩
  | m + 1, i, w, c, hm, hi, hl, hw, hc, hv => by
    have e1 : ((i : Int)).toNat = i := by omega
    have gp : p.xs[i]? = some (p.xs[i]'(by omega)) := List.getElem?_eq_getElem _
    have gw : w[i]? = some (w[i]'(by omega)) := List.getElem?_eq_getElem _
    have bp := limbs_get hp gp
    have bw := limbs_get hw gw
    generalize p.xs[i]'(by omega) = x at gp bp
    generalize w[i]'(by omega) = y at gw bw
    have gu : (pre ++ (w ++ post))[pre.length + ((i : Int)).toNat]? = some y := by rw [e1, win_get _ _ _ _ (by omega), gw]
    have gp' : p.xs[((i : Int)).toNat]? = some x := by rw [e1]; exact gp
    have hvt := val_take_get gp
    by_cases h : y < x + c
    · obtain ⟨w', c', z, g1, g2, g3, g4, g5⟩ := taken_sub hp hpl hn W m (i + 1) (w.set i (y + 1000000000 - (x + c))) 1 (by omega) (by omega) (by simpa using hl) (limbs_set hw (by omega) (by omega)) (.inr rfl) (by
        rw [val_set _ gw, hvt, powB_succ]
        grind)
      have g9 : ((pre ++ (w ++ post)).set (pre.length + ((i : Int)).toNat) (y + 1000000000))[pre.length + ((i : Int)).toNat]? = some (y + 1000000000) := by
        rw [List.getElem?_set_self]
        rw [e1]; simp; omega
      refine ⟨w', c', z, nat_taken_l1_s0 (by omega) (by omega) gp' (inU32 (by omega) (by omega)) (by omega) gu h (inU32 (by omega) (by omega)) g9 (inU32 (by omega) (by omega)) (w64k (by omega)) ?_, g2, g3, g4, g5⟩
      rw [List.set_set, e1, win_set _ _ _ _ _ (by omega)]
      exact g1
    · obtain ⟨w', c', z, g1, g2, g3, g4, g5⟩ := taken_sub hp hpl hn W m (i + 1) (w.set i (y - (x + c))) 0 (by omega) (by omega) (by simpa using hl) (limbs_set hw (by omega) (by omega)) (.inl rfl) (by
        rw [val_set _ gw, hvt, powB_succ]
        grind)
      refine ⟨w', c', z, nat_taken_l1_s1 (by omega) (by omega) gp' (inU32 (by omega) (by omega)) (by omega) gu h (inU32 (by omega) (by omega)) (w64k (by omega)) ?_, g2, g3, g4, g5⟩
      rw [e1, win_set _ _ _ _ _ (by omega)]
      exact g1
theorem taken_run {v : SL Int} {q : Int} {pre w post : List Int} {t : Bool} (hv : limbs v.xs) (hw : limbs w) (hwl : w.length = v.xs.length + 1) (hq : 0 ≤ q ∧ q < 1000000000) (hN : (pre ++ (w ++ post)).length < 3000000000000) :
    (val v.xs * q ≤ val w ∧ ∃ w', nat_taken (pre ++ (w ++ post)) t (pre ++ (w ++ post)).length v (pre.length : Int) q true (pre ++ (w' ++ post)) ∧ w'.length = w.length ∧ limbs w' ∧ val w' = val w - val v.xs * q) ∨
    (val w < val v.xs * q ∧ nat_taken (pre ++ (w ++ post)) t (pre ++ (w ++ post)).length v (pre.length : Int) q false (pre ++ (w ++ post))) := by
  have hN' := hN
  simp only [List.length_append] at hN'
  obtain ⟨l, s1, s2, s3, s4⟩ := scaled_run (a := v) (d := q) (by omega) hv hq
  have e1 : (((pre.length : Int) + (v.xs.length : Int)) + 1).toNat - ((pre.length : Int)).toNat = v.xs.length + 1 := by omega
  have e2 : 0 + ((pre.length : Int)).toNat = pre.length := by omega
  have e3 : (((v.xs.length + 1 : Nat)) : Int) - 1 = (v.xs.length : Int) := by omega
  have w1 : w64 ((pre.length : Int) + (v.xs.length : Int)) := in64 (by omega) (by omega)
  have w2 : w64 (((pre.length : Int) + (v.xs.length : Int)) + 1) := in64 (by omega) (by omega)
  have hle : (((pre.length : Int) + (v.xs.length : Int)) + 1).toNat ≤ (pre ++ (w ++ post)).length := by simp only [List.length_append]; omega
  obtain ⟨t', ht'⟩ : ∃ t', t' = (t && decide ((((pre.length : Int) + (v.xs.length : Int)) + 1).toNat = (pre ++ (w ++ post)).length)) := ⟨_, rfl⟩
  rcases taken_cmp (v := v) (N := 0) (p := ⟨1, l, true⟩) (pre := pre) (post := post) (t := t') s3 hw s2 hwl (by omega) (v.xs.length + 1) (Nat.le_refl _) (by rw [List.drop_of_length_le (by dsimp only; omega), List.drop_of_length_le (by omega)]) with ⟨h1, h2⟩ | ⟨h1, h2⟩
  · dsimp only at h1
    rw [s4] at h1
    refine .inl ⟨h1, ?_⟩
    obtain ⟨w', c', z, g1, g2, g3, g4, g5⟩ := taken_sub (p := ⟨1, l, true⟩) (pre := pre) (post := post) (t := t') s3 s2 (by omega) (val w) (v.xs.length + 1) 0 w 0 (by omega) (by omega) hwl hw (.inl rfl) (by simp [val])
    dsimp only at g5
    rw [s4] at g5
    have hc : c' = 0 := by
      rcases g4 with h | h
      · exact h
      · subst h
        exfalso
        have k1 := val_lt g3
        rw [g2] at k1
        omega
    subst hc
    refine ⟨w', ?_, by omega, g3, by omega⟩
    rw [e3] at h2
    rcases h2 with h2 | ⟨z0, h2⟩
    · refine nat_taken_r1 (r0 := ⟨1, l, true⟩) (z0 := pre ++ (w' ++ post)) (z1 := 0) (z2 := z) s1 w1 w2 (by omega) (by omega) (by omega) hle ?_ ?_
      · rw [e1, e2, ← ht']; exact h2
      · rw [e1, e2, ← ht']; exact g1
    · refine nat_taken_r2 (r0 := ⟨1, l, true⟩) (z0 := z0) (z1 := pre ++ (w' ++ post)) (z2 := 0) (z3 := z) s1 w1 w2 (by omega) (by omega) (by omega) hle ?_ ?_
      · rw [e1, e2, ← ht']; exact h2
      · rw [e1, e2, ← ht']; exact g1
  · dsimp only at h1
    rw [s4] at h1
    rw [e3] at h2
    refine .inr ⟨h1, nat_taken_r0 (r0 := ⟨1, l, true⟩) s1 w1 w2 (by omega) (by omega) (by omega) hle ?_⟩
    rw [e1, e2, ← ht']; exact h2
/-! ### A limb guessed -/
theorem and_mask {x : Int} (h0 : 0 ≤ x) (h1 : x < 18446744073709551616) : bitAnd .u64 x 4294967295 = x % 4294967296 := by
  obtain ⟨n, rfl⟩ := Int.eq_ofNat_of_zero_le h0
  have hn : n < 2 ^ 64 := by omega
  have e : (BitVec.ofInt 64 (n : Int) &&& BitVec.ofInt 64 4294967295).toNat = n % 4294967296 := by
    rw [BitVec.toNat_and]
    rw [show BitVec.ofInt 64 (n : Int) = BitVec.ofNat 64 n by simp, show BitVec.ofInt 64 4294967295 = BitVec.ofNat 64 4294967295 by rfl]
    rw [BitVec.toNat_ofNat, BitVec.toNat_ofNat, Nat.mod_eq_of_lt hn]
    exact Nat.and_two_pow_sub_one_eq_mod n 32
  show IntKind.u64.wrap (((BitVec.ofInt 64 (n : Int) &&& BitVec.ofInt 64 4294967295).toNat : Nat) : Int) = _
  rw [e]
  rw [show IntKind.u64.wrap ((n % 4294967296 : Nat) : Int) = ((n % 4294967296 : Nat) : Int) from inU64 (by omega) (by omega)]
  omega
theorem mul64_run {x y : Int} (hx : 0 ≤ x ∧ x < 4294967296) (hy : 0 ≤ y ∧ y < 4294967296) : bits_Mul64 x y 0 (x * y) := by
  have h0 := Int.mul_nonneg hx.1 hy.1
  have h1 : x * y ≤ 18446744065119617025 := by
    have := Int.mul_le_mul (show x ≤ 4294967295 by omega) (show y ≤ 4294967295 by omega) hy.1 (by decide)
    omega
  have ax : bitAnd .u64 x 4294967295 = x := by rw [and_mask (by omega) (by omega)]; omega
  have ay : bitAnd .u64 y 4294967295 = y := by rw [and_mask (by omega) (by omega)]; omega
  have px : x / 2 ^ 32 = 0 := by omega
  have py : y / 2 ^ 32 = 0 := by omega
  have hd : 0 ≤ x * y / 2 ^ 32 ∧ x * y / 2 ^ 32 < 4294967296 := by omega
  have am : bitAnd .u64 (x * y / 2 ^ 32) 4294967295 = x * y / 2 ^ 32 := by rw [and_mask (by omega) (by omega)]; omega
  have q0 : x * y / 2 ^ 32 / 2 ^ 32 = 0 := by omega
  have := @bits_Mul64_r0 x y
  rw [ax, ay, px, py] at this
  simp only [Int.zero_mul, Int.mul_zero, Int.zero_add, Int.add_zero] at this
  rw [am, q0] at this
  simp only [Int.add_zero] at this
  exact this (inU64 h0 (by omega)) (inU64 (by omega) (by omega)) (inU64 (by omega) (by omega)) (inU64 (by omega) (by omega)) (inU64 (by omega) (by omega)) (inU64 (by omega) (by omega)) (inU64 (by omega) (by omega)) (inU64 (by omega) (by omega)) (inU64 h0 (by omega))
theorem add64_run {x y : Int} (h0 : 0 ≤ x) (h1 : 0 ≤ y) (h : x + y < 18446744073709551616) : bits_Add64 x y 0 (x + y) 0 := R_add h0 h1 h
theorem div64_run {x y : Int} (h0 : 0 ≤ x) (h1 : x < 18446744073709551616) (hy : 0 < y) : bits_Div64 0 x y (x / y) (x % y) := by
  have h2 := Int.ediv_le_self y h0
  exact bits_Div64_r0 (by omega) (by omega) rfl h0 (by omega) (inU64 (Int.ediv_nonneg h0 (by omega)) (by omega))
/-- The true limb is not above the guess. -/
theorem guess_ge {w v : List Int} {n : Nat} {q : Int} (hw : limbs w) (hv : limbs v) (hn : v.length = n + 1) (hwl : w.length = n + 2) {a b c : Int} (ha : w[n + 1]? = some a) (hb : w[n]? = some b) (hc : v[n]? = some c) (hc0 : 0 < c) (hq0 : 0 ≤ q) (hq : val v * q ≤ val w) : q ≤ (a * 1000000000 + b) / c := by
  have e1 := val_take_drop w n (by omega)
  rw [val_drop_get hb, val_drop_get ha, List.drop_of_length_le (by omega)] at e1
  simp only [val, Int.mul_zero, Int.add_zero] at e1
  have e2 := val_take_drop v n (by omega)
  rw [val_drop_get hc, List.drop_of_length_le (by omega)] at e2
  simp only [val, Int.mul_zero, Int.add_zero] at e2
  have l1 := val_lt (limbs_take hw n)
  rw [List.length_take, Nat.min_eq_left (by omega)] at l1
  have l2 := val_nonneg (limbs_take hv n)
  have hB := powB_pos n
  have k1 : 1000000000 ^ n * c * q ≤ val v * q := Int.mul_le_mul_of_nonneg_right (by omega) hq0
  have k2 : (1000000000 : Int) ^ n * (q * c) < 1000000000 ^ n * (a * 1000000000 + b + 1) := by
    have e3 : (1000000000 : Int) ^ n * (q * c) = 1000000000 ^ n * c * q := by rw [Int.mul_comm q c, Int.mul_assoc]
    have e4 : (1000000000 : Int) ^ n * (a * 1000000000 + b + 1) = 1000000000 ^ n * (b + 1000000000 * a) + 1000000000 ^ n := by
      rw [show a * 1000000000 + b + 1 = (b + 1000000000 * a) + 1 by omega, Int.mul_add, Int.mul_one]
    omega
  have k3 := Int.lt_of_mul_lt_mul_left k2 (by omega)
  exact Int.le_ediv_of_mul_le hc0 (by omega)
theorem guess_loop {v : SL Int} {pre w post : List Int} {t : Bool} (hv : limbs v.xs) (hw : limbs w) (hwl : w.length = v.xs.length + 1) (hN : (pre ++ (w ++ post)).length < 3000000000000) (q : Int) (hq : 0 ≤ q ∧ q < 1000000000) (h1 : val v.xs * q ≤ val w) (h2 : val w < val v.xs * (q + 1)) (hV : 0 < val v.xs) : ∀ m : Nat, q + m < 1000000000 →
    ∃ w', nat_guess_l0 (pre ++ (w ++ post)) t (pre ++ (w ++ post)).length v (pre.length : Int) (q + m) (nat_guess_l0_x0 (pre ++ (w' ++ post)) t (pre ++ (w ++ post)).length v (pre.length : Int) q) ∧ w'.length = w.length ∧ limbs w' ∧ val w' = val w - val v.xs * q
  | 0, hm => by
    rcases taken_run (t := t) hv hw hwl hq hN with ⟨_, w', k1, k2, k3, k4⟩ | ⟨k1, _⟩
    · refine ⟨w', ?_, k2, k3, k4⟩
      rw [show q + ((0 : Nat) : Int) = q by omega]
      exact nat_guess_l0_e0 (inU32 hq.1 (by omega)) k1
    · omega
  | m + 1, hm => by
    rcases taken_run (t := t) (q := q + ((m + 1 : Nat) : Int)) hv hw hwl (by omega) hN with ⟨k1, _⟩ | ⟨_, k2⟩
    · exfalso
      have := Int.mul_le_mul_of_nonneg_left (show q + 1 ≤ q + ((m + 1 : Nat) : Int) by omega) (Int.le_of_lt hV)
      omega
    · obtain ⟨w', g1, g2⟩ := guess_loop (t := t) hv hw hwl hN q hq h1 h2 hV m (by omega)
      refine ⟨w', nat_guess_l0_s1 (inU32 (by omega) (by omega)) k2 (inU64 (by omega) (by omega)) ?_, g2⟩
      rw [show q + ((m + 1 : Nat) : Int) - 1 = q + m by omega]
      exact g1
theorem guess_run {v : SL Int} {pre w post : List Int} {t : Bool} (hv : isNum v.xs) (hv0 : v.xs ≠ []) (hw : limbs w) (hwl : w.length = v.xs.length + 1) (hN : (pre ++ (w ++ post)).length < 3000000000000) (hlt : val w < 1000000000 * val v.xs) :
    ∃ q w', nat_guess (pre ++ (w ++ post)) t (pre ++ (w ++ post)).length v (pre.length : Int) q (pre ++ (w' ++ post)) ∧ (0 ≤ q ∧ q < 1000000000) ∧ w'.length = w.length ∧ limbs w' ∧ val w = val v.xs * q + val w' ∧ val w' < val v.xs := by
  have hV := val_pos hv hv0
  obtain ⟨n, hn⟩ : ∃ n, v.xs.length = n + 1 := ⟨v.xs.length - 1, by have := List.length_pos_iff.2 hv0; omega⟩
  have hN' := hN
  simp only [List.length_append] at hN'
  have hW0 := val_nonneg hw
  obtain ⟨q, hqe⟩ : ∃ q, q = val w / val v.xs := ⟨_, rfl⟩
  have hs := Int.emod_add_mul_ediv (val w) (val v.xs)
  have hr0 := Int.emod_nonneg (val w) (show val v.xs ≠ 0 by omega)
  have hr1 := Int.emod_lt_of_pos (val w) hV
  rw [← hqe] at hs
  have hq0 : 0 ≤ q := by rw [hqe]; exact Int.ediv_nonneg hW0 (by omega)
  have hq1 : q < 1000000000 := by rw [hqe]; exact Int.ediv_lt_of_lt_mul hV hlt
  have h1 : val v.xs * q ≤ val w := by omega
  have h2 : val w < val v.xs * (q + 1) := by rw [Int.mul_add, Int.mul_one]; omega
  have ga : w[n + 1]? = some (w[n + 1]'(by omega)) := List.getElem?_eq_getElem _
  have gb : w[n]? = some (w[n]'(by omega)) := List.getElem?_eq_getElem _
  have gc : v.xs[n]? = some (v.xs[n]'(by omega)) := List.getElem?_eq_getElem _
  have ba := limbs_get hw ga
  have bb := limbs_get hw gb
  have bc := limbs_get hv.1 gc
  have hc0 : v.xs[n]'(by omega) ≠ 0 := by
    intro e
    apply hv.2
    rw [List.getLast?_eq_getElem?, show v.xs.length - 1 = n by omega, gc, e]
  generalize w[n + 1]'(by omega) = a at ga ba
  generalize w[n]'(by omega) = b at gb bb
  generalize v.xs[n]'(by omega) = c at gc bc hc0
  have hge := guess_ge hw hv.1 hn (by omega) ga gb gc (by omega) hq0 h1
  have e1 : ((pre.length : Int) + (v.xs.length : Int)).toNat = pre.length + (n + 1) := by omega
  have e2 : (((pre.length : Int) + (v.xs.length : Int)) - 1).toNat = pre.length + n := by omega
  have e3 : ((v.xs.length : Int) - 1).toNat = n := by omega
  have gA : (pre ++ (w ++ post))[((pre.length : Int) + (v.xs.length : Int)).toNat]? = some a := by rw [e1, win_get _ _ _ _ (by omega)]; exact ga
  have gB : (pre ++ (w ++ post))[(((pre.length : Int) + (v.xs.length : Int)) - 1).toNat]? = some b := by rw [e2, win_get _ _ _ _ (by omega)]; exact gb
  have gC : v.xs[((v.xs.length : Int) - 1).toNat]? = some c := by rw [e3]; exact gc
  have hm := mul64_run (x := a) (y := 1000000000) (by omega) (by omega)
  have hadd := add64_run (x := a * 1000000000) (y := b) (by omega) (by omega) (by omega)
  have hdiv := div64_run (x := a * 1000000000 + b) (y := c) (by omega) (by omega) (by omega)
  have hlen : (pre ++ (w ++ post)).length = pre.length + (w.length + post.length) := by simp
  have hfin : ∀ g : Int, q ≤ g → g < 1000000000 → ∃ w', nat_guess_l0 (pre ++ (w ++ post)) t (pre ++ (w ++ post)).length v (pre.length : Int) g (nat_guess_l0_x0 (pre ++ (w' ++ post)) t (pre ++ (w ++ post)).length v (pre.length : Int) q) ∧ w'.length = w.length ∧ limbs w' ∧ val w' = val w - val v.xs * q := by
    intro g hg hg1
    have := guess_loop (t := t) hv.1 hw hwl hN q ⟨hq0, hq1⟩ h1 h2 hV (g - q).toNat (by omega)
    rwa [show q + (((g - q).toNat : Nat) : Int) = g by omega] at this
  by_cases hbig : (a * 1000000000 + b) / c ≥ 1000000000
  · obtain ⟨w', g1, g2, g3, g4⟩ := hfin 999999999 (by omega) (by omega)
    refine ⟨q, w', nat_guess_r0 (y0 := a) (y1 := b) (y2 := c) (in64 (by omega) (by omega)) (by omega) gA (by omega) (inU64 (by omega) (by omega)) hm (in64 (by omega) (by omega)) (by omega) gB (by omega) (inU64 (by omega) (by omega)) hadd (inU64 (by omega) (by omega)) (in64 (by omega) (by omega)) (by omega) gC (inU64 (by omega) (by omega)) hdiv hbig g1 (inU32 hq0 (by omega)), ⟨hq0, hq1⟩, g2, g3, by omega, by omega⟩
  · obtain ⟨w', g1, g2, g3, g4⟩ := hfin ((a * 1000000000 + b) / c) hge (by omega)
    refine ⟨q, w', nat_guess_r1 (y0 := a) (y1 := b) (y2 := c) (in64 (by omega) (by omega)) (by omega) gA (by omega) (inU64 (by omega) (by omega)) hm (in64 (by omega) (by omega)) (by omega) gB (by omega) (inU64 (by omega) (by omega)) hadd (inU64 (by omega) (by omega)) (in64 (by omega) (by omega)) (by omega) gC (inU64 (by omega) (by omega)) hdiv hbig g1 (inU32 hq0 (by omega)), ⟨hq0, hq1⟩, g2, g3, by omega, by omega⟩
end
section
open Go
set_option linter.unusedVariables false
set_option linter.unnecessarySimpa false
set_option linter.unusedSimpArgs false
set_option linter.unusedSectionVars false
theorem div_loop {v : SL Int} {sc : Int} {L M : Nat} {V0 : Int} (hv : isNum v.xs) (hv0 : v.xs ≠ []) (hLM : L = M + v.xs.length) (hL : L < 2500000000000) : ∀ (m : Nat) (u Q : List Int), m ≤ M → u.length = L → limbs u → val (u.drop m) < val v.xs → Q.length = M → limbs Q → headZ Q m → V0 = val v.xs * val Q + val u →
    ∃ u' Q' z, nat_divided_l0 u Q sc false L v (v.xs.length : Int) true M ((m : Int) - 1) (nat_divided_l0_x0 u' Q' sc false L v (v.xs.length : Int) true M z) ∧ u'.length = L ∧ limbs u' ∧ Q'.length = M ∧ limbs Q' ∧ val u' < val v.xs ∧ V0 = val v.xs * val Q' + val u'
  | 0, u, Q, hm, hul, hu, hd, hQl, hQ, hz, hV => ⟨u, Q, _, nat_divided_l0_e1 (by omega), hul, hu, hQl, hQ, by simpa using hd, hV⟩
  | m + 1, u, Q, hm, hul, hu, hd, hQl, hQ, hz, hV => by
    have hvl : 0 < v.xs.length := List.length_pos_iff.2 hv0
    have e : (((m + 1 : Nat) : Int) - 1) = m := by omega
    have e1 : ((m : Int)).toNat = m := by omega
    have hVp := val_pos hv hv0
    have hVlt := val_lt hv.1
    -- the window
    obtain ⟨pre, hpre⟩ : ∃ pre, pre = u.take m := ⟨_, rfl⟩
    obtain ⟨w, hwe⟩ : ∃ w, w = (u.drop m).take (v.xs.length + 1) := ⟨_, rfl⟩
    obtain ⟨post, hpost⟩ : ∃ post, post = (u.drop m).drop (v.xs.length + 1) := ⟨_, rfl⟩
    have hsplit : u = pre ++ (w ++ post) := by rw [hpre, hwe, hpost, List.take_append_drop, List.take_append_drop]
    have hprel : pre.length = m := by rw [hpre, List.length_take]; omega
    have hwl : w.length = v.xs.length + 1 := by rw [hwe, List.length_take, List.length_drop]; omega
    have hlw : limbs w := by rw [hwe]; exact limbs_take (limbs_drop hu m) _
    have hlp : limbs post := by rw [hpost]; exact limbs_drop (limbs_drop hu m) _
    have hlpre : limbs pre := by rw [hpre]; exact limbs_take hu m
    have hgu : u[m]? = some (u[m]'(by omega)) := List.getElem?_eq_getElem _
    have bx := limbs_get hu hgu
    have hdm : val (u.drop m) = u[m]'(by omega) + 1000000000 * val (u.drop (m + 1)) := val_drop_get hgu
    generalize u[m]'(by omega) = x at hgu bx hdm
    have hwp : u.drop m = w ++ post := by rw [hwe, hpost, List.take_append_drop]
    have hvw : val (w ++ post) = val w + 1000000000 ^ (v.xs.length + 1) * val post := by rw [val_append, hwl]
    have hp0 := val_nonneg hlp
    have hw0 := val_nonneg hlw
    have hpz : val post = 0 := by
      rcases Int.lt_or_le 0 (val post) with h | h
      · exfalso
        have k := Int.mul_le_mul_of_nonneg_left (show 1 ≤ val post by omega) (Int.le_of_lt (powB_pos (v.xs.length + 1)))
        rw [Int.mul_one, powB_succ] at k
        rw [powB_succ] at hvw
        rw [hwp] at hdm
        omega
      · omega
    rw [hpz, Int.mul_zero, Int.add_zero] at hvw
    have hwlt : val w < 1000000000 * val v.xs := by rw [← hvw, ← hwp, hdm]; omega
    obtain ⟨q, w', g1, g2, g3, g4, g5, g6⟩ := guess_run (t := false) (pre := pre) (post := post) hv hv0 hlw hwl (by rw [← hsplit]; omega) hwlt
    rw [← hsplit, hprel, hul] at g1
    have hul' : (pre ++ (w' ++ post)).length = L := by
      rw [← hul, hsplit]; simp only [List.length_append, g3]
    have hlu' : limbs (pre ++ (w' ++ post)) := limbs_append.2 ⟨hlpre, limbs_append.2 ⟨g4, hlp⟩⟩
    have hdrop : (pre ++ (w' ++ post)).drop m = w' ++ post := by rw [← hprel, List.drop_left]
    have hvd : val (w' ++ post) = val w' := by rw [val_append, hpz]; omega
    have gQ : Q[m]? = some (Q[m]'(by omega)) := List.getElem?_eq_getElem _
    have gz := hz m _ (by omega) gQ
    rw [gz] at gQ
    have hvu : val u = val pre + 1000000000 ^ m * val w := by rw [hsplit, val_append, hprel, hvw]
    have hvu' : val (pre ++ (w' ++ post)) = val pre + 1000000000 ^ m * val w' := by rw [val_append, hprel, hvd]
    obtain ⟨u2, Q2, z, k1, k2⟩ := div_loop (sc := sc) (V0 := V0) hv hv0 hLM hL m (pre ++ (w' ++ post)) (Q.set m q) (by omega) hul' hlu' (by rw [hdrop, hvd]; exact g6) (by simpa using hQl) (limbs_set hQ g2.1 g2.2) (by
      refine fun j y hj hy => ?_
      rw [List.getElem?_set_ne (by omega)] at hy
      exact hz j y (by omega) hy) (by
      rw [val_set _ gQ, hvu', Int.sub_zero, hV, hvu, g5]
      grind)
    refine ⟨u2, Q2, z, ?_, k2⟩
    rw [e]
    exact nat_divided_l0_s0 (by omega) g1 (by omega) (by rw [e1]; exact gQ) (by rw [e1]; omega) (in64 (by omega) (by omega)) (by rw [e1]; exact k1)
theorem clone_run {a : SL Int} (hfa : few a.xs) : ∃ q : SL Int, sl_Clone_uint32_uint32 a q ∧ q.xs = a.xs := by
  cases h : a.xs with
  | nil =>
    refine ⟨⟨1, [], false⟩, ?_, rfl⟩
    have : slD 1 (D.int .u32) a = .sl a.e [] a.t := by unfold slD; rw [h]; rfl
    unfold sl_Clone_uint32_uint32
    rw [this]
    exact R_clone
  | cons x r =>
    have e : slD 1 (D.int .u32) a = .sl 1 (.int .u32 x :: dl (D.int .u32) r) a.t := by unfold slD; rw [h]; rfl
    unfold few at hfa
    refine ⟨⟨1, a.xs, false⟩, sl_Clone_uint32_uint32_r1 (by rw [e]; rfl) (by omega) (by rw [e]; rfl), h⟩
theorem divided_run {a b : SL Int} (hfa : few a.xs) (hfb : few b.xs) (ha : isNum a.xs) (hb : isNum b.xs) (hb0 : b.xs ≠ []) :
    ∃ q r : SL Int, nat_divided a b q r ∧ isNum q.xs ∧ isNum r.xs ∧ val a.xs = val q.xs * val b.xs + val r.xs ∧ val r.xs < val b.xs ∧ q.xs.length ≤ a.xs.length + 2 ∧ r.xs.length ≤ b.xs.length := by
  have hfa' := hfa
  have hfb' := hfb
  unfold few at hfa' hfb'
  have hbl : 0 < b.xs.length := List.length_pos_iff.2 hb0
  have hbp := val_pos hb hb0
  have hc := compare_run hfa hfb ha hb
  have rlen : ∀ r : List Int, isNum r → val r < val b.xs → r.length ≤ b.xs.length := fun r hr hlt => by
    rcases Nat.lt_or_ge b.xs.length r.length with h | h
    · have := val_len_lt hb hr h; omega
    · exact h
  by_cases h1 : cmpI (val a.xs) (val b.xs) < 0
  · have hlt := cmpI_lt.1 h1
    obtain ⟨q, hq, hq2⟩ := clone_run hfa
    exact ⟨⟨1, [], true⟩, q, nat_divided_r0 hc h1 hq, isNum_nil, by rw [hq2]; exact ha, by simp [val, hq2], by rw [hq2]; exact hlt, by simp, rlen _ (by rw [hq2]; exact ha) (by rw [hq2]; exact hlt)⟩
  have hge : val b.xs ≤ val a.xs := by
    have := mt cmpI_lt.2 h1; omega
  have hlen : b.xs.length ≤ a.xs.length := by
    rcases Nat.lt_or_ge a.xs.length b.xs.length with h | h
    · have := val_len_lt ha hb h; omega
    · exact h
  by_cases h2 : (b.xs.length : Int) = 1
  · obtain ⟨y, hy⟩ : ∃ y, b.xs = [y] := List.length_eq_one_iff.1 (by omega)
    have hyb : val b.xs = y := by rw [hy]; exact val_one y
    have hby : 0 < y ∧ y < 1000000000 := by
      refine ⟨by omega, ?_⟩
      have := hb.1 y (by rw [hy]; simp)
      omega
    obtain ⟨q, r, g1, g2, g3, g4, g5, g6, g7⟩ := small_run (a := a) (d := y) ⟨by unfold wide; omega, by omega⟩ ha.1 hby
    exact ⟨q, r, nat_divided_r1 hc h1 h2 (by rw [hy]; rfl) g1, g2, g3, by rw [hyb]; exact g4, by rw [hyb]; exact g5, by omega, rlen _ g3 (by rw [hyb]; exact g5)⟩
  · have gt : b.xs[b.xs.length - 1]? = some (b.xs[b.xs.length - 1]'(by omega)) := List.getElem?_eq_getElem _
    have bt := limbs_get hb.1 gt
    have ht0 : b.xs[b.xs.length - 1]'(by omega) ≠ 0 := by
      intro e
      apply hb.2
      rw [List.getLast?_eq_getElem?, gt, e]
    have e0 : ((b.xs.length : Int) - 1).toNat = b.xs.length - 1 := by omega
    have gt' : b.xs[((b.xs.length : Int) - 1).toNat]? = some (b.xs[b.xs.length - 1]'(by omega)) := by rw [e0]; exact gt
    generalize b.xs[b.xs.length - 1]'(by omega) = y at gt gt' bt ht0
    obtain ⟨sc, hsc⟩ : ∃ sc, sc = 1000000000 / (y + 1) := ⟨_, rfl⟩
    have hsc1 : 1 ≤ sc := by rw [hsc]; exact Int.le_ediv_of_mul_le (by omega) (by omega)
    have hsc2 : sc < 1000000000 := by rw [hsc]; exact Int.ediv_lt_of_lt_mul (by omega) (by omega)
    obtain ⟨la, s1, s2, s3, s4⟩ := scaled_run (a := a) (d := sc) (by omega) ha.1 ⟨by omega, hsc2⟩
    obtain ⟨lb, t1, t2, t3, t4⟩ := scaled_run (a := b) (d := sc) (by omega) hb.1 ⟨by omega, hsc2⟩
    obtain ⟨v, v1, v2, v3, v4⟩ := trim_limbs (l := lb) (by unfold wide; omega) t3 true
    have hvV : val v.xs = val b.xs * sc := by rw [v3, t4]
    have hVpos : 0 < val v.xs := by rw [hvV]; exact Int.mul_pos hbp (by omega)
    have hv0 : v.xs ≠ [] := by intro e; rw [e] at hVpos; simp [val] at hVpos
    have hvl : 0 < v.xs.length := List.length_pos_iff.2 hv0
    obtain ⟨L, hL⟩ : ∃ L, L = (la ++ [0]).length := ⟨_, rfl⟩
    have hL' : L = a.xs.length + 2 := by rw [hL, List.length_append, s2]; rfl
    obtain ⟨M, hM⟩ : ∃ M, L = M + v.xs.length := ⟨L - v.xs.length, by omega⟩
    have hlu : limbs (la ++ [0]) := limbs_append.2 ⟨s3, by intro z hz; simp at hz; subst hz; decide⟩
    have hvu : val (la ++ [0]) = val a.xs * sc := by rw [val_append, s4]; simp [val]
    have htop : val ((la ++ [0]).drop M) < val v.xs := by
      have e1 : (la ++ [0]).drop M = la.drop M ++ [0] := by rw [List.drop_append_of_le_length (by omega)]
      rw [e1, val_append]
      have e2 : val [(0 : Int)] = 0 := rfl
      rw [e2, Int.mul_zero, Int.add_zero]
      have l1 := val_lt (limbs_drop s3 M)
      have l2 := val_ge v2 hv0
      have e3 : (la.drop M).length = v.xs.length - 1 := by rw [List.length_drop]; omega
      rw [e3] at l1
      omega
    have eM : (L : Int) - (v.xs.length : Int) = (M : Int) := by omega
    have eMn : ((M : Int)).toNat = M := by omega
    obtain ⟨u', Q, z, d1, d2, d3, d4, d5, d6, d7⟩ := div_loop (v := v) (sc := sc) (L := L) (M := M) (V0 := val a.xs * sc) v2 hv0 hM (by omega) M (la ++ [0]) (List.replicate M 0) (Nat.le_refl _) hL.symm hlu htop (by simp) (limbs_zeros M) (fun j x _ h => List.eq_of_mem_replicate (List.mem_of_getElem? h)) (by rw [val_zeros, hvu]; omega)
    obtain ⟨qq, k1, k2, k3, k4⟩ := trim_limbs (l := Q) (by unfold wide; omega) d5 true
    have hu't : val (u'.take v.xs.length) = val u' := by
      have e1 := val_take_drop u' v.xs.length (by omega)
      have l0 := val_nonneg (limbs_take d3 v.xs.length)
      have l1 := val_nonneg (limbs_drop d3 v.xs.length)
      have l2 := val_lt v2.1
      rcases Int.lt_or_le 0 (val (u'.drop v.xs.length)) with h | h
      · exfalso
        have k := Int.mul_le_mul_of_nonneg_left (show 1 ≤ val (u'.drop v.xs.length) by omega) (Int.le_of_lt (powB_pos v.xs.length))
        rw [Int.mul_one] at k
        omega
      · have : val (u'.drop v.xs.length) = 0 := by omega
        rw [this, Int.mul_zero] at e1; omega
    obtain ⟨r4, m1, m2, m3, m4⟩ := trim_limbs (l := u'.take v.xs.length) (by unfold wide; rw [List.length_take]; omega) (limbs_take d3 _) (false && decide (((v.xs.length : Int)).toNat = L))
    have hr4l : r4.xs.length < 3000000000000 := by rw [List.length_take] at m4; omega
    obtain ⟨r5, r6, n1, n2, n3, n4, n5, n6, n7⟩ := small_run (a := r4) (d := sc) ⟨by unfold wide; omega, by omega⟩ m2.1 ⟨by omega, hsc2⟩
    rw [m3, hu't] at n4
    -- the rest is a multiple of the scale
    have hr60 := val_nonneg n3.1
    have hr50 := val_nonneg n2.1
    have hkey : (val a.xs - val b.xs * val Q - val r5.xs) * sc = val r6.xs := by
      rw [hvV] at d7
      have : val a.xs * sc - val b.xs * val Q * sc - val r5.xs * sc = val r6.xs := by
        have e9 : val b.xs * sc * val Q = val b.xs * val Q * sc := by rw [Int.mul_assoc, Int.mul_comm sc, ← Int.mul_assoc]
        omega
      rw [Int.sub_mul, Int.sub_mul]; exact this
    have hz0 : val a.xs - val b.xs * val Q - val r5.xs = 0 := by
      rcases Int.lt_trichotomy (val a.xs - val b.xs * val Q - val r5.xs) 0 with h | h | h
      · exfalso
        have := Int.mul_le_mul_of_nonneg_right (show val a.xs - val b.xs * val Q - val r5.xs ≤ -1 by omega) (show 0 ≤ sc by omega)
        omega
      · exact h
      · exfalso
        have := Int.mul_le_mul_of_nonneg_right (show 1 ≤ val a.xs - val b.xs * val Q - val r5.xs by omega) (show 0 ≤ sc by omega)
        omega
    have hr5 : val r5.xs < val b.xs := by
      have h9 : val r5.xs * sc < val b.xs * sc := by rw [← hvV]; omega
      exact Int.lt_of_mul_lt_mul_right h9 (by omega)
    refine ⟨qq, r5, ?_, k2, n2, ?_, hr5, by omega, rlen _ n2 hr5⟩
    · have hvn : ((v.xs.length : Int)).toNat = v.xs.length := by omega
      have hh := nat_divided_r2 (a := a) (b := b) (r0 := cmpI (val a.xs) (val b.xs)) (y0 := y) (r1 := ⟨1, la, true⟩) (r2 := ⟨1, lb, true⟩) (r3 := v) (z0 := u') (z1 := Q) (z2 := z) (r4 := r4) (r5 := r5) (r6 := r6) (r7 := qq) hc h1 h2 (in64 (by omega) (by omega)) (by omega) gt' (inU32 (by omega) (by omega)) (by omega)
      rw [← hsc] at hh
      dsimp only at hh
      rw [← hL, eM, eMn, hvn] at hh
      exact hh (inU32 (by omega) (by omega)) s1 rfl (by omega) t1 v1 (in64 (by omega) (by omega)) (by omega) (by omega) (in64 (by omega) (by omega)) d1 (by omega) (by omega) m1 n1 (by omega) (by rw [← d4, List.take_length]; exact k1)
    · rw [k3, Int.mul_comm]; omega
theorem div_run {a b : SL Int} (hfa : few a.xs) (hfb : few b.xs) (ha : isNum a.xs) (hb : isNum b.xs) (hb0 : b.xs ≠ []) :
    ∃ q r : SL Int, nat_Div a b q r 0 ∧ isNum q.xs ∧ isNum r.xs ∧ val a.xs = val q.xs * val b.xs + val r.xs ∧ val r.xs < val b.xs ∧ q.xs.length ≤ a.xs.length + 2 ∧ r.xs.length ≤ b.xs.length := by
  obtain ⟨q, r, h1, h2⟩ := divided_run hfa hfb ha hb hb0
  have hbl := List.length_pos_iff.2 hb0
  exact ⟨q, r, nat_Div_r2 (both_true hfa ha hfb hb) rfl (by omega) h1, h2⟩
theorem check_run {a : SL Int} (hf : huge a.xs) (hu : u32s a.xs) : (isNum a.xs ∧ nat_Check a 0) ∨ (¬ isNum a.xs ∧ nat_Check a 2) := by
  rcases fits_run hf hu with ⟨h1, h2⟩ | ⟨h1, h2⟩
  · exact .inl ⟨h1, nat_Check_r0 h2⟩
  · exact .inr ⟨h1, nat_Check_r1 h2⟩
/-! ### NatRests -/
end
section
open Go
set_option linter.unusedVariables false
set_option linter.unnecessarySimpa false
set_option linter.unusedSimpArgs false
set_option linter.unusedSectionVars false
theorem mod_of {a q m r : Int} (h : a = q * m + r) (h0 : 0 ≤ r) (h1 : r < m) : r = a % m := by
  subst h
  rw [Int.add_comm, Int.add_mul_emod_self_right, Int.emod_eq_of_lt h0 h1]
theorem pow_emod (a m : Int) : ∀ k : Nat, ((a % m) ^ k) % m = a ^ k % m
  | 0 => by simp
  | k + 1 => by
    rw [Int.pow_succ, Int.pow_succ, Int.mul_emod, pow_emod a m k, Int.emod_emod_of_dvd _ (Int.dvd_refl m), ← Int.mul_emod]
theorem mul_pow_emod (o x m : Int) (k : Nat) : (o % m * (x % m) ^ k) % m = (o * x ^ k) % m := by
  rw [Int.mul_emod, pow_emod, Int.emod_emod_of_dvd _ (Int.dvd_refl m), ← Int.mul_emod]
theorem and_one {n : Nat} (h : n < 9223372036854775808) : bitAnd .i64 (n : Int) 1 = ((n % 2 : Nat) : Int) := by
  have hn : n < 2 ^ 64 := by omega
  have e : (BitVec.ofInt 64 (n : Int) &&& BitVec.ofInt 64 1).toNat = n % 2 := by
    rw [BitVec.toNat_and]
    rw [show BitVec.ofInt 64 (n : Int) = BitVec.ofNat 64 n by simp, show BitVec.ofInt 64 1 = BitVec.ofNat 64 1 by rfl]
    rw [BitVec.toNat_ofNat, BitVec.toNat_ofNat, Nat.mod_eq_of_lt hn]
    exact Nat.and_one_is_mod n
  show IntKind.i64.wrap (((BitVec.ofInt 64 (n : Int) &&& BitVec.ofInt 64 1).toNat : Nat) : Int) = _
  rw [e]
  exact in64 (by omega) (by omega)
theorem rest_run {x m : SL Int} (hx : few x.xs) (hm : few m.xs) (nx : isNum x.xs) (nm : isNum m.xs) (hm0 : m.xs ≠ []) : ∃ r : SL Int, nat_Power_f1 m x r m ∧ isNum r.xs ∧ val r.xs = val x.xs % val m.xs ∧ val r.xs < val m.xs ∧ r.xs.length ≤ m.xs.length := by
  obtain ⟨q, r, g1, g2, g3, g4, g5, g6, g7⟩ := divided_run hx hm nx nm hm0
  exact ⟨r, nat_Power_f1_r0 g1, g3, mod_of g4 (val_nonneg g3.1) g5, g5, g7⟩
theorem power_loop {m : SL Int} (hm : m.xs.length < 100000000000) (nm : isNum m.xs) (hm0 : m.xs ≠ []) : ∀ (f n : Nat), n < f → n < 9223372036854775808 → ∀ (out x : SL Int), isNum out.xs → isNum x.xs → out.xs.length ≤ m.xs.length → x.xs.length ≤ m.xs.length → val out.xs < val m.xs →
    ∃ z0 z1 z2 z3, nat_Power_l0 m n out x (nat_Power_l0_x0 z0 z1 z2 z3) ∧ isNum z2.xs ∧ val z2.xs = (val out.xs * val x.xs ^ n) % val m.xs ∧ z2.xs.length ≤ m.xs.length
  | 0, n, hf, _, _, _, _, _, _, _, _ => by omega
  | f + 1, n, hf, hn, out, x, no, nx, lo, lx, ho => by
    have fm : few m.xs := by unfold few; omega
    have fo : few out.xs := by unfold few; omega
    have fx : few x.xs := by unfold few; omega
    have hmp := val_pos nm hm0
    by_cases h0 : n = 0
    · subst h0
      refine ⟨_, _, out, _, nat_Power_l0_e4 (by omega), no, ?_, lo⟩
      rw [Int.pow_zero, Int.mul_one, Int.emod_eq_of_lt (val_nonneg no.1) ho]
    have e2 : ((n : Int)) / 2 ^ 1 = ((n / 2 : Nat) : Int) := by omega
    have hb := and_one (n := n) (by omega)
    obtain ⟨oo, t1, t2, t3, t4⟩ := times_run fo fx no.1 nx.1
    obtain ⟨xx, s1, s2, s3, s4⟩ := times_run fx fx nx.1 nx.1
    obtain ⟨ro, a1, a2, a3, a4, a5⟩ := rest_run (x := oo) (by unfold few; omega) fm t2 nm hm0
    obtain ⟨rx, b1, b2, b3, b4, b5⟩ := rest_run (x := xx) (by unfold few; omega) fm s2 nm hm0
    have hx2 : val xx.xs = val x.xs ^ 2 := by rw [s3, Int.pow_succ, Int.pow_one]
    rcases Nat.mod_two_eq_zero_or_one n with hp | hp
    · have hnb : ¬ bitAnd .i64 (n : Int) 1 > 0 := by rw [hb, hp]; decide
      have h1 : (n : Int) > 1 := by omega
      obtain ⟨z0, z1, z2, z3, g1, g2, g3, g4⟩ := power_loop hm nm hm0 f (n / 2) (by omega) (by omega) out rx no b2 lo b5 ho
      refine ⟨z0, z1, z2, z3, nat_Power_l0_s2 (by omega) hnb h1 s1 b1 (by rw [e2]; exact g1), g2, ?_, g4⟩
      rw [g3, b3, hx2, Int.mul_emod, pow_emod, ← Int.mul_emod, ← Int.pow_mul, show 2 * (n / 2) = n by omega]
    · have hnb : bitAnd .i64 (n : Int) 1 > 0 := by rw [hb, hp]; decide
      by_cases h1 : (n : Int) > 1
      · obtain ⟨z0, z1, z2, z3, g1, g2, g3, g4⟩ := power_loop hm nm hm0 f (n / 2) (by omega) (by omega) ro rx a2 b2 a5 b5 a4
        refine ⟨z0, z1, z2, z3, nat_Power_l0_s0 (by omega) hnb t1 a1 h1 s1 b1 (by rw [e2]; exact g1), g2, ?_, g4⟩
        rw [g3, a3, b3, hx2, mul_pow_emod, t3, ← Int.pow_mul, Int.mul_assoc]
        congr 2
        have : n = 2 * (n / 2) + 1 := by omega
        conv => rhs; rw [this]
        rw [Int.pow_succ, Int.mul_comm]
      · have hn1 : n = 1 := by omega
        subst hn1
        obtain ⟨z0, z1, z2, z3, g1, g2, g3, g4⟩ := power_loop hm nm hm0 f 0 (by omega) (by omega) ro x a2 nx a5 lx a4
        refine ⟨z0, z1, z2, z3, nat_Power_l0_s1 (by omega) hnb t1 a1 h1 (by rw [e2]; exact g1), g2, ?_, g4⟩
        rw [g3, a3, t3, Int.pow_zero, Int.mul_one, Int.pow_one, Int.emod_emod_of_dvd _ (Int.dvd_refl _)]
theorem isNum_one : isNum [1] := ⟨by intro x hx; simp at hx; subst hx; decide, by simp⟩
theorem power_run {a m : SL Int} {n : Nat} (ha : few a.xs) (hm : m.xs.length < 100000000000) (na : isNum a.xs) (nm : isNum m.xs) (hm0 : m.xs ≠ []) (hn : n < 9223372036854775808) : ∃ z : SL Int, nat_Power a n m z 0 ∧ isNum z.xs ∧ val z.xs = val a.xs ^ n % val m.xs ∧ z.xs.length ≤ m.xs.length := by
  have fm : few m.xs := by unfold few; omega
  have hml := List.length_pos_iff.2 hm0
  obtain ⟨o, o1, o2, o3, o4, o5⟩ := rest_run (x := ⟨1, [1], true⟩) (by unfold few; simp) fm isNum_one nm hm0
  obtain ⟨x, x1, x2, x3, x4, x5⟩ := rest_run ha fm na nm hm0
  obtain ⟨z0, z1, z2, z3, g1, g2, g3, g4⟩ := power_loop hm nm hm0 (n + 1) n (by omega) hn o x o2 x2 o5 x5 o4
  refine ⟨z2, nat_Power_r3 (both_true ha na fm nm) rfl (by omega) (by omega) o1 x1 g1, g2, ?_, g4⟩
  rw [g3, o3, x3, mul_pow_emod]
  have : val [(1 : Int)] = 1 := rfl
  dsimp only
  rw [this, Int.one_mul]
end
end Go.Proofs.YtkkekfehjbbhoaaGreatDoor.V

/- Numbers by limbs of nine digits: plain theory. -/
import Derived.Test.YtlijicnknhopkaaDoorV30
namespace Go.Proofs.YtlijicnknhopkaaDoor.V
open Go
set_option linter.unusedVariables false
set_option linter.unnecessarySimpa false
set_option linter.unusedSimpArgs false
set_option linter.unusedSectionVars false
def val : List Int → Int
  | [] => 0
  | x :: r => x + (1000000000 : Int) * val r
def limbs (l : List Int) : Prop := ∀ x ∈ l, 0 ≤ x ∧ x < (1000000000 : Int)
def isNum (l : List Int) : Prop := limbs l ∧ l.getLast? ≠ some 0
def trimL : List Int → List Int
  | [] => []
  | x :: r => match trimL r with
    | [] => if x = 0 then [] else [x]
    | y :: q => x :: y :: q
theorem powB_pos (n : Nat) : 0 < (1000000000 : Int) ^ n := Int.pow_pos (by decide)
theorem powB_succ (n : Nat) : (1000000000 : Int) ^ (n + 1) = (1000000000 : Int) ^ n * (1000000000 : Int) := Int.pow_succ _ _
theorem powB_add (n m : Nat) : (1000000000 : Int) ^ (n + m) = (1000000000 : Int) ^ n * (1000000000 : Int) ^ m := Int.pow_add _ _ _
theorem powB_le {n m : Nat} (h : n ≤ m) : (1000000000 : Int) ^ n ≤ (1000000000 : Int) ^ m := by
  obtain ⟨k, rfl⟩ := Nat.exists_eq_add_of_le h
  rw [powB_add]
  have h1 := powB_pos n
  have h2 := powB_pos k
  have := Int.mul_le_mul_of_nonneg_left (show 1 ≤ (1000000000 : Int) ^ k by omega) (show 0 ≤ (1000000000 : Int) ^ n by omega)
  omega
theorem limbs_cons {x : Int} {r : List Int} : limbs (x :: r) ↔ (0 ≤ x ∧ x < (1000000000 : Int)) ∧ limbs r := by
  unfold limbs; simp
theorem limbs_nil : limbs [] := by intro x h; cases h
theorem limbs_append {a b : List Int} : limbs (a ++ b) ↔ limbs a ∧ limbs b := by
  unfold limbs
  constructor
  · intro h; exact ⟨fun x hx => h x (List.mem_append_left _ hx), fun x hx => h x (List.mem_append_right _ hx)⟩
  · rintro ⟨h1, h2⟩ x hx
    rcases List.mem_append.1 hx with h | h
    · exact h1 x h
    · exact h2 x h
theorem limbs_set {l : List Int} {i : Nat} {x : Int} (h : limbs l) (h0 : 0 ≤ x) (h1 : x < (1000000000 : Int)) : limbs (l.set i x) := by
  intro y hy
  rcases List.mem_or_eq_of_mem_set hy with h' | h'
  · exact h y h'
  · subst h'; exact ⟨h0, h1⟩
theorem limbs_take {l : List Int} (h : limbs l) (i : Nat) : limbs (l.take i) := fun x hx => h x (List.mem_of_mem_take hx)
theorem limbs_drop {l : List Int} (h : limbs l) (i : Nat) : limbs (l.drop i) := fun x hx => h x (List.mem_of_mem_drop hx)
theorem limbs_get {l : List Int} (h : limbs l) {i : Nat} {x : Int} (hx : l[i]? = some x) : 0 ≤ x ∧ x < (1000000000 : Int) := h x (List.mem_of_getElem? hx)
theorem limbs_zeros (n : Nat) : limbs (List.replicate n 0) := by
  intro x hx
  have := List.eq_of_mem_replicate hx
  subst this; exact ⟨by decide, by decide⟩
theorem val_nonneg : ∀ {l : List Int}, limbs l → 0 ≤ val l
  | [], _ => by simp [val]
  | x :: r, h => by
    have h1 := limbs_cons.1 h
    have h2 := val_nonneg h1.2
    simp only [val]; omega
theorem val_lt : ∀ {l : List Int}, limbs l → val l < (1000000000 : Int) ^ l.length
  | [], _ => by simp [val]
  | x :: r, h => by
    have h1 := limbs_cons.1 h
    have h2 := val_lt h1.2
    simp only [val, List.length_cons, powB_succ]; omega
theorem val_append : ∀ (a b : List Int), val (a ++ b) = val a + (1000000000 : Int) ^ a.length * val b
  | [], b => by simp [val]
  | x :: r, b => by
    have := val_append r b
    simp only [List.cons_append, val, List.length_cons, powB_succ, this]
    grind
theorem val_zeros : ∀ n, val (List.replicate n 0) = 0
  | 0 => rfl
  | n + 1 => by rw [List.replicate_succ, val, val_zeros n]; rfl
theorem val_take_drop (l : List Int) (i : Nat) (h : i ≤ l.length) : val l = val (l.take i) + (1000000000 : Int) ^ i * val (l.drop i) := by
  have := val_append (l.take i) (l.drop i)
  rw [List.take_append_drop] at this
  rw [this, List.length_take, Nat.min_eq_left h]
theorem val_drop_get {l : List Int} {i : Nat} {x : Int} (h : l[i]? = some x) : val (l.drop i) = x + (1000000000 : Int) * val (l.drop (i + 1)) := by
  obtain ⟨hi, hx⟩ := List.getElem?_eq_some_iff.1 h
  rw [List.drop_eq_getElem_cons hi, val, hx]
theorem val_take_get {l : List Int} {i : Nat} {x : Int} (h : l[i]? = some x) : val (l.take (i + 1)) = val (l.take i) + (1000000000 : Int) ^ i * x := by
  obtain ⟨hi, hx⟩ := List.getElem?_eq_some_iff.1 h
  rw [List.take_add_one, h, Option.toList_some, val_append, List.length_take, Nat.min_eq_left (by omega)]
  simp [val]
theorem val_set : ∀ {l : List Int} {i : Nat} {o : Int} (x : Int), l[i]? = some o → val (l.set i x) = val l + (1000000000 : Int) ^ i * (x - o)
  | [], i, o, x, h => by simp at h
  | y :: r, 0, o, x, h => by
    simp at h; subst h
    simp only [List.set_cons_zero, val, Int.pow_zero]; omega
  | y :: r, i + 1, o, x, h => by
    have := val_set (l := r) (i := i) x (by simpa using h)
    simp only [List.set_cons_succ, val, powB_succ, this]
    grind
theorem val_trim : ∀ l, val (trimL l) = val l
  | [] => rfl
  | x :: r => by
    have ih := val_trim r
    simp only [trimL]
    split
    · rename_i e
      rw [e] at ih
      by_cases c : x = 0
      · rw [if_pos c]; simp only [val] at *; omega
      · rw [if_neg c]; simp only [val] at *; omega
    · rename_i y q e
      rw [e] at ih
      simp only [val] at *; omega
theorem limbs_trim : ∀ {l}, limbs l → limbs (trimL l)
  | [], h => h
  | x :: r, h => by
    have h1 := limbs_cons.1 h
    have ih := limbs_trim h1.2
    simp only [trimL]
    split
    · split
      · exact limbs_nil
      · exact limbs_cons.2 ⟨h1.1, limbs_nil⟩
    · rename_i y q e
      rw [e] at ih
      exact limbs_cons.2 ⟨h1.1, ih⟩
theorem last_trim : ∀ l, (trimL l).getLast? ≠ some 0
  | [] => by simp [trimL]
  | x :: r => by
    have ih := last_trim r
    simp only [trimL]
    split
    · split
      · simp
      · rename_i c; simp; exact c
    · rename_i y q e
      rw [e] at ih
      rw [List.getLast?_cons_cons]; exact ih
theorem isNum_trim {l : List Int} (h : limbs l) : isNum (trimL l) := ⟨limbs_trim h, last_trim l⟩
theorem isNum_tail {x : Int} {r : List Int} (h : isNum (x :: r)) : isNum r := by
  refine ⟨(limbs_cons.1 h.1).2, ?_⟩
  cases r with
  | nil => simp
  | cons y q => have := h.2; rwa [List.getLast?_cons_cons] at this
theorem val_pos : ∀ {l : List Int}, isNum l → l ≠ [] → 0 < val l
  | [], _, h => absurd rfl h
  | [x], h, _ => by
    have h1 := limbs_cons.1 h.1
    have h2 := h.2
    simp at h2
    simp only [val]; omega
  | x :: y :: r, h, _ => by
    have h1 := limbs_cons.1 h.1
    have := val_pos (isNum_tail h) (by simp)
    simp only [val] at *; omega
theorem isNum_nil : isNum [] := ⟨limbs_nil, by simp⟩
theorem val_inj : ∀ {a b : List Int}, isNum a → isNum b → val a = val b → a = b
  | [], [], _, _, _ => rfl
  | [], y :: r, _, hb, h => by have := val_pos hb (by simp); rw [← h] at this; simp [val] at this
  | x :: r, [], ha, _, h => by have := val_pos ha (by simp); rw [h] at this; simp [val] at this
  | x :: r, y :: q, ha, hb, h => by
    have h1 := (limbs_cons.1 ha.1).1
    have h2 := (limbs_cons.1 hb.1).1
    simp only [val] at h
    have e1 : x = y := by omega
    have e2 : val r = val q := by omega
    rw [e1, val_inj (isNum_tail ha) (isNum_tail hb) e2]
theorem trim_self {l : List Int} (h : isNum l) : trimL l = l := val_inj (isNum_trim h.1) h (val_trim l)
theorem val_ge {l : List Int} (h : isNum l) (hne : l ≠ []) : (1000000000 : Int) ^ (l.length - 1) ≤ val l := by
  have hlen : 0 < l.length := List.length_pos_iff.2 hne
  have hd := val_take_drop l (l.length - 1) (by omega)
  have hl : l[l.length - 1]? = some (l[l.length - 1]'(by omega)) := List.getElem?_eq_getElem _
  have hv := val_drop_get hl
  have h0 := limbs_get h.1 hl
  have hnz : l[l.length - 1]'(by omega) ≠ 0 := by
    intro e
    apply h.2
    rw [List.getLast?_eq_getElem?, hl, e]
  rw [show l.length - 1 + 1 = l.length by omega, List.drop_length] at hv
  have h1 := val_nonneg (limbs_take h.1 (l.length - 1))
  rw [hv] at hd
  simp only [val] at hd
  have := Int.mul_le_mul_of_nonneg_left (show 1 ≤ l[l.length - 1]'(by omega) by omega) (show 0 ≤ (1000000000 : Int) ^ (l.length - 1) by have := powB_pos (l.length - 1); omega)
  rw [Int.mul_zero, Int.add_zero] at hd
  omega
theorem val_len_lt {a b : List Int} (ha : isNum a) (hb : isNum b) (h : a.length < b.length) : val a < val b := by
  have h1 := val_lt ha.1
  have h2 := val_ge hb (by intro e; rw [e] at h; simp at h)
  have h3 := powB_le (show a.length ≤ b.length - 1 by omega)
  omega
theorem val_top {a b : List Int} (ha : limbs a) (hb : limbs b) (hl : a.length = b.length) {i : Nat} {x y : Int} (hx : a[i]? = some x) (hy : b[i]? = some y) (hd : a.drop (i + 1) = b.drop (i + 1)) (h : x < y) : val a < val b := by
  have hi := (List.getElem?_eq_some_iff.1 hx).1
  have e1 := val_take_drop a i (by omega)
  have e2 := val_take_drop b i (by omega)
  rw [val_drop_get hx] at e1
  rw [val_drop_get hy, ← hd] at e2
  have h1 := val_lt (limbs_take ha i)
  have h2 := val_nonneg (limbs_take hb i)
  rw [List.length_take, Nat.min_eq_left (by omega)] at h1
  have h3 := Int.mul_le_mul_of_nonneg_left (show x + 1 ≤ y by omega) (show 0 ≤ (1000000000 : Int) ^ i by have := powB_pos i; omega)
  have e3 : (1000000000 : Int) ^ i * (x + (1000000000 : Int) * val (a.drop (i + 1))) = (1000000000 : Int) ^ i * x + (1000000000 : Int) ^ i * ((1000000000 : Int) * val (a.drop (i + 1))) := Int.mul_add ..
  have e4 : (1000000000 : Int) ^ i * (y + (1000000000 : Int) * val (a.drop (i + 1))) = (1000000000 : Int) ^ i * y + (1000000000 : Int) ^ i * ((1000000000 : Int) * val (a.drop (i + 1))) := Int.mul_add ..
  have e5 : (1000000000 : Int) ^ i * (x + 1) = (1000000000 : Int) ^ i * x + (1000000000 : Int) ^ i := by rw [Int.mul_add, Int.mul_one]
  omega
/-- What is left when noughts behind a place are gone. -/
theorem take_trim : ∀ {l : List Int} {n : Nat}, n ≤ l.length → (∀ i x, n ≤ i → l[i]? = some x → x = 0) → (n = 0 ∨ ∃ y, y ≠ 0 ∧ l[n - 1]? = some y) → l.take n = trimL l
  | [], n, hn, _, _ => by simp [trimL]
  | x :: r, 0, hn, hz, _ => by
    have ih := take_trim (l := r) (n := 0) (by omega) (fun i y _ h => hz (i + 1) y (by omega) (by simpa using h)) (.inl rfl)
    have h0 := hz 0 x (by omega) rfl
    rw [List.take_zero] at ih
    simp only [trimL, ← ih, List.take_zero]
    rw [if_pos h0]
  | x :: r, n + 1, hn, hz, hy => by
    simp only [List.length_cons] at hn
    simp only [Nat.add_sub_cancel, Nat.succ_ne_zero, false_or] at hy
    obtain ⟨y, hy0, hy1⟩ := hy
    have ih := take_trim (l := r) (n := n) (by omega) (fun i z hi h => hz (i + 1) z (by omega) (by simpa using h)) (by
      rcases Nat.eq_zero_or_pos n with h | h
      · exact .inl h
      · refine .inr ⟨y, hy0, ?_⟩
        obtain ⟨m, rfl⟩ : ∃ m, n = m + 1 := ⟨n - 1, by omega⟩
        simpa using hy1)
    rw [List.take_succ_cons, ih]
    simp only [trimL]
    split
    · rename_i e
      rw [e] at ih
      have : n = 0 := by
        rcases Nat.eq_zero_or_pos n with h | h
        · exact h
        · exfalso
          have hl : (r.take n).length = 0 := by rw [ih]; rfl
          rw [List.length_take] at hl
          omega
      subst this
      simp at hy1; subst hy1
      rw [if_neg hy0, e]
    · rename_i y' q e
      rw [e]
/-! ### Limbs behind the last one are nought -/
def limb (l : List Int) (i : Nat) : Int := l[i]?.getD 0
theorem limb_some {l : List Int} {i : Nat} {x : Int} (h : l[i]? = some x) : limb l i = x := by simp [limb, h]
theorem limb_none {l : List Int} {i : Nat} (h : l.length ≤ i) : limb l i = 0 := by simp [limb, List.getElem?_eq_none h]
theorem limb_bound {l : List Int} (h : limbs l) (i : Nat) : 0 ≤ limb l i ∧ limb l i < (1000000000 : Int) := by
  unfold limb
  cases e : l[i]? with
  | none => exact ⟨by decide, by decide⟩
  | some x => exact limbs_get h e
theorem take_lim (l : List Int) (i : Nat) : val (l.take (i + 1)) = val (l.take i) + (1000000000 : Int) ^ i * limb l i := by
  cases e : l[i]? with
  | some x => rw [val_take_get e, limb_some e]
  | none =>
    have := List.getElem?_eq_none_iff.1 e
    rw [List.take_of_length_le (by omega), List.take_of_length_le (by omega), limb_none this]; omega
end Go.Proofs.YtlijicnknhopkaaDoor.V

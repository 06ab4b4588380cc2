/- Contracts: numbers checked, cut, compared, added, subtracted. -/
import Derived.Test.YtlijicnknhopkaaDoorVP
import Derived.Test.YtlijicnknhopkaaDoorM1
namespace Go.Proofs.YtlijicnknhopkaaDoor.V
open Go
set_option linter.unusedVariables false
set_option linter.unnecessarySimpa false
set_option linter.unusedSimpArgs false
set_option linter.unusedSectionVars false
theorem at_drop {α : Type} {l : List α} {k : Nat} {y : α} {r : List α} (h : l.drop k = y :: r) : l[(k : Int).toNat]? = some y ∧ l.drop (k + 1) = r ∧ k < l.length := by
  have h1 : l[k]? = some y := by
    have := congrArg List.head? h
    rwa [List.head?_drop] at this
  refine ⟨by simpa using h1, ?_, (List.getElem?_eq_some_iff.1 h1).1⟩
  have := congrArg List.tail h
  simpa using this
theorem drop_nil_le {α : Type} {l : List α} {k : Nat} (h : l.drop k = []) : l.length ≤ k := by simpa using h
theorem w64k {k : Nat} (h : k < 9223372036854775807) : w64 ((k : Int) + 1) := in64 (by omega) (by omega)
theorem b_em (b : Bool) : b = true ∨ b = false := by cases b <;> simp
/-- Limbs as they come: whole numbers of 32 bits; a slice of at most so many. -/
def u32s (l : List Int) : Prop := ∀ x ∈ l, 0 ≤ x ∧ x < 4294967296
def few (l : List Int) : Prop := l.length < 1000000000000
def huge (l : List Int) : Prop := l.length < 100000000000000
def wide (l : List Int) : Prop := l.length < 8000000000000
theorem limbs_u32 {l : List Int} (h : limbs l) : u32s l := fun x hx => by have := h x hx; omega
theorem heads_ok : law_heads true := R_heads
/-! ### The greatest limb -/
theorem foldl_max_lt : ∀ (l : List Int) (m : Int), l.foldl max m < 1000000000 ↔ m < 1000000000 ∧ ∀ y ∈ l, y < 1000000000
  | [], m => by simp
  | x :: r, m => by
    rw [List.foldl_cons, foldl_max_lt r]
    simp only [List.mem_cons, forall_eq_or_imp]
    constructor
    · rintro ⟨h1, h2⟩; exact ⟨by omega, by omega, h2⟩
    · rintro ⟨h1, h2, h3⟩; exact ⟨by omega, h3⟩
theorem max_loop {x : SL Int} (hf : huge x.xs) : ∀ (rest : List Int) (k : Nat) (m : Int), x.xs.drop k = rest → ∃ z, sl_Max_uint32_uint32_l0 x m k (sl_Max_uint32_uint32_l0_x0 x (rest.foldl max m) z)
  | [], k, m, hd => ⟨k, sl_Max_uint32_uint32_l0_e1 (by have := drop_nil_le hd; omega)⟩
  | y :: rest, k, m, hd => by
    obtain ⟨h1, h2, h3⟩ := at_drop hd
    unfold huge at hf
    obtain ⟨z, h⟩ := max_loop hf rest (k + 1) (max m y) h2
    exact ⟨z, sl_Max_uint32_uint32_l0_s0 (by omega) (by omega) h1 (w64k (by omega)) h⟩
theorem fits_run {a : SL Int} (hf : huge a.xs) (hu : u32s a.xs) : (isNum a.xs ∧ nat_fits a true) ∨ (¬ isNum a.xs ∧ nat_fits a false) := by
  have hf' := hf
  unfold huge at hf'
  cases hx : a.xs with
  | nil => exact .inl ⟨isNum_nil, nat_fits_r0 (by rw [hx]; rfl)⟩
  | cons x r =>
    rw [← hx]
    have hlen : 0 < a.xs.length := by rw [hx]; simp
    have hl : a.xs[((a.xs.length : Int) - 1).toNat]? = some (a.xs[a.xs.length - 1]'(by omega)) := by
      rw [show ((a.xs.length : Int) - 1).toNat = a.xs.length - 1 by omega]
      exact List.getElem?_eq_getElem _
    have hlast : a.xs.getLast? = some (a.xs[a.xs.length - 1]'(by omega)) := by rw [List.getLast?_eq_getElem?, List.getElem?_eq_getElem]
    have w1 : w64 ((a.xs.length : Int) - 1) := in64 (by omega) (by omega)
    have h0 : ¬ (a.xs.length : Int) = 0 := by omega
    by_cases c : a.xs[a.xs.length - 1]'(by omega) = 0
    · exact .inr ⟨fun h => h.2 (by rw [hlast, c]), nat_fits_r3 h0 w1 (by omega) hl c⟩
    · obtain ⟨z, hm⟩ := max_loop hf (a.xs.drop 1) 1 x rfl
      have h1 : ¬ (a.xs.length : Int) < 1 := by omega
      have hmx := sl_Max_uint32_uint32_r1 h1 (by rw [hx]; rfl) hm
      have hiff : (a.xs.drop 1).foldl max x < 1000000000 ↔ ∀ y ∈ a.xs, y < 1000000000 := by
        rw [foldl_max_lt, hx]; simp
      by_cases c2 : (a.xs.drop 1).foldl max x < 1000000000
      · refine .inl ⟨⟨fun y hy => ⟨(hu y hy).1, hiff.1 c2 y hy⟩, ?_⟩, nat_fits_r1 h0 w1 (by omega) hl c hmx c2⟩
        rw [hlast]
        intro e; exact c (Option.some.inj e)
      · exact .inr ⟨fun h => c2 (hiff.2 fun y hy => (h.1 y hy).2), nat_fits_r2 h0 w1 (by omega) hl c hmx c2⟩
theorem fits_true {a : SL Int} (hf : few a.xs) (h : isNum a.xs) : nat_fits a true := by
  rcases fits_run (show huge a.xs by unfold few at hf; unfold huge; omega) (limbs_u32 h.1) with ⟨_, h1⟩ | ⟨h1, _⟩
  · exact h1
  · exact absurd h h1
theorem both_true {a b : SL Int} (hfa : few a.xs) (ha : isNum a.xs) (hfb : few b.xs) (hb : isNum b.xs) : nat_both a b 0 := nat_both_r0 (fits_true hfa ha) (fits_true hfb hb)
/-! ### Noughts cut off -/
theorem trim_loop {a : SL Int} (hf : wide a.xs) : ∀ n : Nat, n ≤ a.xs.length → (∀ i x, n ≤ i → a.xs[i]? = some x → x = 0) → ∃ m : Nat, nat_trim_l0 a n (nat_trim_l0_x0 a m) ∧ m ≤ a.xs.length ∧ a.xs.take m = trimL a.xs
  | 0, hn, hz => ⟨0, nat_trim_l0_e2 (by omega), by omega, take_trim (by omega) hz (.inl rfl)⟩
  | n + 1, hn, hz => by
    unfold wide at hf
    have e : (((n + 1 : Nat) : Int) - 1) = n := by omega
    have hg : a.xs[(((n + 1 : Nat) : Int) - 1).toNat]? = some (a.xs[n]'(by omega)) := by rw [e]; simp
    have hg' : a.xs[n]? = some (a.xs[n]'(by omega)) := List.getElem?_eq_getElem _
    have w1 : w64 (((n + 1 : Nat) : Int) - 1) := in64 (by omega) (by omega)
    by_cases c : a.xs[n]'(by omega) = 0
    · obtain ⟨m, h, h2, h3⟩ := trim_loop (a := a) (by unfold wide; exact hf) n (by omega) (fun i x hi hx => by
        rcases Nat.eq_or_lt_of_le hi with h | h
        · subst h; rw [hg'] at hx; cases hx; exact c
        · exact hz i x h hx)
      refine ⟨m, nat_trim_l0_s0 (by omega) w1 (by omega) hg c ?_, h2, h3⟩
      rw [e]; exact h
    · exact ⟨n + 1, nat_trim_l0_e1 (by omega) w1 (by omega) hg c, hn, take_trim hn hz (.inr ⟨_, c, by rw [Nat.add_sub_cancel]; exact hg'⟩)⟩
theorem trim_run {a : SL Int} (hf : wide a.xs) : nat_trim a ⟨1, trimL a.xs, true⟩ := by
  obtain ⟨m, h, h2, h3⟩ := trim_loop hf a.xs.length (Nat.le_refl _) (fun i x hi hx => by rw [List.getElem?_eq_none hi] at hx; cases hx)
  have := nat_trim_r0 h (by omega) (by simpa using h2)
  rwa [show ((m : Int)).toNat = m by omega, h3] at this
/-! ### Compared -/
def cmpI (a b : Int) : Int := if a < b then -1 else if a > b then 1 else 0
theorem cmp_int (a b : Int) : cmp_Compare_int a b (cmpI a b) := by
  have n1 := cmp_isNaN_int_r1 (x := a) rfl
  have n2 := cmp_isNaN_int_r1 (x := b) rfl
  unfold cmpI
  by_cases h1 : a < b
  · rw [if_pos h1]; exact cmp_Compare_int_r3 n1 n2 h1
  · rw [if_neg h1]
    by_cases h2 : a > b
    · rw [if_pos h2]; exact cmp_Compare_int_r4 n1 n2 h1 h2
    · rw [if_neg h2]; exact cmp_Compare_int_r5 n1 n2 h1 h2
theorem cmp_u32 (a b : Int) : cmp_Compare_uint32 a b (cmpI a b) := by
  have n1 := cmp_isNaN_uint32_r1 (x := a) rfl
  have n2 := cmp_isNaN_uint32_r1 (x := b) rfl
  unfold cmpI
  by_cases h1 : a < b
  · rw [if_pos h1]; exact cmp_Compare_uint32_r3 n1 n2 h1
  · rw [if_neg h1]
    by_cases h2 : a > b
    · rw [if_pos h2]; exact cmp_Compare_uint32_r4 n1 n2 h1 h2
    · rw [if_neg h2]; exact cmp_Compare_uint32_r5 n1 n2 h1 h2
theorem cmpI_lt {a b : Int} : cmpI a b < 0 ↔ a < b := by
  unfold cmpI
  split
  · omega
  · split <;> omega
theorem cmpI_eq {a b : Int} : cmpI a b = 0 ↔ a = b := by
  unfold cmpI
  split
  · omega
  · split <;> omega
theorem compare_loop {a b : SL Int} (hf : few a.xs) (ha : limbs a.xs) (hb : limbs b.xs) (hl : a.xs.length = b.xs.length) : ∀ n : Nat, n ≤ a.xs.length → a.xs.drop n = b.xs.drop n →
    (a.xs = b.xs ∧ ∃ z, nat_compare_l0 a b ((n : Int) - 1) (nat_compare_l0_x1 a b z)) ∨ (val a.xs < val b.xs ∧ nat_compare_l0 a b ((n : Int) - 1) (nat_compare_l0_x0 (-1))) ∨ (val b.xs < val a.xs ∧ nat_compare_l0 a b ((n : Int) - 1) (nat_compare_l0_x0 1))
  | 0, hn, hd => .inl ⟨by simpa using hd, _, nat_compare_l0_e2 (by omega)⟩
  | n + 1, hn, hd => by
    have hf' := hf
    unfold few at hf'
    have e : (((n + 1 : Nat) : Int) - 1) = n := by omega
    have ga : a.xs[n]? = some (a.xs[n]'(by omega)) := List.getElem?_eq_getElem _
    have gb : b.xs[n]? = some (b.xs[n]'(by omega)) := List.getElem?_eq_getElem _
    have ga' : a.xs[((n : Int)).toNat]? = some (a.xs[n]'(by omega)) := by simpa using ga
    have gb' : b.xs[((n : Int)).toNat]? = some (b.xs[n]'(by omega)) := by simpa using gb
    rw [e]
    have hc := cmp_u32 (a.xs[n]'(by omega)) (b.xs[n]'(by omega))
    rcases Int.lt_trichotomy (a.xs[n]'(by omega)) (b.xs[n]'(by omega)) with h | h | h
    · have hv := val_top ha hb hl ga gb hd h
      have : cmpI (a.xs[n]'(by omega)) (b.xs[n]'(by omega)) = -1 := by unfold cmpI; rw [if_pos h]
      rw [this] at hc
      exact .inr (.inl ⟨hv, nat_compare_l0_e0 (by omega) (by omega) ga' gb' hc (by decide)⟩)
    · have : cmpI (a.xs[n]'(by omega)) (b.xs[n]'(by omega)) = 0 := cmpI_eq.2 h
      rw [this] at hc
      have hd' : a.xs.drop n = b.xs.drop n := by
        rw [List.drop_eq_getElem_cons (l := a.xs) (i := n) (by omega), List.drop_eq_getElem_cons (l := b.xs) (i := n) (by omega), hd, h]
      have st := fun {r_} (k : nat_compare_l0 a b ((n : Int) - 1) r_) => nat_compare_l0_s1 (i := (n : Int)) (by omega) (by omega) ga' gb' hc rfl (in64 (by omega) (by omega)) k
      rcases compare_loop hf ha hb hl n (by omega) hd' with ⟨h1, z, h2⟩ | ⟨h1, h2⟩ | ⟨h1, h2⟩
      · exact .inl ⟨h1, z, st h2⟩
      · exact .inr (.inl ⟨h1, st h2⟩)
      · exact .inr (.inr ⟨h1, st h2⟩)
    · have hv := val_top hb ha hl.symm gb ga hd.symm h
      have : cmpI (a.xs[n]'(by omega)) (b.xs[n]'(by omega)) = 1 := by unfold cmpI; rw [if_neg (by omega), if_pos h]
      rw [this] at hc
      exact .inr (.inr ⟨hv, nat_compare_l0_e0 (by omega) (by omega) ga' gb' hc (by decide)⟩)
theorem compare_run {a b : SL Int} (hfa : few a.xs) (hfb : few b.xs) (ha : isNum a.xs) (hb : isNum b.xs) : nat_compare a b (cmpI (val a.xs) (val b.xs)) := by
  have hfa' := hfa
  have hfb' := hfb
  unfold few at hfa' hfb'
  have hc := cmp_int (a.xs.length : Int) (b.xs.length : Int)
  rcases Nat.lt_trichotomy a.xs.length b.xs.length with h | h | h
  · have hv := val_len_lt ha hb h
    have e1 : cmpI (a.xs.length : Int) (b.xs.length : Int) = -1 := by unfold cmpI; rw [if_pos (by omega)]
    have e2 : cmpI (val a.xs) (val b.xs) = -1 := by unfold cmpI; rw [if_pos hv]
    rw [e1] at hc
    rw [e2]
    exact nat_compare_r0 hc (by decide)
  · have e1 : cmpI (a.xs.length : Int) (b.xs.length : Int) = 0 := cmpI_eq.2 (by omega)
    rw [e1] at hc
    have w1 : w64 ((a.xs.length : Int) - 1) := in64 (by omega) (by omega)
    rcases compare_loop hfa ha.1 hb.1 h a.xs.length (Nat.le_refl _) (by rw [List.drop_length, h, List.drop_length]) with ⟨h1, z, h2⟩ | ⟨h1, h2⟩ | ⟨h1, h2⟩
    · have e2 : cmpI (val a.xs) (val b.xs) = 0 := cmpI_eq.2 (by rw [h1])
      rw [e2]
      exact nat_compare_r2 hc rfl w1 h2
    · have e2 : cmpI (val a.xs) (val b.xs) = -1 := by unfold cmpI; rw [if_pos h1]
      rw [e2]
      exact nat_compare_r1 hc rfl w1 h2
    · have e2 : cmpI (val a.xs) (val b.xs) = 1 := by unfold cmpI; rw [if_neg (by omega), if_pos h1]
      rw [e2]
      exact nat_compare_r1 hc rfl w1 h2
  · have hv := val_len_lt hb ha h
    have e1 : cmpI (a.xs.length : Int) (b.xs.length : Int) = 1 := by unfold cmpI; rw [if_neg (by omega), if_pos (by omega)]
    have e2 : cmpI (val a.xs) (val b.xs) = 1 := by unfold cmpI; rw [if_neg (by omega), if_pos hv]
    rw [e1] at hc
    rw [e2]
    exact nat_compare_r0 hc (by decide)
/-! ### Same limbs -/
theorem same_loop {a b : SL Int} (hf : few a.xs) (h : a.xs = b.xs) : ∀ (rest : List Int) (k : Nat), a.xs.drop k = rest → ∃ z, ref02_Same_l0 a b k (ref02_Same_l0_x1 a b z)
  | [], k, hd => ⟨k, ref02_Same_l0_e2 (by have := drop_nil_le hd; omega)⟩
  | y :: rest, k, hd => by
    obtain ⟨h1, h2, h3⟩ := at_drop hd
    unfold few at hf
    obtain ⟨z, h4⟩ := same_loop (by unfold few; exact hf) h rest (k + 1) h2
    exact ⟨z, ref02_Same_l0_s1 (by omega) (by omega) h1 (by rw [← h]; exact h1) rfl (w64k (by omega)) h4⟩
theorem same_true {a b : SL Int} (hf : few a.xs) (h : a.xs = b.xs) : ref02_Same a b true := by
  obtain ⟨z, h4⟩ := same_loop hf h a.xs 0 List.drop_zero
  exact ref02_Same_r2 (by rw [h]) h4
/-! ### Limb by limb -/
theorem limb_run {a : SL Int} {i : Nat} : nat_limb a i (limb a.xs i) := by
  by_cases c : i < a.xs.length
  · have h : a.xs[i]? = some (a.xs[i]'c) := List.getElem?_eq_getElem _
    rw [limb_some h]
    exact nat_limb_r0 (by omega) (by omega) (by simpa using h)
  · rw [limb_none (by omega)]
    exact nat_limb_r1 (by omega)
/-- Noughts from a place on. -/
def tailZ (l : List Int) (i : Nat) : Prop := ∀ j x, i ≤ j → l[j]? = some x → x = 0
theorem tailZ_zeros (n i : Nat) : tailZ (List.replicate n 0) i := fun j x _ h => by
  have := List.mem_of_getElem? h
  exact List.eq_of_mem_replicate this
theorem tailZ_set {l : List Int} {i j : Nat} {v : Int} (h : tailZ l i) (hj : j < i) : tailZ (l.set j v) i := fun k x hk hx => by
  rw [List.getElem?_set_ne (by omega)] at hx
  exact h k x hk hx
theorem tailZ_mono {l : List Int} {i j : Nat} (h : tailZ l i) (hij : i ≤ j) : tailZ l j := fun k x hk hx => h k x (by omega) hx
theorem trim_limbs {l : List Int} (hf : wide l) (hl : limbs l) (t : Bool) : ∃ q : SL Int, nat_trim ⟨1, l, t⟩ q ∧ isNum q.xs ∧ val q.xs = val l ∧ q.xs.length ≤ l.length := by
  refine ⟨_, trim_run (a := ⟨1, l, t⟩) hf, isNum_trim hl, val_trim l, ?_⟩
  show (trimL l).length ≤ l.length
  obtain ⟨m, _, h2, h3⟩ := trim_loop (a := ⟨1, l, t⟩) hf l.length (Nat.le_refl _) (fun i x hi hx => by
    have : l[i]? = some x := hx
    rw [List.getElem?_eq_none hi] at this; cases this)
  have h3' : l.take m = trimL l := h3
  rw [← h3', List.length_take]
  omega
theorem few_u32 {z : Int} (h0 : 0 ≤ z) (h1 : z < 4294967296) : wk .u32 z := inU32 h0 h1
theorem add_one {x y c : Int} (hx : 0 ≤ x ∧ x < 1000000000) (hy : 0 ≤ y ∧ y < 1000000000) (hc : c = 0 ∨ c = 1) : ∃ s c', nat_Add_f1 x y c s c' ∧ (0 ≤ s ∧ s < 1000000000) ∧ (c' = 0 ∨ c' = 1) ∧ s + 1000000000 * c' = x + y + c := by
  have w1 : wk .u32 (x + y) := inU32 (by omega) (by omega)
  have w2 : wk .u32 (x + y + c) := inU32 (by omega) (by omega)
  by_cases h : x + y + c ≥ 1000000000
  · exact ⟨_, _, nat_Add_f1_r0 w1 w2 h (inU32 (by omega) (by omega)), by omega, .inr rfl, by omega⟩
  · exact ⟨_, _, nat_Add_f1_r1 w1 w2 h, by omega, .inl rfl, by omega⟩
theorem sub_one {x y c : Int} (hx : 0 ≤ x ∧ x < 1000000000) (hy : 0 ≤ y ∧ y < 1000000000) (hc : c = 0 ∨ c = 1) : ∃ s c', nat_less_f1 x y c s c' ∧ (0 ≤ s ∧ s < 1000000000) ∧ (c' = 0 ∨ c' = 1) ∧ s - 1000000000 * c' = x - y - c := by
  have w1 : wk .u32 (y + c) := inU32 (by omega) (by omega)
  by_cases h : x < y + c
  · exact ⟨_, _, nat_less_f1_r0 w1 h (inU32 (by omega) (by omega)) (inU32 (by omega) (by omega)), by omega, .inr rfl, by omega⟩
  · exact ⟨_, _, nat_less_f1_r1 w1 h (inU32 (by omega) (by omega)), by omega, .inl rfl, by omega⟩
theorem add_loop {a b : SL Int} {n : Nat} (hn : n < 2000000000000) (ha : limbs a.xs) (hb : limbs b.xs) : ∀ (m : Nat) (i : Nat) (out : List Int) (c : Int), n - i = m → i ≤ n → out.length = n → limbs out → tailZ out i → (c = 0 ∨ c = 1) → val out + 1000000000 ^ i * c = val (a.xs.take i) + val (b.xs.take i) →
    ∃ out' c' z, nat_zip_l0 out a b true n c (n : Int) i (nat_zip_l0_x0 out' a b true n c' (n : Int) z) ∧ out'.length = n ∧ limbs out' ∧ (c' = 0 ∨ c' = 1) ∧ val out' + 1000000000 ^ n * c' = val (a.xs.take n) + val (b.xs.take n)
  | 0, i, out, c, hm, hi, hl, ho, ht, hc, hv => by
    have : i = n := by omega
    subst this
    exact ⟨out, c, i, nat_zip_l0_e1 (by omega), hl, ho, hc, hv⟩
  | m + 1, i, out, c, hm, hi, hl, ho, ht, hc, hv => by
    have hlt : i < n := by omega
    obtain ⟨s, c', h1, h2, h3, h4⟩ := add_one (limb_bound ha i) (limb_bound hb i) hc
    have hg : out[i]? = some (out[i]'(by omega)) := List.getElem?_eq_getElem _
    have h0 := ht i _ (Nat.le_refl _) hg
    rw [h0] at hg
    have hv' : val (out.set i s) + 1000000000 ^ (i + 1) * c' = val (a.xs.take (i + 1)) + val (b.xs.take (i + 1)) := by
      rw [take_lim, take_lim, val_set s hg, powB_succ]
      have : limb a.xs i = s + 1000000000 * c' - limb b.xs i - c := by omega
      rw [this]
      grind
    obtain ⟨out', c'', z, g1, g2, g3, g4, g5⟩ := add_loop hn ha hb m (i + 1) (out.set i s) c' (by omega) (by omega) (by simpa using hl) (limbs_set ho h2.1 h2.2) (by
      refine fun j x hj hx => ?_
      rw [List.getElem?_set_ne (by omega)] at hx
      exact ht j x (by omega) hx) h3 hv'
    exact ⟨out', c'', z, nat_zip_l0_s0 (by omega) limb_run limb_run h1 (by omega) (by simpa using hg) (by simpa using hlt) (w64k (by omega)) (by simpa using g1), g2, g3, g4, g5⟩
theorem few_max {a b : SL Int} (hfa : few a.xs) (hfb : few b.xs) : max (a.xs.length : Int) (b.xs.length : Int) + 1 = ((max a.xs.length b.xs.length + 1 : Nat) : Int) := by omega
theorem add_run {a b : SL Int} (hfa : few a.xs) (hfb : few b.xs) (ha : isNum a.xs) (hb : isNum b.xs) : ∃ q : SL Int, nat_Add a b q 0 ∧ isNum q.xs ∧ val q.xs = val a.xs + val b.xs ∧ q.xs.length ≤ max a.xs.length b.xs.length + 1 := by
  have e := few_max hfa hfb
  generalize hn : max a.xs.length b.xs.length + 1 = n at e
  have hfa' := hfa
  have hfb' := hfb
  unfold few at hfa' hfb'
  obtain ⟨out, c, z, g1, g2, g3, g4, g5⟩ := add_loop (a := a) (b := b) (n := n) (by omega) ha.1 hb.1 n 0 (List.replicate n 0) 0 (by omega) (by omega) (by simp) (limbs_zeros n) (tailZ_zeros n 0) (.inl rfl) (by rw [val_zeros]; simp [val])
  rw [List.take_of_length_le (by omega), List.take_of_length_le (by omega)] at g5
  have hc : c = 0 := by
    rcases g4 with h | h
    · exact h
    · subst h
      exfalso
      have h1 := val_lt ha.1
      have h2 := val_lt hb.1
      have h3 := powB_le (show a.xs.length ≤ n - 1 by omega)
      have h4 := powB_le (show b.xs.length ≤ n - 1 by omega)
      have h5 := powB_succ (n - 1)
      rw [show n - 1 + 1 = n by omega] at h5
      have h6 := val_nonneg g3
      have h7 := powB_pos (n - 1)
      omega
  subst hc
  obtain ⟨q, k1, k2, k3, k4⟩ := trim_limbs (l := out) (by unfold wide; omega) g3 true
  refine ⟨q, nat_Add_r1 (both_true hfa ha hfb hb) rfl ?_, k2, by rw [k3]; omega, by omega⟩
  have ht : ((n : Int)).toNat = n := by omega
  refine nat_zip_r0 (z0 := out) (z1 := 0) (z2 := z) ?_ ?_ ?_ ?_ ?_ ?_
  · rw [e]; exact in64 (by omega) (by omega)
  · omega
  · omega
  · rw [e, ht]; exact g1
  · rw [e, ht]; omega
  · rw [e, ht, ← g2, List.take_length]; exact k1
theorem sub_loop {a b : SL Int} {n : Nat} (hn : n < 2000000000000) (ha : limbs a.xs) (hb : limbs b.xs) : ∀ (m : Nat) (i : Nat) (out : List Int) (c : Int), n - i = m → i ≤ n → out.length = n → limbs out → tailZ out i → (c = 0 ∨ c = 1) → val out - 1000000000 ^ i * c = val (a.xs.take i) - val (b.xs.take i) →
    ∃ out' c' z, nat_zip_v1_l0 out a b true n c (n : Int) i (nat_zip_v1_l0_x0 out' a b true n c' (n : Int) z) ∧ out'.length = n ∧ limbs out' ∧ (c' = 0 ∨ c' = 1) ∧ val out' - 1000000000 ^ n * c' = val (a.xs.take n) - val (b.xs.take n)
  | 0, i, out, c, hm, hi, hl, ho, ht, hc, hv => by
    have : i = n := by omega
    subst this
    exact ⟨out, c, i, nat_zip_v1_l0_e1 (by omega), hl, ho, hc, hv⟩
  | m + 1, i, out, c, hm, hi, hl, ho, ht, hc, hv => by
    have hlt : i < n := by omega
    obtain ⟨s, c', h1, h2, h3, h4⟩ := sub_one (limb_bound ha i) (limb_bound hb i) hc
    have hg : out[i]? = some (out[i]'(by omega)) := List.getElem?_eq_getElem _
    have h0 := ht i _ (Nat.le_refl _) hg
    rw [h0] at hg
    have hv' : val (out.set i s) - 1000000000 ^ (i + 1) * c' = val (a.xs.take (i + 1)) - val (b.xs.take (i + 1)) := by
      rw [take_lim, take_lim, val_set s hg, powB_succ]
      have : limb a.xs i = s - 1000000000 * c' + limb b.xs i + c := by omega
      rw [this]
      grind
    obtain ⟨out', c'', z, g1, g2, g3, g4, g5⟩ := sub_loop hn ha hb m (i + 1) (out.set i s) c' (by omega) (by omega) (by simpa using hl) (limbs_set ho h2.1 h2.2) (by
      refine fun j x hj hx => ?_
      rw [List.getElem?_set_ne (by omega)] at hx
      exact ht j x (by omega) hx) h3 hv'
    exact ⟨out', c'', z, nat_zip_v1_l0_s0 (by omega) limb_run limb_run h1 (by omega) (by simpa using hg) (by simpa using hlt) (w64k (by omega)) (by simpa using g1), g2, g3, g4, g5⟩
theorem sub_run {a b : SL Int} (hfa : few a.xs) (hfb : few b.xs) (ha : isNum a.xs) (hb : isNum b.xs) (hle : val b.xs ≤ val a.xs) : ∃ q : SL Int, nat_Sub a b q 0 ∧ isNum q.xs ∧ val q.xs = val a.xs - val b.xs ∧ q.xs.length ≤ max a.xs.length b.xs.length + 1 := by
  have e := few_max hfa hfb
  generalize hn : max a.xs.length b.xs.length + 1 = n at e
  have hfa' := hfa
  have hfb' := hfb
  unfold few at hfa' hfb'
  obtain ⟨out, c, z, g1, g2, g3, g4, g5⟩ := sub_loop (a := a) (b := b) (n := n) (by omega) ha.1 hb.1 n 0 (List.replicate n 0) 0 (by omega) (by omega) (by simp) (limbs_zeros n) (tailZ_zeros n 0) (.inl rfl) (by rw [val_zeros]; simp [val])
  rw [List.take_of_length_le (by omega), List.take_of_length_le (by omega)] at g5
  have hc : c = 0 := by
    rcases g4 with h | h
    · exact h
    · subst h
      exfalso
      have h1 := val_lt g3
      rw [g2] at h1
      omega
  subst hc
  obtain ⟨q, k1, k2, k3, k4⟩ := trim_limbs (l := out) (by unfold wide; omega) g3 true
  refine ⟨q, nat_Sub_r2 (both_true hfa ha hfb hb) rfl (compare_run hfa hfb ha hb) (by rw [cmpI_lt]; omega) (nat_less_r0 ?_), k2, by rw [k3]; omega, by omega⟩
  have ht : ((n : Int)).toNat = n := by omega
  refine nat_zip_v1_r0 (z0 := out) (z1 := 0) (z2 := z) ?_ ?_ ?_ ?_ ?_ ?_
  · rw [e]; exact in64 (by omega) (by omega)
  · omega
  · omega
  · rw [e, ht]; exact g1
  · rw [e, ht]; omega
  · rw [e, ht, ← g2, List.take_length]; exact k1
end Go.Proofs.YtlijicnknhopkaaDoor.V

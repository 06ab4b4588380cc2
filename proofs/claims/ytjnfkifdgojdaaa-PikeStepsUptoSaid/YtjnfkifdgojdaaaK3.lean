/- Contracts: what a state lets through; the states at a place, by the program. -/
import Derived.Test.YtjnfkifdgojdaaaVP
import Derived.Test.YtjnfkifdgojdaaaK1
import Derived.Test.YtjnfkifdgojdaaaK2
namespace Go.Proofs.Ytjnfkifdgojdaaa.V
open Go
set_option linter.unusedVariables false
set_option linter.unnecessarySimpa false
set_option linter.unusedSimpArgs false
set_option linter.unusedSectionVars false
def wordB (p : Int) : Bool := decide ((48 ≤ p ∧ p ≤ 57) ∨ p = 95 ∨ (97 ≤ bitOr .i64 p 32 ∧ bitOr .i64 p 32 ≤ 122 ∧ p < 128))
theorem word_run (p : Int) : pike_Word p (wordB p) := by
  have t : ∀ {b : Bool}, ((48 ≤ p ∧ p ≤ 57) ∨ p = 95 ∨ (97 ≤ bitOr .i64 p 32 ∧ bitOr .i64 p 32 ≤ 122 ∧ p < 128)) → pike_Word p true → pike_Word p (wordB p) := fun h k => by unfold wordB; rw [decide_eq_true h]; exact k
  have f : ¬ ((48 ≤ p ∧ p ≤ 57) ∨ p = 95 ∨ (97 ≤ bitOr .i64 p 32 ∧ bitOr .i64 p 32 ≤ 122 ∧ p < 128)) → pike_Word p false → pike_Word p (wordB p) := fun h k => by unfold wordB; rw [decide_eq_false h]; exact k
  by_cases h0 : p ≥ 48
  · by_cases h1 : p ≤ 57
    · exact t (b := true) (by omega) (pike_Word_r0 h0 h1)
    · by_cases h2 : p = 95
      · exact t (b := true) (by omega) (pike_Word_r1 h0 h1 h2)
      · by_cases h3 : bitOr .i64 p 32 ≥ 97
        · by_cases h4 : bitOr .i64 p 32 ≤ 122
          · by_cases h5 : p < 128
            · exact t (b := true) (by omega) (pike_Word_r2 h0 h1 h2 h3 h4 h5)
            · exact f (by omega) (pike_Word_r3 h0 h1 h2 h3 h4 h5)
          · exact f (by omega) (pike_Word_r4 h0 h1 h2 h3 h4)
        · exact f (by omega) (pike_Word_r5 h0 h1 h2 h3)
  · by_cases h2 : p = 95
    · exact t (b := true) (by omega) (pike_Word_r6 h0 h2)
    · by_cases h3 : bitOr .i64 p 32 ≥ 97
      · by_cases h4 : bitOr .i64 p 32 ≤ 122
        · by_cases h5 : p < 128
          · exact t (b := true) (by omega) (pike_Word_r7 h0 h2 h3 h4 h5)
          · exact f (by omega) (pike_Word_r8 h0 h2 h3 h4 h5)
        · exact f (by omega) (pike_Word_r9 h0 h2 h3 h4)
      · exact f (by omega) (pike_Word_r10 h0 h2 h3)
def aheadB (s : List Int) : Nat → Bool
  | 0 => false
  | k + 1 => match s[k]? with
    | some y => wordB y
    | none => false
def behindB (s : List Int) (k : Nat) : Bool := match s[k]? with
  | some y => wordB y
  | none => false
def borderB (s : List Int) (k : Nat) : Bool := aheadB s k != behindB s k
theorem border_run {r : pike_run} {k : Nat} (hk : k ≤ r.s_.xs.length) (hs : r.s_.xs.length < 1000000000000) : pike_run_border r k (borderB r.s_.xs k) := by
  unfold borderB
  have hbe : ∀ {y : Int}, r.s_.xs[k]? = some y → behindB r.s_.xs k = wordB y := fun h => by unfold behindB; rw [h]
  have hbn : ¬ k < r.s_.xs.length → behindB r.s_.xs k = false := fun h => by unfold behindB; rw [List.getElem?_eq_none (by omega)]
  cases k with
  | zero =>
    by_cases h1 : 0 < r.s_.xs.length
    · obtain ⟨y, hy⟩ : ∃ y, r.s_.xs[0]? = some y := ⟨_, List.getElem?_eq_getElem h1⟩
      rw [hbe hy]
      have hw := word_run y
      cases hb : wordB y with
      | true => rw [hb] at hw; exact pike_run_border_r6 (by omega) (by omega) (by omega) hy hw
      | false => rw [hb] at hw; exact pike_run_border_r7 (by omega) (by omega) (by omega) hy hw
    · rw [hbn h1]
      exact pike_run_border_r8 (by omega) (by omega)
  | succ j =>
    obtain ⟨x, hx⟩ : ∃ x, r.s_.xs[j]? = some x := ⟨_, List.getElem?_eq_getElem (by omega)⟩
    have ha : aheadB r.s_.xs (j + 1) = wordB x := by simp only [aheadB, hx]
    have e1 : (((j + 1 : Nat) : Int) - 1).toNat = j := by omega
    have hx' : r.s_.xs[(((j + 1 : Nat) : Int) - 1).toNat]? = some x := by rw [e1]; exact hx
    have wx := word_run x
    have w1 : w64 (((j + 1 : Nat) : Int) - 1) := in64 (by omega) (by omega)
    rw [ha]
    by_cases h1 : j + 1 < r.s_.xs.length
    · obtain ⟨y, hy⟩ : ∃ y, r.s_.xs[j + 1]? = some y := ⟨_, List.getElem?_eq_getElem h1⟩
      rw [hbe hy]
      have hy' : r.s_.xs[((j + 1 : Nat) : Int).toNat]? = some y := by rw [Int.toNat_natCast]; exact hy
      have wy := word_run y
      cases hb : wordB x <;> cases hc : wordB y <;> rw [hb] at wx <;> rw [hc] at wy
      · exact pike_run_border_r4 (by omega) w1 (by omega) hx' wx (by omega) (by omega) hy' wy
      · exact pike_run_border_r3 (by omega) w1 (by omega) hx' wx (by omega) (by omega) hy' wy
      · exact pike_run_border_r1 (by omega) w1 (by omega) hx' wx (by omega) (by omega) hy' wy
      · exact pike_run_border_r0 (by omega) w1 (by omega) hx' wx (by omega) (by omega) hy' wy
    · rw [hbn h1]
      cases hb : wordB x <;> rw [hb] at wx
      · exact pike_run_border_r5 (by omega) w1 (by omega) hx' wx (by omega)
      · exact pike_run_border_r2 (by omega) w1 (by omega) hx' wx (by omega)
def letsB (s : List Int) (k : Int) (i : Nat) : Bool :=
  if k = 2 then true else if k = 3 then decide (i = 0) else if k = 4 then decide (i = s.length) else if k = 5 then borderB s i else if k = 6 then !borderB s i else false
theorem lets_run {r : pike_run} {i : Nat} (k : Int) (hk : i ≤ r.s_.xs.length) (hs : r.s_.xs.length < 1000000000000) : pike_run_lets r k i (letsB r.s_.xs k i) := by
  have hb := border_run hk hs
  unfold letsB
  by_cases h2 : k = 2
  · rw [if_pos h2]; exact pike_run_lets_r0 h2
  · rw [if_neg h2]
    by_cases h3 : k = 3
    · rw [if_pos h3]
      by_cases h : i = 0
      · rw [decide_eq_true h]; exact pike_run_lets_r1 h2 h3 (by omega)
      · rw [decide_eq_false h]; exact pike_run_lets_r2 h2 h3 (by omega)
    · rw [if_neg h3]
      by_cases h4 : k = 4
      · rw [if_pos h4]
        by_cases h : i = r.s_.xs.length
        · rw [decide_eq_true h]; exact pike_run_lets_r3 h2 h3 h4 (by omega)
        · rw [decide_eq_false h]; exact pike_run_lets_r4 h2 h3 h4 (by omega)
      · rw [if_neg h4]
        by_cases h5 : k = 5
        · rw [if_pos h5]
          cases hbb : borderB r.s_.xs i <;> rw [hbb] at hb
          · exact pike_run_lets_r6 h2 h3 h4 h5 hb
          · exact pike_run_lets_r5 h2 h3 h4 h5 hb
        · rw [if_neg h5]
          by_cases h6 : k = 6
          · rw [if_pos h6]
            cases hbb : borderB r.s_.xs i <;> rw [hbb] at hb
            · exact pike_run_lets_r8 h2 h3 h4 h5 h6 hb
            · exact pike_run_lets_r7 h2 h3 h4 h5 h6 hb
          · rw [if_neg h6]
            exact pike_run_lets_r9 h2 h3 h4 h5 h6
/-! ### The states at a place -/
inductive TD where
  | d (s : SL Int)
  | r (l : List Int) (t : Bool) (n : Nat)
def TD.xs : TD → List Int
  | .d s => s.xs
  | .r l _ n => l.take n
def TD.ok : TD → Prop
  | .d _ => True
  | .r l _ n => n ≤ l.length
def SP (r : pike_run) (i : Int) (seen : List (Int × Int)) (all : List Int) (allt done : Bool) : TD → Ex × XSt → Prop
  | .d s, e => pike_run_spread_l0 seen all r i allt all.length done s e
  | .r l t n, e => pike_run_spread_l0_b seen all l r i allt all.length done t n e
theorem snoc_get {l xs : List Int} {x : Int} (h : l = xs ++ [x]) : (l.length : Int) > 0 ∧ 0 ≤ (l.length : Int) - 1 ∧ l[((l.length : Int) - 1).toNat]? = some x ∧ l.take (((l.length : Int) - 1).toNat) = xs ∧ ((l.length : Int) - 1).toNat = xs.length := by
  subst h
  have e : (((xs ++ [x]).length : Nat) : Int) - 1 = xs.length := by simp
  rw [e, Int.toNat_natCast]
  exact ⟨by simp; try omega, by omega, by simp, by simp, rfl⟩
theorem take_get {l xs : List Int} {x : Int} {n : Nat} (hn : n ≤ l.length) (h : l.take n = xs ++ [x]) : (n : Int) > 0 ∧ 0 ≤ (n : Int) - 1 ∧ l[((n : Int) - 1).toNat]? = some x ∧ l.take (((n : Int) - 1).toNat) = xs ∧ ((n : Int) - 1).toNat = xs.length := by
  have hl : n = xs.length + 1 := by
    have := congrArg List.length h
    simp at this
    omega
  subst hl
  have e : ((xs.length + 1 : Nat) : Int) - 1 = xs.length := by omega
  rw [e, Int.toNat_natCast]
  refine ⟨by omega, by omega, ?_, ?_, rfl⟩
  · have : (l.take (xs.length + 1))[xs.length]? = some x := by rw [h]; simp
    rw [List.getElem?_take_of_lt (by omega)] at this
    exact this
  · have : (l.take (xs.length + 1)).take xs.length = xs := by rw [h]; simp
    rw [List.take_take, Nat.min_eq_left (by omega)] at this
    exact this
theorem tdr (l : List Int) (t : Bool) : (TD.r l t l.length).xs = l := List.take_length ..
theorem sp_skip {r : pike_run} {i : Int} {seen : List (Int × Int)} {all : List Int} {allt done : Bool} {T : TD} {xs : List Int} {x v : Int} (hok : T.ok) (hx : T.xs = xs ++ [x]) (hf : mfind x seen = some v) (hv : v > 0) (hb : xs.length < 1000000000000) :
    ∃ T' : TD, T'.ok ∧ T'.xs = xs ∧ ∀ e, SP r i seen all allt done T' e → SP r i seen all allt done T e := by
  cases T with
  | d s =>
    have hx' : s.xs = xs ++ [x] := hx
    obtain ⟨h1, h2, h3, h4, h5⟩ := snoc_get hx'
    have w : w64 ((s.xs.length : Int) - 1) := in64 (by omega) (by omega)
    refine ⟨.d ⟨1, s.xs.take (((s.xs.length : Int) - 1).toNat), true⟩, trivial, h4, fun e h => ?_⟩
    cases done with
    | true => exact pike_run_spread_l0_s0 h1 w h2 h3 (by omega) hf hv h
    | false => exact pike_run_spread_l0_s10 h1 w h2 h3 (by omega) hf hv h
  | r l t n =>
    have hx' : l.take n = xs ++ [x] := hx
    have hok0 : n ≤ l.length := hok
    obtain ⟨h1, h2, h3, h4, h5⟩ := take_get hok0 hx'
    have w : w64 ((n : Int) - 1) := in64 (by omega) (by omega)
    have hok' : n ≤ l.length := hok
    refine ⟨.r l true (((n : Int) - 1).toNat), by show _ ≤ _; omega, h4, fun e h => ?_⟩
    cases done with
    | true => exact pike_run_spread_l0_b_s24 h1 w h2 h3 (by omega) (by omega) hf hv h
    | false => exact pike_run_spread_l0_b_s34 h1 w h2 h3 (by omega) (by omega) hf hv h
def kFork (k : Int) (b : Int) : List Int := if k = 2 then [b] else []
def kGo (b : Bool) (a : Int) : List Int := if b = true then [a] else []
theorem sp_new {r : pike_run} {i : Int} {seen : List (Int × Int)} {all : List Int} {allt done : Bool} {T : TD} {xs : List Int} {x : Int} {st : State} {b : Bool} (hok : T.ok) (hx : T.xs = xs ++ [x]) (hf : mfind x seen = none) (h0 : 0 ≤ x) (hst : r.l_.xs[x.toNat]? = some st) (hL : pike_run_lets r st.Kind i b)
    (h7 : st.Kind = 7 → b = false) (hb : xs.length < 1000000000000) (ha : all.length < 1000000000000) :
    ∃ (T' : TD) (allt' : Bool), T'.ok ∧ T'.xs = xs ++ (kGo b st.A ++ kFork st.Kind st.B) ∧ ∀ e, SP r i (mput x 1 seen) (all ++ [x]) allt' (done || decide (st.Kind = 7)) T' e → SP r i seen all allt done T e := by
  have hal : (all.length + 1) * 8 ≤ 140737488355328 := by omega
  have tk : all.take all.length = all := List.take_length ..
  cases T with
  | d s =>
    have hx' : s.xs = xs ++ [x] := hx
    obtain ⟨h1, h2, h3, h4, h5⟩ := snoc_get hx'
    have w : w64 ((s.xs.length : Int) - 1) := in64 (by omega) (by omega)
    have hn : ((s.xs.length : Int) - 1).toNat ≤ s.xs.length := by omega
    have b1 : ((s.xs.take (((s.xs.length : Int) - 1).toNat)).length + 1) * 8 ≤ 140737488355328 := by rw [h4]; omega
    have b2 : ∀ y : Int, (((s.xs.take (((s.xs.length : Int) - 1).toNat)) ++ [y]).length + 1) * 8 ≤ 140737488355328 := fun y => by rw [h4]; simp; omega
    cases done with
    | true =>
      cases b with
      | true =>
        by_cases k2 : st.Kind = 2
        · refine ⟨.r (((s.xs.take (((s.xs.length : Int) - 1).toNat)) ++ [st.A]) ++ [st.B]) false _, false, Nat.le_refl _, ?_, fun e h => pike_run_spread_l0_s5 h1 w h2 h3 hn hf hal (Nat.le_refl _) h0 hst hL b1 k2 (b2 _) ?_⟩
          · rw [tdr, h4]; simp [kGo, kFork, k2]
          · rw [tk]; exact h
        · refine ⟨.r ((s.xs.take (((s.xs.length : Int) - 1).toNat)) ++ [st.A]) false _, false, Nat.le_refl _, ?_, fun e h => pike_run_spread_l0_s6 h1 w h2 h3 hn hf hal (Nat.le_refl _) h0 hst hL b1 k2 ?_⟩
          · rw [tdr, h4]; simp [kGo, kFork, k2]
          · rw [tk]; exact h
      | false =>
        by_cases k2 : st.Kind = 2
        · refine ⟨.r ((s.xs.take (((s.xs.length : Int) - 1).toNat)) ++ [st.B]) false _, false, Nat.le_refl _, ?_, fun e h => pike_run_spread_l0_s7 h1 w h2 h3 hn hf hal (Nat.le_refl _) h0 hst hL k2 b1 ?_⟩
          · rw [tdr, h4]; simp [kGo, kFork, k2]
          · rw [tk]; exact h
        · refine ⟨.d ⟨1, s.xs.take (((s.xs.length : Int) - 1).toNat), true⟩, false, trivial, ?_, fun e h => pike_run_spread_l0_s8 h1 w h2 h3 hn hf hal (Nat.le_refl _) h0 hst hL k2 ?_⟩
          · show s.xs.take _ = _; rw [h4]; simp [kGo, kFork, k2]
          · rw [tk]; exact h
    | false =>
      by_cases k7 : st.Kind = 7
      · have := h7 k7
        subst this
        refine ⟨.d ⟨1, s.xs.take (((s.xs.length : Int) - 1).toNat), true⟩, false, trivial, ?_, fun e h => pike_run_spread_l0_s18 h1 w h2 h3 hn hf hal (Nat.le_refl _) h0 hst k7 hL ?_⟩
        · show s.xs.take _ = _; rw [h4]; simp [kGo, kFork, k7]
        · rw [tk]; rw [decide_eq_true k7] at h; exact h
      · have kd : (false || decide (st.Kind = 7)) = false := by simp [k7]
        rw [kd]
        cases b with
        | true =>
          by_cases k2 : st.Kind = 2
          · refine ⟨.r (((s.xs.take (((s.xs.length : Int) - 1).toNat)) ++ [st.A]) ++ [st.B]) false _, false, Nat.le_refl _, ?_, fun e h => pike_run_spread_l0_s19 h1 w h2 h3 hn hf hal (Nat.le_refl _) h0 hst k7 hL b1 k2 (b2 _) ?_⟩
            · rw [tdr, h4]; simp [kGo, kFork, k2]
            · rw [tk]; exact h
          · refine ⟨.r ((s.xs.take (((s.xs.length : Int) - 1).toNat)) ++ [st.A]) false _, false, Nat.le_refl _, ?_, fun e h => pike_run_spread_l0_s20 h1 w h2 h3 hn hf hal (Nat.le_refl _) h0 hst k7 hL b1 k2 ?_⟩
            · rw [tdr, h4]; simp [kGo, kFork, k2]
            · rw [tk]; exact h
        | false =>
          by_cases k2 : st.Kind = 2
          · refine ⟨.r ((s.xs.take (((s.xs.length : Int) - 1).toNat)) ++ [st.B]) false _, false, Nat.le_refl _, ?_, fun e h => pike_run_spread_l0_s21 h1 w h2 h3 hn hf hal (Nat.le_refl _) h0 hst k7 hL k2 b1 ?_⟩
            · rw [tdr, h4]; simp [kGo, kFork, k2]
            · rw [tk]; exact h
          · refine ⟨.d ⟨1, s.xs.take (((s.xs.length : Int) - 1).toNat), true⟩, false, trivial, ?_, fun e h => pike_run_spread_l0_s22 h1 w h2 h3 hn hf hal (Nat.le_refl _) h0 hst k7 hL k2 ?_⟩
            · show s.xs.take _ = _; rw [h4]; simp [kGo, kFork, k2]
            · rw [tk]; exact h
  | r l t n =>
    have hx' : l.take n = xs ++ [x] := hx
    have hok0 : n ≤ l.length := hok
    obtain ⟨h1, h2, h3, h4, h5⟩ := take_get hok0 hx'
    have hok' : n ≤ l.length := hok
    have w : w64 ((n : Int) - 1) := in64 (by omega) (by omega)
    have hn1 : ((n : Int) - 1).toNat < n := by omega
    have hn : ((n : Int) - 1).toNat ≤ n := by omega
    have hnl : ((n : Int) - 1).toNat ≤ l.length := by omega
    have b1 : (((n : Int) - 1).toNat + 1) * 8 ≤ 140737488355328 := by omega
    have b2 : ∀ y : Int, ((l.take (((n : Int) - 1).toNat) ++ [y]).length + 1) * 8 ≤ 140737488355328 := fun y => by rw [h4]; simp; omega
    cases done with
    | true =>
      cases b with
      | true =>
        by_cases k2 : st.Kind = 2
        · refine ⟨.r ((l.take (((n : Int) - 1).toNat) ++ [st.A]) ++ [st.B]) false _, false, Nat.le_refl _, ?_, fun e h => pike_run_spread_l0_b_s29 h1 w h2 h3 hn1 hn hf hal (Nat.le_refl _) h0 hst hL b1 hnl k2 (b2 _) ?_⟩
          · rw [tdr, h4]; simp [kGo, kFork, k2]
          · rw [tk]; exact h
        · refine ⟨.r (l.take (((n : Int) - 1).toNat) ++ [st.A]) false _, false, Nat.le_refl _, ?_, fun e h => pike_run_spread_l0_b_s30 h1 w h2 h3 hn1 hn hf hal (Nat.le_refl _) h0 hst hL b1 hnl k2 ?_⟩
          · rw [tdr, h4]; simp [kGo, kFork, k2]
          · rw [tk]; exact h
      | false =>
        by_cases k2 : st.Kind = 2
        · refine ⟨.r (l.take (((n : Int) - 1).toNat) ++ [st.B]) false _, false, Nat.le_refl _, ?_, fun e h => pike_run_spread_l0_b_s31 h1 w h2 h3 hn1 hn hf hal (Nat.le_refl _) h0 hst hL k2 b1 hnl ?_⟩
          · rw [tdr, h4]; simp [kGo, kFork, k2]
          · rw [tk]; exact h
        · refine ⟨.r l true (((n : Int) - 1).toNat), false, hnl, ?_, fun e h => pike_run_spread_l0_b_s32 h1 w h2 h3 hn1 hn hf hal (Nat.le_refl _) h0 hst hL k2 ?_⟩
          · show l.take _ = _; rw [h4]; simp [kGo, kFork, k2]
          · rw [tk]; exact h
    | false =>
      by_cases k7 : st.Kind = 7
      · have := h7 k7
        subst this
        refine ⟨.r l true (((n : Int) - 1).toNat), false, hnl, ?_, fun e h => pike_run_spread_l0_b_s42 h1 w h2 h3 hn1 hn hf hal (Nat.le_refl _) h0 hst k7 hL ?_⟩
        · show l.take _ = _; rw [h4]; simp [kGo, kFork, k7]
        · rw [tk]; rw [decide_eq_true k7] at h; exact h
      · have kd : (false || decide (st.Kind = 7)) = false := by simp [k7]
        rw [kd]
        cases b with
        | true =>
          by_cases k2 : st.Kind = 2
          · refine ⟨.r ((l.take (((n : Int) - 1).toNat) ++ [st.A]) ++ [st.B]) false _, false, Nat.le_refl _, ?_, fun e h => pike_run_spread_l0_b_s43 h1 w h2 h3 hn1 hn hf hal (Nat.le_refl _) h0 hst k7 hL b1 hnl k2 (b2 _) ?_⟩
            · rw [tdr, h4]; simp [kGo, kFork, k2]
            · rw [tk]; exact h
          · refine ⟨.r (l.take (((n : Int) - 1).toNat) ++ [st.A]) false _, false, Nat.le_refl _, ?_, fun e h => pike_run_spread_l0_b_s44 h1 w h2 h3 hn1 hn hf hal (Nat.le_refl _) h0 hst k7 hL b1 hnl k2 ?_⟩
            · rw [tdr, h4]; simp [kGo, kFork, k2]
            · rw [tk]; exact h
        | false =>
          by_cases k2 : st.Kind = 2
          · refine ⟨.r (l.take (((n : Int) - 1).toNat) ++ [st.B]) false _, false, Nat.le_refl _, ?_, fun e h => pike_run_spread_l0_b_s45 h1 w h2 h3 hn1 hn hf hal (Nat.le_refl _) h0 hst k7 hL k2 b1 hnl ?_⟩
            · rw [tdr, h4]; simp [kGo, kFork, k2]
            · rw [tk]; exact h
          · refine ⟨.r l true (((n : Int) - 1).toNat), false, hnl, ?_, fun e h => pike_run_spread_l0_b_s46 h1 w h2 h3 hn1 hn hf hal (Nat.le_refl _) h0 hst k7 hL k2 ?_⟩
            · show l.take _ = _; rw [h4]; simp [kGo, kFork, k2]
            · rw [tk]; exact h
def SpEnd (e : Ex × XSt) (all : List Int) (allt done : Bool) : Prop :=
  (done = true ∧ ((∃ a r i T, e = pike_run_spread_l0_x0 a all r i allt all.length T) ∨ ∃ a l r i t n, e = pike_run_spread_l0_x2 a all l r i allt all.length t n)) ∨
  (done = false ∧ ((∃ a r i T, e = pike_run_spread_l0_x1 a all r i allt all.length T) ∨ ∃ a l r i t n, e = pike_run_spread_l0_x3 a all l r i allt all.length t n))
theorem sp_end {r : pike_run} {i : Int} {seen : List (Int × Int)} {all : List Int} {allt done : Bool} {T : TD} (hok : T.ok) (hx : T.xs = []) : ∃ e, SP r i seen all allt done T e ∧ SpEnd e all allt done := by
  cases T with
  | d s =>
    have hl : s.xs = [] := hx
    have h : ¬ (s.xs.length : Int) > 0 := by rw [hl]; simp
    cases done with
    | true => exact ⟨_, pike_run_spread_l0_e9 h, .inl ⟨rfl, .inl ⟨_, _, _, _, rfl⟩⟩⟩
    | false => exact ⟨_, pike_run_spread_l0_e23 h, .inr ⟨rfl, .inl ⟨_, _, _, _, rfl⟩⟩⟩
  | r l t n =>
    have hl : l.take n = [] := hx
    have hok' : n ≤ l.length := hok
    have h : ¬ (n : Int) > 0 := by
      have := congrArg List.length hl
      rw [List.length_take, Nat.min_eq_left hok', List.length_nil] at this
      omega
    cases done with
    | true => exact ⟨_, pike_run_spread_l0_b_e33 h, .inl ⟨rfl, .inr ⟨_, _, _, _, _, _, rfl⟩⟩⟩
    | false => exact ⟨_, pike_run_spread_l0_b_e47 h, .inr ⟨rfl, .inr ⟨_, _, _, _, _, _, rfl⟩⟩⟩
/-- What a state goes on to at a place. -/
def nxL (l : List State) (s : List Int) (i : Nat) (x : Int) : List Int := match l[x.toNat]? with
  | some st => kGo (letsB s st.Kind i) st.A ++ kFork st.Kind st.B
  | none => []
def isDone (l : List State) (x : Int) : Prop := ∃ st, l[x.toNat]? = some st ∧ st.Kind = 7
theorem sp_loop {r : pike_run} {i : Nat} (hi : i ≤ r.s_.xs.length) (hs : r.s_.xs.length < 1000000000000) (hn : r.l_.xs.length < 100000000000) {src : List Int} (hsrc : ∀ x ∈ src, 0 ≤ x ∧ x < r.l_.xs.length) (hnx : ∀ x : Int, 0 ≤ x → x < r.l_.xs.length → ∀ y ∈ nxL r.l_.xs r.s_.xs i x, 0 ≤ y ∧ y < r.l_.xs.length) :
    ∀ (m : Nat) (seen : List (Int × Int)) (all : List Int) (allt done : Bool) (T : TD), 3 * (r.l_.xs.length - all.length) + T.xs.length ≤ m → T.ok → WInv (nxL r.l_.xs r.s_.xs i) src all T.xs → (∀ x, (x ∈ all → ∃ v, mfind x seen = some v ∧ v > 0) ∧ (x ∉ all → mfind x seen = none)) →
    T.xs.length < 700000000000 → 2 * (r.l_.xs.length - all.length) + T.xs.length < 700000000000 → (done = true ↔ ∃ x ∈ all, isDone r.l_.xs x) →
    ∃ all' allt' done' e, SP r i seen all allt done T e ∧ SpEnd e all' allt' done' ∧ all'.Nodup ∧ (∀ x, x ∈ all' ↔ Clos (nxL r.l_.xs r.s_.xs i) src x) ∧ (done' = true ↔ ∃ x ∈ all', isDone r.l_.xs x) := by
  intro m
  induction m with
  | zero =>
    intro seen all allt done T hm hok hI hse _ _ hd
    have hx : T.xs = [] := List.length_eq_zero_iff.1 (by omega)
    obtain ⟨e, h1, h2⟩ := sp_end (r := r) (i := i) (seen := seen) (all := all) (allt := allt) (done := done) hok hx
    rw [hx] at hI
    exact ⟨all, allt, done, e, h1, h2, hI.nodup, hI.done, hd⟩
  | succ m ih =>
    intro seen all allt done T hm hok hI hse hb1 hb2 hd
    rcases List.eq_nil_or_concat T.xs with hx | ⟨xs, x, hx⟩
    · obtain ⟨e, h1, h2⟩ := sp_end (r := r) (i := i) (seen := seen) (all := all) (allt := allt) (done := done) hok hx
      rw [hx] at hI
      exact ⟨all, allt, done, e, h1, h2, hI.nodup, hI.done, hd⟩
    · rw [List.concat_eq_append] at hx
      have hlen : T.xs.length = xs.length + 1 := by rw [hx]; simp
      have hI' := hI
      rw [hx] at hI'
      have hcx := hI.int x (by rw [hx]; simp)
      have hxr := Clos.lt hsrc hnx hcx
      have hal : ∀ y ∈ all, 0 ≤ y ∧ y < r.l_.xs.length := fun y hy => Clos.lt hsrc hnx (hI.ina y hy)
      have hall : all.length ≤ r.l_.xs.length := nodup_le _ _ hI.nodup hal
      by_cases hm2 : x ∈ all
      · obtain ⟨v, hv, hv0⟩ := (hse x).1 hm2
        obtain ⟨T', k1, k2, k3⟩ := sp_skip (r := r) (i := i) (all := all) (allt := allt) (done := done) hok hx hv hv0 (by omega)
        obtain ⟨all', allt', done', e, g1, g2⟩ := ih seen all allt done T' (by rw [k2]; omega) k1 (by rw [k2]; exact hI'.skip hm2) hse (by rw [k2]; omega) (by rw [k2]; omega) hd
        exact ⟨all', allt', done', e, k3 e g1, g2⟩
      · obtain ⟨st, hst⟩ : ∃ st, r.l_.xs[x.toNat]? = some st := ⟨_, List.getElem?_eq_getElem (by omega)⟩
        have hL := lets_run (r := r) st.Kind hi hs
        obtain ⟨T', allt', k1, k2, k3⟩ := sp_new (i := (i : Int)) (all := all) (allt := allt) (done := done) hok hx ((hse x).2 hm2) hxr.1 hst hL (fun k => by unfold letsB; rw [k]; rfl) (by omega) (by omega)
        have hnxe : nxL r.l_.xs r.s_.xs i x = kGo (letsB r.s_.xs st.Kind i) st.A ++ kFork st.Kind st.B := by unfold nxL; rw [hst]
        rw [← hnxe] at k2
        have hW := hI'.new hm2
        have hall2 : (all ++ [x]).length ≤ r.l_.xs.length := nodup_le _ _ hW.nodup (fun y hy => Clos.lt hsrc hnx (hW.ina y hy))
        have hnl : (nxL r.l_.xs r.s_.xs i x).length ≤ 2 := by
          rw [hnxe]; unfold kGo kFork
          split <;> split <;> simp
        have hl2 : T'.xs.length = xs.length + (nxL r.l_.xs r.s_.xs i x).length := by rw [k2]; simp
        simp only [List.length_append, List.length_singleton] at hall2
        obtain ⟨all', allt'', done', e, g1, g2⟩ := ih (mput x 1 seen) (all ++ [x]) allt' (done || decide (st.Kind = 7)) T' (by simp only [List.length_append, List.length_singleton]; omega) k1 (by rw [k2]; exact hW) (fun y => by
            refine ⟨fun hy => ?_, fun hy => ?_⟩
            · by_cases e : x = y
              · exact ⟨1, (mfind_put x y 1 seen).1 e, by decide⟩
              · rw [(mfind_put x y 1 seen).2 e]
                rcases List.mem_append.1 hy with h | h
                · exact (hse y).1 h
                · exact absurd (List.mem_singleton.1 h).symm e
            · have e : x ≠ y := fun e => hy (List.mem_append_right _ (by rw [e]; exact List.mem_singleton_self y))
              rw [(mfind_put x y 1 seen).2 e]
              exact (hse y).2 fun h => hy (List.mem_append_left _ h)) (by omega) (by simp only [List.length_append, List.length_singleton]; omega) (by
            rw [Bool.or_eq_true, hd, decide_eq_true_eq]
            constructor
            · rintro (⟨y, hy, h⟩ | h)
              · exact ⟨y, List.mem_append_left _ hy, h⟩
              · exact ⟨x, List.mem_append_right _ (List.mem_singleton_self x), st, hst, h⟩
            · rintro ⟨y, hy, st', h1, h2⟩
              rcases List.mem_append.1 hy with h | h
              · exact .inl ⟨y, h, st', h1, h2⟩
              · rw [List.mem_singleton.1 h, hst] at h1
                cases h1
                exact .inr h2)
        exact ⟨all', allt'', done', e, k3 e g1, g2⟩
/-- The states at a place: each once; those that are come to. -/
theorem spread_run {r : pike_run} {i : Nat} (hi : i ≤ r.s_.xs.length) (hs : r.s_.xs.length < 1000000000000) (hn : r.l_.xs.length < 100000000000) {src : SL Int} (hsl : src.xs.length < 100000000000) (hsrc : ∀ x ∈ src.xs, 0 ≤ x ∧ x < r.l_.xs.length) (hnx : ∀ x : Int, 0 ≤ x → x < r.l_.xs.length → ∀ y ∈ nxL r.l_.xs r.s_.xs i x, 0 ≤ y ∧ y < r.l_.xs.length) :
    ∃ (all : List Int) (allt done : Bool), pike_run_spread r src i ⟨1, all, allt⟩ done ∧ all.Nodup ∧ (∀ x, x ∈ all ↔ Clos (nxL r.l_.xs r.s_.xs i) src.xs x) ∧ (done = true ↔ ∃ x ∈ all, isDone r.l_.xs x) := by
  obtain ⟨all, allt, done, e, h1, h2, h3, h4, h5⟩ := sp_loop hi hs hn hsrc hnx _ [] [] true false (.d src) (Nat.le_refl _) trivial (WInv.start _ _) (fun x => ⟨fun h => by simp at h, fun _ => rfl⟩) (by show src.xs.length < _; omega) (by show _ + src.xs.length < _; simp; omega) (by simp)
  refine ⟨all, allt, done, ?_, h3, h4, h5⟩
  have tk : all.take all.length = all := List.take_length ..
  rcases h2 with ⟨rfl, ⟨a, r', i', T, rfl⟩ | ⟨a, l, r', i', t, n, rfl⟩⟩ | ⟨rfl, ⟨a, r', i', T, rfl⟩ | ⟨a, l, r', i', t, n, rfl⟩⟩
  · have := pike_run_spread_r0 h1 (Nat.le_refl _); rwa [tk] at this
  · have := pike_run_spread_r2 h1 (Nat.le_refl _); rwa [tk] at this
  · have := pike_run_spread_r1 h1 (Nat.le_refl _); rwa [tk] at this
  · have := pike_run_spread_r3 h1 (Nat.le_refl _); rwa [tk] at this
end Go.Proofs.Ytjnfkifdgojdaaa.V

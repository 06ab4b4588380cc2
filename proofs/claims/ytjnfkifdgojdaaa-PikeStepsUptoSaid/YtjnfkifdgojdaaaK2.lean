/- What valid text is, by its bytes, and which code points it has: plain Lean. -/
import Derived.Test.YtjnfkifdgojdaaaV30
import Derived.Lib.DecodeN
namespace Go.Proofs.Ytjnfkifdgojdaaa.V
open Go
set_option linter.unusedVariables false
set_option linter.unnecessarySimpa false
set_option linter.unusedSimpArgs false
set_option linter.unusedSectionVars false
def lowB (c : Int) : Int := if c = 224 then 160 else if c = 240 then 144 else 128
def highB (c : Int) : Int := if c = 237 then 159 else if c = 244 then 143 else 191
abbrev tlB (d : Int) : Prop := 128 ≤ d ∧ d ≤ 191
/-- Bytes that are text, and its code points. -/
inductive GP : List Int → List Int → Prop
  | nil : GP [] []
  | one {b l p} (h0 : 0 ≤ b) (h1 : b < 128) (h : GP l p) : GP (b :: l) (b :: p)
  | two {b c l p} (h0 : 194 ≤ b) (h1 : b ≤ 223) (hc : tlB c) (h : GP l p) : GP (b :: c :: l) ((b % 32 * 64 + c % 64) :: p)
  | three {b c d l p} (h0 : 224 ≤ b) (h1 : b ≤ 239) (hc : lowB b ≤ c ∧ c ≤ highB b) (hd : tlB d) (h : GP l p) : GP (b :: c :: d :: l) ((b % 16 * 4096 + c % 64 * 64 + d % 64) :: p)
  | four {b c d e l p} (h0 : 240 ≤ b) (h1 : b ≤ 244) (hc : lowB b ≤ c ∧ c ≤ highB b) (hd : tlB d) (he : tlB e) (h : GP l p) : GP (b :: c :: d :: e :: l) ((b % 8 * 262144 + c % 64 * 4096 + d % 64 * 64 + e % 64) :: p)
theorem GP.len {l p : List Int} (h : GP l p) : p.length ≤ l.length := by
  induction h with
  | nil => exact Nat.le_refl _
  | one _ _ _ ih => simpa using ih
  | two _ _ _ _ ih => simp only [List.length_cons]; omega
  | three _ _ _ _ _ ih => simp only [List.length_cons]; omega
  | four _ _ _ _ _ _ ih => simp only [List.length_cons]; omega
theorem GP.uniq {l p q : List Int} (h : GP l p) (k : GP l q) : p = q := by
  induction h generalizing q with
  | nil => cases k; rfl
  | one h0 h1 h ih =>
    cases k with
    | one _ _ k => rw [ih k]
    | two _ _ _ k => omega
    | three _ _ _ _ k => omega
    | four _ _ _ _ _ k => omega
  | two h0 h1 hc h ih =>
    cases k with
    | one _ _ k => omega
    | two _ _ _ k => rw [ih k]
    | three _ _ _ _ k => omega
    | four _ _ _ _ _ k => omega
  | three h0 h1 hc hd h ih =>
    cases k with
    | one _ _ k => omega
    | two _ _ _ k => omega
    | three _ _ _ _ k => rw [ih k]
    | four _ _ _ _ _ k => omega
  | four h0 h1 hc hd he h ih =>
    cases k with
    | one _ _ k => omega
    | two _ _ _ k => omega
    | three _ _ _ _ k => omega
    | four _ _ _ _ _ k => rw [ih k]
/-- Bytes of which so many must still go on, the next one between two. -/
inductive GM : List Int → Int → Int → Int → Prop
  | base {l p lo hi} (h : GP l p) : GM l 0 lo hi
  | more {c l k lo hi} (hk : 0 < k) (hc : lo ≤ c ∧ c ≤ hi) (h : GM l (k - 1) 128 191) : GM (c :: l) k lo hi
def GoodT (l : List Int) : Prop := ∃ p, GP l p
theorem gm0 {l : List Int} {lo hi : Int} : GM l 0 lo hi ↔ GoodT l := by
  constructor
  · intro h
    cases h with
    | base h => exact ⟨_, h⟩
    | more hk _ _ => omega
  · rintro ⟨p, h⟩
    exact .base h
theorem gm_nil {k lo hi : Int} (h : 0 < k) : ¬ GM [] k lo hi := by
  intro g
  cases g with
  | base _ => omega
theorem gm_cons {c : Int} {l : List Int} {k lo hi : Int} (h : 0 < k) : GM (c :: l) k lo hi ↔ (lo ≤ c ∧ c ≤ hi) ∧ GM l (k - 1) 128 191 := by
  constructor
  · intro g
    cases g with
    | base _ => omega
    | more _ hc h => exact ⟨hc, h⟩
  · rintro ⟨hc, g⟩
    exact .more h hc g
/-- How many go on behind a first byte; -1: it begins nothing. -/
def goesL (c : Int) : Int := if c < 128 then 0 else if c < 194 ∨ c > 244 then -1 else if c < 224 then 1 else if c < 240 then 2 else 3
theorem gm_one {l : List Int} {lo hi : Int} : GM l 1 lo hi ↔ ∃ c r, l = c :: r ∧ (lo ≤ c ∧ c ≤ hi) ∧ GoodT r := by
  cases l with
  | nil => exact ⟨fun g => absurd g (gm_nil (by decide)), fun ⟨_, _, h, _⟩ => by cases h⟩
  | cons c r =>
    rw [gm_cons (by decide), show (1 : Int) - 1 = 0 by decide, gm0]
    exact ⟨fun h => ⟨c, r, rfl, h⟩, fun ⟨_, _, h, h2⟩ => by cases h; exact h2⟩
theorem gm_two {l : List Int} {lo hi : Int} : GM l 2 lo hi ↔ ∃ c d r, l = c :: d :: r ∧ (lo ≤ c ∧ c ≤ hi) ∧ tlB d ∧ GoodT r := by
  cases l with
  | nil => exact ⟨fun g => absurd g (gm_nil (by decide)), fun ⟨_, _, _, h, _⟩ => by cases h⟩
  | cons c r =>
    rw [gm_cons (by decide), show (2 : Int) - 1 = 1 by decide, gm_one]
    exact ⟨fun ⟨h, d, r', e, h2⟩ => ⟨c, d, r', by rw [e], h, h2⟩, fun ⟨_, _, _, h, h2⟩ => by cases h; exact ⟨h2.1, _, _, rfl, h2.2⟩⟩
theorem gm_three {l : List Int} {lo hi : Int} : GM l 3 lo hi ↔ ∃ c d e r, l = c :: d :: e :: r ∧ (lo ≤ c ∧ c ≤ hi) ∧ tlB d ∧ tlB e ∧ GoodT r := by
  cases l with
  | nil => exact ⟨fun g => absurd g (gm_nil (by decide)), fun ⟨_, _, _, _, h, _⟩ => by cases h⟩
  | cons c r =>
    rw [gm_cons (by decide), show (3 : Int) - 1 = 2 by decide, gm_two]
    exact ⟨fun ⟨h, d, e, r', e', h2⟩ => ⟨c, d, e, r', by rw [e'], h, h2⟩, fun ⟨_, _, _, _, h, h2⟩ => by cases h; exact ⟨h2.1, _, _, _, rfl, h2.2⟩⟩
theorem good_cons {c : Int} {l : List Int} (h0 : 0 ≤ c) : GoodT (c :: l) ↔ 0 ≤ goesL c ∧ GM l (goesL c) (lowB c) (highB c) := by
  unfold goesL
  by_cases h1 : c < 128
  · rw [if_pos h1, gm0]
    constructor
    · rintro ⟨p, h⟩
      cases h with
      | one _ _ h => exact ⟨Int.le_refl _, _, h⟩
      | two _ _ _ h => omega
      | three _ _ _ _ h => omega
      | four _ _ _ _ _ h => omega
    · rintro ⟨_, p, h⟩
      exact ⟨_, .one h0 h1 h⟩
  · rw [if_neg h1]
    by_cases h2 : c < 194 ∨ c > 244
    · rw [if_pos h2]
      constructor
      · rintro ⟨p, h⟩
        cases h with
        | one _ _ h => omega
        | two _ _ _ h => omega
        | three _ _ _ _ h => omega
        | four _ _ _ _ _ h => omega
      · rintro ⟨h, _⟩
        omega
    · rw [if_neg h2]
      by_cases h3 : c < 224
      · rw [if_pos h3, gm_one]
        have el : lowB c = 128 := by unfold lowB; rw [if_neg (by omega), if_neg (by omega)]
        have eh : highB c = 191 := by unfold highB; rw [if_neg (by omega), if_neg (by omega)]
        rw [el, eh]
        constructor
        · rintro ⟨p, h⟩
          cases h with
          | one _ _ h => omega
          | two _ _ hc h => exact ⟨by decide, _, _, rfl, hc, _, h⟩
          | three _ _ _ _ h => omega
          | four _ _ _ _ _ h => omega
        · rintro ⟨_, d, r, rfl, hd, p, h⟩
          exact ⟨_, .two (by omega) (by omega) hd h⟩
      · rw [if_neg h3]
        by_cases h4 : c < 240
        · rw [if_pos h4, gm_two]
          constructor
          · rintro ⟨p, h⟩
            cases h with
            | one _ _ h => omega
            | two _ _ hc h => omega
            | three _ _ hc hd h => exact ⟨by decide, _, _, _, rfl, hc, hd, _, h⟩
            | four _ _ _ _ _ h => omega
          · rintro ⟨_, d, e, r, rfl, hd, he, p, h⟩
            exact ⟨_, .three (by omega) (by omega) hd he h⟩
        · rw [if_neg h4, gm_three]
          constructor
          · rintro ⟨p, h⟩
            cases h with
            | one _ _ h => omega
            | two _ _ hc h => omega
            | three _ _ hc hd h => omega
            | four _ _ hc hd he h => exact ⟨by decide, _, _, _, _, rfl, hc, hd, he, _, h⟩
          · rintro ⟨_, d, e, f, r, rfl, hd, he, hf, p, h⟩
            exact ⟨_, .four (by omega) (by omega) hd he hf h⟩
theorem good_nil : GoodT [] := ⟨_, .nil⟩
/-! ### As the model reads it -/
theorem dec_one (n b0 b1 b2 b3 : Nat) (h : b0 < 128) : Lib.decodeN n b0 b1 b2 b3 = (b0, 1) := by
  unfold Lib.decodeN
  rw [if_pos h]
theorem dec_two (n b0 b1 b2 b3 : Nat) (h0 : 194 ≤ b0) (h1 : b0 ≤ 223) (hn : 1 < n) (hc : 128 ≤ b1 ∧ b1 ≤ 191) : Lib.decodeN n b0 b1 b2 b3 = (b0 % 32 * 64 + b1 % 64, 2) := by
  unfold Lib.decodeN
  rw [if_neg (by omega), if_pos (by omega), if_pos (by omega)]
theorem dec_three (n b0 b1 b2 b3 : Nat) (h0 : 224 ≤ b0) (h1 : b0 ≤ 239) (hn : 2 < n) (hc : 128 ≤ b1 ∧ b1 ≤ 191) (hl : b0 = 224 → 160 ≤ b1) (hh : b0 = 237 → b1 ≤ 159) (hd : 128 ≤ b2 ∧ b2 ≤ 191) :
    Lib.decodeN n b0 b1 b2 b3 = (b0 % 16 * 4096 + b1 % 64 * 64 + b2 % 64, 3) := by
  unfold Lib.decodeN
  rw [if_neg (by omega), if_neg (by omega), if_pos (by omega), if_pos (by omega)]
theorem dec_four (n b0 b1 b2 b3 : Nat) (h0 : 240 ≤ b0) (h1 : b0 ≤ 244) (hn : 3 < n) (hc : 128 ≤ b1 ∧ b1 ≤ 191) (hl : b0 = 240 → 144 ≤ b1) (hh : b0 = 244 → b1 ≤ 143) (hd : 128 ≤ b2 ∧ b2 ≤ 191) (he : 128 ≤ b3 ∧ b3 ≤ 191) :
    Lib.decodeN n b0 b1 b2 b3 = (b0 % 8 * 262144 + b1 % 64 * 4096 + b2 % 64 * 64 + b3 % 64, 4) := by
  unfold Lib.decodeN
  rw [if_neg (by omega), if_neg (by omega), if_neg (by omega), if_pos (by omega), if_pos (by omega)]
theorem low_ge (c : Int) : 128 ≤ lowB c := by unfold lowB; split <;> (try split) <;> omega
theorem high_le (c : Int) : highB c ≤ 191 := by unfold highB; split <;> (try split) <;> omega
theorem byte_drop {s : ByteArray} {i : Nat} {x : Int} {r : List Int} (h : (strInts s).drop i = x :: r) : i < s.size ∧ ((s.get! i).toNat : Int) = x ∧ (strInts s).drop (i + 1) = r := by
  have hl : i < (strInts s).length := by
    apply Classical.byContradiction
    intro hn
    rw [List.drop_eq_nil_of_le (by omega)] at h
    cases h
  have hs : (strInts s).length = s.size := by
    unfold strInts
    rw [List.length_map, Array.length_toList]
    rfl
  rw [List.drop_eq_getElem_cons hl] at h
  obtain ⟨h1, h2⟩ := List.cons.inj h
  refine ⟨by omega, ?_, h2⟩
  rw [← h1]
  have hi : i < s.data.size := by rw [hs] at hl; exact hl
  simp only [strInts, List.getElem_map, Array.getElem_toList]
  congr 2
  show s.data[i]! = _
  rw [getElem!_pos s.data i hi]
/-- At a place of text: the code point, and what is behind it. -/
theorem gp_decode {s : ByteArray} {i : Nat} {l p : List Int} (hl : (strInts s).drop i = l) (h : GP l p) (hne : l ≠ []) : ∃ (c : Nat) (w : Nat) (q : List Int), Utf8.decode s i = (c, w) ∧ p = (c : Int) :: q ∧ GP ((strInts s).drop (i + w)) q ∧ i < s.size ∧ 1 ≤ w ∧ i + w ≤ s.size := by
  rw [Lib.decode_at]
  cases h with
  | nil => exact absurd rfl hne
  | @one b l p h0 h1 h =>
    obtain ⟨k1, k2, k3⟩ := byte_drop hl
    refine ⟨_, _, _, dec_one _ _ _ _ _ (by omega), by rw [k2], by rw [k3]; exact h, k1, Nat.le_refl _, by omega⟩
  | @two b c l p h0 h1 hc h =>
    obtain ⟨k1, k2, k3⟩ := byte_drop hl
    obtain ⟨j1, j2, j3⟩ := byte_drop k3
    refine ⟨_, _, _, dec_two _ _ _ _ _ (by omega) (by omega) (by omega) (by omega), ?_, by rw [j3]; exact h, k1, by omega, by omega⟩
    rw [← k2, ← j2]
    congr 1
  | @three b c d l p h0 h1 hc hd h =>
    obtain ⟨k1, k2, k3⟩ := byte_drop hl
    obtain ⟨j1, j2, j3⟩ := byte_drop k3
    obtain ⟨m1, m2, m3⟩ := byte_drop j3
    replace m2 : ((s.get! (i + 2)).toNat : Int) = d := m2
    have a1 := low_ge b
    have a2 := high_le b
    have e1 : b = 224 → lowB b = 160 := fun e => by unfold lowB; rw [if_pos e]
    have e2 : b = 237 → highB b = 159 := fun e => by unfold highB; rw [if_pos e]
    refine ⟨_, _, _, dec_three _ _ _ _ _ (by omega) (by omega) (by omega) (by omega) (fun e => by have := e1 (by omega); omega) (fun e => by have := e2 (by omega); omega) (by omega), ?_, by rw [m3]; exact h, k1, by omega, by omega⟩
    rw [← k2, ← j2, ← m2]
    congr 1
  | @four b c d e l p h0 h1 hc hd he h =>
    obtain ⟨k1, k2, k3⟩ := byte_drop hl
    obtain ⟨j1, j2, j3⟩ := byte_drop k3
    obtain ⟨m1, m2, m3⟩ := byte_drop j3
    obtain ⟨n1, n2, n3⟩ := byte_drop m3
    replace m2 : ((s.get! (i + 2)).toNat : Int) = d := m2
    replace n2 : ((s.get! (i + 3)).toNat : Int) = e := n2
    have a1 := low_ge b
    have a2 := high_le b
    have e1 : b = 240 → lowB b = 144 := fun e => by unfold lowB; rw [if_neg (by omega), if_pos e]
    have e2 : b = 244 → highB b = 143 := fun e => by unfold highB; rw [if_neg (by omega), if_pos e]
    refine ⟨_, _, _, dec_four _ _ _ _ _ (by omega) (by omega) (by omega) (by omega) (fun e => by have := e1 (by omega); omega) (fun e => by have := e2 (by omega); omega) (by omega) (by omega), ?_, by rw [n3]; exact h, k1, by omega, by omega⟩
    rw [← k2, ← j2, ← m2, ← n2]
    congr 1
end Go.Proofs.Ytjnfkifdgojdaaa.V

/- Numbers: limbs, what is reckoned, texts (several texts together). -/
import Derived.Test.YtjnfkifdgojdaaaGreatV30
import Derived.Lib.DecodeN
import Derived.Test.YtjnfkifdgojdaaaGreatVE
import Derived.Test.YtjnfkifdgojdaaaGreatVP
namespace Go.Proofs.YtjnfkifdgojdaaaGreat.V
section
set_option linter.unusedVariables false
set_option linter.unnecessarySimpa false
set_option linter.unusedSimpArgs false
set_option linter.unusedSectionVars false
theorem nodup_le : ∀ (n : Nat) (l : List Int), l.Nodup → (∀ x ∈ l, 0 ≤ x ∧ x < n) → l.length ≤ n
 | 0, l, _, hr => by
  cases l with
  | nil => exact Nat.le_refl _
  | cons x l =>
   have := hr x (List.mem_cons_self ..)
   omega
 | n + 1, l, hn, hr => by
  have h1 := nodup_le n (l.erase n) (hn.erase _) (fun x hx => by
   have hx2 := (hn.mem_erase_iff).1 hx
   have := hr x hx2.2
   have := hx2.1
   omega)
  by_cases hm : (n : Int) ∈ l
  ·rw [List.length_erase_of_mem hm] at h1
   omega
  ·rw [List.erase_of_not_mem hm] at h1
   omega
inductive Clos (nx : Int → List Int) (src : List Int) : Int → Prop
 | base {x} (h : x ∈ src) : Clos nx src x
 | step {x y} (h : Clos nx src x) (hy : y ∈ nx x) : Clos nx src y
theorem Clos.mono {nx : Int → List Int} {a b : List Int} (h : ∀ x ∈ a, x ∈ b) {x : Int} (hx : Clos nx a x) : Clos nx b x := by
 induction hx with
 | base h1 => exact .base (h _ h1)
 | step _ hy ih => exact .step ih hy
theorem Clos.congr {nx : Int → List Int} {a b : List Int} (h : ∀ x, x ∈ a ↔ x ∈ b) (x : Int) : Clos nx a x ↔ Clos nx b x :=
 ⟨Clos.mono fun x hx => (h x).1 hx, Clos.mono fun x hx => (h x).2 hx⟩
theorem Clos.lt {nx : Int → List Int} {n : Nat} {src : List Int} (hs : ∀ x ∈ src, 0 ≤ x ∧ x < n) (hn : ∀ x : Int, 0 ≤ x → x < n → ∀ y ∈ nx x, 0 ≤ y ∧ y < n) {x : Int} (h : Clos nx src x) : 0 ≤ x ∧ x < n := by
 induction h with
 | base h => exact hs _ h
 | step _ hy ih => exact hn _ ih.1 ih.2 _ hy
structure WInv (nx : Int → List Int) (src all todo : List Int) : Prop where
 nodup : all.Nodup
 ina : ∀ x ∈ all, Clos nx src x
 int : ∀ x ∈ todo, Clos nx src x
 src : ∀ x ∈ src, x ∈ all ∨ x ∈ todo
 nxt : ∀ x ∈ all, ∀ y ∈ nx x, y ∈ all ∨ y ∈ todo
theorem WInv.start (nx : Int → List Int) (src : List Int) : WInv nx src [] src :=
 ⟨.nil, fun _ h => by simp at h, fun _ h => .base h, fun _ h => .inr h, fun _ h => by simp at h⟩
theorem WInv.skip {nx : Int → List Int} {src all todo : List Int} {x : Int} (h : WInv nx src all (todo ++ [x])) (hx : x ∈ all) : WInv nx src all todo :=
 ⟨h.nodup, h.ina, fun y hy => h.int y (List.mem_append_left _ hy), fun y hy => by
  rcases h.src y hy with h1 | h1
  ·exact .inl h1
  ·rcases List.mem_append.1 h1 with h2 | h2
   ·exact .inr h2
   ·rw [List.mem_singleton.1 h2]; exact .inl hx, fun z hz y hy => by
  rcases h.nxt z hz y hy with h1 | h1
  ·exact .inl h1
  ·rcases List.mem_append.1 h1 with h2 | h2
   ·exact .inr h2
   ·rw [List.mem_singleton.1 h2]; exact .inl hx⟩
theorem WInv.new {nx : Int → List Int} {src all todo : List Int} {x : Int} (h : WInv nx src all (todo ++ [x])) (hx : x ∉ all) : WInv nx src (all ++ [x]) (todo ++ nx x) := by
 have hc := h.int x (List.mem_append_right _ (List.mem_singleton_self x))
 refine ⟨?_, fun y hy => ?_, fun y hy => ?_, fun y hy => ?_, fun z hz y hy => ?_⟩
 ·rw [List.nodup_append]
  refine ⟨h.nodup, List.pairwise_singleton _ _, fun a ha b hb => ?_⟩
  rw [List.mem_singleton.1 hb]
  rintro rfl
  exact hx ha
 ·rcases List.mem_append.1 hy with h1 | h1
  ·exact h.ina y h1
  ·rw [List.mem_singleton.1 h1]; exact hc
 ·rcases List.mem_append.1 hy with h1 | h1
  ·exact h.int y (List.mem_append_left _ h1)
  ·exact .step hc h1
 ·rcases h.src y hy with h1 | h1
  ·exact .inl (List.mem_append_left _ h1)
  ·rcases List.mem_append.1 h1 with h2 | h2
   ·exact .inr (List.mem_append_left _ h2)
   ·exact .inl (List.mem_append_right _ h2)
 ·rcases List.mem_append.1 hz with h0 | h0
  ·rcases h.nxt z h0 y hy with h1 | h1
   ·exact .inl (List.mem_append_left _ h1)
   ·rcases List.mem_append.1 h1 with h2 | h2
    ·exact .inr (List.mem_append_left _ h2)
    ·exact .inl (List.mem_append_right _ h2)
  ·rw [List.mem_singleton.1 h0] at hy
   exact .inr (List.mem_append_right _ hy)
theorem WInv.done {nx : Int → List Int} {src all : List Int} (h : WInv nx src all []) (x : Int) : x ∈ all ↔ Clos nx src x := by
 refine ⟨h.ina x, fun hx => ?_⟩
 induction hx with
 | base h1 =>
  rcases h.src _ h1 with h2 | h2
  ·exact h2
  ·simp at h2
 | step _ hy ih =>
  rcases h.nxt _ ih _ hy with h2 | h2
  ·exact h2
  ·simp at h2
end
section
open Go
set_option linter.unusedVariables false
set_option linter.unnecessarySimpa false
set_option linter.unusedSimpArgs false
set_option linter.unusedSectionVars false
def lowB (c : Int) : Int := if c = 224 then 160 else if c = 240 then 144 else 128
def highB (c : Int) : Int := if c = 237 then 159 else if c = 244 then 143 else 191
abbrev tlB (d : Int) : Prop := 128 ≤ d ∧ d ≤ 191
inductive GP : List Int → List Int → Prop
 | nil : GP [] []
 | one {b l p} (h0 : 0 ≤ b) (h1 : b < 128) (h : GP l p) : GP (b :: l) (b :: p)
 | two {b c l p} (h0 : 194 ≤ b) (h1 : b ≤ 223) (hc : tlB c) (h : GP l p) : GP (b :: c :: l) ((b % 32 * 64 + c % 64) :: p)
 | three {b c d l p} (h0 : 224 ≤ b) (h1 : b ≤ 239) (hc : lowB b ≤ c ∧ c ≤ highB b) (hd : tlB d) (h : GP l p) : GP (b :: c :: d :: l) ((b % 16 * 4096 + c % 64 * 64 + d % 64) :: p)
 | four {b c d e l p} (h0 : 240 ≤ b) (h1 : b ≤ 244) (hc : lowB b ≤ c ∧ c ≤ highB b) (hd : tlB d) (he : tlB e) (h : GP l p) : GP (b :: c :: d :: e :: l) ((b % 8 * 262144 + c % 64 * 4096 + d % 64 * 64 + e % 64) :: p)
theorem GP.len {l p : List Int} (h : GP l p) : p.length ≤ l.length := by
 induction h with
 | nil => exact Nat.le_refl _
 | one _ _ _ ih => simpa using ih
 | two _ _ _ _ ih => simp only [List.length_cons]; omega
 | three _ _ _ _ _ ih => simp only [List.length_cons]; omega
 | four _ _ _ _ _ _ ih => simp only [List.length_cons]; omega
theorem GP.uniq {l p q : List Int} (h : GP l p) (k : GP l q) : p = q := by
 induction h generalizing q with
 | nil => cases k; rfl
 | one h0 h1 h ih =>
  cases k with
  | one _ _ k => rw [ih k]
  | two _ _ _ k => omega
  | three _ _ _ _ k => omega
  | four _ _ _ _ _ k => omega
 | two h0 h1 hc h ih =>
  cases k with
  | one _ _ k => omega
  | two _ _ _ k => rw [ih k]
  | three _ _ _ _ k => omega
  | four _ _ _ _ _ k => omega
 | three h0 h1 hc hd h ih =>
  cases k with
  | one _ _ k => omega
  | two _ _ _ k => omega
  | three _ _ _ _ k => rw [ih k]
  | four _ _ _ _ _ k => omega
 | four h0 h1 hc hd he h ih =>
  cases k with
  | one _ _ k => omega
  | two _ _ _ k => omega
  | three _ _ _ _ k => omega
  | four _ _ _ _ _ k => rw [ih k]
inductive GM : List Int → Int → Int → Int → Prop
 | base {l p lo hi} (h : GP l p) : GM l 0 lo hi
 | more {c l k lo hi} (hk : 0 < k) (hc : lo ≤ c ∧ c ≤ hi) (h : GM l (k - 1) 128 191) : GM (c :: l) k lo hi
def GoodT (l : List Int) : Prop := ∃ p, GP l p
theorem gm0 {l : List Int} {lo hi : Int} : GM l 0 lo hi ↔ GoodT l := by
 constructor
 ·intro h
  cases h with
  | base h => exact ⟨_, h⟩
  | more hk _ _ => omega
 ·rintro ⟨p, h⟩
  exact .base h
theorem gm_nil {k lo hi : Int} (h : 0 < k) : ¬ GM [] k lo hi := by
 intro g
 cases g with
 | base _ => omega
theorem gm_cons {c : Int} {l : List Int} {k lo hi : Int} (h : 0 < k) : GM (c :: l) k lo hi ↔ (lo ≤ c ∧ c ≤ hi) ∧ GM l (k - 1) 128 191 := by
 constructor
 ·intro g
  cases g with
  | base _ => omega
  | more _ hc h => exact ⟨hc, h⟩
 ·rintro ⟨hc, g⟩
  exact .more h hc g
def goesL (c : Int) : Int := if c < 128 then 0 else if c < 194 ∨ c > 244 then -1 else if c < 224 then 1 else if c < 240 then 2 else 3
theorem gm_one {l : List Int} {lo hi : Int} : GM l 1 lo hi ↔ ∃ c r, l = c :: r ∧ (lo ≤ c ∧ c ≤ hi) ∧ GoodT r := by
 cases l with
 | nil => exact ⟨fun g => absurd g (gm_nil (by decide)), fun ⟨_, _, h, _⟩ => by cases h⟩
 | cons c r =>
  rw [gm_cons (by decide), show (1 : Int) - 1 = 0 by decide, gm0]
  exact ⟨fun h => ⟨c, r, rfl, h⟩, fun ⟨_, _, h, h2⟩ => by cases h; exact h2⟩
theorem gm_two {l : List Int} {lo hi : Int} : GM l 2 lo hi ↔ ∃ c d r, l = c :: d :: r ∧ (lo ≤ c ∧ c ≤ hi) ∧ tlB d ∧ GoodT r := by
 cases l with
 | nil => exact ⟨fun g => absurd g (gm_nil (by decide)), fun ⟨_, _, _, h, _⟩ => by cases h⟩
 | cons c r =>
  rw [gm_cons (by decide), show (2 : Int) - 1 = 1 by decide, gm_one]
  exact ⟨fun ⟨h, d, r', e, h2⟩ => ⟨c, d, r', by rw [e], h, h2⟩, fun ⟨_, _, _, h, h2⟩ => by cases h; exact ⟨h2.1, _, _, rfl, h2.2⟩⟩
theorem gm_three {l : List Int} {lo hi : Int} : GM l 3 lo hi ↔ ∃ c d e r, l = c :: d :: e :: r ∧ (lo ≤ c ∧ c ≤ hi) ∧ tlB d ∧ tlB e ∧ GoodT r := by
 cases l with
 | nil => exact ⟨fun g => absurd g (gm_nil (by decide)), fun ⟨_, _, _, _, h, _⟩ => by cases h⟩
 | cons c r =>
  rw [gm_cons (by decide), show (3 : Int) - 1 = 2 by decide, gm_two]
  exact ⟨fun ⟨h, d, e, r', e', h2⟩ => ⟨c, d, e, r', by rw [e'], h, h2⟩, fun ⟨_, _, _, _, h, h2⟩ => by cases h; exact ⟨h2.1, _, _, _, rfl, h2.2⟩⟩
theorem good_cons {c : Int} {l : List Int} (h0 : 0 ≤ c) : GoodT (c :: l) ↔ 0 ≤ goesL c ∧ GM l (goesL c) (lowB c) (highB c) := by
 unfold goesL
 by_cases h1 : c < 128
 ·rw [if_pos h1, gm0]
  constructor
  ·rintro ⟨p, h⟩
   cases h with
   | one _ _ h => exact ⟨Int.le_refl _, _, h⟩
   | two _ _ _ h => omega
   | three _ _ _ _ h => omega
   | four _ _ _ _ _ h => omega
  ·rintro ⟨_, p, h⟩
   exact ⟨_, .one h0 h1 h⟩
 ·rw [if_neg h1]
  by_cases h2 : c < 194 ∨ c > 244
  ·rw [if_pos h2]
   constructor
   ·rintro ⟨p, h⟩
    cases h with
    | one _ _ h => omega
    | two _ _ _ h => omega
    | three _ _ _ _ h => omega
    | four _ _ _ _ _ h => omega
   ·rintro ⟨h, _⟩
    omega
  ·rw [if_neg h2]
   by_cases h3 : c < 224
   ·rw [if_pos h3, gm_one]
    have el : lowB c = 128 := by unfold lowB; rw [if_neg (by omega), if_neg (by omega)]
    have eh : highB c = 191 := by unfold highB; rw [if_neg (by omega), if_neg (by omega)]
    rw [el, eh]
    constructor
    ·rintro ⟨p, h⟩
     cases h with
     | one _ _ h => omega
     | two _ _ hc h => exact ⟨by decide, _, _, rfl, hc, _, h⟩
     | three _ _ _ _ h => omega
     | four _ _ _ _ _ h => omega
    ·rintro ⟨_, d, r, rfl, hd, p, h⟩
     exact ⟨_, .two (by omega) (by omega) hd h⟩
   ·rw [if_neg h3]
    by_cases h4 : c < 240
    ·rw [if_pos h4, gm_two]
     constructor
     ·rintro ⟨p, h⟩
      cases h with
      | one _ _ h => omega
      | two _ _ hc h => omega
      | three _ _ hc hd h => exact ⟨by decide, _, _, _, rfl, hc, hd, _, h⟩
      | four _ _ _ _ _ h => omega
     ·rintro ⟨_, d, e, r, rfl, hd, he, p, h⟩
      exact ⟨_, .three (by omega) (by omega) hd he h⟩
    ·rw [if_neg h4, gm_three]
     constructor
     ·rintro ⟨p, h⟩
      cases h with
      | one _ _ h => omega
      | two _ _ hc h => omega
      | three _ _ hc hd h => omega
      | four _ _ hc hd he h => exact ⟨by decide, _, _, _, _, rfl, hc, hd, he, _, h⟩
     ·rintro ⟨_, d, e, f, r, rfl, hd, he, hf, p, h⟩
      exact ⟨_, .four (by omega) (by omega) hd he hf h⟩
theorem good_nil : GoodT [] := ⟨_, .nil⟩
theorem dec_one (n b0 b1 b2 b3 : Nat) (h : b0 < 128) : Lib.decodeN n b0 b1 b2 b3 = (b0, 1) := by
 unfold Lib.decodeN
 rw [if_pos h]
theorem dec_two (n b0 b1 b2 b3 : Nat) (h0 : 194 ≤ b0) (h1 : b0 ≤ 223) (hn : 1 < n) (hc : 128 ≤ b1 ∧ b1 ≤ 191) : Lib.decodeN n b0 b1 b2 b3 = (b0 % 32 * 64 + b1 % 64, 2) := by
 unfold Lib.decodeN
 rw [if_neg (by omega), if_pos (by omega), if_pos (by omega)]
theorem dec_three (n b0 b1 b2 b3 : Nat) (h0 : 224 ≤ b0) (h1 : b0 ≤ 239) (hn : 2 < n) (hc : 128 ≤ b1 ∧ b1 ≤ 191) (hl : b0 = 224 → 160 ≤ b1) (hh : b0 = 237 → b1 ≤ 159) (hd : 128 ≤ b2 ∧ b2 ≤ 191) :
  Lib.decodeN n b0 b1 b2 b3 = (b0 % 16 * 4096 + b1 % 64 * 64 + b2 % 64, 3) := by
 unfold Lib.decodeN
 rw [if_neg (by omega), if_neg (by omega), if_pos (by omega), if_pos (by omega)]
theorem dec_four (n b0 b1 b2 b3 : Nat) (h0 : 240 ≤ b0) (h1 : b0 ≤ 244) (hn : 3 < n) (hc : 128 ≤ b1 ∧ b1 ≤ 191) (hl : b0 = 240 → 144 ≤ b1) (hh : b0 = 244 → b1 ≤ 143) (hd : 128 ≤ b2 ∧ b2 ≤ 191) (he : 128 ≤ b3 ∧ b3 ≤ 191) :
  Lib.decodeN n b0 b1 b2 b3 = (b0 % 8 * 262144 + b1 % 64 * 4096 + b2 % 64 * 64 + b3 % 64, 4) := by
 unfold Lib.decodeN
 rw [if_neg (by omega), if_neg (by omega), if_neg (by omega), if_pos (by omega), if_pos (by omega)]
theorem low_ge (c : Int) : 128 ≤ lowB c := by unfold lowB; split <;> (try split) <;> omega
theorem high_le (c : Int) : highB c ≤ 191 := by unfold highB; split <;> (try split) <;> omega
theorem byte_drop {s : ByteArray} {i : Nat} {x : Int} {r : List Int} (h : (strInts s).drop i = x :: r) : i < s.size ∧ ((s.get! i).toNat : Int) = x ∧ (strInts s).drop (i + 1) = r := by
 have hl : i < (strInts s).length := by
  apply Classical.byContradiction
  intro hn
  rw [List.drop_eq_nil_of_le (by omega)] at h
  cases h
 have hs : (strInts s).length = s.size := by
  unfold strInts
  rw [List.length_map, Array.length_toList]
  rfl
 rw [List.drop_eq_getElem_cons hl] at h
 obtain ⟨h1, h2⟩ := List.cons.inj h
 refine ⟨by omega, ?_, h2⟩
 rw [← h1]
 have hi : i < s.data.size := by rw [hs] at hl; exact hl
 simp only [strInts, List.getElem_map, Array.getElem_toList]
 congr 2
 show s.data[i]! = _
 rw [getElem!_pos s.data i hi]
theorem gp_decode {s : ByteArray} {i : Nat} {l p : List Int} (hl : (strInts s).drop i = l) (h : GP l p) (hne : l ≠ []) : ∃ (c : Nat) (w : Nat) (q : List Int), Utf8.decode s i = (c, w) ∧ p = (c : Int) :: q ∧ GP ((strInts s).drop (i + w)) q ∧ i < s.size ∧ 1 ≤ w ∧ i + w ≤ s.size := by
 rw [Lib.decode_at]
 cases h with
 | nil => exact absurd rfl hne
 | @one b l p h0 h1 h =>
  obtain ⟨k1, k2, k3⟩ := byte_drop hl
  refine ⟨_, _, _, dec_one _ _ _ _ _ (by omega), by rw [k2], by rw [k3]; exact h, k1, Nat.le_refl _, by omega⟩
 | @two b c l p h0 h1 hc h =>
  obtain ⟨k1, k2, k3⟩ := byte_drop hl
  obtain ⟨j1, j2, j3⟩ := byte_drop k3
  refine ⟨_, _, _, dec_two _ _ _ _ _ (by omega) (by omega) (by omega) (by omega), ?_, by rw [j3]; exact h, k1, by omega, by omega⟩
  rw [← k2, ← j2]
  congr 1
 | @three b c d l p h0 h1 hc hd h =>
  obtain ⟨k1, k2, k3⟩ := byte_drop hl
  obtain ⟨j1, j2, j3⟩ := byte_drop k3
  obtain ⟨m1, m2, m3⟩ := byte_drop j3
  replace m2 : ((s.get! (i + 2)).toNat : Int) = d := m2
  have a1 := low_ge b
  have a2 := high_le b
  have e1 : b = 224 → lowB b = 160 := fun e => by unfold lowB; rw [if_pos e]
  have e2 : b = 237 → highB b = 159 := fun e => by unfold highB; rw [if_pos e]
  refine ⟨_, _, _, dec_three _ _ _ _ _ (by omega) (by omega) (by omega) (by omega) (fun e => by have := e1 (by omega); omega) (fun e => by have := e2 (by omega); omega) (by omega), ?_, by rw [m3]; exact h, k1, by omega, by omega⟩
  rw [← k2, ← j2, ← m2]
  congr 1
 | @four b c d e l p h0 h1 hc hd he h =>
  obtain ⟨k1, k2, k3⟩ := byte_drop hl
  obtain ⟨j1, j2, j3⟩ := byte_drop k3
  obtain ⟨m1, m2, m3⟩ := byte_drop j3
  obtain ⟨n1, n2, n3⟩ := byte_drop m3
  replace m2 : ((s.get! (i + 2)).toNat : Int) = d := m2
  replace n2 : ((s.get! (i + 3)).toNat : Int) = e := n2
  have a1 := low_ge b
  have a2 := high_le b
  have e1 : b = 240 → lowB b = 144 := fun e => by unfold lowB; rw [if_neg (by omega), if_pos e]
  have e2 : b = 244 → highB b = 143 := fun e => by unfold highB; rw [if_neg (by omega), if_pos e]
  refine ⟨_, _, _, dec_four _ _ _ _ _ (by omega) (by omega) (by omega) (by omega) (fun e => by have := e1 (by omega); omega) (fun e => by have := e2 (by omega); omega) (by omega) (by omega), ?_, by rw [n3]; exact h, k1, by omega, by omega⟩
  rw [← k2, ← j2, ← m2, ← n2]
  congr 1
end
section
open Go
def top : Int := 1114111
def okR (r : Range) : Prop := 0 ≤ r.From ∧ r.From ≤ r.To ∧ r.To ≤ top
def gap (a b : Range) : Prop := a.To + 1 < b.From
inductive Canon : List Range → Prop
 | nil : Canon []
 | one {r} (h : okR r) : Canon [r]
 | cons {a b l} (h : okR a) (g : gap a b) (t : Canon (b :: l)) : Canon (a :: b :: l)
def inR (p : Int) (r : Range) : Prop := r.From ≤ p ∧ p ≤ r.To
def In (p : Int) (l : List Range) : Prop := ∃ r ∈ l, inR p r
theorem Canon.head {a : Range} {l : List Range} (h : Canon (a :: l)) : okR a := by cases h <;> assumption
theorem Canon.tail {a : Range} {l : List Range} (h : Canon (a :: l)) : Canon l := by
 cases h with
 | one h => exact .nil
 | cons h g t => exact t
theorem Canon.all {l : List Range} (h : Canon l) : ∀ r ∈ l, okR r := by
 induction h with
 | nil => intro r hr; cases hr
 | one h => intro r hr; simp at hr; subst hr; exact h
 | cons h g t ih =>
  intro r hr
  rcases List.mem_cons.1 hr with rfl | hr
  ·exact h
  ·exact ih r hr
theorem Canon.beyond {a : Range} {l : List Range} (h : Canon (a :: l)) : ∀ r ∈ l, a.To + 1 < r.From := by
 induction l generalizing a with
 | nil => intro r hr; cases hr
 | cons b l ih =>
  intro r hr
  cases h with
  | cons h g t =>
   rcases List.mem_cons.1 hr with rfl | hr
   ·exact g
   ·have h1 := ih t r hr
    have h2 := t.head
    unfold gap at g
    unfold okR at h2
    omega
theorem Canon.cons' {a : Range} {l : List Range} (h : okR a) (hl : Canon l) (hb : ∀ r ∈ l, a.To + 1 < r.From) : Canon (a :: l) := by
 cases l with
 | nil => exact .one h
 | cons b l => exact .cons h (hb b (List.mem_cons_self ..)) hl
theorem In_nil (p : Int) : ¬ In p [] := by rintro ⟨r, h, _⟩; cases h
theorem In_cons (p : Int) (a : Range) (l : List Range) : In p (a :: l) ↔ inR p a ∨ In p l := by
 unfold In
 constructor
 ·rintro ⟨r, hr, hp⟩
  rcases List.mem_cons.1 hr with rfl | hr
  ·exact .inl hp
  ·exact .inr ⟨r, hr, hp⟩
 ·rintro (h | ⟨r, hr, hp⟩)
  ·exact ⟨a, List.mem_cons_self .., h⟩
  ·exact ⟨r, List.mem_cons_of_mem _ hr, hp⟩
theorem In_append (p : Int) (a b : List Range) : In p (a ++ b) ↔ In p a ∨ In p b := by
 induction a with
 | nil => simp [In_nil]
 | cons x a ih => rw [List.cons_append, In_cons, In_cons, ih, or_assoc]
theorem In_perm {p : Int} {a b : List Range} (h : a.Perm b) : In p a ↔ In p b := by
 unfold In
 exact ⟨fun ⟨r, hr, hp⟩ => ⟨r, h.mem_iff.1 hr, hp⟩, fun ⟨r, hr, hp⟩ => ⟨r, h.mem_iff.2 hr, hp⟩⟩
theorem Canon.ext {a b : List Range} (ha : Canon a) (hb : Canon b) (h : ∀ p, In p a ↔ In p b) : a = b := by
 induction a generalizing b with
 | nil =>
  cases b with
  | nil => rfl
  | cons y b =>
   have hy := hb.head
   exact absurd ((h y.From).2 ⟨y, List.mem_cons_self .., Int.le_refl _, hy.2.1⟩) (In_nil _)
 | cons x a ih =>
  have hx := ha.head
  cases b with
  | nil => exact absurd ((h x.From).1 ⟨x, List.mem_cons_self .., Int.le_refl _, hx.2.1⟩) (In_nil _)
  | cons y b =>
   have hy := hb.head
   unfold okR at hx hy
   -- what is in a set lies at its first range's begin or beyond
   have low : ∀ {z : Range} {l : List Range} {p : Int}, Canon (z :: l) → In p (z :: l) → z.From ≤ p := by
    intro z l p hc hp
    rw [In_cons] at hp
    rcases hp with hp | ⟨r, hr, hp⟩
    ·exact hp.1
    ·have := hc.beyond r hr
     have := hc.head
     unfold okR at this
     unfold inR at hp
     omega
   have e1 : x.From = y.From := by
    have h1 := low hb ((h x.From).1 ⟨x, List.mem_cons_self .., Int.le_refl _, hx.2.1⟩)
    have h2 := low ha ((h y.From).2 ⟨y, List.mem_cons_self .., Int.le_refl _, hy.2.1⟩)
    omega
   -- one behind the end of the first range is in none
   have out : ∀ {z : Range} {l : List Range}, Canon (z :: l) → ¬ In (z.To + 1) (z :: l) := by
    intro z l hc hp
    rw [In_cons] at hp
    rcases hp with hp | ⟨r, hr, hp⟩
    ·unfold inR at hp; omega
    ·have := hc.beyond r hr
     unfold inR at hp
     omega
   have e2 : x.To = y.To := by
    apply Classical.byContradiction
    intro hne
    rcases Int.lt_or_gt_of_ne hne with hlt | hgt
    ·exact out ha ((h (x.To + 1)).2 ((In_cons _ _ _).2 (.inl ⟨by omega, by omega⟩)))
    ·exact out hb ((h (y.To + 1)).1 ((In_cons _ _ _).2 (.inl ⟨by omega, by omega⟩)))
   have e : x = y := by cases x; cases y; simp_all
   subst e
   congr 1
   refine ih ha.tail hb.tail fun p => ?_
   have hp := h p
   rw [In_cons, In_cons] at hp
   constructor
   ·intro hi
    rcases hp.1 (.inr hi) with h1 | h1
    ·obtain ⟨r, hr, hr2⟩ := hi
     have := ha.beyond r hr
     unfold inR at h1 hr2
     omega
    ·exact h1
   ·intro hi
    rcases hp.2 (.inr hi) with h1 | h1
    ·obtain ⟨r, hr, hr2⟩ := hi
     have := hb.beyond r hr
     unfold inR at h1 hr2
     omega
    ·exact h1
def clip (r : Range) : Range := ⟨max r.From 0, min r.To top⟩
theorem inR_clip (p : Int) (r : Range) : inR p (clip r) ↔ (0 ≤ p ∧ p ≤ top) ∧ inR p r := by
 unfold inR clip
 dsimp only
 omega
def ins (x : Range) (put : Bool) : List Range → List Range
 | [] => if put then [] else [x]
 | r :: rs => if r.To + 1 < x.From then r :: ins x put rs
  else if x.To + 1 < r.From then (if put then [r] else [x, r]) ++ ins x true rs
  else ins ⟨min x.From r.From, max x.To r.To⟩ put rs
theorem ins_length (x : Range) (put : Bool) (l : List Range) : (ins x put l).length ≤ l.length + (if put then 0 else 1) := by
 induction l generalizing x put with
 | nil => cases put <;> simp [ins]
 | cons r l ih =>
  simp only [ins]
  split
  ·have := ih x put; simp only [List.length_cons]; omega
  ·split
   ·have := ih x true
    cases put <;> simp at * <;> omega
   ·have := ih ⟨min x.From r.From, max x.To r.To⟩ put
    simp only [List.length_cons]; omega
theorem ins_true {x : Range} : ∀ {l : List Range}, (∀ r ∈ l, x.To + 1 < r.From) → okR x → (∀ r ∈ l, okR r) → ins x true l = l
 | [], _, _, _ => rfl
 | r :: l, h, hx, ho => by
  have h1 := h r (List.mem_cons_self ..)
  have h2 := ho r (List.mem_cons_self ..)
  unfold okR at hx h2
  simp only [ins]
  rw [if_neg (by omega), if_pos h1]
  simp only [if_true, List.singleton_append]
  rw [ins_true (fun r hr => h r (List.mem_cons_of_mem _ hr)) hx fun r hr => ho r (List.mem_cons_of_mem _ hr)]
theorem ins_false {x : Range} {l : List Range} (hx : okR x) (hl : Canon l) : Canon (ins x false l) ∧ (∀ p, In p (ins x false l) ↔ inR p x ∨ In p l) ∧ ∀ q, (q + 1 < x.From) → (∀ r ∈ l, q + 1 < r.From) → ∀ r ∈ ins x false l, q + 1 < r.From := by
 induction l generalizing x with
 | nil =>
  refine ⟨.one hx, fun p => ?_, fun q h1 _ r hr => ?_⟩
  ·show In p [x] ↔ _
   rw [In_cons]
  ·simp [ins] at hr; subst hr; exact h1
 | cons r l ih =>
  have hr := hl.head
  have hb := hl.beyond
  simp only [ins]
  split
  ·rename_i h1
   obtain ⟨c, m, b⟩ := ih hx hl.tail
   refine ⟨.cons' hr c (b r.To h1 hb), fun p => ?_, fun q h2 h3 s hs => ?_⟩
   ·rw [In_cons, m, In_cons]
    constructor
    ·rintro (h | h | h)
     ·exact .inr (.inl h)
     ·exact .inl h
     ·exact .inr (.inr h)
    ·rintro (h | h | h)
     ·exact .inr (.inl h)
     ·exact .inl h
     ·exact .inr (.inr h)
   ·rcases List.mem_cons.1 hs with rfl | hs
    ·exact h3 s (List.mem_cons_self ..)
    ·exact b q h2 (fun t ht => h3 t (List.mem_cons_of_mem _ ht)) s hs
  ·rename_i h1
   split
   ·rename_i h2
    have hbx : ∀ s ∈ l, x.To + 1 < s.From := fun s hs => by
     have := hb s hs
     unfold okR at hr
     omega
    rw [ins_true hbx hx fun s hs => hl.tail.all s hs]
    refine ⟨.cons hx h2 hl, fun p => ?_, fun q h3 h4 s hs => ?_⟩
    ·show In p (x :: r :: l) ↔ _
     rw [In_cons]
    ·have hs : s ∈ x :: r :: l := hs
     rcases List.mem_cons.1 hs with rfl | hs
     ·exact h3
     ·exact h4 s hs
   ·rename_i h2
    have hx' : okR ⟨min x.From r.From, max x.To r.To⟩ := by
     unfold okR at hx hr ⊢
     dsimp only
     omega
    obtain ⟨c, m, b⟩ := ih hx' hl.tail
    refine ⟨c, fun p => ?_, fun q h3 h4 s hs => ?_⟩
    ·rw [m, In_cons]
     have : inR p ⟨min x.From r.From, max x.To r.To⟩ ↔ inR p x ∨ inR p r := by
      unfold okR at hx hr
      unfold inR
      dsimp only
      omega
     rw [this, or_assoc]
    ·refine b q ?_ (fun t ht => h4 t (List.mem_cons_of_mem _ ht)) s hs
     have := h4 r (List.mem_cons_self ..)
     show q + 1 < min x.From r.From
     omega
def stepM (out : List Range) (r : Range) : List Range := if (clip r).From > (clip r).To then out else ins (clip r) false out
def mergeR (l : List Range) : List Range := l.foldl stepM []
theorem stepM_spec {out : List Range} (r : Range) (h : Canon out) : Canon (stepM out r) ∧ ∀ p, In p (stepM out r) ↔ In p out ∨ ((0 ≤ p ∧ p ≤ top) ∧ inR p r) := by
 unfold stepM
 split
 ·rename_i h1
  refine ⟨h, fun p => ⟨.inl, ?_⟩⟩
  rintro (h2 | h2)
  ·exact h2
  ·have := (inR_clip p r).2 h2
   unfold inR at this
   omega
 ·rename_i h1
  have hx : okR (clip r) := by
   unfold clip at h1
   unfold okR clip
   dsimp only at h1 ⊢
   omega
  obtain ⟨c, m, _⟩ := ins_false hx h
  refine ⟨c, fun p => ?_⟩
  rw [m, inR_clip, or_comm]
theorem merge_from {l : List Range} : ∀ {out : List Range}, Canon out → Canon (l.foldl stepM out) ∧ ∀ p, In p (l.foldl stepM out) ↔ In p out ∨ ((0 ≤ p ∧ p ≤ top) ∧ In p l) := by
 induction l with
 | nil => intro out h; exact ⟨h, fun p => by simp [In_nil]⟩
 | cons r l ih =>
  intro out h
  obtain ⟨c, m⟩ := stepM_spec r h
  obtain ⟨c2, m2⟩ := ih c
  refine ⟨c2, fun p => ?_⟩
  show In p (l.foldl stepM (stepM out r)) ↔ _
  rw [m2, m, In_cons]
  constructor
  ·rintro ((h | h) | h)
   ·exact .inl h
   ·exact .inr ⟨h.1, .inl h.2⟩
   ·exact .inr ⟨h.1, .inr h.2⟩
  ·rintro (h | ⟨h, h2 | h2⟩)
   ·exact .inl (.inl h)
   ·exact .inl (.inr ⟨h, h2⟩)
   ·exact .inr ⟨h, h2⟩
theorem mergeR_canon (l : List Range) : Canon (mergeR l) := (merge_from (l := l) .nil).1
theorem mergeR_in (l : List Range) (p : Int) : In p (mergeR l) ↔ (0 ≤ p ∧ p ≤ top) ∧ In p l := by
 have := (merge_from (l := l) .nil).2 p
 rw [show mergeR l = l.foldl stepM [] from rfl, this]
 simp [In_nil]
theorem mergeR_self {l : List Range} (h : Canon l) : mergeR l = l := by
 refine (mergeR_canon l).ext h fun p => ?_
 rw [mergeR_in]
 refine ⟨fun h => h.2, fun hp => ⟨?_, hp⟩⟩
 obtain ⟨r, hr, hp⟩ := hp
 have := h.all r hr
 unfold okR at this
 unfold inR at hp
 omega
theorem mergeR_iff (l : List Range) : mergeR l = l ↔ Canon l := ⟨fun h => h ▸ mergeR_canon l, mergeR_self⟩
theorem stepM_length (out : List Range) (r : Range) : (stepM out r).length ≤ out.length + 1 := by
 unfold stepM
 split
 ·omega
 ·have := ins_length (clip r) false out
  simpa using this
theorem foldM_length (l : List Range) : ∀ out : List Range, (l.foldl stepM out).length ≤ out.length + l.length := by
 induction l with
 | nil => intro out; simp
 | cons r l ih =>
  intro out
  have h1 := ih (stepM out r)
  have h2 := stepM_length out r
  simp only [List.foldl_cons, List.length_cons]
  omega
def stepS (out : List Range) (r : Range) : List Range := match out.getLast? with
 | some a => if r.From ≤ a.To + 1 then out.dropLast ++ [⟨a.From, max a.To r.To⟩] else out ++ [r]
 | none => out ++ [r]
theorem stepS_spec {out : List Range} {r : Range} (h : Canon out) (hr : okR r) (hlast : ∀ a, out.getLast? = some a → a.From ≤ r.From) : Canon (stepS out r) ∧ (∀ p, In p (stepS out r) ↔ In p out ∨ inR p r) ∧ ∀ a, (stepS out r).getLast? = some a → a.From ≤ r.From := by
 induction out with
 | nil => exact ⟨.one hr, fun p => by show In p [r] ↔ _; rw [In_cons]; simp [In_nil], fun a ha => by simp [stepS] at ha; subst ha; exact Int.le_refl _⟩
 | cons x out ih =>
  cases out with
  | nil =>
   have hx := h.head
   have hl := hlast x rfl
   unfold stepS
   simp only [List.getLast?_singleton]
   split
   ·rename_i h1
    simp only [List.dropLast_singleton, List.nil_append]
    refine ⟨.one (by unfold okR at hx hr ⊢; dsimp only; omega), fun p => ?_, fun a ha => ?_⟩
    ·rw [In_cons, In_cons]
     have : inR p ⟨x.From, max x.To r.To⟩ ↔ inR p x ∨ inR p r := by
      unfold okR at hx hr
      unfold inR
      dsimp only
      omega
     rw [this]
     simp [In_nil]
    ·simp at ha; subst ha; exact hl
   ·rename_i h1
    refine ⟨.cons hx (by unfold gap; omega) (.one hr), fun p => ?_, fun a ha => ?_⟩
    ·rw [In_append, In_cons p r]; simp [In_nil]
    ·simp at ha; subst ha; exact Int.le_refl _
  | cons y out =>
   obtain ⟨c, m, b⟩ := ih h.tail (fun a ha => hlast a (by simpa using ha))
   have e : stepS (x :: y :: out) r = x :: stepS (y :: out) r := by
    unfold stepS
    have : (x :: y :: out).getLast? = (y :: out).getLast? := by simp
    rw [this]
    cases h2 : (y :: out).getLast? with
    | none => simp at h2
    | some a =>
     dsimp only
     split <;> simp
   rw [e]
   have hne : stepS (y :: out) r ≠ [] := by
    unfold stepS
    split
    ·split <;> simp
    ·simp
   have hb := h.beyond
   have hx := h.head
   refine ⟨.cons' h.head c fun s hs => ?_, fun p => ?_, fun a ha => ?_⟩
   ·-- what follows begins at a number that was in it
    have hs' := c.all s hs
    have : In s.From (stepS (y :: out) r) := ⟨s, hs, Int.le_refl _, hs'.2.1⟩
    rcases (m s.From).1 this with ⟨t, ht, ht2⟩ | ht
    ·have := hb t ht
     unfold inR at ht2
     omega
    ·have h1 := hb y (List.mem_cons_self ..)
     obtain ⟨z, hz⟩ : ∃ z, (y :: out).getLast? = some z := by
      cases h2 : (y :: out).getLast? with
      | none => simp at h2
      | some z => exact ⟨z, rfl⟩
     have h2 := hlast z (by simpa using hz)
     have h3 := hb z (List.mem_of_getLast? hz)
     unfold inR at ht
     omega
   ·rw [In_cons, m, In_cons p x (y :: out), or_assoc]
   ·refine b a ?_
    rw [List.getLast?_cons_of_ne_nil hne] at ha
    exact ha
theorem foldS_spec {l : List Range} : ∀ {out : List Range}, Canon out → (∀ r ∈ l, okR r) → l.Pairwise (fun a b => a.From ≤ b.From) → (∀ a, out.getLast? = some a → ∀ r ∈ l, a.From ≤ r.From) → Canon (l.foldl stepS out) ∧ ∀ p, In p (l.foldl stepS out) ↔ In p out ∨ In p l := by
 induction l with
 | nil => intro out h _ _ _; exact ⟨h, fun p => by simp [In_nil]⟩
 | cons r l ih =>
  intro out h ho hp hl
  obtain ⟨c, m, b⟩ := stepS_spec h (ho r (List.mem_cons_self ..)) fun a ha => hl a ha r (List.mem_cons_self ..)
  obtain ⟨c2, m2⟩ := ih c (fun s hs => ho s (List.mem_cons_of_mem _ hs)) (List.Pairwise.of_cons hp) fun a ha s hs => by
   have h1 := b a ha
   have h2 := List.rel_of_pairwise_cons hp hs
   omega
  refine ⟨c2, fun p => ?_⟩
  show In p (l.foldl stepS (stepS out r)) ↔ _
  rw [m2, m, In_cons, or_assoc]
def clipped (l : List Range) : List Range := (l.map clip).filter fun r => decide (r.From ≤ r.To)
theorem clipped_ok (l : List Range) : ∀ r ∈ clipped l, okR r := by
 intro r hr
 simp only [clipped, List.mem_filter, List.mem_map, decide_eq_true_eq] at hr
 obtain ⟨⟨s, hs, rfl⟩, h⟩ := hr
 unfold clip at h ⊢
 unfold okR
 dsimp only at h ⊢
 omega
theorem clipped_in (l : List Range) (p : Int) : In p (clipped l) ↔ (0 ≤ p ∧ p ≤ top) ∧ In p l := by
 constructor
 ·rintro ⟨r, hr, hp⟩
  simp only [clipped, List.mem_filter, List.mem_map] at hr
  obtain ⟨⟨s, hs, rfl⟩, _⟩ := hr
  have := (inR_clip p s).1 hp
  exact ⟨this.1, s, hs, this.2⟩
 ·rintro ⟨h, s, hs, hp⟩
  have h2 := (inR_clip p s).2 ⟨h, hp⟩
  refine ⟨clip s, ?_, h2⟩
  simp only [clipped, List.mem_filter, List.mem_map, decide_eq_true_eq]
  refine ⟨⟨s, hs, rfl⟩, ?_⟩
  unfold inR at h2
  omega
theorem sorted_merge {l s : List Range} (hp : s.Perm (clipped l)) (hs : s.Pairwise (fun a b => a.From ≤ b.From)) : s.foldl stepS [] = mergeR l := by
 obtain ⟨c, m⟩ := foldS_spec (l := s) .nil (fun r hr => clipped_ok l r (hp.mem_iff.1 hr)) hs fun a ha => by simp at ha
 refine c.ext (mergeR_canon l) fun p => ?_
 rw [m, mergeR_in, In_perm hp, clipped_in]
 simp [In_nil]
end
section
open Go
set_option linter.unusedVariables false
theorem at_drop {α : Type} {l : List α} {k : Nat} {y : α} {r : List α} (h : l.drop k = y :: r) : l[(k : Int).toNat]? = some y ∧ l.drop (k + 1) = r ∧ k < l.length := by
 have hk : k < l.length := by
  apply Classical.byContradiction
  intro hn
  rw [List.drop_eq_nil_of_le (by omega)] at h
  cases h
 rw [List.drop_eq_getElem_cons hk] at h
 cases h
 exact ⟨by simp [hk], rfl, hk⟩
theorem drop_nil_le {α : Type} {l : List α} {k : Nat} (h : l.drop k = []) : l.length ≤ k := by simpa using h
theorem w64k {k : Nat} (h : k < 9223372036854775807) : w64 ((k : Int) + 1) := in64 (by omega) (by omega)
instance : DecidableEq Range := fun a b => by
 cases a; cases b
 rw [Range.mk.injEq]
 infer_instance
def small (n : Nat) : Prop := n * 16 ≤ 140737488355300
theorem small_lt {n : Nat} (h : small n) : n < 9000000000000 := by unfold small at h; omega
theorem eqK_range (a b : Range) : eqK [.int, .int] [(di a.From), (di a.To)] [(di b.From), (di b.To)] = some (decide (a = b)) := by
 show (if IntKind.i64 = IntKind.i64 then (if a.From = b.From then (if IntKind.i64 = IntKind.i64 then (if a.To = b.To then some true else some false) else none) else some false) else none) = _
 rw [if_pos rfl, if_pos rfl]
 cases a; cases b
 simp only [Range.mk.injEq]
 split
 ·split <;> simp_all
 ·simp_all
theorem equal_loop {a b : SL Range} (hs : small a.xs.length) (hl : a.xs.length = b.xs.length) : ∀ (ra rb : List Range) (k : Nat), a.xs.drop k = ra → b.xs.drop k = rb → (ra = rb ∧ ∃ z, sl_Equal_Range_l0 a b (a.xs.length : Int) k (sl_Equal_Range_l0_x1 a b (a.xs.length : Int) z)) ∨ (ra ≠ rb ∧ sl_Equal_Range_l0 a b (a.xs.length : Int) k sl_Equal_Range_l0_x0)
 | [], rb, k, ha, hb => by
  have := drop_nil_le ha
  have : rb = [] := by rw [← hb]; exact List.drop_eq_nil_of_le (by omega)
  exact .inl ⟨this.symm, k, sl_Equal_Range_l0_e2 (by omega)⟩
 | x :: ra, rb, k, ha, hb => by
  obtain ⟨h1, h2, h3⟩ := at_drop ha
  cases rb with
  | nil => have := drop_nil_le hb; omega
  | cons y rb =>
   obtain ⟨g1, g2, g3⟩ := at_drop hb
   have hsm := small_lt hs
   have w3 : w64 ((k : Int) + 1) := w64k (by omega)
   have e1 : ((k : Int) + 1) = ((k + 1 : Nat) : Int) := by omega
   have lk : (k : Int) < (a.xs.length : Int) := by omega
   by_cases e : x = y
   ·subst e
    rcases equal_loop hs hl ra rb (k + 1) h2 g2 with ⟨e2, z, h⟩ | ⟨e2, h⟩
    ·exact .inl ⟨by rw [e2], z, sl_Equal_Range_l0_s0 lk (by omega) h1 g1 (by rw [eqK_range]; simp) w3 h⟩
    ·exact .inr ⟨fun hh => e2 (List.cons.inj hh).2, sl_Equal_Range_l0_s0 lk (by omega) h1 g1 (by rw [eqK_range]; simp) w3 h⟩
   ·exact .inr ⟨fun hh => e (List.cons.inj hh).1, sl_Equal_Range_l0_e1 lk (by omega) h1 g1 (by rw [eqK_range]; simp [e])⟩
theorem equal_ranges {a b : SL Range} (hs : small a.xs.length) : sl_Equal_Range a b (decide (a.xs = b.xs)) := by
 by_cases hl : a.xs.length = b.xs.length
 ·rcases equal_loop hs hl a.xs b.xs 0 (by simp) (by simp) with ⟨e, z, h⟩ | ⟨e, h⟩
  ·rw [decide_eq_true e]; exact sl_Equal_Range_r2 (by omega) h
  ·rw [decide_eq_false e]; exact sl_Equal_Range_r1 (by omega) h
 ·rw [decide_eq_false (fun e => hl (congrArg List.length e))]
  exact sl_Equal_Range_r0 (by omega)
end
section
open Go
set_option linter.unusedVariables false
theorem clip_filter (r : Range) (rest : List Range) : clipped (r :: rest) = (if (clip r).From ≤ (clip r).To then [clip r] else []) ++ clipped rest := by
 unfold clipped
 rw [List.map_cons, List.filter_cons]
 by_cases h : (clip r).From ≤ (clip r).To
 ·rw [if_pos (by simpa using h), if_pos h]; rfl
 ·rw [if_neg (by simpa using h), if_neg h]; rfl
theorem clipped_length (l : List Range) : (clipped l).length ≤ l.length := by
 unfold clipped
 have := List.length_filter_le (fun r : Range => decide (r.From ≤ r.To)) (l.map clip)
 simpa using this
theorem rx_merge_l0 {l : SL Range} (hs : small (l.xs.length + 1)) : ∀ (rest : List Range) (k : Nat) (all : List Range) (t : Bool), l.xs.drop k = rest → all.length ≤ k → ∃ t' z, rx_Merge_l0 all t l (l.xs.length : Int) k (rx_Merge_l0_x0 (all ++ clipped rest) t' l (l.xs.length : Int) z)
 | [], k, all, t, hd, hk => ⟨t, k, by rw [show all ++ clipped [] = all by simp [clipped]]; exact rx_Merge_l0_e2 (by have := drop_nil_le hd; omega)⟩
 | r :: rest, k, all, t, hd, hk => by
  obtain ⟨h1, h2, h3⟩ := at_drop hd
  have hsm := small_lt hs
  have w3 : w64 ((k : Int) + 1) := w64k (by omega)
  have lk : (k : Int) < (l.xs.length : Int) := by omega
  rw [clip_filter]
  by_cases c : (clip r).From ≤ (clip r).To
  ·rw [if_pos c, ← List.append_assoc]
   obtain ⟨t', z, h⟩ := rx_merge_l0 hs rest (k + 1) (all ++ [clip r]) false h2 (by simp only [List.length_append, List.length_singleton]; omega)
   exact ⟨t', z, rx_Merge_l0_s0 lk (by omega) h1 c (by unfold small at hs; omega) w3 h⟩
  ·rw [if_neg c, List.nil_append]
   obtain ⟨t', z, h⟩ := rx_merge_l0 hs rest (k + 1) all t h2 (by omega)
   exact ⟨t', z, rx_Merge_l0_s1 lk (by omega) h1 c w3 h⟩
theorem rx_merge_l1 {t36 : List Range} {t : Bool} (hs : small (t36.length + 1)) (ho : ∀ r ∈ t36, okR r) : ∀ (rest : List Range) (k : Nat) (out : List Range) (outt : Bool), t36.drop k = rest → (∀ r ∈ out, okR r) → out.length ≤ k → ∃ z4 z6, rx_Merge_l1 out t36 outt out.length t t36.length (t36.length : Int) k (rx_Merge_l1_x0 (rest.foldl stepS out) t36 z4 (rest.foldl stepS out).length t t36.length (t36.length : Int) z6)
 | [], k, out, outt, hd, hout, hk => ⟨outt, k, rx_Merge_l1_e3 (by have := drop_nil_le hd; omega)⟩
 | r :: rest, k, out, outt, hd, hout, hk => by
  obtain ⟨h1, h2, h3⟩ := at_drop hd
  have hr : okR r := ho r (List.mem_of_mem_drop (by rw [hd]; exact List.mem_cons_self ..))
  have hsm := small_lt hs
  have w3 : w64 ((k : Int) + 1) := w64k (by omega)
  have lk : (k : Int) < (t36.length : Int) := by omega
  rw [List.foldl_cons]
  cases hl : out.getLast? with
  | none =>
   have e0 : out = [] := by simpa using hl
   have e : stepS out r = out ++ [r] := by unfold stepS; rw [hl]
   obtain ⟨z4, z6, h⟩ := rx_merge_l1 hs ho rest (k + 1) (stepS out r) false h2 (by rw [e, e0]; simpa using hr) (by rw [e, e0]; simp)
   rw [e] at h ⊢
   refine ⟨z4, z6, rx_Merge_l1_s2 lk (by omega) h1 (by omega) (by rw [e0]; simp) (by unfold small at hs; omega) (Nat.le_refl _) w3 ?_⟩
   rw [List.take_length]
   exact h
  | some a =>
   have hne : out ≠ [] := by intro e; rw [e] at hl; simp at hl
   have hpos : 0 < out.length := List.length_pos_iff.2 hne
   have ha : okR a := hout a (List.mem_of_getLast? hl)
   have hget : out[((out.length : Int) - 1).toNat]? = some a := by
    rw [show ((out.length : Int) - 1).toNat = out.length - 1 by omega, ← List.getLast?_eq_getElem?]
    exact hl
   have w1 : w64 ((out.length : Int) - 1) := in64 (by omega) (by omega)
   have w2 : w64 (a.To + 1) := in64 (by unfold okR at ha; omega) (by unfold okR top at ha; omega)
   by_cases c : r.From ≤ a.To + 1
   ·have e : stepS out r = out.dropLast ++ [⟨a.From, max a.To r.To⟩] := by unfold stepS; rw [hl]; dsimp only; rw [if_pos c]
    have e2 : out.set ((out.length : Int) - 1).toNat (Range.mk a.From (max a.To r.To)) = stepS out r := by
     rw [e, show ((out.length : Int) - 1).toNat = out.length - 1 by omega]
     have h9 : out = out.dropLast ++ [a] := by
      have e9 := List.dropLast_concat_getLast hne
      rw [List.getLast?_eq_some_getLast hne] at hl
      rw [Option.some.inj hl] at e9
      exact e9.symm
     conv => lhs; rw [h9]
     have hdl : out.dropLast.length = out.length - 1 := by simp
     rw [List.set_append_right _ _ (by rw [← h9, hdl]; omega)]
     rw [← h9, hdl]
     simp
    have elen : (stepS out r).length = out.length := by rw [← e2]; simp
    obtain ⟨z4, z6, h⟩ := rx_merge_l1 hs ho rest (k + 1) (stepS out r) outt h2 (by
     rw [e]
     intro s hs'
     rcases List.mem_append.1 hs' with h | h
     ·exact hout s ((List.dropLast_sublist out).subset h)
     ·simp at h; subst h; unfold okR at ha hr ⊢; dsimp only; omega) (by omega)
    rw [elen] at h
    refine ⟨z4, z6, rx_Merge_l1_s0 lk (by omega) h1 (by omega) (by omega) w1 (by omega) hget (by omega) w2 c w3 ?_⟩
    rw [e2]
    exact h
   ·have e : stepS out r = out ++ [r] := by unfold stepS; rw [hl]; dsimp only; rw [if_neg c]
    obtain ⟨z4, z6, h⟩ := rx_merge_l1 hs ho rest (k + 1) (stepS out r) false h2 (by
     rw [e]
     intro s hs'
     rcases List.mem_append.1 hs' with h | h
     ·exact hout s h
     ·simp at h; subst h; exact hr) (by rw [e]; simp; omega)
    rw [e] at h ⊢
    refine ⟨z4, z6, rx_Merge_l1_s1 lk (by omega) h1 (by omega) (by omega) w1 (by omega) hget (by omega) w2 c (by unfold small at hs; omega) (Nat.le_refl _) w3 ?_⟩
    rw [List.take_length]
    exact h
theorem sort_none_t : callF tab XX 12 78 [.row 0 2 0 0 true, .d (.func (.func 79) [] [])] [.row 2 [] false] = some (.ret (.tup []), [.row 2 [] false]) := by kernel_rfl
theorem sort_none_f : callF tab XX 12 78 [.row 0 2 0 0 false, .d (.func (.func 79) [] [])] [.row 2 [] false] = some (.ret (.tup []), [.row 2 [] false]) := by kernel_rfl
theorem cmpR_le {a b : Range} (h : 0 ≤ cmpR b a) : a.From ≤ b.From := by
 unfold cmpR cmpI at h
 split at h
 ·omega
 ·omega
theorem sort_run {l : List Range} (t : Bool) (h : l.length < 4611686018427387904) : ∃ s, sl_SortFunc_Range l t l.length s ∧ s.Perm l ∧ s.Pairwise (fun a b => a.From ≤ b.From) := by
 cases l with
 | nil =>
  refine ⟨[], ?_, .nil, .nil⟩
  cases t with
  | true => exact lim_of sort_none_t
  | false => exact lim_of sort_none_f
 | cons x r =>
  obtain ⟨h1, h2, h3⟩ := sortT_spec cmpR swo_R (x :: r)
  refine ⟨sortT cmpR (x :: r), R_sort (by simp) h, h1, ?_⟩
  rw [List.pairwise_iff_getElem]
  intro i j hi hj hij
  have := h3 i j _ _ hij (List.getElem?_eq_getElem hi) (List.getElem?_eq_getElem hj)
  exact cmpR_le this
theorem rx_merge {l : SL Range} (hs : small (l.xs.length + 1)) : ∃ t, rx_Merge l ⟨2, mergeR l.xs, t⟩ := by
 obtain ⟨t', z, h0⟩ := rx_merge_l0 hs l.xs 0 [] true (by simp) (by simp)
 rw [List.nil_append] at h0
 have hcl := clipped_length l.xs
 have hsm := small_lt hs
 obtain ⟨s, h1, h2, h3⟩ := sort_run (l := clipped l.xs) t' (by omega)
 have hsl : s.length = (clipped l.xs).length := h2.length_eq
 obtain ⟨z4, z6, h4⟩ := rx_merge_l1 (t36 := s) (t := t') (by unfold small at hs ⊢; omega) (fun r hr => clipped_ok l.xs r (h2.mem_iff.1 hr)) s 0 [] true (by simp) (by simp) (by simp)
 rw [sorted_merge h2 h3] at h4
 rw [hsl] at h4
 refine ⟨z4, ?_⟩
 have := rx_Merge_r0 h0 h1 h4 (Nat.le_refl _)
 rwa [List.take_length] at this
theorem rx_merge_same {l : SL Range} (hs : small (l.xs.length + 1)) : ∃ m : SL Range, rx_Merge l m ∧ m.xs = mergeR l.xs := by
 obtain ⟨t, h⟩ := rx_merge hs
 exact ⟨_, h, rfl⟩
theorem mergeR_length (l : List Range) : (mergeR l).length ≤ l.length := by
 have := foldM_length l []
 simpa [mergeR] using this
def okS (n : Nat) (s : State) : Prop := 1 ≤ s.Kind ∧ s.Kind ≤ 7 ∧ (s.Kind ≠ 7 → 0 ≤ s.A ∧ s.A < n) ∧ (s.Kind = 7 → s.A = 0) ∧ (s.Kind = 2 → 0 ≤ s.B ∧ s.B < n) ∧ (s.Kind ≠ 2 → s.B = 0) ∧ (s.Kind ≠ 1 → s.Ranges.xs = []) ∧ mergeR s.Ranges.xs = s.Ranges.xs
instance (n : Nat) (s : State) : Decidable (okS n s) := by unfold okS; infer_instance
theorem number_run (x : Int) (used : Bool) (n : Int) : nfa_state_f1 x used n (if used = true then decide (0 ≤ x ∧ x < n) else decide (x = 0)) := by
 cases used with
 | true =>
  simp only [if_true]
  by_cases h1 : x ≥ 0
  ·by_cases h2 : x < n
   ·rw [decide_eq_true ⟨h1, h2⟩]; exact nfa_state_f1_r0 h1 h2
   ·rw [decide_eq_false (fun h => h2 h.2)]; exact nfa_state_f1_r1 h1 h2
  ·rw [decide_eq_false (fun h => h1 h.1)]; exact nfa_state_f1_r2 h1
 | false =>
  by_cases h : x = 0
  ·rw [if_neg (by simp), decide_eq_true h]; exact nfa_state_f1_r3 h
  ·rw [if_neg (by simp), decide_eq_false h]; exact nfa_state_f1_r4 h
theorem num_t {x n : Int} (h : 0 ≤ x ∧ x < n) : nfa_state_f1 x true n true := by have := number_run x true n; rwa [if_pos rfl, decide_eq_true h] at this
theorem num_tf {x n : Int} (h : ¬ (0 ≤ x ∧ x < n)) : nfa_state_f1 x true n false := by have := number_run x true n; rwa [if_pos rfl, decide_eq_false h] at this
theorem num_f {x n : Int} (h : x = 0) : nfa_state_f1 x false n true := nfa_state_f1_r3 h
theorem num_ff {x n : Int} (h : ¬ x = 0) : nfa_state_f1 x false n false := nfa_state_f1_r4 h
theorem len0 {l : List Range} : (l.length : Int) = 0 ↔ l = [] := by
 constructor
 ·intro h; exact List.length_eq_zero_iff.1 (by omega)
 ·intro h; rw [h]; rfl
theorem state_run {s : State} {n : Nat} (hs : small (s.Ranges.xs.length + 1)) : nfa_state s n (decide (okS n s)) := by
 obtain ⟨m, hm, em⟩ := rx_merge_same hs
 have hml : small m.xs.length := by
  have := mergeR_length s.Ranges.xs
  rw [em]; unfold small at hs ⊢; omega
 have hq := equal_ranges (a := m) (b := s.Ranges) hml
 rw [em] at hq
 by_cases k1 : s.Kind ≥ 1
 case neg => rw [decide_eq_false (by unfold okS; omega)]; exact nfa_state_r17 k1
 by_cases k7 : s.Kind ≤ 7
 case neg => rw [decide_eq_false (by unfold okS; omega)]; exact nfa_state_r16 k1 k7
 by_cases d : s.Kind = 7
 ·by_cases a : s.A = 0
  case neg => rw [decide_eq_false (by unfold okS; omega)]; exact nfa_state_r15 k1 k7 d (num_ff a)
  by_cases b : s.B = 0
  case neg => rw [decide_eq_false (by unfold okS; omega)]; exact nfa_state_r14 k1 k7 d (num_f a) (num_ff b)
  by_cases r : s.Ranges.xs = []
  case neg => rw [decide_eq_false (by unfold okS; intro h; exact r (h.2.2.2.2.2.2.1 (by omega)))]; exact nfa_state_r13 k1 k7 d (num_f a) (num_f b) (fun h => r (len0.1 h))
  by_cases e : mergeR s.Ranges.xs = s.Ranges.xs
  ·rw [decide_eq_true e] at hq
   rw [decide_eq_true (by unfold okS; exact ⟨k1, k7, fun h => absurd d h, fun _ => a, fun h => by omega, fun _ => b, fun _ => r, e⟩)]
   exact nfa_state_r11 k1 k7 d (num_f a) (num_f b) (len0.2 r) hm hq
  ·rw [decide_eq_false e] at hq
   rw [decide_eq_false (by unfold okS; intro h; exact e h.2.2.2.2.2.2.2)]
   exact nfa_state_r12 k1 k7 d (num_f a) (num_f b) (len0.2 r) hm hq
 ·by_cases a : 0 ≤ s.A ∧ s.A < (n : Int)
  case neg => rw [decide_eq_false (by unfold okS; intro h; exact a (h.2.2.1 d))]; exact nfa_state_r10 k1 k7 d (num_tf a)
  by_cases f : s.Kind = 2
  ·by_cases b : 0 ≤ s.B ∧ s.B < (n : Int)
   case neg => rw [decide_eq_false (by unfold okS; intro h; exact b (h.2.2.2.2.1 f))]; exact nfa_state_r3 k1 k7 d (num_t a) f (num_tf b)
   by_cases r : s.Ranges.xs = []
   case neg => rw [decide_eq_false (by unfold okS; intro h; exact r (h.2.2.2.2.2.2.1 (by omega)))]; exact nfa_state_r2 k1 k7 d (num_t a) f (num_t b) (fun h => r (len0.1 h))
   by_cases e : mergeR s.Ranges.xs = s.Ranges.xs
   ·rw [decide_eq_true e] at hq
    rw [decide_eq_true (by unfold okS; exact ⟨k1, k7, fun _ => a, fun h => absurd h d, fun _ => b, fun h => absurd f h, fun _ => r, e⟩)]
    exact nfa_state_r0 k1 k7 d (num_t a) f (num_t b) (len0.2 r) hm hq
   ·rw [decide_eq_false e] at hq
    rw [decide_eq_false (by unfold okS; intro h; exact e h.2.2.2.2.2.2.2)]
    exact nfa_state_r1 k1 k7 d (num_t a) f (num_t b) (len0.2 r) hm hq
  ·by_cases b : s.B = 0
   case neg => rw [decide_eq_false (by unfold okS; intro h; exact b (h.2.2.2.2.2.1 f))]; exact nfa_state_r9 k1 k7 d (num_t a) f (num_ff b)
   by_cases o : s.Kind = 1
   ·by_cases e : mergeR s.Ranges.xs = s.Ranges.xs
    ·rw [decide_eq_true e] at hq
     rw [decide_eq_true (by unfold okS; exact ⟨k1, k7, fun _ => a, fun h => absurd h d, fun h => absurd h f, fun _ => b, fun h => absurd o h, e⟩)]
     exact nfa_state_r4 k1 k7 d (num_t a) f (num_f b) o hm hq
    ·rw [decide_eq_false e] at hq
     rw [decide_eq_false (by unfold okS; intro h; exact e h.2.2.2.2.2.2.2)]
     exact nfa_state_r5 k1 k7 d (num_t a) f (num_f b) o hm hq
   ·by_cases r : s.Ranges.xs = []
    case neg => rw [decide_eq_false (by unfold okS; intro h; exact r (h.2.2.2.2.2.2.1 o))]; exact nfa_state_r8 k1 k7 d (num_t a) f (num_f b) o (fun h => r (len0.1 h))
    by_cases e : mergeR s.Ranges.xs = s.Ranges.xs
    ·rw [decide_eq_true e] at hq
     rw [decide_eq_true (by unfold okS; exact ⟨k1, k7, fun _ => a, fun h => absurd h d, fun h => absurd h f, fun _ => b, fun _ => r, e⟩)]
     exact nfa_state_r6 k1 k7 d (num_t a) f (num_f b) o (len0.2 r) hm hq
    ·rw [decide_eq_false e] at hq
     rw [decide_eq_false (by unfold okS; intro h; exact e h.2.2.2.2.2.2.2)]
     exact nfa_state_r7 k1 k7 d (num_t a) f (num_f b) o (len0.2 r) hm hq
def wfStates (l : SL State) : Prop := small l.xs.length ∧ ∀ s ∈ l.xs, small (s.Ranges.xs.length + 1)
theorem index_run {l : SL State} (hw : wfStates l) : ∀ (rest : List State) (k : Nat), l.xs.drop k = rest → ((∀ s ∈ rest, okS l.xs.length s) ∧ ∃ z, sl_IndexFunc_State_l0 l l (l.xs.length : Int) k (sl_IndexFunc_State_l0_x1 l l (l.xs.length : Int) z)) ∨ ((∃ s ∈ rest, ¬ okS l.xs.length s) ∧ ∃ z : Nat, sl_IndexFunc_State_l0 l l (l.xs.length : Int) k (sl_IndexFunc_State_l0_x0 l z))
 | [], k, hd => .inl ⟨fun s hs => (by cases hs), k, sl_IndexFunc_State_l0_e2 (by have := drop_nil_le hd; omega)⟩
 | s :: rest, k, hd => by
  obtain ⟨h1, h2, h3⟩ := at_drop hd
  have hsm := small_lt hw.1
  have w3 : w64 ((k : Int) + 1) := w64k (by omega)
  have lk : (k : Int) < (l.xs.length : Int) := by omega
  have hst := state_run (s := s) (n := l.xs.length) (hw.2 s (List.mem_of_mem_drop (by rw [hd]; exact List.mem_cons_self ..)))
  by_cases o : okS l.xs.length s
  ·rw [decide_eq_true o] at hst
   rcases index_run hw rest (k + 1) h2 with ⟨g1, z, g2⟩ | ⟨⟨s', hs', hn⟩, z, g2⟩
   ·exact .inl ⟨fun s' hs' => (List.mem_cons.1 hs').elim (fun h => h ▸ o) (g1 s'), z, sl_IndexFunc_State_l0_s1 lk (by omega) h1 (nfa_Check_f1_r0 hst) w3 g2⟩
   ·exact .inr ⟨⟨s', List.mem_cons_of_mem _ hs', hn⟩, z, sl_IndexFunc_State_l0_s1 lk (by omega) h1 (nfa_Check_f1_r0 hst) w3 g2⟩
  ·rw [decide_eq_false o] at hst
   exact .inr ⟨⟨s, List.mem_cons_self .., o⟩, k, sl_IndexFunc_State_l0_e0 lk (by omega) h1 (nfa_Check_f1_r1 hst)⟩
def okL (l : SL State) : Prop := l.xs ≠ [] ∧ ∀ s ∈ l.xs, okS l.xs.length s
theorem check_run {l : SL State} (hw : wfStates l) : (okL l ∧ nfa_Check l 0) ∨ (¬ okL l ∧ nfa_Check l 101) := by
 by_cases h0 : l.xs = []
 ·exact .inr ⟨fun h => h.1 h0, nfa_Check_r0 (by rw [h0]; rfl)⟩
 have h0' : ¬ (l.xs.length : Int) = 0 := fun h => h0 (List.length_eq_zero_iff.1 (by omega))
 rcases index_run hw l.xs 0 (by simp) with ⟨g1, z, g2⟩ | ⟨⟨s, hs, hn⟩, z, g2⟩
 ·exact .inl ⟨⟨h0, g1⟩, nfa_Check_r2 h0' (sl_ContainsFunc_State_r1 (sl_IndexFunc_State_r1 g2) (by decide))⟩
 ·exact .inr ⟨fun h => hn (h.2 s hs), nfa_Check_r1 h0' (sl_ContainsFunc_State_r0 (sl_IndexFunc_State_r0 g2) (by omega))⟩
end
section
open Go
set_option linter.unusedVariables false
set_option linter.unusedSimpArgs false
set_option linter.unusedSectionVars false
theorem b_em (b : Bool) : b = true ∨ b = false := by cases b <;> simp
theorem mergeR_small {l : List Range} (hs : small (l.length + 1)) : small (mergeR l).length := by
 have := mergeR_length l
 unfold small at hs ⊢; omega
theorem rx_ranges_run {l : SL Range} (hs : small (l.xs.length + 1)) : (Canon l.xs ∧ rx_ranges l true) ∨ (¬ Canon l.xs ∧ rx_ranges l false) := by
 obtain ⟨t, h⟩ := rx_merge hs
 have e := equal_ranges (a := ⟨2, mergeR l.xs, t⟩) (b := l) (mergeR_small hs)
 by_cases c : mergeR l.xs = l.xs
 ·rw [decide_eq_true c] at e
  exact .inl ⟨(mergeR_iff _).1 c, rx_ranges_r0 h e⟩
 ·rw [decide_eq_false c] at e
  exact .inr ⟨fun hc => c ((mergeR_iff _).2 hc), rx_ranges_r1 h e⟩
def nodeOK (x : Rx) : Prop :=
 (x.Kind = 2 ∨ x.Ranges.xs.length = 0) ∧ (x.Kind = 5 ∨ (x.Min = 0 ∧ x.Max = 0 ∧ x.Lazy = false)) ∧ Canon x.Ranges.xs ∧
 (((x.Kind = 1 ∨ x.Kind = 2 ∨ x.Kind = 6 ∨ x.Kind = 7 ∨ x.Kind = 8 ∨ x.Kind = 9) ∧ x.Sub.xs.length = 0) ∨ ((x.Kind = 3 ∨ x.Kind = 4) ∧ 2 ≤ x.Sub.xs.length) ∨
  (x.Kind = 5 ∧ x.Sub.xs.length = 1 ∧ 0 ≤ x.Min ∧ x.Min ≤ 1000 ∧ -1 ≤ x.Max ∧ x.Max ≤ 1000 ∧ (x.Max < 0 ∨ x.Min ≤ x.Max)))
def rightR : Nat → Rx → Prop
 | 0, _ => False
 | n + 1, x => nodeOK x ∧ ∀ y ∈ x.Sub.xs, rightR n y
theorem canon0 {l : List Range} (h : l.length = 0) : Canon l := by
 have : l = [] := List.eq_nil_of_length_eq_zero h
 subst this; exact .nil
set_option maxHeartbeats 4000000 in
theorem fits_node {x : Rx} {levels : Int} {A : Prop} (hl : ¬ levels = 0) (hr : small (x.Ranges.xs.length + 1)) (hsub : (A ∧ sl_ContainsFunc_Rx levels x.Sub false levels) ∨ (¬ A ∧ sl_ContainsFunc_Rx levels x.Sub true levels)) :
  ∃ b, rx_fits x levels b ∧ (b = true ↔ nodeOK x ∧ A) := by
 rcases Classical.em (levels = 0) with h0 | h0
 ·skip
  exact ⟨_, (rx_fits_r0 h0), by unfold nodeOK; grind [canon0]⟩
 ·skip
  rcases Classical.em (x.Kind = 1) with h1 | h1
  ·skip
   rcases Classical.em ((x.Sub.xs.length : Int) > 0) with h2 | h2
   ·skip
    exact ⟨_, (rx_fits_r1 h0 h1 h2), by unfold nodeOK; grind [canon0]⟩
   ·skip
    rcases Classical.em ((x.Ranges.xs.length : Int) > 0) with h3 | h3
    ·skip
     exact ⟨_, (rx_fits_r2 h0 h1 h2 h3), by unfold nodeOK; grind [canon0]⟩
    ·skip
     rcases Classical.em (x.Min = 0) with h4 | h4
     ·skip
      rcases Classical.em (x.Max = 0) with h5 | h5
      ·skip
       rcases b_em (x.Lazy) with h6 | h6
       ·skip
        exact ⟨_, (rx_fits_r5 h0 h1 h2 h3 h4 h5 h6), by unfold nodeOK; grind [canon0]⟩
       ·skip
        rcases hsub with ⟨ha, h7⟩ | ⟨ha, h7⟩
        ·skip
         exact ⟨_, (rx_fits_r7 h0 h1 h2 h3 h4 h5 h6 h7), by unfold nodeOK; grind [canon0]⟩
        ·skip
         exact ⟨_, (rx_fits_r6 h0 h1 h2 h3 h4 h5 h6 h7), by unfold nodeOK; grind [canon0]⟩
      ·skip
       exact ⟨_, (rx_fits_r4 h0 h1 h2 h3 h4 h5), by unfold nodeOK; grind [canon0]⟩
     ·skip
      exact ⟨_, (rx_fits_r3 h0 h1 h2 h3 h4), by unfold nodeOK; grind [canon0]⟩
  ·skip
   rcases Classical.em (x.Kind = 6) with h2 | h2
   ·skip
    rcases Classical.em ((x.Sub.xs.length : Int) > 0) with h3 | h3
    ·skip
     exact ⟨_, (rx_fits_r8 h0 h1 h2 h3), by unfold nodeOK; grind [canon0]⟩
    ·skip
     rcases Classical.em ((x.Ranges.xs.length : Int) > 0) with h4 | h4
     ·skip
      exact ⟨_, (rx_fits_r9 h0 h1 h2 h3 h4), by unfold nodeOK; grind [canon0]⟩
     ·skip
      rcases Classical.em (x.Min = 0) with h5 | h5
      ·skip
       rcases Classical.em (x.Max = 0) with h6 | h6
       ·skip
        rcases b_em (x.Lazy) with h7 | h7
        ·skip
         exact ⟨_, (rx_fits_r12 h0 h1 h2 h3 h4 h5 h6 h7), by unfold nodeOK; grind [canon0]⟩
        ·skip
         rcases hsub with ⟨ha, h8⟩ | ⟨ha, h8⟩
         ·skip
          exact ⟨_, (rx_fits_r14 h0 h1 h2 h3 h4 h5 h6 h7 h8), by unfold nodeOK; grind [canon0]⟩
         ·skip
          exact ⟨_, (rx_fits_r13 h0 h1 h2 h3 h4 h5 h6 h7 h8), by unfold nodeOK; grind [canon0]⟩
       ·skip
        exact ⟨_, (rx_fits_r11 h0 h1 h2 h3 h4 h5 h6), by unfold nodeOK; grind [canon0]⟩
      ·skip
       exact ⟨_, (rx_fits_r10 h0 h1 h2 h3 h4 h5), by unfold nodeOK; grind [canon0]⟩
   ·skip
    rcases Classical.em (x.Kind = 7) with h3 | h3
    ·skip
     rcases Classical.em ((x.Sub.xs.length : Int) > 0) with h4 | h4
     ·skip
      exact ⟨_, (rx_fits_r15 h0 h1 h2 h3 h4), by unfold nodeOK; grind [canon0]⟩
     ·skip
      rcases Classical.em ((x.Ranges.xs.length : Int) > 0) with h5 | h5
      ·skip
       exact ⟨_, (rx_fits_r16 h0 h1 h2 h3 h4 h5), by unfold nodeOK; grind [canon0]⟩
      ·skip
       rcases Classical.em (x.Min = 0) with h6 | h6
       ·skip
        rcases Classical.em (x.Max = 0) with h7 | h7
        ·skip
         rcases b_em (x.Lazy) with h8 | h8
         ·skip
          exact ⟨_, (rx_fits_r19 h0 h1 h2 h3 h4 h5 h6 h7 h8), by unfold nodeOK; grind [canon0]⟩
         ·skip
          rcases hsub with ⟨ha, h9⟩ | ⟨ha, h9⟩
          ·skip
           exact ⟨_, (rx_fits_r21 h0 h1 h2 h3 h4 h5 h6 h7 h8 h9), by unfold nodeOK; grind [canon0]⟩
          ·skip
           exact ⟨_, (rx_fits_r20 h0 h1 h2 h3 h4 h5 h6 h7 h8 h9), by unfold nodeOK; grind [canon0]⟩
        ·skip
         exact ⟨_, (rx_fits_r18 h0 h1 h2 h3 h4 h5 h6 h7), by unfold nodeOK; grind [canon0]⟩
       ·skip
        exact ⟨_, (rx_fits_r17 h0 h1 h2 h3 h4 h5 h6), by unfold nodeOK; grind [canon0]⟩
    ·skip
     rcases Classical.em (x.Kind = 8) with h4 | h4
     ·skip
      rcases Classical.em ((x.Sub.xs.length : Int) > 0) with h5 | h5
      ·skip
       exact ⟨_, (rx_fits_r22 h0 h1 h2 h3 h4 h5), by unfold nodeOK; grind [canon0]⟩
      ·skip
       rcases Classical.em ((x.Ranges.xs.length : Int) > 0) with h6 | h6
       ·skip
        exact ⟨_, (rx_fits_r23 h0 h1 h2 h3 h4 h5 h6), by unfold nodeOK; grind [canon0]⟩
       ·skip
        rcases Classical.em (x.Min = 0) with h7 | h7
        ·skip
         rcases Classical.em (x.Max = 0) with h8 | h8
         ·skip
          rcases b_em (x.Lazy) with h9 | h9
          ·skip
           exact ⟨_, (rx_fits_r26 h0 h1 h2 h3 h4 h5 h6 h7 h8 h9), by unfold nodeOK; grind [canon0]⟩
          ·skip
           rcases hsub with ⟨ha, h10⟩ | ⟨ha, h10⟩
           ·skip
            exact ⟨_, (rx_fits_r28 h0 h1 h2 h3 h4 h5 h6 h7 h8 h9 h10), by unfold nodeOK; grind [canon0]⟩
           ·skip
            exact ⟨_, (rx_fits_r27 h0 h1 h2 h3 h4 h5 h6 h7 h8 h9 h10), by unfold nodeOK; grind [canon0]⟩
         ·skip
          exact ⟨_, (rx_fits_r25 h0 h1 h2 h3 h4 h5 h6 h7 h8), by unfold nodeOK; grind [canon0]⟩
        ·skip
         exact ⟨_, (rx_fits_r24 h0 h1 h2 h3 h4 h5 h6 h7), by unfold nodeOK; grind [canon0]⟩
     ·skip
      rcases Classical.em (x.Kind = 9) with h5 | h5
      ·skip
       rcases Classical.em ((x.Sub.xs.length : Int) > 0) with h6 | h6
       ·skip
        exact ⟨_, (rx_fits_r29 h0 h1 h2 h3 h4 h5 h6), by unfold nodeOK; grind [canon0]⟩
       ·skip
        rcases Classical.em ((x.Ranges.xs.length : Int) > 0) with h7 | h7
        ·skip
         exact ⟨_, (rx_fits_r30 h0 h1 h2 h3 h4 h5 h6 h7), by unfold nodeOK; grind [canon0]⟩
        ·skip
         rcases Classical.em (x.Min = 0) with h8 | h8
         ·skip
          rcases Classical.em (x.Max = 0) with h9 | h9
          ·skip
           rcases b_em (x.Lazy) with h10 | h10
           ·skip
            exact ⟨_, (rx_fits_r33 h0 h1 h2 h3 h4 h5 h6 h7 h8 h9 h10), by unfold nodeOK; grind [canon0]⟩
           ·skip
            rcases hsub with ⟨ha, h11⟩ | ⟨ha, h11⟩
            ·skip
             exact ⟨_, (rx_fits_r35 h0 h1 h2 h3 h4 h5 h6 h7 h8 h9 h10 h11), by unfold nodeOK; grind [canon0]⟩
            ·skip
             exact ⟨_, (rx_fits_r34 h0 h1 h2 h3 h4 h5 h6 h7 h8 h9 h10 h11), by unfold nodeOK; grind [canon0]⟩
          ·skip
           exact ⟨_, (rx_fits_r32 h0 h1 h2 h3 h4 h5 h6 h7 h8 h9), by unfold nodeOK; grind [canon0]⟩
         ·skip
          exact ⟨_, (rx_fits_r31 h0 h1 h2 h3 h4 h5 h6 h7 h8), by unfold nodeOK; grind [canon0]⟩
      ·skip
       rcases Classical.em (x.Kind = 2) with h6 | h6
       ·skip
        rcases Classical.em ((x.Sub.xs.length : Int) > 0) with h7 | h7
        ·skip
         exact ⟨_, (rx_fits_r36 h0 h1 h2 h3 h4 h5 h6 h7), by unfold nodeOK; grind [canon0]⟩
        ·skip
         rcases rx_ranges_run hr with ⟨hc, h8⟩ | ⟨hc, h8⟩
         ·skip
          rcases Classical.em (x.Min = 0) with h9 | h9
          ·skip
           rcases Classical.em (x.Max = 0) with h10 | h10
           ·skip
            rcases b_em (x.Lazy) with h11 | h11
            ·skip
             exact ⟨_, (rx_fits_r39 h0 h1 h2 h3 h4 h5 h6 h7 h8 h9 h10 h11), by unfold nodeOK; grind [canon0]⟩
            ·skip
             rcases hsub with ⟨ha, h12⟩ | ⟨ha, h12⟩
             ·skip
              exact ⟨_, (rx_fits_r41 h0 h1 h2 h3 h4 h5 h6 h7 h8 h9 h10 h11 h12), by unfold nodeOK; grind [canon0]⟩
             ·skip
              exact ⟨_, (rx_fits_r40 h0 h1 h2 h3 h4 h5 h6 h7 h8 h9 h10 h11 h12), by unfold nodeOK; grind [canon0]⟩
           ·skip
            exact ⟨_, (rx_fits_r38 h0 h1 h2 h3 h4 h5 h6 h7 h8 h9 h10), by unfold nodeOK; grind [canon0]⟩
          ·skip
           exact ⟨_, (rx_fits_r37 h0 h1 h2 h3 h4 h5 h6 h7 h8 h9), by unfold nodeOK; grind [canon0]⟩
         ·skip
          exact ⟨_, (rx_fits_r42 h0 h1 h2 h3 h4 h5 h6 h7 h8), by unfold nodeOK; grind [canon0]⟩
       ·skip
        rcases Classical.em (x.Kind = 3) with h7 | h7
        ·skip
         rcases Classical.em ((x.Sub.xs.length : Int) < 2) with h8 | h8
         ·skip
          exact ⟨_, (rx_fits_r43 h0 h1 h2 h3 h4 h5 h6 h7 h8), by unfold nodeOK; grind [canon0]⟩
         ·skip
          rcases Classical.em ((x.Ranges.xs.length : Int) > 0) with h9 | h9
          ·skip
           exact ⟨_, (rx_fits_r44 h0 h1 h2 h3 h4 h5 h6 h7 h8 h9), by unfold nodeOK; grind [canon0]⟩
          ·skip
           rcases Classical.em (x.Min = 0) with h10 | h10
           ·skip
            rcases Classical.em (x.Max = 0) with h11 | h11
            ·skip
             rcases b_em (x.Lazy) with h12 | h12
             ·skip
              exact ⟨_, (rx_fits_r47 h0 h1 h2 h3 h4 h5 h6 h7 h8 h9 h10 h11 h12), by unfold nodeOK; grind [canon0]⟩
             ·skip
              rcases hsub with ⟨ha, h13⟩ | ⟨ha, h13⟩
              ·skip
               exact ⟨_, (rx_fits_r49 h0 h1 h2 h3 h4 h5 h6 h7 h8 h9 h10 h11 h12 h13), by unfold nodeOK; grind [canon0]⟩
              ·skip
               exact ⟨_, (rx_fits_r48 h0 h1 h2 h3 h4 h5 h6 h7 h8 h9 h10 h11 h12 h13), by unfold nodeOK; grind [canon0]⟩
            ·skip
             exact ⟨_, (rx_fits_r46 h0 h1 h2 h3 h4 h5 h6 h7 h8 h9 h10 h11), by unfold nodeOK; grind [canon0]⟩
           ·skip
            exact ⟨_, (rx_fits_r45 h0 h1 h2 h3 h4 h5 h6 h7 h8 h9 h10), by unfold nodeOK; grind [canon0]⟩
        ·skip
         rcases Classical.em (x.Kind = 4) with h8 | h8
         ·skip
          rcases Classical.em ((x.Sub.xs.length : Int) < 2) with h9 | h9
          ·skip
           exact ⟨_, (rx_fits_r50 h0 h1 h2 h3 h4 h5 h6 h7 h8 h9), by unfold nodeOK; grind [canon0]⟩
          ·skip
           rcases Classical.em ((x.Ranges.xs.length : Int) > 0) with h10 | h10
           ·skip
            exact ⟨_, (rx_fits_r51 h0 h1 h2 h3 h4 h5 h6 h7 h8 h9 h10), by unfold nodeOK; grind [canon0]⟩
           ·skip
            rcases Classical.em (x.Min = 0) with h11 | h11
            ·skip
             rcases Classical.em (x.Max = 0) with h12 | h12
             ·skip
              rcases b_em (x.Lazy) with h13 | h13
              ·skip
               exact ⟨_, (rx_fits_r54 h0 h1 h2 h3 h4 h5 h6 h7 h8 h9 h10 h11 h12 h13), by unfold nodeOK; grind [canon0]⟩
              ·skip
               rcases hsub with ⟨ha, h14⟩ | ⟨ha, h14⟩
               ·skip
                exact ⟨_, (rx_fits_r56 h0 h1 h2 h3 h4 h5 h6 h7 h8 h9 h10 h11 h12 h13 h14), by unfold nodeOK; grind [canon0]⟩
               ·skip
                exact ⟨_, (rx_fits_r55 h0 h1 h2 h3 h4 h5 h6 h7 h8 h9 h10 h11 h12 h13 h14), by unfold nodeOK; grind [canon0]⟩
             ·skip
              exact ⟨_, (rx_fits_r53 h0 h1 h2 h3 h4 h5 h6 h7 h8 h9 h10 h11 h12), by unfold nodeOK; grind [canon0]⟩
            ·skip
             exact ⟨_, (rx_fits_r52 h0 h1 h2 h3 h4 h5 h6 h7 h8 h9 h10 h11), by unfold nodeOK; grind [canon0]⟩
         ·skip
          rcases Classical.em (x.Kind = 5) with h9 | h9
          ·skip
           rcases Classical.em ((x.Sub.xs.length : Int) = 1) with h10 | h10
           ·skip
            rcases Classical.em (x.Min < 0) with h11 | h11
            ·skip
             exact ⟨_, (rx_fits_r58 h0 h1 h2 h3 h4 h5 h6 h7 h8 h9 h10 h11), by unfold nodeOK; grind [canon0]⟩
            ·skip
             rcases Classical.em (x.Min > 1000) with h12 | h12
             ·skip
              exact ⟨_, (rx_fits_r59 h0 h1 h2 h3 h4 h5 h6 h7 h8 h9 h10 h11 h12), by unfold nodeOK; grind [canon0]⟩
             ·skip
              rcases Classical.em (x.Max < (-1)) with h13 | h13
              ·skip
               exact ⟨_, (rx_fits_r60 h0 h1 h2 h3 h4 h5 h6 h7 h8 h9 h10 h11 h12 h13), by unfold nodeOK; grind [canon0]⟩
              ·skip
               rcases Classical.em (x.Max > 1000) with h14 | h14
               ·skip
                exact ⟨_, (rx_fits_r61 h0 h1 h2 h3 h4 h5 h6 h7 h8 h9 h10 h11 h12 h13 h14), by unfold nodeOK; grind [canon0]⟩
               ·skip
                rcases Classical.em (x.Max ≥ 0) with h15 | h15
                ·skip
                 rcases Classical.em (x.Max < x.Min) with h16 | h16
                 ·skip
                  exact ⟨_, (rx_fits_r62 h0 h1 h2 h3 h4 h5 h6 h7 h8 h9 h10 h11 h12 h13 h14 h15 h16), by unfold nodeOK; grind [canon0]⟩
                 ·skip
                  rcases Classical.em ((x.Ranges.xs.length : Int) > 0) with h17 | h17
                  ·skip
                   exact ⟨_, (rx_fits_r63 h0 h1 h2 h3 h4 h5 h6 h7 h8 h9 h10 h11 h12 h13 h14 h15 h16 h17), by unfold nodeOK; grind [canon0]⟩
                  ·skip
                   rcases hsub with ⟨ha, h18⟩ | ⟨ha, h18⟩
                   ·skip
                    exact ⟨_, (rx_fits_r65 h0 h1 h2 h3 h4 h5 h6 h7 h8 h9 h10 h11 h12 h13 h14 h15 h16 h17 h18), by unfold nodeOK; grind [canon0]⟩
                   ·skip
                    exact ⟨_, (rx_fits_r64 h0 h1 h2 h3 h4 h5 h6 h7 h8 h9 h10 h11 h12 h13 h14 h15 h16 h17 h18), by unfold nodeOK; grind [canon0]⟩
                ·skip
                 rcases Classical.em ((x.Ranges.xs.length : Int) > 0) with h16 | h16
                 ·skip
                  exact ⟨_, (rx_fits_r66 h0 h1 h2 h3 h4 h5 h6 h7 h8 h9 h10 h11 h12 h13 h14 h15 h16), by unfold nodeOK; grind [canon0]⟩
                 ·skip
                  rcases hsub with ⟨ha, h17⟩ | ⟨ha, h17⟩
                  ·skip
                   exact ⟨_, (rx_fits_r68 h0 h1 h2 h3 h4 h5 h6 h7 h8 h9 h10 h11 h12 h13 h14 h15 h16 h17), by unfold nodeOK; grind [canon0]⟩
                  ·skip
                   exact ⟨_, (rx_fits_r67 h0 h1 h2 h3 h4 h5 h6 h7 h8 h9 h10 h11 h12 h13 h14 h15 h16 h17), by unfold nodeOK; grind [canon0]⟩
           ·skip
            exact ⟨_, (rx_fits_r57 h0 h1 h2 h3 h4 h5 h6 h7 h8 h9 h10), by unfold nodeOK; grind [canon0]⟩
          ·skip
           exact ⟨_, (rx_fits_r69 h0 h1 h2 h3 h4 h5 h6 h7 h8 h9), by unfold nodeOK; grind [canon0]⟩
end
section
open Go
set_option linter.unusedVariables false
set_option linter.unnecessarySimpa false
set_option linter.unusedSimpArgs false
set_option linter.unusedSectionVars false
def wordB (p : Int) : Bool := decide ((48 ≤ p ∧ p ≤ 57) ∨ p = 95 ∨ (97 ≤ bitOr .i64 p 32 ∧ bitOr .i64 p 32 ≤ 122 ∧ p < 128))
theorem word_run (p : Int) : pike_Word p (wordB p) := by
 have t : ∀ {b : Bool}, ((48 ≤ p ∧ p ≤ 57) ∨ p = 95 ∨ (97 ≤ bitOr .i64 p 32 ∧ bitOr .i64 p 32 ≤ 122 ∧ p < 128)) → pike_Word p true → pike_Word p (wordB p) := fun h k => by unfold wordB; rw [decide_eq_true h]; exact k
 have f : ¬ ((48 ≤ p ∧ p ≤ 57) ∨ p = 95 ∨ (97 ≤ bitOr .i64 p 32 ∧ bitOr .i64 p 32 ≤ 122 ∧ p < 128)) → pike_Word p false → pike_Word p (wordB p) := fun h k => by unfold wordB; rw [decide_eq_false h]; exact k
 by_cases h0 : p ≥ 48
 ·by_cases h1 : p ≤ 57
  ·exact t (b := true) (by omega) (pike_Word_r0 h0 h1)
  ·by_cases h2 : p = 95
   ·exact t (b := true) (by omega) (pike_Word_r1 h0 h1 h2)
   ·by_cases h3 : bitOr .i64 p 32 ≥ 97
    ·by_cases h4 : bitOr .i64 p 32 ≤ 122
     ·by_cases h5 : p < 128
      ·exact t (b := true) (by omega) (pike_Word_r2 h0 h1 h2 h3 h4 h5)
      ·exact f (by omega) (pike_Word_r3 h0 h1 h2 h3 h4 h5)
     ·exact f (by omega) (pike_Word_r4 h0 h1 h2 h3 h4)
    ·exact f (by omega) (pike_Word_r5 h0 h1 h2 h3)
 ·by_cases h2 : p = 95
  ·exact t (b := true) (by omega) (pike_Word_r6 h0 h2)
  ·by_cases h3 : bitOr .i64 p 32 ≥ 97
   ·by_cases h4 : bitOr .i64 p 32 ≤ 122
    ·by_cases h5 : p < 128
     ·exact t (b := true) (by omega) (pike_Word_r7 h0 h2 h3 h4 h5)
     ·exact f (by omega) (pike_Word_r8 h0 h2 h3 h4 h5)
    ·exact f (by omega) (pike_Word_r9 h0 h2 h3 h4)
   ·exact f (by omega) (pike_Word_r10 h0 h2 h3)
def aheadB (s : List Int) : Nat → Bool
 | 0 => false
 | k + 1 => match s[k]? with
  | some y => wordB y
  | none => false
def behindB (s : List Int) (k : Nat) : Bool := match s[k]? with
 | some y => wordB y
 | none => false
def borderB (s : List Int) (k : Nat) : Bool := aheadB s k != behindB s k
theorem border_run {r : pike_run} {k : Nat} (hk : k ≤ r.s_.xs.length) (hs : r.s_.xs.length < 1000000000000) : pr_border r k (borderB r.s_.xs k) := by
 unfold borderB
 have hbe : ∀ {y : Int}, r.s_.xs[k]? = some y → behindB r.s_.xs k = wordB y := fun h => by unfold behindB; rw [h]
 have hbn : ¬ k < r.s_.xs.length → behindB r.s_.xs k = false := fun h => by unfold behindB; rw [List.getElem?_eq_none (by omega)]
 cases k with
 | zero =>
  by_cases h1 : 0 < r.s_.xs.length
  ·obtain ⟨y, hy⟩ : ∃ y, r.s_.xs[0]? = some y := ⟨_, List.getElem?_eq_getElem h1⟩
   rw [hbe hy]
   have hw := word_run y
   cases hb : wordB y with
   | true => rw [hb] at hw; exact pr_border_r6 (by omega) (by omega) (by omega) hy hw
   | false => rw [hb] at hw; exact pr_border_r7 (by omega) (by omega) (by omega) hy hw
  ·rw [hbn h1]
   exact pr_border_r8 (by omega) (by omega)
 | succ j =>
  obtain ⟨x, hx⟩ : ∃ x, r.s_.xs[j]? = some x := ⟨_, List.getElem?_eq_getElem (by omega)⟩
  have ha : aheadB r.s_.xs (j + 1) = wordB x := by simp only [aheadB, hx]
  have e1 : (((j + 1 : Nat) : Int) - 1).toNat = j := by omega
  have hx' : r.s_.xs[(((j + 1 : Nat) : Int) - 1).toNat]? = some x := by rw [e1]; exact hx
  have wx := word_run x
  have w1 : w64 (((j + 1 : Nat) : Int) - 1) := in64 (by omega) (by omega)
  rw [ha]
  by_cases h1 : j + 1 < r.s_.xs.length
  ·obtain ⟨y, hy⟩ : ∃ y, r.s_.xs[j + 1]? = some y := ⟨_, List.getElem?_eq_getElem h1⟩
   rw [hbe hy]
   have hy' : r.s_.xs[((j + 1 : Nat) : Int).toNat]? = some y := by rw [Int.toNat_natCast]; exact hy
   have wy := word_run y
   cases hb : wordB x <;> cases hc : wordB y <;> rw [hb] at wx <;> rw [hc] at wy
   ·exact pr_border_r4 (by omega) w1 (by omega) hx' wx (by omega) (by omega) hy' wy
   ·exact pr_border_r3 (by omega) w1 (by omega) hx' wx (by omega) (by omega) hy' wy
   ·exact pr_border_r1 (by omega) w1 (by omega) hx' wx (by omega) (by omega) hy' wy
   ·exact pr_border_r0 (by omega) w1 (by omega) hx' wx (by omega) (by omega) hy' wy
  ·rw [hbn h1]
   cases hb : wordB x <;> rw [hb] at wx
   ·exact pr_border_r5 (by omega) w1 (by omega) hx' wx (by omega)
   ·exact pr_border_r2 (by omega) w1 (by omega) hx' wx (by omega)
def letsB (s : List Int) (k : Int) (i : Nat) : Bool :=
 if k = 2 then true else if k = 3 then decide (i = 0) else if k = 4 then decide (i = s.length) else if k = 5 then borderB s i else if k = 6 then !borderB s i else false
theorem lets_run {r : pike_run} {i : Nat} (k : Int) (hk : i ≤ r.s_.xs.length) (hs : r.s_.xs.length < 1000000000000) : pr_lets r k i (letsB r.s_.xs k i) := by
 have hb := border_run hk hs
 unfold letsB
 by_cases h2 : k = 2
 ·rw [if_pos h2]; exact pr_lets_r0 h2
 ·rw [if_neg h2]
  by_cases h3 : k = 3
  ·rw [if_pos h3]
   by_cases h : i = 0
   ·rw [decide_eq_true h]; exact pr_lets_r1 h2 h3 (by omega)
   ·rw [decide_eq_false h]; exact pr_lets_r2 h2 h3 (by omega)
  ·rw [if_neg h3]
   by_cases h4 : k = 4
   ·rw [if_pos h4]
    by_cases h : i = r.s_.xs.length
    ·rw [decide_eq_true h]; exact pr_lets_r3 h2 h3 h4 (by omega)
    ·rw [decide_eq_false h]; exact pr_lets_r4 h2 h3 h4 (by omega)
   ·rw [if_neg h4]
    by_cases h5 : k = 5
    ·rw [if_pos h5]
     cases hbb : borderB r.s_.xs i <;> rw [hbb] at hb
     ·exact pr_lets_r6 h2 h3 h4 h5 hb
     ·exact pr_lets_r5 h2 h3 h4 h5 hb
    ·rw [if_neg h5]
     by_cases h6 : k = 6
     ·rw [if_pos h6]
      cases hbb : borderB r.s_.xs i <;> rw [hbb] at hb
      ·exact pr_lets_r8 h2 h3 h4 h5 h6 hb
      ·exact pr_lets_r7 h2 h3 h4 h5 h6 hb
     ·rw [if_neg h6]
      exact pr_lets_r9 h2 h3 h4 h5 h6
inductive TD where
 | d (s : SL Int)
 | r (l : List Int) (t : Bool) (n : Nat)
def TD.xs : TD → List Int
 | .d s => s.xs
 | .r l _ n => l.take n
def TD.ok : TD → Prop
 | .d _ => True
 | .r l _ n => n ≤ l.length
def SP (r : pike_run) (i : Int) (seen : List (Int × Int)) (all : List Int) (allt done : Bool) : TD → Ex × XSt → Prop
 | .d s, e => pr_spread_l0 seen all r i allt all.length done s e
 | .r l t n, e => pr_spread_l0_b seen all l r i allt all.length done t n e
theorem snoc_get {l xs : List Int} {x : Int} (h : l = xs ++ [x]) : (l.length : Int) > 0 ∧ 0 ≤ (l.length : Int) - 1 ∧ l[((l.length : Int) - 1).toNat]? = some x ∧ l.take (((l.length : Int) - 1).toNat) = xs ∧ ((l.length : Int) - 1).toNat = xs.length := by
 subst h
 have e : (((xs ++ [x]).length : Nat) : Int) - 1 = xs.length := by simp
 rw [e, Int.toNat_natCast]
 exact ⟨by simp; try omega, by omega, by simp, by simp, rfl⟩
theorem take_get {l xs : List Int} {x : Int} {n : Nat} (hn : n ≤ l.length) (h : l.take n = xs ++ [x]) : (n : Int) > 0 ∧ 0 ≤ (n : Int) - 1 ∧ l[((n : Int) - 1).toNat]? = some x ∧ l.take (((n : Int) - 1).toNat) = xs ∧ ((n : Int) - 1).toNat = xs.length := by
 have hl : n = xs.length + 1 := by
  have := congrArg List.length h
  simp at this
  omega
 subst hl
 have e : ((xs.length + 1 : Nat) : Int) - 1 = xs.length := by omega
 rw [e, Int.toNat_natCast]
 refine ⟨by omega, by omega, ?_, ?_, rfl⟩
 ·have : (l.take (xs.length + 1))[xs.length]? = some x := by rw [h]; simp
  rw [List.getElem?_take_of_lt (by omega)] at this
  exact this
 ·have : (l.take (xs.length + 1)).take xs.length = xs := by rw [h]; simp
  rw [List.take_take, Nat.min_eq_left (by omega)] at this
  exact this
theorem tdr (l : List Int) (t : Bool) : (TD.r l t l.length).xs = l := List.take_length ..
theorem sp_skip {r : pike_run} {i : Int} {seen : List (Int × Int)} {all : List Int} {allt done : Bool} {T : TD} {xs : List Int} {x v : Int} (hok : T.ok) (hx : T.xs = xs ++ [x]) (hf : mfind x seen = some v) (hv : v > 0) (hb : xs.length < 1000000000000) :
  ∃ T' : TD, T'.ok ∧ T'.xs = xs ∧ ∀ e, SP r i seen all allt done T' e → SP r i seen all allt done T e := by
 cases T with
 | d s =>
  have hx' : s.xs = xs ++ [x] := hx
  obtain ⟨h1, h2, h3, h4, h5⟩ := snoc_get hx'
  have w : w64 ((s.xs.length : Int) - 1) := in64 (by omega) (by omega)
  refine ⟨.d ⟨1, s.xs.take (((s.xs.length : Int) - 1).toNat), true⟩, trivial, h4, fun e h => ?_⟩
  cases done with
  | true => exact pr_spread_l0_s0 h1 w h2 h3 (by omega) hf hv h
  | false => exact pr_spread_l0_s10 h1 w h2 h3 (by omega) hf hv h
 | r l t n =>
  have hx' : l.take n = xs ++ [x] := hx
  have hok0 : n ≤ l.length := hok
  obtain ⟨h1, h2, h3, h4, h5⟩ := take_get hok0 hx'
  have w : w64 ((n : Int) - 1) := in64 (by omega) (by omega)
  have hok' : n ≤ l.length := hok
  refine ⟨.r l true (((n : Int) - 1).toNat), by show _ ≤ _; omega, h4, fun e h => ?_⟩
  cases done with
  | true => exact pr_spread_l0_b_s24 h1 w h2 h3 (by omega) (by omega) hf hv h
  | false => exact pr_spread_l0_b_s34 h1 w h2 h3 (by omega) (by omega) hf hv h
def kFork (k : Int) (b : Int) : List Int := if k = 2 then [b] else []
def kGo (b : Bool) (a : Int) : List Int := if b = true then [a] else []
theorem sp_new {r : pike_run} {i : Int} {seen : List (Int × Int)} {all : List Int} {allt done : Bool} {T : TD} {xs : List Int} {x : Int} {st : State} {b : Bool} (hok : T.ok) (hx : T.xs = xs ++ [x]) (hf : mfind x seen = none) (h0 : 0 ≤ x) (hst : r.l_.xs[x.toNat]? = some st) (hL : pr_lets r st.Kind i b)
  (h7 : st.Kind = 7 → b = false) (hb : xs.length < 1000000000000) (ha : all.length < 1000000000000) :
  ∃ (T' : TD) (allt' : Bool), T'.ok ∧ T'.xs = xs ++ (kGo b st.A ++ kFork st.Kind st.B) ∧ ∀ e, SP r i (mput x 1 seen) (all ++ [x]) allt' (done || decide (st.Kind = 7)) T' e → SP r i seen all allt done T e := by
 have hal : (all.length + 1) * 8 ≤ 140737488355328 := by omega
 have tk : all.take all.length = all := List.take_length ..
 cases T with
 | d s =>
  have hx' : s.xs = xs ++ [x] := hx
  obtain ⟨h1, h2, h3, h4, h5⟩ := snoc_get hx'
  have w : w64 ((s.xs.length : Int) - 1) := in64 (by omega) (by omega)
  have hn : ((s.xs.length : Int) - 1).toNat ≤ s.xs.length := by omega
  have b1 : ((s.xs.take (((s.xs.length : Int) - 1).toNat)).length + 1) * 8 ≤ 140737488355328 := by rw [h4]; omega
  have b2 : ∀ y : Int, (((s.xs.take (((s.xs.length : Int) - 1).toNat)) ++ [y]).length + 1) * 8 ≤ 140737488355328 := fun y => by rw [h4]; simp; omega
  cases done with
  | true =>
   cases b with
   | true =>
    by_cases k2 : st.Kind = 2
    ·refine ⟨.r (((s.xs.take (((s.xs.length : Int) - 1).toNat)) ++ [st.A]) ++ [st.B]) false _, false, Nat.le_refl _, ?_, fun e h => pr_spread_l0_s5 h1 w h2 h3 hn hf hal (Nat.le_refl _) h0 hst hL b1 k2 (b2 _) ?_⟩
     ·rw [tdr, h4]; simp [kGo, kFork, k2]
     ·rw [tk]; exact h
    ·refine ⟨.r ((s.xs.take (((s.xs.length : Int) - 1).toNat)) ++ [st.A]) false _, false, Nat.le_refl _, ?_, fun e h => pr_spread_l0_s6 h1 w h2 h3 hn hf hal (Nat.le_refl _) h0 hst hL b1 k2 ?_⟩
     ·rw [tdr, h4]; simp [kGo, kFork, k2]
     ·rw [tk]; exact h
   | false =>
    by_cases k2 : st.Kind = 2
    ·refine ⟨.r ((s.xs.take (((s.xs.length : Int) - 1).toNat)) ++ [st.B]) false _, false, Nat.le_refl _, ?_, fun e h => pr_spread_l0_s7 h1 w h2 h3 hn hf hal (Nat.le_refl _) h0 hst hL k2 b1 ?_⟩
     ·rw [tdr, h4]; simp [kGo, kFork, k2]
     ·rw [tk]; exact h
    ·refine ⟨.d ⟨1, s.xs.take (((s.xs.length : Int) - 1).toNat), true⟩, false, trivial, ?_, fun e h => pr_spread_l0_s8 h1 w h2 h3 hn hf hal (Nat.le_refl _) h0 hst hL k2 ?_⟩
     ·show s.xs.take _ = _; rw [h4]; simp [kGo, kFork, k2]
     ·rw [tk]; exact h
  | false =>
   by_cases k7 : st.Kind = 7
   ·have := h7 k7
    subst this
    refine ⟨.d ⟨1, s.xs.take (((s.xs.length : Int) - 1).toNat), true⟩, false, trivial, ?_, fun e h => pr_spread_l0_s18 h1 w h2 h3 hn hf hal (Nat.le_refl _) h0 hst k7 hL ?_⟩
    ·show s.xs.take _ = _; rw [h4]; simp [kGo, kFork, k7]
    ·rw [tk]; rw [decide_eq_true k7] at h; exact h
   ·have kd : (false || decide (st.Kind = 7)) = false := by simp [k7]
    rw [kd]
    cases b with
    | true =>
     by_cases k2 : st.Kind = 2
     ·refine ⟨.r (((s.xs.take (((s.xs.length : Int) - 1).toNat)) ++ [st.A]) ++ [st.B]) false _, false, Nat.le_refl _, ?_, fun e h => pr_spread_l0_s19 h1 w h2 h3 hn hf hal (Nat.le_refl _) h0 hst k7 hL b1 k2 (b2 _) ?_⟩
      ·rw [tdr, h4]; simp [kGo, kFork, k2]
      ·rw [tk]; exact h
     ·refine ⟨.r ((s.xs.take (((s.xs.length : Int) - 1).toNat)) ++ [st.A]) false _, false, Nat.le_refl _, ?_, fun e h => pr_spread_l0_s20 h1 w h2 h3 hn hf hal (Nat.le_refl _) h0 hst k7 hL b1 k2 ?_⟩
      ·rw [tdr, h4]; simp [kGo, kFork, k2]
      ·rw [tk]; exact h
    | false =>
     by_cases k2 : st.Kind = 2
     ·refine ⟨.r ((s.xs.take (((s.xs.length : Int) - 1).toNat)) ++ [st.B]) false _, false, Nat.le_refl _, ?_, fun e h => pr_spread_l0_s21 h1 w h2 h3 hn hf hal (Nat.le_refl _) h0 hst k7 hL k2 b1 ?_⟩
      ·rw [tdr, h4]; simp [kGo, kFork, k2]
      ·rw [tk]; exact h
     ·refine ⟨.d ⟨1, s.xs.take (((s.xs.length : Int) - 1).toNat), true⟩, false, trivial, ?_, fun e h => pr_spread_l0_s22 h1 w h2 h3 hn hf hal (Nat.le_refl _) h0 hst k7 hL k2 ?_⟩
      ·show s.xs.take _ = _; rw [h4]; simp [kGo, kFork, k2]
      ·rw [tk]; exact h
 | r l t n =>
  have hx' : l.take n = xs ++ [x] := hx
  have hok0 : n ≤ l.length := hok
  obtain ⟨h1, h2, h3, h4, h5⟩ := take_get hok0 hx'
  have hok' : n ≤ l.length := hok
  have w : w64 ((n : Int) - 1) := in64 (by omega) (by omega)
  have hn1 : ((n : Int) - 1).toNat < n := by omega
  have hn : ((n : Int) - 1).toNat ≤ n := by omega
  have hnl : ((n : Int) - 1).toNat ≤ l.length := by omega
  have b1 : (((n : Int) - 1).toNat + 1) * 8 ≤ 140737488355328 := by omega
  have b2 : ∀ y : Int, ((l.take (((n : Int) - 1).toNat) ++ [y]).length + 1) * 8 ≤ 140737488355328 := fun y => by rw [h4]; simp; omega
  cases done with
  | true =>
   cases b with
   | true =>
    by_cases k2 : st.Kind = 2
    ·refine ⟨.r ((l.take (((n : Int) - 1).toNat) ++ [st.A]) ++ [st.B]) false _, false, Nat.le_refl _, ?_, fun e h => pr_spread_l0_b_s29 h1 w h2 h3 hn1 hn hf hal (Nat.le_refl _) h0 hst hL b1 hnl k2 (b2 _) ?_⟩
     ·rw [tdr, h4]; simp [kGo, kFork, k2]
     ·rw [tk]; exact h
    ·refine ⟨.r (l.take (((n : Int) - 1).toNat) ++ [st.A]) false _, false, Nat.le_refl _, ?_, fun e h => pr_spread_l0_b_s30 h1 w h2 h3 hn1 hn hf hal (Nat.le_refl _) h0 hst hL b1 hnl k2 ?_⟩
     ·rw [tdr, h4]; simp [kGo, kFork, k2]
     ·rw [tk]; exact h
   | false =>
    by_cases k2 : st.Kind = 2
    ·refine ⟨.r (l.take (((n : Int) - 1).toNat) ++ [st.B]) false _, false, Nat.le_refl _, ?_, fun e h => pr_spread_l0_b_s31 h1 w h2 h3 hn1 hn hf hal (Nat.le_refl _) h0 hst hL k2 b1 hnl ?_⟩
     ·rw [tdr, h4]; simp [kGo, kFork, k2]
     ·rw [tk]; exact h
    ·refine ⟨.r l true (((n : Int) - 1).toNat), false, hnl, ?_, fun e h => pr_spread_l0_b_s32 h1 w h2 h3 hn1 hn hf hal (Nat.le_refl _) h0 hst hL k2 ?_⟩
     ·show l.take _ = _; rw [h4]; simp [kGo, kFork, k2]
     ·rw [tk]; exact h
  | false =>
   by_cases k7 : st.Kind = 7
   ·have := h7 k7
    subst this
    refine ⟨.r l true (((n : Int) - 1).toNat), false, hnl, ?_, fun e h => pr_spread_l0_b_s42 h1 w h2 h3 hn1 hn hf hal (Nat.le_refl _) h0 hst k7 hL ?_⟩
    ·show l.take _ = _; rw [h4]; simp [kGo, kFork, k7]
    ·rw [tk]; rw [decide_eq_true k7] at h; exact h
   ·have kd : (false || decide (st.Kind = 7)) = false := by simp [k7]
    rw [kd]
    cases b with
    | true =>
     by_cases k2 : st.Kind = 2
     ·refine ⟨.r ((l.take (((n : Int) - 1).toNat) ++ [st.A]) ++ [st.B]) false _, false, Nat.le_refl _, ?_, fun e h => pr_spread_l0_b_s43 h1 w h2 h3 hn1 hn hf hal (Nat.le_refl _) h0 hst k7 hL b1 hnl k2 (b2 _) ?_⟩
      ·rw [tdr, h4]; simp [kGo, kFork, k2]
      ·rw [tk]; exact h
     ·refine ⟨.r (l.take (((n : Int) - 1).toNat) ++ [st.A]) false _, false, Nat.le_refl _, ?_, fun e h => pr_spread_l0_b_s44 h1 w h2 h3 hn1 hn hf hal (Nat.le_refl _) h0 hst k7 hL b1 hnl k2 ?_⟩
      ·rw [tdr, h4]; simp [kGo, kFork, k2]
      ·rw [tk]; exact h
    | false =>
     by_cases k2 : st.Kind = 2
     ·refine ⟨.r (l.take (((n : Int) - 1).toNat) ++ [st.B]) false _, false, Nat.le_refl _, ?_, fun e h => pr_spread_l0_b_s45 h1 w h2 h3 hn1 hn hf hal (Nat.le_refl _) h0 hst k7 hL k2 b1 hnl ?_⟩
      ·rw [tdr, h4]; simp [kGo, kFork, k2]
      ·rw [tk]; exact h
     ·refine ⟨.r l true (((n : Int) - 1).toNat), false, hnl, ?_, fun e h => pr_spread_l0_b_s46 h1 w h2 h3 hn1 hn hf hal (Nat.le_refl _) h0 hst k7 hL k2 ?_⟩
      ·show l.take _ = _; rw [h4]; simp [kGo, kFork, k2]
      ·rw [tk]; exact h
def SpEnd (e : Ex × XSt) (all : List Int) (allt done : Bool) : Prop :=
 (done = true ∧ ((∃ a r i T, e = pr_spread_l0_x0 a all r i allt all.length T) ∨ ∃ a l r i t n, e = pr_spread_l0_x2 a all l r i allt all.length t n)) ∨
 (done = false ∧ ((∃ a r i T, e = pr_spread_l0_x1 a all r i allt all.length T) ∨ ∃ a l r i t n, e = pr_spread_l0_x3 a all l r i allt all.length t n))
theorem sp_end {r : pike_run} {i : Int} {seen : List (Int × Int)} {all : List Int} {allt done : Bool} {T : TD} (hok : T.ok) (hx : T.xs = []) : ∃ e, SP r i seen all allt done T e ∧ SpEnd e all allt done := by
 cases T with
 | d s =>
  have hl : s.xs = [] := hx
  have h : ¬ (s.xs.length : Int) > 0 := by rw [hl]; simp
  cases done with
  | true => exact ⟨_, pr_spread_l0_e9 h, .inl ⟨rfl, .inl ⟨_, _, _, _, rfl⟩⟩⟩
  | false => exact ⟨_, pr_spread_l0_e23 h, .inr ⟨rfl, .inl ⟨_, _, _, _, rfl⟩⟩⟩
 | r l t n =>
  have hl : l.take n = [] := hx
  have hok' : n ≤ l.length := hok
  have h : ¬ (n : Int) > 0 := by
   have := congrArg List.length hl
   rw [List.length_take, Nat.min_eq_left hok', List.length_nil] at this
   omega
  cases done with
  | true => exact ⟨_, pr_spread_l0_b_e33 h, .inl ⟨rfl, .inr ⟨_, _, _, _, _, _, rfl⟩⟩⟩
  | false => exact ⟨_, pr_spread_l0_b_e47 h, .inr ⟨rfl, .inr ⟨_, _, _, _, _, _, rfl⟩⟩⟩
def nxL (l : List State) (s : List Int) (i : Nat) (x : Int) : List Int := match l[x.toNat]? with
 | some st => kGo (letsB s st.Kind i) st.A ++ kFork st.Kind st.B
 | none => []
def isDone (l : List State) (x : Int) : Prop := ∃ st, l[x.toNat]? = some st ∧ st.Kind = 7
theorem sp_loop {r : pike_run} {i : Nat} (hi : i ≤ r.s_.xs.length) (hs : r.s_.xs.length < 1000000000000) (hn : r.l_.xs.length < 100000000000) {src : List Int} (hsrc : ∀ x ∈ src, 0 ≤ x ∧ x < r.l_.xs.length) (hnx : ∀ x : Int, 0 ≤ x → x < r.l_.xs.length → ∀ y ∈ nxL r.l_.xs r.s_.xs i x, 0 ≤ y ∧ y < r.l_.xs.length) :
  ∀ (m : Nat) (seen : List (Int × Int)) (all : List Int) (allt done : Bool) (T : TD), 3 * (r.l_.xs.length - all.length) + T.xs.length ≤ m → T.ok → WInv (nxL r.l_.xs r.s_.xs i) src all T.xs → (∀ x, (x ∈ all → ∃ v, mfind x seen = some v ∧ v > 0) ∧ (x ∉ all → mfind x seen = none)) →
  T.xs.length < 700000000000 → 2 * (r.l_.xs.length - all.length) + T.xs.length < 700000000000 → (done = true ↔ ∃ x ∈ all, isDone r.l_.xs x) →
  ∃ all' allt' done' e, SP r i seen all allt done T e ∧ SpEnd e all' allt' done' ∧ all'.Nodup ∧ (∀ x, x ∈ all' ↔ Clos (nxL r.l_.xs r.s_.xs i) src x) ∧ (done' = true ↔ ∃ x ∈ all', isDone r.l_.xs x) := by
 intro m
 induction m with
 | zero =>
  intro seen all allt done T hm hok hI hse _ _ hd
  have hx : T.xs = [] := List.length_eq_zero_iff.1 (by omega)
  obtain ⟨e, h1, h2⟩ := sp_end (r := r) (i := i) (seen := seen) (all := all) (allt := allt) (done := done) hok hx
  rw [hx] at hI
  exact ⟨all, allt, done, e, h1, h2, hI.nodup, hI.done, hd⟩
 | succ m ih =>
  intro seen all allt done T hm hok hI hse hb1 hb2 hd
  rcases List.eq_nil_or_concat T.xs with hx | ⟨xs, x, hx⟩
  ·obtain ⟨e, h1, h2⟩ := sp_end (r := r) (i := i) (seen := seen) (all := all) (allt := allt) (done := done) hok hx
   rw [hx] at hI
   exact ⟨all, allt, done, e, h1, h2, hI.nodup, hI.done, hd⟩
  ·rw [List.concat_eq_append] at hx
   have hlen : T.xs.length = xs.length + 1 := by rw [hx]; simp
   have hI' := hI
   rw [hx] at hI'
   have hcx := hI.int x (by rw [hx]; simp)
   have hxr := Clos.lt hsrc hnx hcx
   have hal : ∀ y ∈ all, 0 ≤ y ∧ y < r.l_.xs.length := fun y hy => Clos.lt hsrc hnx (hI.ina y hy)
   have hall : all.length ≤ r.l_.xs.length := nodup_le _ _ hI.nodup hal
   by_cases hm2 : x ∈ all
   ·obtain ⟨v, hv, hv0⟩ := (hse x).1 hm2
    obtain ⟨T', k1, k2, k3⟩ := sp_skip (r := r) (i := i) (all := all) (allt := allt) (done := done) hok hx hv hv0 (by omega)
    obtain ⟨all', allt', done', e, g1, g2⟩ := ih seen all allt done T' (by rw [k2]; omega) k1 (by rw [k2]; exact hI'.skip hm2) hse (by rw [k2]; omega) (by rw [k2]; omega) hd
    exact ⟨all', allt', done', e, k3 e g1, g2⟩
   ·obtain ⟨st, hst⟩ : ∃ st, r.l_.xs[x.toNat]? = some st := ⟨_, List.getElem?_eq_getElem (by omega)⟩
    have hL := lets_run (r := r) st.Kind hi hs
    obtain ⟨T', allt', k1, k2, k3⟩ := sp_new (i := (i : Int)) (all := all) (allt := allt) (done := done) hok hx ((hse x).2 hm2) hxr.1 hst hL (fun k => by unfold letsB; rw [k]; rfl) (by omega) (by omega)
    have hnxe : nxL r.l_.xs r.s_.xs i x = kGo (letsB r.s_.xs st.Kind i) st.A ++ kFork st.Kind st.B := by unfold nxL; rw [hst]
    rw [← hnxe] at k2
    have hW := hI'.new hm2
    have hall2 : (all ++ [x]).length ≤ r.l_.xs.length := nodup_le _ _ hW.nodup (fun y hy => Clos.lt hsrc hnx (hW.ina y hy))
    have hnl : (nxL r.l_.xs r.s_.xs i x).length ≤ 2 := by
     rw [hnxe]; unfold kGo kFork
     split <;> split <;> simp
    have hl2 : T'.xs.length = xs.length + (nxL r.l_.xs r.s_.xs i x).length := by rw [k2]; simp
    simp only [List.length_append, List.length_singleton] at hall2
    obtain ⟨all', allt'', done', e, g1, g2⟩ := ih (mput x 1 seen) (all ++ [x]) allt' (done || decide (st.Kind = 7)) T' (by simp only [List.length_append, List.length_singleton]; omega) k1 (by rw [k2]; exact hW) (fun y => by
      refine ⟨fun hy => ?_, fun hy => ?_⟩
      ·by_cases e : x = y
       ·exact ⟨1, (mfind_put x y 1 seen).1 e, by decide⟩
       ·rw [(mfind_put x y 1 seen).2 e]
        rcases List.mem_append.1 hy with h | h
        ·exact (hse y).1 h
        ·exact absurd (List.mem_singleton.1 h).symm e
      ·have e : x ≠ y := fun e => hy (List.mem_append_right _ (by rw [e]; exact List.mem_singleton_self y))
       rw [(mfind_put x y 1 seen).2 e]
       exact (hse y).2 fun h => hy (List.mem_append_left _ h)) (by omega) (by simp only [List.length_append, List.length_singleton]; omega) (by
      rw [Bool.or_eq_true, hd, decide_eq_true_eq]
      constructor
      ·rintro (⟨y, hy, h⟩ | h)
       ·exact ⟨y, List.mem_append_left _ hy, h⟩
       ·exact ⟨x, List.mem_append_right _ (List.mem_singleton_self x), st, hst, h⟩
      ·rintro ⟨y, hy, st', h1, h2⟩
       rcases List.mem_append.1 hy with h | h
       ·exact .inl ⟨y, h, st', h1, h2⟩
       ·rw [List.mem_singleton.1 h, hst] at h1
        cases h1
        exact .inr h2)
    exact ⟨all', allt'', done', e, k3 e g1, g2⟩
theorem spread_run {r : pike_run} {i : Nat} (hi : i ≤ r.s_.xs.length) (hs : r.s_.xs.length < 1000000000000) (hn : r.l_.xs.length < 100000000000) {src : SL Int} (hsl : src.xs.length < 100000000000) (hsrc : ∀ x ∈ src.xs, 0 ≤ x ∧ x < r.l_.xs.length) (hnx : ∀ x : Int, 0 ≤ x → x < r.l_.xs.length → ∀ y ∈ nxL r.l_.xs r.s_.xs i x, 0 ≤ y ∧ y < r.l_.xs.length) :
  ∃ (all : List Int) (allt done : Bool), pr_spread r src i ⟨1, all, allt⟩ done ∧ all.Nodup ∧ (∀ x, x ∈ all ↔ Clos (nxL r.l_.xs r.s_.xs i) src.xs x) ∧ (done = true ↔ ∃ x ∈ all, isDone r.l_.xs x) := by
 obtain ⟨all, allt, done, e, h1, h2, h3, h4, h5⟩ := sp_loop hi hs hn hsrc hnx _ [] [] true false (.d src) (Nat.le_refl _) trivial (WInv.start _ _) (fun x => ⟨fun h => by simp at h, fun _ => rfl⟩) (by show src.xs.length < _; omega) (by show _ + src.xs.length < _; simp; omega) (by simp)
 refine ⟨all, allt, done, ?_, h3, h4, h5⟩
 have tk : all.take all.length = all := List.take_length ..
 rcases h2 with ⟨rfl, ⟨a, r', i', T, rfl⟩ | ⟨a, l, r', i', t, n, rfl⟩⟩ | ⟨rfl, ⟨a, r', i', T, rfl⟩ | ⟨a, l, r', i', t, n, rfl⟩⟩
 ·have := pr_spread_r0 h1 (Nat.le_refl _); rwa [tk] at this
 ·have := pr_spread_r2 h1 (Nat.le_refl _); rwa [tk] at this
 ·have := pr_spread_r1 h1 (Nat.le_refl _); rwa [tk] at this
 ·have := pr_spread_r3 h1 (Nat.le_refl _); rwa [tk] at this
end
section
open Go
set_option linter.unusedVariables false
set_option linter.unnecessarySimpa false
set_option linter.unusedSimpArgs false
set_option linter.unusedSectionVars false
theorem drop_cons {α : Type} {l : List α} {k : Nat} {y : α} {r : List α} (h : l.drop k = y :: r) : l[k]? = some y ∧ l.drop (k + 1) = r ∧ k < l.length := by
 have hl : k < l.length := by
  apply Classical.byContradiction
  intro hn
  rw [List.drop_eq_nil_of_le (by omega)] at h
  cases h
 rw [List.drop_eq_getElem_cons hl] at h
 obtain ⟨h1, h2⟩ := List.cons.inj h
 exact ⟨by rw [List.getElem?_eq_getElem hl, h1], h2, hl⟩
theorem drop_len {α : Type} {l : List α} {k : Nat} (h : l.drop k = []) : l.length ≤ k := by simpa using h
theorem goes_run (c : Int) : ∃ lo hi, utf_goes c (goesL c) lo hi ∧ (0 < goesL c → lo = lowB c ∧ hi = highB c) := by
 unfold goesL
 by_cases h1 : c < 128
 ·rw [if_pos h1]; exact ⟨_, _, utf_goes_r0 h1, fun h => by omega⟩
 ·rw [if_neg h1]
  by_cases h2 : c < 194
  ·rw [if_pos (.inl h2)]; exact ⟨_, _, utf_goes_r1 h1 h2, fun h => by omega⟩
  ·by_cases h3 : c > 244
   ·rw [if_pos (.inr h3)]; exact ⟨_, _, utf_goes_r2 h1 h2 h3, fun h => by omega⟩
   ·rw [if_neg (by omega)]
    unfold lowB highB
    by_cases h4 : c < 224
    ·rw [if_pos h4]; exact ⟨_, _, utf_goes_r3 h1 h2 h3 h4, fun _ => by rw [if_neg (by omega), if_neg (by omega), if_neg (by omega), if_neg (by omega)]; exact ⟨rfl, rfl⟩⟩
    ·rw [if_neg h4]
     by_cases h5 : c = 224
     ·rw [if_pos (by omega)]; exact ⟨_, _, utf_goes_r4 h1 h2 h3 h4 h5, fun _ => by simp [h5]⟩
     ·by_cases h6 : c = 237
      ·rw [if_pos (by omega)]; exact ⟨_, _, utf_goes_r5 h1 h2 h3 h4 h5 h6, fun _ => by simp [h6]⟩
      ·by_cases h7 : c < 240
       ·rw [if_pos h7]; exact ⟨_, _, utf_goes_r6 h1 h2 h3 h4 h5 h6 h7, fun _ => by simp [h5, h6]; omega⟩
       ·rw [if_neg h7]
        by_cases h8 : c = 240
        ·exact ⟨_, _, utf_goes_r7 h1 h2 h3 h4 h5 h6 h7 h8, fun _ => by simp [h8]⟩
        ·by_cases h9 : c = 244
         ·exact ⟨_, _, utf_goes_r8 h1 h2 h3 h4 h5 h6 h7 h8 h9, fun _ => by simp [h9]⟩
         ·exact ⟨_, _, utf_goes_r9 h1 h2 h3 h4 h5 h6 h7 h8 h9, fun _ => by simp [h5, h6, h8, h9]⟩
theorem goesL_le (c : Int) : goesL c ≤ 3 := by unfold goesL; split <;> (try split) <;> (try split) <;> (try split) <;> omega
def isBytes (l : List Int) : Prop := ∀ x ∈ l, 0 ≤ x ∧ x < 256
theorem utf_good_loop {b : SL Int} (hb : isBytes b.xs) (hs : b.xs.length < 1000000000000000) : ∀ (rest : List Int) (i : Nat) (left low high : Int), b.xs.drop i = rest → 0 ≤ left → left ≤ 3 →
  (GM rest left low high ∧ ∃ lo hi z, utf_Good_l0 b left low high b (b.xs.length : Int) i (utf_Good_l0_x1 b 0 lo hi b (b.xs.length : Int) z)) ∨
  (¬ GM rest left low high ∧ ((∃ z, utf_Good_l0 b left low high b (b.xs.length : Int) i (utf_Good_l0_x0 z)) ∨ ∃ k lo hi z, k ≠ 0 ∧ utf_Good_l0 b left low high b (b.xs.length : Int) i (utf_Good_l0_x1 b k lo hi b (b.xs.length : Int) z)))
 | [], i, left, low, high, hd, h0, h3 => by
  have hl := drop_len hd
  by_cases h : left = 0
  ·subst h
   exact .inl ⟨gm0.2 good_nil, _, _, _, utf_Good_l0_e5 (by omega)⟩
  ·exact .inr ⟨gm_nil (by omega), .inr ⟨left, _, _, _, h, utf_Good_l0_e5 (by omega)⟩⟩
 | c :: r, i, left, low, high, hd, h0, h3 => by
  obtain ⟨k1, k2, k3⟩ := drop_cons hd
  have kg : b.xs[((i : Nat) : Int).toNat]? = some c := by rw [Int.toNat_natCast]; exact k1
  have hc := hb c (List.mem_of_getElem? k1)
  have w1 : w64 ((i : Int) + 1) := in64 (by omega) (by omega)
  have ei : ((i : Int) + 1) = ((i + 1 : Nat) : Int) := by omega
  by_cases h : left = 0
  ·subst h
   obtain ⟨lo, hi, g1, g2⟩ := goes_run c
   have hg3 := goesL_le c
   rw [gm0, good_cons hc.1]
   by_cases hn : goesL c < 0
   ·exact .inr ⟨fun h => by omega, .inl ⟨_, utf_Good_l0_e0 (by omega) (by omega) kg rfl g1 hn⟩⟩
   ·have e : GM r (goesL c) lo hi ↔ GM r (goesL c) (lowB c) (highB c) := by
     by_cases hz : goesL c = 0
     ·rw [hz, gm0, gm0]
     ·obtain ⟨e1, e2⟩ := g2 (by omega)
      rw [e1, e2]
    have st : ∀ {rs_ : Ex × XSt}, utf_Good_l0 b (goesL c) lo hi b (b.xs.length : Int) ((i + 1 : Nat) : Int) rs_ → utf_Good_l0 b 0 low high b (b.xs.length : Int) i rs_ := fun hk => utf_Good_l0_s1 (by omega) (by omega) kg rfl g1 hn w1 (by rw [ei]; exact hk)
    rcases utf_good_loop hb hs r (i + 1) (goesL c) lo hi k2 (by omega) hg3 with ⟨j1, l', h', z, j2⟩ | ⟨j1, ⟨z, j2⟩ | ⟨k, l', h', z, j3, j2⟩⟩
    ·exact .inl ⟨⟨by omega, e.1 j1⟩, _, _, _, st j2⟩
    ·exact .inr ⟨fun h => j1 (e.2 h.2), .inl ⟨_, st j2⟩⟩
    ·exact .inr ⟨fun h => j1 (e.2 h.2), .inr ⟨k, _, _, _, j3, st j2⟩⟩
  ·rw [gm_cons (by omega)]
   by_cases hl : c < low
   ·exact .inr ⟨fun h => by omega, .inl ⟨_, utf_Good_l0_e2 (by omega) (by omega) kg h hl⟩⟩
   ·by_cases hh : c > high
    ·exact .inr ⟨fun h => by omega, .inl ⟨_, utf_Good_l0_e3 (by omega) (by omega) kg h hl hh⟩⟩
    ·have w2 : w64 (left - 1) := in64 (by omega) (by omega)
     have st : ∀ {rs_ : Ex × XSt}, utf_Good_l0 b (left - 1) 128 191 b (b.xs.length : Int) ((i + 1 : Nat) : Int) rs_ → utf_Good_l0 b left low high b (b.xs.length : Int) i rs_ := fun hk => utf_Good_l0_s4 (by omega) (by omega) kg h hl hh w2 w1 (by rw [ei]; exact hk)
     rcases utf_good_loop hb hs r (i + 1) (left - 1) 128 191 k2 (by omega) (by omega) with ⟨j1, l', h', z, j2⟩ | ⟨j1, ⟨z, j2⟩ | ⟨k, l', h', z, j3, j2⟩⟩
     ·exact .inl ⟨⟨by omega, j1⟩, _, _, _, st j2⟩
     ·exact .inr ⟨fun h => j1 h.2, .inl ⟨_, st j2⟩⟩
     ·exact .inr ⟨fun h => j1 h.2, .inr ⟨k, _, _, _, j3, st j2⟩⟩
theorem utf_good_run {b : SL Int} (hb : isBytes b.xs) (hs : b.xs.length < 1000000000000000) : (GoodT b.xs ∧ ∃ n, utf_Good b n true) ∨ (¬ GoodT b.xs ∧ ∃ n, utf_Good b n false) := by
 rcases utf_good_loop hb hs b.xs 0 0 128 191 (by simp) (by decide) (by decide) with ⟨j1, l', h', z, j2⟩ | ⟨j1, ⟨z, j2⟩ | ⟨k, l', h', z, j3, j2⟩⟩
 ·exact .inl ⟨gm0.1 j1, _, utf_Good_r1 j2 rfl⟩
 ·exact .inr ⟨fun h => j1 (gm0.2 h), _, utf_Good_r0 j2⟩
 ·exact .inr ⟨fun h => j1 (gm0.2 h), _, utf_Good_r2 j2 j3⟩
theorem strInts_bytes {l : List Int} (hb : isBytes l) : strInts (⟨(bytesOf l).toArray⟩ : ByteArray) = l := by
 unfold strInts bytesOf
 simp only [List.map_map]
 conv => rhs; rw [← List.map_id l]
 apply List.map_congr_left
 intro x hx
 have := hb x hx
 simp only [Function.comp, UInt8.toNat_ofNat', id]
 omega
theorem utf_points_loop {s : ByteArray} (hs : s.size < 1000000000000) : ∀ (q : List Int) (i : Nat) (out : List Int) (t : Bool), GP ((strInts s).drop i) q → out.length + q.length < 1000000000000 → ∃ z t', utf_Points_l0 out s i t (utf_Points_l0_x0 (out ++ q) s z t')
 | [], i, out, t, h, hl => by
  have hn : (strInts s).drop i = [] := by
   cases hd : (strInts s).drop i with
   | nil => rfl
   | cons x r => rw [hd] at h; cases h
  have : ¬ i < s.size := by
   have := drop_len hn
   have e : (strInts s).length = s.size := by unfold strInts; rw [List.length_map, Array.length_toList]; rfl
   omega
  rw [List.append_nil]
  exact ⟨_, _, utf_Points_l0_e1 this⟩
 | x :: q, i, out, t, h, hl => by
  have hne : (strInts s).drop i ≠ [] := by
   intro e
   rw [e] at h
   cases h
  obtain ⟨c, w, q', h1, h2, h3, h4, h5, h6⟩ := gp_decode rfl h hne
  cases h2
  simp only [List.length_cons] at hl
  have hc : c < 2000000 := by
   have := Lib.decode_at s i
   rw [h1] at this
   have h9 : c = (Lib.decodeN (s.size - i) (s.get! i).toNat (s.get! (i + 1)).toNat (s.get! (i + 2)).toNat (s.get! (i + 3)).toNat).1 := by rw [← this]
   have b0 := UInt8.toNat_lt (s.get! i)
   rw [h9]
   unfold Lib.decodeN
   repeat' split
   all_goals first | omega | (dsimp only; omega)
  obtain ⟨z, t', g⟩ := utf_points_loop hs q (i + w) (out ++ [(c : Int)]) false h3 (by simp; omega)
  rw [List.append_assoc] at g
  exact ⟨z, t', utf_Points_l0_s0 h4 h1 (in64 (by omega) (by omega)) (by omega) g⟩
theorem utf_points_run {b : SL Int} (hb : isBytes b.xs) (hs : b.xs.length < 100000000000) : (∃ p t, GP b.xs p ∧ utf_Points b ⟨1, p, t⟩ 0) ∨ (¬ GoodT b.xs ∧ utf_Points b ⟨1, [], true⟩ 10) := by
 rcases utf_good_run hb (by omega) with ⟨⟨p, hp⟩, n, h⟩ | ⟨hn, n, h⟩
 ·have e := strInts_bytes hb
  have hsz : (⟨(bytesOf b.xs).toArray⟩ : ByteArray).size = b.xs.length := by
   show ((bytesOf b.xs).toArray).size = _
   simp [bytesOf]
  obtain ⟨z, t, g⟩ := utf_points_loop (s := ⟨(bytesOf b.xs).toArray⟩) (by rw [hsz]; omega) p 0 [] true (by rw [e, List.drop_zero]; exact hp) (by have := hp.len; simp; omega)
  rw [List.nil_append] at g
  exact .inl ⟨p, t, hp, utf_Points_r0 h g⟩
 ·exact .inr ⟨hn, utf_Points_r1 h⟩
inductive Pre : Int → Int → Int → List Int → List Int → Prop
 | base {lo hi l} : Pre 0 lo hi l l
 | more {c l k lo hi r} (hk : 0 < k) (hc : lo ≤ c ∧ c ≤ hi) (h : Pre (k - 1) 128 191 l r) : Pre k lo hi (c :: l) r
theorem gm_pre {l r : List Int} {k lo hi : Int} (h : Pre k lo hi l r) : GM l k lo hi ↔ GoodT r := by
 induction h with
 | base => exact gm0
 | more hk hc h ih => rw [gm_cons hk, ih]; exact ⟨fun x => x.2, fun x => ⟨hc, x⟩⟩
theorem gm_has {l : List Int} {k lo hi : Int} (h : GM l k lo hi) : ∃ r, Pre k lo hi l r := by
 induction h with
 | base _ => exact ⟨_, .base⟩
 | more hk hc _ ih => obtain ⟨r, hr⟩ := ih; exact ⟨r, .more hk hc hr⟩
theorem length_run {c : Int} : (goesL c < 0 ∧ ref01_length c 0) ∨ (0 ≤ goesL c ∧ ref01_length c (goesL c + 1)) := by
 unfold goesL
 by_cases h1 : c < 128
 ·rw [if_pos h1]; exact .inr ⟨by omega, ref01_length_r0 h1⟩
 ·rw [if_neg h1]
  by_cases h2 : c < 194
  ·rw [if_pos (.inl h2)]
   exact .inl ⟨by omega, ref01_length_r15 h1 (by omega) (by omega) (by omega)⟩
  ·by_cases h3 : c > 244
   ·rw [if_pos (.inr h3)]
    exact .inl ⟨by omega, ref01_length_r4 h1 (by omega) (by omega) (by omega) (by omega) (by omega) (by omega)⟩
   ·rw [if_neg (by omega)]
    by_cases h4 : c < 224
    ·rw [if_pos h4]; exact .inr ⟨by omega, ref01_length_r1 h1 (by omega) (by omega)⟩
    ·rw [if_neg h4]
     by_cases h5 : c < 240
     ·rw [if_pos h5]; exact .inr ⟨by omega, ref01_length_r2 h1 (by omega) (by omega) (by omega) (by omega)⟩
     ·rw [if_neg h5]; exact .inr ⟨by omega, ref01_length_r3 h1 (by omega) (by omega) (by omega) (by omega) (by omega) (by omega)⟩
theorem second_run {c d : Int} : ref01_second c d (decide (lowB c ≤ d ∧ d ≤ highB c)) := by
 unfold lowB highB
 by_cases h1 : c = 224
 ·rw [if_pos h1, if_neg (by omega), if_neg (by omega)]
  by_cases a : d ≥ 160
  ·by_cases b : d ≤ 191
   ·rw [decide_eq_true ⟨a, b⟩]; exact ref01_second_r0 h1 a b
   ·rw [decide_eq_false (by omega)]; exact ref01_second_r1 h1 a b
  ·rw [decide_eq_false (by omega)]; exact ref01_second_r2 h1 a
 ·rw [if_neg h1]
  by_cases h2 : c = 237
  ·rw [if_neg (by omega), if_pos h2]
   by_cases a : d ≥ 128
   ·by_cases b : d ≤ 159
    ·rw [decide_eq_true ⟨a, b⟩]; exact ref01_second_r3 h1 h2 a b
    ·rw [decide_eq_false (by omega)]; exact ref01_second_r4 h1 h2 a b
   ·rw [decide_eq_false (by omega)]; exact ref01_second_r5 h1 h2 a
  ·rw [if_neg h2]
   by_cases h3 : c = 240
   ·rw [if_pos h3, if_neg (by omega)]
    by_cases a : d ≥ 144
    ·by_cases b : d ≤ 191
     ·rw [decide_eq_true ⟨a, b⟩]; exact ref01_second_r6 h1 h2 h3 a b
     ·rw [decide_eq_false (by omega)]; exact ref01_second_r7 h1 h2 h3 a b
    ·rw [decide_eq_false (by omega)]; exact ref01_second_r8 h1 h2 h3 a
   ·rw [if_neg h3]
    by_cases h4 : c = 244
    ·rw [if_pos h4]
     by_cases a : d ≥ 128
     ·by_cases b : d ≤ 143
      ·rw [decide_eq_true ⟨a, b⟩]; exact ref01_second_r9 h1 h2 h3 h4 a b
      ·rw [decide_eq_false (by omega)]; exact ref01_second_r10 h1 h2 h3 h4 a b
     ·rw [decide_eq_false (by omega)]; exact ref01_second_r11 h1 h2 h3 h4 a
    ·rw [if_neg h4]
     by_cases a : d ≥ 128
     ·by_cases b : d ≤ 191
      ·rw [decide_eq_true ⟨a, b⟩]; exact ref01_second_r12 h1 h2 h3 h4 a b
      ·rw [decide_eq_false (by omega)]; exact ref01_second_r13 h1 h2 h3 h4 a b
     ·rw [decide_eq_false (by omega)]; exact ref01_second_r14 h1 h2 h3 h4 a
theorem step_loop {b : SL Int} {i : Nat} {n : Int} (hs : b.xs.length < 1000000000000000) (hn : n ≤ 4) : ∀ (rest : List Int) (j : Nat), b.xs.drop (i + j) = rest → 2 ≤ j → (j : Int) ≤ n → i + j ≤ b.xs.length →
  (∃ r, Pre (n - j) 128 191 rest r ∧ b.xs.drop (i + n.toNat) = r ∧ i + n.toNat ≤ b.xs.length ∧ ∃ z, ref01_step_l0 b i n j (ref01_step_l0_x1 b i n z)) ∨ ((¬ ∃ r, Pre (n - j) 128 191 rest r) ∧ ∃ z, 0 ≤ z ∧ z ≤ 4 ∧ ref01_step_l0 b i n j (ref01_step_l0_x0 z)) := by
 intro rest
 induction rest with
 | nil =>
  intro j hd h2 hj hle
  by_cases h : (j : Int) = n
  ·left
   refine ⟨[], by rw [show n - j = 0 by omega]; exact .base, by rw [show i + n.toNat = i + j by omega]; exact hd, by omega, _, ref01_step_l0_e10 (by omega)⟩
  ·right
   have hl := drop_len hd
   refine ⟨fun ⟨r, hr⟩ => ?_, j, by omega, by omega, ref01_step_l0_e0 (by omega) (in64 (by omega) (by omega)) (by omega)⟩
   generalize hk : n - (j : Int) = k at hr
   cases hr with
   | base => omega
 | cons c rest ih =>
  intro j hd h2 hj hle
  by_cases h : (j : Int) = n
  ·left
   refine ⟨c :: rest, by rw [show n - j = 0 by omega]; exact .base, by rw [show i + n.toNat = i + j by omega]; exact hd, by omega, _, ref01_step_l0_e10 (by omega)⟩
  ·obtain ⟨k1, k2, k3⟩ := drop_cons hd
   have kg : b.xs[((i : Int) + j).toNat]? = some c := by rw [show ((i : Int) + j).toNat = i + j by omega]; exact k1
   have w1 : w64 ((i : Int) + j) := in64 (by omega) (by omega)
   have w2 : w64 ((j : Int) + 1) := in64 (by omega) (by omega)
   have bad : ¬ (128 ≤ c ∧ c ≤ 191) → ¬ ∃ r, Pre (n - j) 128 191 (c :: rest) r := fun hb ⟨r, hr⟩ => by
    generalize hk : n - (j : Int) = k at hr
    cases hr with
    | base => omega
    | more _ hc _ => exact hb hc
   by_cases hl : c < 128
   ·exact .inr ⟨bad (by omega), j, by omega, by omega, ref01_step_l0_e6 (by omega) w1 (by omega) (by omega) kg (by omega) (by omega) hl⟩
   ·by_cases hh : c > 191
    ·exact .inr ⟨bad (by omega), j, by omega, by omega, ref01_step_l0_e7 (by omega) w1 (by omega) (by omega) kg (by omega) (by omega) hl hh⟩
    ·have st : ∀ {rs_ : Ex × XSt}, ref01_step_l0 b i n ((j + 1 : Nat) : Int) rs_ → ref01_step_l0 b i n j rs_ := fun hk => ref01_step_l0_s8 (by omega) w1 (by omega) (by omega) kg (by omega) (by omega) hl hh w2 (by rw [show (j : Int) + 1 = ((j + 1 : Nat) : Int) by omega]; exact hk)
     have ek : n - ((j + 1 : Nat) : Int) = n - j - 1 := by omega
     rcases ih (j + 1) (by rw [← k2]; congr 1) (by omega) (by omega) (by omega) with ⟨r, g1, g2, g3, z, g4⟩ | ⟨g1, z, g2, g3, g4⟩
     ·rw [ek] at g1
      exact .inl ⟨r, .more (by omega) (by omega) g1, g2, g3, z, st g4⟩
     ·refine .inr ⟨fun ⟨r, hr⟩ => g1 ⟨r, ?_⟩, z, g2, g3, st g4⟩
      rw [ek]
      generalize hk : n - (j : Int) = k at hr
      cases hr with
      | base => omega
      | more _ _ h => exact h
theorem step_run {b : SL Int} {i : Nat} {c : Int} {l : List Int} (hs : b.xs.length < 1000000000000000) (hd : b.xs.drop i = c :: l) :
  (∃ r, 0 ≤ goesL c ∧ Pre (goesL c) (lowB c) (highB c) l r ∧ b.xs.drop (i + (goesL c + 1).toNat) = r ∧ i + (goesL c + 1).toNat ≤ b.xs.length ∧ ref01_step b i (goesL c + 1) true) ∨ ((¬ (0 ≤ goesL c ∧ ∃ r, Pre (goesL c) (lowB c) (highB c) l r)) ∧ ∃ z, 0 ≤ z ∧ z ≤ 4 ∧ ref01_step b i z false) := by
 obtain ⟨k1, k2, k3⟩ := drop_cons hd
 have kg : b.xs[((i : Nat) : Int).toNat]? = some c := by rw [Int.toNat_natCast]; exact k1
 have hg3 := goesL_le c
 rcases length_run (c := c) with ⟨h1, h2⟩ | ⟨h1, h2⟩
 ·exact .inr ⟨fun h => by omega, 0, by omega, by omega, ref01_step_r0 (by omega) kg h2 rfl⟩
 ·by_cases h0 : goesL c = 0
  ·rw [h0] at h2 ⊢
   refine .inl ⟨l, Int.le_refl _, .base, k2, by omega, ?_⟩
   exact ref01_step_r2 (z0 := 1) (by omega) kg h2 (by decide) (ref01_step_l0_e10 (by decide))
  ·cases l with
   | nil =>
    have hl := drop_len k2
    refine .inr ⟨fun ⟨_, r, hr⟩ => ?_, 1, by omega, by omega, ref01_step_r1 (by omega) kg h2 (by omega) (ref01_step_l0_e0 (by omega) (in64 (by omega) (by omega)) (by omega))⟩
    generalize goesL c = k at *
    cases hr with
    | base => exact h0 rfl
   | cons d l =>
    obtain ⟨j1, j2, j3⟩ := drop_cons k2
    have jg : b.xs[((i : Int) + 1).toNat]? = some d := by rw [show ((i : Int) + 1).toNat = i + 1 by omega]; exact j1
    have w1 : w64 ((i : Int) + 1) := in64 (by omega) (by omega)
    have sr := second_run (c := c) (d := d)
    by_cases hin : lowB c ≤ d ∧ d ≤ highB c
    ·rw [decide_eq_true hin] at sr
     have st : ∀ {rs_ : Ex × XSt}, ref01_step_l0 b i (goesL c + 1) ((2 : Nat) : Int) rs_ → ref01_step_l0 b i (goesL c + 1) 1 rs_ := fun hk => ref01_step_l0_s4 (by omega) w1 (by omega) (by omega) jg rfl (by omega) kg sr (by decide) (by decide) hk
     rcases step_loop (b := b) (i := i) (n := goesL c + 1) hs (by omega) l 2 (by rw [← j2]) (by omega) (by omega) (by omega) with ⟨r, g1, g2, g3, z, g4⟩ | ⟨g1, z, g2, g3, g4⟩
     ·rw [show goesL c + 1 - ((2 : Nat) : Int) = goesL c - 1 by omega] at g1
      exact .inl ⟨r, h1, .more (by omega) hin g1, g2, g3, ref01_step_r2 (by omega) kg h2 (by omega) (st g4)⟩
     ·refine .inr ⟨fun ⟨_, r, hr⟩ => g1 ⟨r, ?_⟩, z, g2, g3, ref01_step_r1 (by omega) kg h2 (by omega) (st g4)⟩
      rw [show goesL c + 1 - ((2 : Nat) : Int) = goesL c - 1 by omega]
      generalize goesL c = k at *
      cases hr with
      | base => exact absurd rfl h0
      | more _ _ h => exact h
    ·rw [decide_eq_false hin] at sr
     refine .inr ⟨fun ⟨_, r, hr⟩ => ?_, 1, by omega, by omega, ref01_step_r1 (by omega) kg h2 (by omega) (ref01_step_l0_e5 (by omega) w1 (by omega) (by omega) jg rfl (by omega) kg sr)⟩
     generalize goesL c = k at *
     cases hr with
     | base => exact h0 rfl
     | more _ hc _ => exact hin hc
theorem ref_good_loop {b : SL Int} (hb : isBytes b.xs) (hs : b.xs.length < 1000000000000000) : ∀ (m i : Nat) (l : List Int), l.length ≤ m → b.xs.drop i = l → i ≤ b.xs.length → (GoodT l ∧ ∃ z, ref01_Good_l0 b i (ref01_Good_l0_x1 b z)) ∨ (¬ GoodT l ∧ ∃ z, ref01_Good_l0 b i (ref01_Good_l0_x0 z)) := by
 intro m
 induction m with
 | zero =>
  intro i l hm hd hi
  have : l = [] := List.length_eq_zero_iff.1 (by omega)
  subst this
  have := drop_len hd
  exact .inl ⟨good_nil, _, ref01_Good_l0_e2 (by omega)⟩
 | succ m ih =>
  intro i l hm hd hi
  cases l with
  | nil =>
   have := drop_len hd
   exact .inl ⟨good_nil, _, ref01_Good_l0_e2 (by omega)⟩
  | cons c l =>
   obtain ⟨k1, k2, k3⟩ := drop_cons hd
   have hc := hb c (List.mem_of_getElem? k1)
   have hg3 := goesL_le c
   rcases step_run hs hd with ⟨r, g1, g2, g3, g4, g5⟩ | ⟨g1, z, g2, g3, g4⟩
   ·have w : w64 ((i : Int) + (goesL c + 1)) := in64 (by omega) (by omega)
    have hr : r.length ≤ m := by
     rw [← g3, List.length_drop]
     have := congrArg List.length hd
     rw [List.length_drop] at this
     simp only [List.length_cons] at hm this
     omega
    have e : GoodT (c :: l) ↔ GoodT r := by
     rw [good_cons hc.1, ← gm_pre g2]
     exact ⟨fun h => h.2, fun h => ⟨g1, h⟩⟩
    have st : ∀ {rs_ : Ex × XSt}, ref01_Good_l0 b ((i + (goesL c + 1).toNat : Nat) : Int) rs_ → ref01_Good_l0 b i rs_ := fun hk => ref01_Good_l0_s0 (by omega) g5 w (by rw [show (i : Int) + (goesL c + 1) = ((i + (goesL c + 1).toNat : Nat) : Int) by omega]; exact hk)
    rcases ih _ r hr g3 g4 with ⟨j1, z, j2⟩ | ⟨j1, z, j2⟩
    ·exact .inl ⟨e.2 j1, z, st j2⟩
    ·exact .inr ⟨fun h => j1 (e.1 h), z, st j2⟩
   ·refine .inr ⟨fun h => g1 ?_, _, ref01_Good_l0_e1 (by omega) g4 (in64 (by omega) (by omega))⟩
    have := (good_cons hc.1).1 h
    exact ⟨this.1, gm_has this.2⟩
theorem ref_good_run {b : SL Int} (hb : isBytes b.xs) (hs : b.xs.length < 1000000000000000) : (GoodT b.xs ∧ ∃ z, ref01_Good b z true) ∨ (¬ GoodT b.xs ∧ ∃ z, ref01_Good b z false) := by
 rcases ref_good_loop hb hs _ 0 b.xs (Nat.le_refl _) (by simp) (by omega) with ⟨j1, z, j2⟩ | ⟨j1, z, j2⟩
 ·exact .inl ⟨j1, z, ref01_Good_r1 j2⟩
 ·exact .inr ⟨j1, z, ref01_Good_r0 j2⟩
theorem bits_and {x : Int} {k : Nat} (h0 : 0 ≤ x) (h1 : x < 4294967296) (hk : k ≤ 6) : bitAnd .i64 x ((2 ^ k - 1 : Nat) : Int) = x % (2 ^ k : Nat) := by
 obtain ⟨n, rfl⟩ := Int.eq_ofNat_of_zero_le h0
 have hp : 2 ^ k ≤ 2 ^ 6 := Nat.pow_le_pow_right (by decide) hk
 have e : (BitVec.ofInt 64 (n : Int) &&& BitVec.ofInt 64 ((2 ^ k - 1 : Nat) : Int)).toNat = n % 2 ^ k := by
  rw [BitVec.toNat_and, BitVec.toNat_ofInt, BitVec.toNat_ofInt]
  have a1 : ((n : Int) % ((2 ^ 64 : Nat) : Int)).toNat = n := by omega
  have a2 : ((((2 ^ k - 1 : Nat) : Int)) % ((2 ^ 64 : Nat) : Int)).toNat = 2 ^ k - 1 := by omega
  rw [a1, a2, Nat.and_two_pow_sub_one_eq_mod]
 unfold bitAnd
 have e2 : (BitVec.ofInt IntKind.i64.bits (n : Int) &&& BitVec.ofInt IntKind.i64.bits ((2 ^ k - 1 : Nat) : Int)).toNat = n % 2 ^ k := e
 rw [e2]
 have := Nat.mod_lt n (show 0 < 2 ^ k from Nat.pow_pos (by decide))
 exact in64 (by omega) (by omega)
theorem bits_or {a r : Int} {k : Nat} (h0 : 0 ≤ a) (h1 : a < 65536) (hr0 : 0 ≤ r) (hr : r < (2 ^ k : Nat)) (hk : k ≤ 18) : bitOr .i64 (a * 2 ^ k) r = a * (2 ^ k : Nat) + r := by
 obtain ⟨m, rfl⟩ := Int.eq_ofNat_of_zero_le h0
 obtain ⟨n, rfl⟩ := Int.eq_ofNat_of_zero_le hr0
 have hp : 2 ^ k ≤ 2 ^ 18 := Nat.pow_le_pow_right (by decide) hk
 have hn : n < 2 ^ k := by omega
 have hm : m < 65536 := by omega
 have hml : m * 2 ^ k ≤ 65535 * 2 ^ 18 := Nat.mul_le_mul (by omega) hp
 have ec : ((m : Int) * 2 ^ k) = ((m * 2 ^ k : Nat) : Int) := by simp
 rw [ec]
 have e : (BitVec.ofInt 64 ((m * 2 ^ k : Nat) : Int) ||| BitVec.ofInt 64 (n : Int)).toNat = m * 2 ^ k + n := by
  rw [BitVec.toNat_or, BitVec.toNat_ofInt, BitVec.toNat_ofInt]
  have a1 : (((m * 2 ^ k : Nat) : Int) % ((2 ^ 64 : Nat) : Int)).toNat = m * 2 ^ k := by omega
  have a2 : ((n : Int) % ((2 ^ 64 : Nat) : Int)).toNat = n := by omega
  rw [a1, a2, Nat.mul_comm m, ← Nat.two_pow_add_eq_or_of_lt hn]
 unfold bitOr
 have e2 : (BitVec.ofInt IntKind.i64.bits ((m * 2 ^ k : Nat) : Int) ||| BitVec.ofInt IntKind.i64.bits (n : Int)).toNat = m * 2 ^ k + n := e
 rw [e2]
 have e3 : ((m * 2 ^ k + n : Nat) : Int) = (m : Int) * (2 ^ k : Nat) + n := by
  rw [Int.natCast_add, Int.natCast_mul]
 rw [e3] at *
 exact in64 (by omega) (by omega)
end
section
open Go
set_option linter.unusedVariables false
set_option linter.unnecessarySimpa false
set_option linter.unusedSimpArgs false
set_option linter.unusedSectionVars false
theorem and7 {x : Int} (h0 : 0 ≤ x) (h1 : x < 256) : bitAnd .i64 x 7 = x % 8 := by have := bits_and (k := 3) h0 (by omega) (by decide); simpa using this
theorem and15 {x : Int} (h0 : 0 ≤ x) (h1 : x < 256) : bitAnd .i64 x 15 = x % 16 := by have := bits_and (k := 4) h0 (by omega) (by decide); simpa using this
theorem and31 {x : Int} (h0 : 0 ≤ x) (h1 : x < 256) : bitAnd .i64 x 31 = x % 32 := by have := bits_and (k := 5) h0 (by omega) (by decide); simpa using this
theorem and63 {x : Int} (h0 : 0 ≤ x) (h1 : x < 256) : bitAnd .i64 x 63 = x % 64 := by have := bits_and (k := 6) h0 (by omega) (by decide); simpa using this
theorem or6 {a r : Int} (h0 : 0 ≤ a) (h1 : a < 65536) (hr0 : 0 ≤ r) (hr : r < 64) : bitOr .i64 (a * 2 ^ 6) r = a * 64 + r := by have := bits_or (k := 6) h0 h1 hr0 (by omega) (by decide); simpa using this
theorem or12 {a r : Int} (h0 : 0 ≤ a) (h1 : a < 65536) (hr0 : 0 ≤ r) (hr : r < 4096) : bitOr .i64 (a * 2 ^ 12) r = a * 4096 + r := by have := bits_or (k := 12) h0 h1 hr0 (by omega) (by decide); simpa using this
theorem or18 {a r : Int} (h0 : 0 ≤ a) (h1 : a < 65536) (hr0 : 0 ≤ r) (hr : r < 262144) : bitOr .i64 (a * 2 ^ 18) r = a * 262144 + r := by have := bits_or (k := 18) h0 h1 hr0 (by omega) (by decide); simpa using this
theorem goes0 {c : Int} (h : c < 128) : goesL c = 0 := by unfold goesL; rw [if_pos h]
theorem goes1 {c : Int} (h0 : 194 ≤ c) (h1 : c ≤ 223) : goesL c = 1 := by unfold goesL; rw [if_neg (by omega), if_neg (by omega), if_pos (by omega)]
theorem goes2 {c : Int} (h0 : 224 ≤ c) (h1 : c ≤ 239) : goesL c = 2 := by unfold goesL; rw [if_neg (by omega), if_neg (by omega), if_neg (by omega), if_pos (by omega)]
theorem goes3 {c : Int} (h0 : 240 ≤ c) (h1 : c ≤ 244) : goesL c = 3 := by unfold goesL; rw [if_neg (by omega), if_neg (by omega), if_neg (by omega), if_neg (by omega)]
theorem step_good {b : SL Int} {i : Nat} {c : Int} {l : List Int} (hs : b.xs.length < 1000000000000000) (hd : b.xs.drop i = c :: l) (h0 : 0 ≤ c) (hg : GoodT (c :: l)) : ref01_step b i (goesL c + 1) true := by
 rcases step_run hs hd with ⟨r, g1, g2, g3, g4, g5⟩ | ⟨g1, _⟩
 ·exact g5
 ·have := (good_cons h0).1 hg
  exact absurd ⟨this.1, gm_has this.2⟩ g1
theorem ref_points_loop {b : SL Int} (hb : isBytes b.xs) (hs : b.xs.length < 100000000000) : ∀ (p : List Int) (i : Nat) (out : List Int) (t : Bool), GP (b.xs.drop i) p → out.length + p.length < 1000000000000 → ∃ t' z, ref01_Points_l0 out b t i (ref01_Points_l0_x0 (out ++ p) b t' z)
 | [], i, out, t, h, hl => by
  have hn : b.xs.drop i = [] := by
   cases hd : b.xs.drop i with
   | nil => rfl
   | cons x r => rw [hd] at h; cases h
  have := drop_len hn
  rw [List.append_nil]
  exact ⟨_, _, ref01_Points_l0_e8 (by omega)⟩
 | x :: q, i, out, t, h, hl => by
  simp only [List.length_cons] at hl
  generalize hd : b.xs.drop i = l at h
  have hg : GoodT l := ⟨_, h⟩
  have fin : ∀ {n : Nat} {r : List Int}, b.xs.drop (i + n) = r → GP r q → ∃ t' z, ref01_Points_l0 (out ++ [x]) b false ((i + n : Nat) : Int) (ref01_Points_l0_x0 (out ++ x :: q) b t' z) := fun e g => by
   obtain ⟨t', z, k⟩ := ref_points_loop hb hs q _ (out ++ [x]) false (by rw [e]; exact g) (by simp; omega)
   rw [List.append_assoc] at k
   exact ⟨t', z, k⟩
  have wz : ∀ {z : Int}, 0 ≤ z → z < 256 → w64 z := fun h1 h2 => in64 (by omega) (by omega)
  cases h with
  | @one c l p h0 h1 h =>
   obtain ⟨k1, k2, k3⟩ := drop_cons hd
   have kg : b.xs[((i : Nat) : Int).toNat]? = some x := by rw [Int.toNat_natCast]; exact k1
   have bx := hb x (List.mem_of_getElem? k1)
   have s := step_good (by omega) hd h0 hg
   rw [goes0 h1] at s
   obtain ⟨t', z, k⟩ := fin (n := 1) k2 h
   exact ⟨t', z, ref01_Points_l0_s3 (by omega) s (by omega) kg (wz bx.1 bx.2) (by decide) (by decide) (by decide) (by omega) (in64 (by omega) (by omega)) k⟩
  | @two c d l p h0 h1 hc h =>
   obtain ⟨k1, k2, k3⟩ := drop_cons hd
   obtain ⟨j1, j2, j3⟩ := drop_cons k2
   have kg : b.xs[((i : Nat) : Int).toNat]? = some c := by rw [Int.toNat_natCast]; exact k1
   have jg : b.xs[((i : Int) + 1).toNat]? = some d := by rw [show ((i : Int) + 1).toNat = i + 1 by omega]; exact j1
   have bc := hb c (List.mem_of_getElem? k1)
   have bd := hb d (List.mem_of_getElem? j1)
   have s := step_good (by omega) hd bc.1 hg
   rw [goes1 h0 h1] at s
   obtain ⟨t', z, k⟩ := fin (n := 2) j2 h
   have e : bitOr .i64 ((bitAnd .i64 c 31) * 2 ^ 6) (bitAnd .i64 d 63) = c % 32 * 64 + d % 64 := by rw [and31 bc.1 bc.2, and63 bd.1 bd.2, or6 (by omega) (by omega) (by omega) (by omega)]
   refine ⟨t', z, ref01_Points_l0_s0 (y0 := c) (y1 := d) (by omega) s (by omega) kg (wz bc.1 bc.2) (by decide) (by rw [and31 bc.1 bc.2]; exact in64 (by omega) (by omega)) (in64 (by omega) (by omega)) (by omega) jg (wz bd.1 bd.2) (by omega) (in64 (by omega) (by omega)) ?_⟩
   rw [e]
   exact k
  | @three c d f l p h0 h1 hc hf h =>
   obtain ⟨k1, k2, k3⟩ := drop_cons hd
   obtain ⟨j1, j2, j3⟩ := drop_cons k2
   obtain ⟨m1, m2, m3⟩ := drop_cons j2
   have kg : b.xs[((i : Nat) : Int).toNat]? = some c := by rw [Int.toNat_natCast]; exact k1
   have jg : b.xs[((i : Int) + 1).toNat]? = some d := by rw [show ((i : Int) + 1).toNat = i + 1 by omega]; exact j1
   have mg : b.xs[((i : Int) + 2).toNat]? = some f := by rw [show ((i : Int) + 2).toNat = i + 1 + 1 by omega]; exact m1
   have bc := hb c (List.mem_of_getElem? k1)
   have bd := hb d (List.mem_of_getElem? j1)
   have bf := hb f (List.mem_of_getElem? m1)
   have s := step_good (by omega) hd bc.1 hg
   rw [goes2 h0 h1] at s
   obtain ⟨t', z, k⟩ := fin (n := 3) m2 h
   have e : bitOr .i64 (bitOr .i64 ((bitAnd .i64 c 15) * 2 ^ 12) ((bitAnd .i64 d 63) * 2 ^ 6)) (bitAnd .i64 f 63) = c % 16 * 4096 + d % 64 * 64 + f % 64 := by
    rw [and15 bc.1 bc.2, and63 bd.1 bd.2, and63 bf.1 bf.2, or12 (by omega) (by omega) (by omega) (by omega), show c % 16 * 4096 + d % 64 * 2 ^ 6 = (c % 16 * 64 + d % 64) * 2 ^ 6 by omega, or6 (by omega) (by omega) (by omega) (by omega)]
    omega
   refine ⟨t', z, ref01_Points_l0_s1 (y0 := c) (y1 := d) (y2 := f) (by omega) s (by omega) kg (wz bc.1 bc.2) (by decide) (by decide) (by rw [and15 bc.1 bc.2]; exact in64 (by omega) (by omega)) (in64 (by omega) (by omega)) (by omega) jg (wz bd.1 bd.2) (by rw [and63 bd.1 bd.2]; exact in64 (by omega) (by omega)) (in64 (by omega) (by omega)) (by omega) mg (wz bf.1 bf.2) (by omega) (in64 (by omega) (by omega)) ?_⟩
   rw [e]
   exact k
  | @four c d f g l p h0 h1 hc hf hg2 h =>
   obtain ⟨k1, k2, k3⟩ := drop_cons hd
   obtain ⟨j1, j2, j3⟩ := drop_cons k2
   obtain ⟨m1, m2, m3⟩ := drop_cons j2
   obtain ⟨n1, n2, n3⟩ := drop_cons m2
   have kg : b.xs[((i : Nat) : Int).toNat]? = some c := by rw [Int.toNat_natCast]; exact k1
   have jg : b.xs[((i : Int) + 1).toNat]? = some d := by rw [show ((i : Int) + 1).toNat = i + 1 by omega]; exact j1
   have mg : b.xs[((i : Int) + 2).toNat]? = some f := by rw [show ((i : Int) + 2).toNat = i + 1 + 1 by omega]; exact m1
   have ng : b.xs[((i : Int) + 3).toNat]? = some g := by rw [show ((i : Int) + 3).toNat = i + 1 + 1 + 1 by omega]; exact n1
   have bc := hb c (List.mem_of_getElem? k1)
   have bd := hb d (List.mem_of_getElem? j1)
   have bf := hb f (List.mem_of_getElem? m1)
   have bg := hb g (List.mem_of_getElem? n1)
   have s := step_good (by omega) hd bc.1 hg
   rw [goes3 h0 h1] at s
   obtain ⟨t', z, k⟩ := fin (n := 4) n2 h
   have e : bitOr .i64 (bitOr .i64 (bitOr .i64 ((bitAnd .i64 c 7) * 2 ^ 18) ((bitAnd .i64 d 63) * 2 ^ 12)) ((bitAnd .i64 f 63) * 2 ^ 6)) (bitAnd .i64 g 63) = c % 8 * 262144 + d % 64 * 4096 + f % 64 * 64 + g % 64 := by
    rw [and7 bc.1 bc.2, and63 bd.1 bd.2, and63 bf.1 bf.2, and63 bg.1 bg.2, or18 (by omega) (by omega) (by omega) (by omega), show c % 8 * 262144 + d % 64 * 2 ^ 12 = (c % 8 * 64 + d % 64) * 2 ^ 12 by omega, or12 (by omega) (by omega) (by omega) (by omega), show (c % 8 * 64 + d % 64) * 4096 + f % 64 * 2 ^ 6 = ((c % 8 * 64 + d % 64) * 64 + f % 64) * 2 ^ 6 by omega, or6 (by omega) (by omega) (by omega) (by omega)]
    omega
   refine ⟨t', z, ref01_Points_l0_s2 (y0 := c) (y1 := d) (y2 := f) (y3 := g) (by omega) s (by omega) kg (wz bc.1 bc.2) (by decide) (by decide) (by decide) (by rw [and7 bc.1 bc.2]; exact in64 (by omega) (by omega)) (in64 (by omega) (by omega)) (by omega) jg (wz bd.1 bd.2) (by rw [and63 bd.1 bd.2]; exact in64 (by omega) (by omega)) (in64 (by omega) (by omega)) (by omega) mg (wz bf.1 bf.2) (by rw [and63 bf.1 bf.2]; exact in64 (by omega) (by omega)) (in64 (by omega) (by omega)) (by omega) ng (wz bg.1 bg.2) (by omega) (in64 (by omega) (by omega)) ?_⟩
   rw [e]
   exact k
theorem ref_points_run {b : SL Int} (hb : isBytes b.xs) (hs : b.xs.length < 100000000000) : (∃ p t, GP b.xs p ∧ ref01_Points b ⟨1, p, t⟩ 0) ∨ (¬ GoodT b.xs ∧ ref01_Points b ⟨1, [], true⟩ 10) := by
 rcases ref_good_run hb (by omega) with ⟨⟨p, hp⟩, n, h⟩ | ⟨hn, n, h⟩
 ·obtain ⟨t, z, g⟩ := ref_points_loop hb hs p 0 [] true (by rw [List.drop_zero]; exact hp) (by have := hp.len; simp; omega)
  rw [List.nil_append] at g
  exact .inl ⟨p, t, hp, ref01_Points_r0 h g⟩
 ·exact .inr ⟨hn, ref01_Points_r1 h⟩
def hitR (p : Int) (l : List Range) : Prop := ∃ x ∈ l, x.From ≤ p ∧ p ≤ x.To
theorem fol_in {r : pike_run} {p n : Int} {st : State} {t12 : SL Int} {t13 t14 : Int} {out : List Int} {outt : Bool} (h0 : 0 ≤ n) (hst : r.l_.xs[n.toNat]? = some st) (ho : (out.length + 1) * 8 ≤ 140737488355328) (hs : st.Ranges.xs.length < 100000000000000) : ∀ (rest : List Range) (k : Nat), st.Ranges.xs.drop k = rest →
  (hitR p rest ∧ ∃ z, pr_follow_l0 out r p outt n t12 t13 t14 st.Ranges (st.Ranges.xs.length : Int) k (pr_follow_l0_x0 z st.A (out ++ [st.A]) r p t12 t13 t14)) ∨
  (¬ hitR p rest ∧ ∃ z, pr_follow_l0 out r p outt n t12 t13 t14 st.Ranges (st.Ranges.xs.length : Int) k (pr_follow_l0_x1 out r p outt n t12 t13 t14 st.Ranges (st.Ranges.xs.length : Int) z))
 | [], k, hd => by
  have := drop_len hd
  exact .inr ⟨fun ⟨x, hx, _⟩ => by simp at hx, _, pr_follow_l0_e3 (by omega)⟩
 | x :: rest, k, hd => by
  obtain ⟨k1, k2, k3⟩ := drop_cons hd
  have kg : st.Ranges.xs[((k : Nat) : Int).toNat]? = some x := by rw [Int.toNat_natCast]; exact k1
  have w : w64 ((k : Int) + 1) := in64 (by omega) (by omega)
  by_cases h1 : p ≥ x.From
  ·by_cases h2 : p ≤ x.To
   ·exact .inl ⟨⟨x, List.mem_cons_self .., h1, h2⟩, _, pr_follow_l0_e0 (by omega) (by omega) kg h1 h2 h0 hst ho⟩
   ·rcases fol_in h0 hst ho hs rest (k + 1) k2 with ⟨⟨y, hy, hy2⟩, z, g⟩ | ⟨g1, z, g⟩
    ·exact .inl ⟨⟨y, List.mem_cons_of_mem _ hy, hy2⟩, z, pr_follow_l0_s1 (by omega) (by omega) kg h1 h2 w g⟩
    ·refine .inr ⟨fun ⟨y, hy, hy2⟩ => ?_, z, pr_follow_l0_s1 (by omega) (by omega) kg h1 h2 w g⟩
     rcases List.mem_cons.1 hy with rfl | hy
     ·omega
     ·exact g1 ⟨y, hy, hy2⟩
  ·rcases fol_in h0 hst ho hs rest (k + 1) k2 with ⟨⟨y, hy, hy2⟩, z, g⟩ | ⟨g1, z, g⟩
   ·exact .inl ⟨⟨y, List.mem_cons_of_mem _ hy, hy2⟩, z, pr_follow_l0_s2 (by omega) (by omega) kg h1 w g⟩
   ·refine .inr ⟨fun ⟨y, hy, hy2⟩ => ?_, z, pr_follow_l0_s2 (by omega) (by omega) kg h1 w g⟩
    rcases List.mem_cons.1 hy with rfl | hy
    ·omega
    ·exact g1 ⟨y, hy, hy2⟩
def goTo (l : List State) (p x y : Int) : Prop := ∃ st, l[x.toNat]? = some st ∧ hitR p st.Ranges.xs ∧ y = st.A
theorem fol_loop {r : pike_run} {p : Int} {all : SL Int} (ha : all.xs.length < 100000000000) (hv : ∀ x ∈ all.xs, 0 ≤ x ∧ x < r.l_.xs.length) (hs : ∀ st ∈ r.l_.xs, st.Ranges.xs.length < 100000000000000) : ∀ (rest : List Int) (k : Nat) (out : List Int) (outt : Bool), all.xs.drop k = rest → out.length ≤ k →
  ∃ out' outt' z, pr_follow_l1 out r p outt all (all.xs.length : Int) k (pr_follow_l1_x0 out' r p outt' all (all.xs.length : Int) z) ∧ out'.length ≤ out.length + rest.length ∧ ∀ y, y ∈ out' ↔ y ∈ out ∨ ∃ x ∈ rest, goTo r.l_.xs p x y
 | [], k, out, outt, hd, hk => by
  have := drop_len hd
  exact ⟨out, outt, _, pr_follow_l1_e2 (by omega), by simp, fun y => by simp⟩
 | x :: rest, k, out, outt, hd, hk => by
  obtain ⟨k1, k2, k3⟩ := drop_cons hd
  have kg : all.xs[((k : Nat) : Int).toNat]? = some x := by rw [Int.toNat_natCast]; exact k1
  have hx := hv x (List.mem_of_getElem? k1)
  have w : w64 ((k : Int) + 1) := in64 (by omega) (by omega)
  obtain ⟨st, hst⟩ : ∃ st, r.l_.xs[x.toNat]? = some st := ⟨_, List.getElem?_eq_getElem (by omega)⟩
  have hsr := hs st (List.mem_of_getElem? hst)
  rcases fol_in (out := out) (outt := outt) (t12 := all) (t13 := (all.xs.length : Int)) (t14 := (k : Int)) (p := p) hx.1 hst (by omega) hsr st.Ranges.xs 0 (by simp) with ⟨g1, z, g2⟩ | ⟨g1, z, g2⟩
  ·obtain ⟨out', outt', z', j1, j2, j3⟩ := fol_loop ha hv hs rest (k + 1) (out ++ [st.A]) false k2 (by simp; omega)
   refine ⟨out', outt', z', pr_follow_l1_s0 (by omega) (by omega) kg hx.1 hst g2 w j1, by simp at j2 ⊢; omega, fun y => ?_⟩
   rw [j3, List.mem_append, List.mem_singleton]
   constructor
   ·rintro ((h | h) | ⟨u, hu, h⟩)
    ·exact .inl h
    ·exact .inr ⟨x, List.mem_cons_self .., st, hst, g1, h⟩
    ·exact .inr ⟨u, List.mem_cons_of_mem _ hu, h⟩
   ·rintro (h | ⟨u, hu, st', h1, h2, h3⟩)
    ·exact .inl (.inl h)
    ·rcases List.mem_cons.1 hu with rfl | hu
     ·rw [hst] at h1; cases h1; exact .inl (.inr h3)
     ·exact .inr ⟨u, hu, st', h1, h2, h3⟩
  ·obtain ⟨out', outt', z', j1, j2, j3⟩ := fol_loop ha hv hs rest (k + 1) out outt k2 (by omega)
   refine ⟨out', outt', z', pr_follow_l1_s1 (by omega) (by omega) kg hx.1 hst g2 w j1, by simp; omega, fun y => ?_⟩
   rw [j3]
   constructor
   ·rintro (h | ⟨u, hu, h⟩)
    ·exact .inl h
    ·exact .inr ⟨u, List.mem_cons_of_mem _ hu, h⟩
   ·rintro (h | ⟨u, hu, st', h1, h2, h3⟩)
    ·exact .inl h
    ·rcases List.mem_cons.1 hu with rfl | hu
     ·rw [hst] at h1; cases h1; exact absurd h2 g1
     ·exact .inr ⟨u, hu, st', h1, h2, h3⟩
theorem follow_run {r : pike_run} {p : Int} {all : SL Int} (ha : all.xs.length < 100000000000) (hv : ∀ x ∈ all.xs, 0 ≤ x ∧ x < r.l_.xs.length) (hs : ∀ st ∈ r.l_.xs, st.Ranges.xs.length < 100000000000000) : ∃ out t, pr_follow r all p out out.length t ∧ out.length ≤ all.xs.length ∧ ∀ y, y ∈ out ↔ ∃ x ∈ all.xs, goTo r.l_.xs p x y := by
 obtain ⟨out, t, z, h1, h2, h3⟩ := fol_loop (p := p) ha hv hs all.xs 0 [] true (by simp) (by simp)
 exact ⟨out, t, pr_follow_r0 h1, by simpa using h2, fun y => by rw [h3]; simp⟩
def Spec (l : List State) (s : List Int) (again : Bool) : Nat → Nat → List Int → Int → Bool → Int → Prop
 | 0, i, src, acc, f, n => ∃ all : List Int, all.Nodup ∧ (∀ x, x ∈ all ↔ Clos (nxL l s i) src x) ∧ (f = true ↔ ∃ x ∈ all, isDone l x) ∧ n = acc + all.length
 | m + 1, i, src, acc, f, n => ∃ all : List Int, all.Nodup ∧ (∀ x, x ∈ all ↔ Clos (nxL l s i) src x) ∧ (((∃ x ∈ all, isDone l x) ∧ f = true ∧ n = acc + all.length) ∨
   ((¬ ∃ x ∈ all, isDone l x) ∧ ∃ (p : Int) (src' : List Int), s[i]? = some p ∧ (∀ y, y ∈ src' ↔ (again = true ∧ y = 0) ∨ ∃ x ∈ all, goTo l p x y) ∧ Spec l s again m (i + 1) src' (acc + all.length) f n))
structure Fits (l : List State) : Prop where
 a : ∀ st ∈ l, st.Kind ≠ 7 → 0 ≤ st.A ∧ st.A < l.length
 b : ∀ st ∈ l, st.Kind = 2 → 0 ≤ st.B ∧ st.B < l.length
 z : ∀ st ∈ l, st.Kind = 7 → st.Ranges.xs = []
 r : ∀ st ∈ l, st.Ranges.xs.length < 100000000000000
theorem Fits.nx {l : List State} (h : Fits l) (s : List Int) (i : Nat) (x : Int) (h0 : 0 ≤ x) (h1 : x < l.length) : ∀ y ∈ nxL l s i x, 0 ≤ y ∧ y < l.length := by
 intro y hy
 unfold nxL at hy
 obtain ⟨st, hst⟩ : ∃ st, l[x.toNat]? = some st := ⟨_, List.getElem?_eq_getElem (by omega)⟩
 rw [hst] at hy
 have hm := List.mem_of_getElem? hst
 rcases List.mem_append.1 hy with hy | hy
 ·unfold kGo at hy
  split at hy
  ·rw [List.mem_singleton.1 hy]
   refine h.a st hm fun e => ?_
   rename_i hb
   rw [e] at hb
   unfold letsB at hb
   simp at hb
  ·simp at hy
 ·unfold kFork at hy
  split at hy
  ·rw [List.mem_singleton.1 hy]
   exact h.b st hm (by assumption)
  ·simp at hy
theorem Fits.go {l : List State} (h : Fits l) {p x y : Int} (hg : goTo l p x y) : 0 ≤ y ∧ y < l.length := by
 obtain ⟨st, h1, ⟨u, hu, _⟩, rfl⟩ := hg
 have hm := List.mem_of_getElem? h1
 refine h.a st hm fun e => ?_
 rw [h.z st hm e] at hu
 simp at hu
theorem search_each (a n k : Int) (c b : Bool) (hw : w64 (a + n)) : pike_Search_f1 a c k n b (!b) (a + n) b := by
 cases b with
 | true => exact pike_Search_f1_r0 hw
 | false => exact pike_Search_f1_r1 hw
theorem over_loop {r : pike_run} (hF : Fits r.l_.xs) (hs : r.s_.xs.length < 100000000) (hn : r.l_.xs.length < 10000000) (hp0 : 0 < r.l_.xs.length) : ∀ (m i : Nat) (src : List Int) (t : Bool) (acc : Int) (c : Bool), i + m = r.s_.xs.length → (∀ x ∈ src, 0 ≤ x ∧ x < r.l_.xs.length) → src.length ≤ r.l_.xs.length + 1 → 0 ≤ acc → acc ≤ i * 10000000 →
  ∃ f n x i' al, pr_over_v1_l0_b acc c src r true t src.length i (pr_over_v1_l0_x4 n f x r i' al) ∧ Spec r.l_.xs r.s_.xs true m i src acc f n := by
 intro m
 induction m with
 | zero =>
  intro i src t acc c hi hv hl h0 ha
  obtain ⟨all, at_, d, h1, h2, h3, h4⟩ := spread_run (r := r) (i := i) (src := ⟨1, src, t⟩) (by omega) (by omega) (by omega) (by show src.length < _; omega) hv (hF.nx _ _)
  have hal : all.length ≤ r.l_.xs.length := nodup_le _ _ h2 (fun x hx => Clos.lt hv (hF.nx _ _) ((h3 x).1 hx))
  have hw : w64 (acc + (all.length : Int)) := in64 (by omega) (by omega)
  have he := search_each acc all.length i c d hw
  have tk : src.take src.length = src := List.take_length ..
  have h1' : pr_spread r ⟨1, src.take src.length, t⟩ i ⟨1, all, at_⟩ d := by rw [tk]; exact h1
  cases d with
  | true => exact ⟨_, _, _, _, _, pr_over_v1_l0_b_e16 (by omega) (Nat.le_refl _) h1' he, all, h2, h3, h4, rfl⟩
  | false => exact ⟨_, _, _, _, _, pr_over_v1_l0_b_e17 (by omega) (Nat.le_refl _) h1' he (by omega), all, h2, h3, h4, rfl⟩
 | succ m ih =>
  intro i src t acc c hi hv hl h0 ha
  obtain ⟨all, at_, d, h1, h2, h3, h4⟩ := spread_run (r := r) (i := i) (src := ⟨1, src, t⟩) (by omega) (by omega) (by omega) (by show src.length < _; omega) hv (hF.nx _ _)
  have hav : ∀ x ∈ all, 0 ≤ x ∧ x < r.l_.xs.length := fun x hx => Clos.lt hv (hF.nx _ _) ((h3 x).1 hx)
  have hal : all.length ≤ r.l_.xs.length := nodup_le _ _ h2 hav
  have hw : w64 (acc + (all.length : Int)) := in64 (by omega) (by omega)
  have he := search_each acc all.length i c d hw
  have tk : src.take src.length = src := List.take_length ..
  have h1' : pr_spread r ⟨1, src.take src.length, t⟩ i ⟨1, all, at_⟩ d := by rw [tk]; exact h1
  cases d with
  | true => exact ⟨_, _, _, _, _, pr_over_v1_l0_b_e16 (by omega) (Nat.le_refl _) h1' he, all, h2, h3, .inl ⟨h4.1 rfl, rfl, rfl⟩⟩
  | false =>
   obtain ⟨p, hp⟩ : ∃ p, r.s_.xs[i]? = some p := ⟨_, List.getElem?_eq_getElem (by omega)⟩
   have hp' : r.s_.xs[((i : Nat) : Int).toNat]? = some p := by rw [Int.toNat_natCast]; exact hp
   obtain ⟨out, ot, g1, g2, g3⟩ := follow_run (r := r) (p := p) (all := ⟨1, all, at_⟩) (by show all.length < _; omega) hav hF.r
   have tk2 : out.take out.length = out := List.take_length ..
   have g2' : out.length ≤ all.length := g2
   obtain ⟨f, n, x, i', al, k1, k2⟩ := ih (i + 1) (out ++ [0]) false (acc + all.length) false (by omega) (fun y hy => by
    rcases List.mem_append.1 hy with h | h
    ·obtain ⟨x, _, h⟩ := (g3 y).1 h
     exact hF.go h
    ·rw [List.mem_singleton.1 h]
     omega) (by simp; omega) (by omega) (by omega)
   refine ⟨f, n, x, i', al, pr_over_v1_l0_b_s18 (by omega) (Nat.le_refl _) h1' he (by omega) (by omega) hp' g1 (by omega) (Nat.le_refl _) (in64 (by omega) (by omega)) ?_, all, h2, h3, .inr ⟨fun h => (by have := h4.2 h; cases this), p, out ++ [0], hp, fun y => ?_, k2⟩⟩
   ·rw [tk2]; exact k1
   ·rw [List.mem_append, g3, List.mem_singleton]
    constructor
    ·rintro (h | h)
     ·exact .inr h
     ·exact .inl ⟨rfl, h⟩
    ·rintro (⟨_, h⟩ | h)
     ·exact .inr h
     ·exact .inl h
end
end Go.Proofs.YtjnfkifdgojdaaaGreat.V

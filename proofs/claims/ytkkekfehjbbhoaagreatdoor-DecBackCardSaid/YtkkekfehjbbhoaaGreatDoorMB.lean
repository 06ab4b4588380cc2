/- Numbers: limbs, what is reckoned, texts (several texts together). -/
import Derived.Test.YtkkekfehjbbhoaaGreatDoorVQ
import Derived.Test.YtkkekfehjbbhoaaGreatDoorMA
import Derived.Test.YtkkekfehjbbhoaaGreatDoorVY
import Derived.Test.YtkkekfehjbbhoaaGreatDoorRows
import Derived.Test.YtkkekfehjbbhoaaGreatDoorV28
import Derived.Deep.Slices
namespace Go.Proofs.YtkkekfehjbbhoaaGreatDoor.V
section
open Go
set_option linter.unusedVariables false
set_option linter.unnecessarySimpa false
set_option linter.unusedSimpArgs false
set_option linter.unusedSectionVars false
theorem rtrim_loop {a : SL Int} (hf : wide a.xs) : ∀ n : Nat, n ≤ a.xs.length → (∀ i x, n ≤ i → a.xs[i]? = some x → x = 0) → ∃ m : Nat, ref02_Trim_l0 a n (ref02_Trim_l0_x0 a m) ∧ m ≤ a.xs.length ∧ a.xs.take m = trimL a.xs
  | 0, hn, hz => ⟨0, ref02_Trim_l0_e2 (by omega), by omega, take_trim (by omega) hz (.inl rfl)⟩
  | n + 1, hn, hz => by
    unfold wide at hf
    have e : (((n + 1 : Nat) : Int) - 1) = n := by omega
    have hg : a.xs[(((n + 1 : Nat) : Int) - 1).toNat]? = some (a.xs[n]'(by omega)) := by rw [e]; simp
    have hg' : a.xs[n]? = some (a.xs[n]'(by omega)) := List.getElem?_eq_getElem _
    have w1 : w64 (((n + 1 : Nat) : Int) - 1) := in64 (by omega) (by omega)
    by_cases c : a.xs[n]'(by omega) = 0
    · obtain ⟨m, h, h2, h3⟩ := rtrim_loop (a := a) (by unfold wide; exact hf) n (by omega) (fun i x hi hx => by
        rcases Nat.eq_or_lt_of_le hi with h | h
        · subst h; rw [hg'] at hx; cases hx; exact c
        · exact hz i x h hx)
      refine ⟨m, ref02_Trim_l0_s0 (by omega) w1 (by omega) hg c ?_, h2, h3⟩
      rw [e]; exact h
    · exact ⟨n + 1, ref02_Trim_l0_e1 (by omega) w1 (by omega) hg c, hn, take_trim hn hz (.inr ⟨_, c, by rw [Nat.add_sub_cancel]; exact hg'⟩)⟩
theorem rtrim_limbs {l : List Int} (hf : wide l) (hl : limbs l) (t : Bool) : ∃ q : SL Int, ref02_Trim ⟨1, l, t⟩ q ∧ isNum q.xs ∧ val q.xs = val l ∧ q.xs.length ≤ l.length := by
  obtain ⟨m, h, h2, h3⟩ := rtrim_loop (a := ⟨1, l, t⟩) hf l.length (Nat.le_refl _) (fun i x hi hx => by
    have : l[i]? = some x := hx
    rw [List.getElem?_eq_none hi] at this; cases this)
  have h3' : l.take m = trimL l := h3
  have h2' : m ≤ l.length := h2
  have hlen : (trimL l).length ≤ l.length := by rw [← h3', List.length_take]; omega
  unfold wide at hf
  have e : ((m : Int)).toNat = m := by omega
  have hh := ref02_Trim_r0 (a := ⟨1, l, t⟩) h (by omega) (by rw [e]; exact h2) (by rw [e]; dsimp only; rw [List.length_take]; omega)
  rw [e] at hh
  dsimp only at hh
  rw [h3'] at hh
  exact ⟨_, hh, isNum_trim hl, val_trim l, hlen⟩
/-! ### Sums, differences -/
theorem val_snoc (l : List Int) (x : Int) : val (l ++ [x]) = val l + 1000000000 ^ l.length * x := by rw [val_append, val_one]
theorem limbs_snoc {l : List Int} {x : Int} (h : limbs l) (hx : 0 ≤ x ∧ x < 1000000000) : limbs (l ++ [x]) := limbs_append.2 ⟨h, by intro y hy; simp at hy; subst hy; exact hx⟩
/-! ### Products -/
end
section
open Go
set_option linter.unusedVariables false
set_option linter.unnecessarySimpa false
set_option linter.unusedSimpArgs false
set_option linter.unusedSectionVars false
end
section
open Go
set_option linter.unusedVariables false
set_option linter.unnecessarySimpa false
set_option linter.unusedSimpArgs false
set_option linter.unusedSectionVars false
def bothSides (a b a' b' : SL Int) : Prop :=
  (isNum a.xs ∧ isNum b.xs ∧ nat_both a' b' 0 ∧ ref02_Check a 0 ∧ ref02_Check b 0) ∨ (nat_both a' b' 2 ∧ (ref02_Check a 2 ∨ (ref02_Check a 0 ∧ ref02_Check b 2)))
theorem d2 : (2 : Int) ≠ 0 := by decide
section
variable {a b a' b' : SL Int} {n_ : Int} (ea : a'.xs = a.xs) (eb : b'.xs = b.xs) (la : a.xs.length ≤ 60) (lb : b.xs.length ≤ 60) (H : bothSides a b a' b')
include ea eb la lb H
end
end
section
open Go
set_option linter.unusedVariables false
set_option linter.unnecessarySimpa false
set_option linter.unusedSimpArgs false
set_option linter.unusedSectionVars false
/-- What figures say, the first being the greatest. -/
def hv : Int → List Int → Int
  | x, [] => x
  | x, d :: r => hv (x * 10 + (d - 48)) r
def figs (l : List Int) : Prop := ∀ d ∈ l, 48 ≤ d ∧ d ≤ 57
theorem figs_cons {d : Int} {r : List Int} : figs (d :: r) ↔ (48 ≤ d ∧ d ≤ 57) ∧ figs r := by
  constructor
  · intro h; exact ⟨h d (by simp), fun x hx => h x (by simp [hx])⟩
  · rintro ⟨h1, h2⟩ x hx
    rcases List.mem_cons.1 hx with rfl | hx
    · exact h1
    · exact h2 x hx
theorem figs_nil : figs [] := by intro x h; cases h
theorem figs_take {l : List Int} (h : figs l) (i : Nat) : figs (l.take i) := fun x hx => h x (List.mem_of_mem_take hx)
theorem figs_drop {l : List Int} (h : figs l) (i : Nat) : figs (l.drop i) := fun x hx => h x (List.mem_of_mem_drop hx)
theorem hv_add : ∀ (l : List Int) (x : Int), hv x l = x * 10 ^ l.length + hv 0 l
  | [], x => by simp [hv]
  | d :: r, x => by
    rw [hv, hv, hv_add r (x * 10 + (d - 48)), hv_add r (0 * 10 + (d - 48)), List.length_cons, Int.pow_succ]
    have e1 : (x * 10 + (d - 48)) * 10 ^ r.length = x * (10 ^ r.length * 10) + (d - 48) * 10 ^ r.length := by
      rw [Int.add_mul, Int.mul_assoc, Int.mul_comm 10]
    have e2 : (0 * 10 + (d - 48)) * 10 ^ r.length = (d - 48) * 10 ^ r.length := by
      rw [Int.zero_mul, Int.zero_add]
    rw [e1, e2]
    omega
theorem hv_seq : ∀ (a b : List Int) (x : Int), hv x (a ++ b) = hv (hv x a) b
  | [], b, x => rfl
  | d :: r, b, x => hv_seq r b _
theorem hv_app (a b : List Int) : hv 0 (a ++ b) = hv 0 a * 10 ^ b.length + hv 0 b := by rw [hv_seq, hv_add]
theorem ten_pos (n : Nat) : 0 < (10 : Int) ^ n := Int.pow_pos (by decide)
theorem hv_bound : ∀ {l : List Int}, figs l → 0 ≤ hv 0 l ∧ hv 0 l < 10 ^ l.length
  | [], _ => by simp [hv]
  | d :: r, h => by
    rw [figs_cons] at h
    have ih := hv_bound h.2
    rw [hv, hv_add, List.length_cons, Int.pow_succ, Int.zero_mul, Int.zero_add]
    have hp := ten_pos r.length
    have h1 : 0 ≤ (d - 48) * 10 ^ r.length := Int.mul_nonneg (by omega) (by omega)
    have h2 : (d - 48) * 10 ^ r.length ≤ 9 * 10 ^ r.length := Int.mul_le_mul_of_nonneg_right (by omega) (by omega)
    omega
theorem hv_ge {l : List Int} (h : figs l) {x : Int} (hx : 0 ≤ x) : x ≤ hv x l := by
  rw [hv_add]
  have h1 := (hv_bound h).1
  have hp := ten_pos l.length
  have h2 : x * 1 ≤ x * 10 ^ l.length := Int.mul_le_mul_of_nonneg_left (by omega) hx
  omega
def digs : Nat → Int → List Int → List Int
  | 0, _, T => T
  | j + 1, x, T => digs j (x / 10) ((48 + x % 10) :: T)
def pushAll : List Int → List Int → List Int
  | [], T => T
  | x :: r, T => pushAll r (digs 9 x T)
/-- Zeros ahead. -/
abbrev cutZ (l : List Int) : List Int := l.dropWhile (fun d => decide (d = 48))
def bText (l : List Int) : ByteArray := ⟨(bytesOf l).toArray⟩
theorem strInts_len (s : ByteArray) : (strInts s).length = s.size := by
  simp only [strInts, List.length_map, Array.length_toList]; rfl
theorem strInts_extract (s : ByteArray) (a b : Nat) : strInts (s.extract a b) = ((strInts s).take b).drop a := by
  simp only [strInts, ByteArray.data_extract, Array.toList_extract, List.extract_eq_take_drop, List.map_drop, List.map_take, List.drop_take]
theorem str_get {s : ByteArray} {i : Nat} {d : Int} (h : (strInts s)[i]? = some d) : ∃ b : UInt8, s[i]? = some b ∧ (b.toNat : Int) = d := by
  simp only [strInts, List.getElem?_map, Option.map_eq_some_iff, Array.getElem?_toList] at h
  obtain ⟨b, h1, h2⟩ := h
  refine ⟨b, ?_, h2⟩
  obtain ⟨h3, h4⟩ := Array.getElem?_eq_some_iff.1 h1
  exact (getElem?_pos s i h3).trans (congrArg some h4)
theorem empty_str {s : ByteArray} : s = (⟨#[]⟩ : ByteArray) ↔ s.size = 0 := by
  constructor
  · intro h; subst h; rfl
  · intro h
    cases s with | mk d =>
    have : d.size = 0 := h
    rw [Array.eq_empty_of_size_eq_zero this]
theorem of_in {out : List Int} {s : ByteArray} {outt : Bool} {at_ : Int} {t30 : SL Int} (hl : t30.xs.length < 1000) : ∀ (rest : List Int) (k : Nat) (x : Int), t30.xs.drop k = rest → figs rest → 0 ≤ x → hv x rest < 1000000000 →
    ∃ z, nat_Of_l0 out s outt at_ x t30 (t30.xs.length : Int) k (nat_Of_l0_x0 out s outt at_ (hv x rest) t30 (t30.xs.length : Int) z)
  | [], k, x, hd, hf, h0, h1 => by
    have := drop_nil_le hd
    exact ⟨k, nat_Of_l0_e1 (by omega)⟩
  | d :: r, k, x, hd, hf, h0, h1 => by
    obtain ⟨k1, k2, k3⟩ := at_drop hd
    rw [figs_cons] at hf
    have hg := hv_ge hf.2 (x := x * 10 + (d - 48)) (by omega)
    rw [hv] at h1
    obtain ⟨z, g⟩ := of_in (out := out) (s := s) (outt := outt) (at_ := at_) hl r (k + 1) (x * 10 + (d - 48)) k2 hf.2 (by omega) h1
    exact ⟨z, nat_Of_l0_s0 (by omega) (by omega) k1 (inU32 (by omega) (by omega)) (inU8 (by omega) (by omega)) (inU32 (by omega) (by omega)) (inU32 (by omega) (by omega)) (in64 (by omega) (by omega)) (by exact_mod_cast g)⟩
theorem ten9 : (10 : Int) ^ 9 = 1000000000 := by decide
theorem ten_le9 {n : Nat} (h : n ≤ 9) : (10 : Int) ^ n ≤ 1000000000 := by
  have : n = 0 ∨ n = 1 ∨ n = 2 ∨ n = 3 ∨ n = 4 ∨ n = 5 ∨ n = 6 ∨ n = 7 ∨ n = 8 ∨ n = 9 := by omega
  rcases this with rfl | rfl | rfl | rfl | rfl | rfl | rfl | rfl | rfl | rfl <;> decide
/-- The last nine figures, and what is ahead of them. -/
theorem last_nine {l : List Int} (hf : figs l) (hne : l ≠ []) : (0 ≤ hv 0 (l.drop (l.length - 9)) ∧ hv 0 (l.drop (l.length - 9)) < 1000000000) ∧ hv 0 l = hv 0 (l.drop (l.length - 9)) + 1000000000 * hv 0 (l.take (l.length - 9)) := by
  have hb := hv_bound (figs_drop hf (l.length - 9))
  rw [List.length_drop] at hb
  have hle := ten_le9 (n := l.length - (l.length - 9)) (by omega)
  refine ⟨⟨hb.1, by omega⟩, ?_⟩
  have h := hv_app (l.take (l.length - 9)) (l.drop (l.length - 9))
  rw [List.take_append_drop, List.length_drop] at h
  by_cases h9 : l.length ≤ 9
  · have h0 : l.length - 9 = 0 := by omega
    have t0 : hv 0 (l.take (l.length - 9)) = 0 := by rw [h0, List.take_zero]; rfl
    rw [t0, Int.zero_mul] at h
    rw [t0]
    omega
  · have : l.length - (l.length - 9) = 9 := by omega
    rw [this, ten9] at h
    rw [h]
    omega
theorem of_out : ∀ (n : Nat) (s : ByteArray) (out : List Int) (outt : Bool), s.size ≤ n → out.length + s.size ≤ 2000000 → figs (strInts s) → limbs out →
    ∃ z0 z1 z2, nat_Of_l1 out s outt (nat_Of_l1_x0 z0 z1 z2) ∧ limbs z0 ∧ val z0 = val out + 1000000000 ^ out.length * hv 0 (strInts s) ∧ z0.length ≤ out.length + s.size := by
  intro n
  induction n with
  | zero =>
    intro s out outt hs hb hf hl
    have h0 : s = (⟨#[]⟩ : ByteArray) := empty_str.2 (by omega)
    refine ⟨out, s, outt, nat_Of_l1_e0 h0, hl, ?_, by omega⟩
    subst h0
    show val out = val out + 1000000000 ^ out.length * 0
    rw [Int.mul_zero, Int.add_zero]
  | succ n ih =>
    intro s out outt hs hb hf hl
    by_cases h0 : s = (⟨#[]⟩ : ByteArray)
    · refine ⟨out, s, outt, nat_Of_l1_e0 h0, hl, ?_, by omega⟩
      subst h0
      show val out = val out + 1000000000 ^ out.length * 0
      rw [Int.mul_zero, Int.add_zero]
    have hz : s.size ≠ 0 := fun h => h0 (empty_str.2 h)
    have hlen := strInts_len s
    have hne : strInts s ≠ [] := by
      intro h
      rw [h] at hlen
      exact hz hlen.symm
    have e1 : (max 0 ((s.size : Int) - 9)).toNat = s.size - 9 := by omega
    have e2 : strInts (s.extract (s.size - 9) s.size) = (strInts s).drop ((strInts s).length - 9) := by
      rw [strInts_extract, hlen, List.take_of_length_le (by omega)]
    have e3 : strInts (s.extract 0 (s.size - 9)) = (strInts s).take ((strInts s).length - 9) := by
      rw [strInts_extract, hlen, List.drop_zero]
    have e4 : (s.extract 0 (s.size - 9)).size = s.size - 9 := by
      rw [← strInts_len, e3, List.length_take]; omega
    obtain ⟨⟨v1, v2⟩, v3⟩ := last_nine hf hne
    obtain ⟨z, g⟩ := of_in (out := out) (s := s) (outt := outt) (at_ := max 0 ((s.size : Int) - 9)) (t30 := ⟨1, strInts (s.extract (s.size - 9) s.size), false⟩) (by
      dsimp only; rw [e2, List.length_drop]; omega) _ 0 0 rfl (by rw [List.drop_zero]; dsimp only; rw [e2]; exact figs_drop hf _) (by omega) (by rw [List.drop_zero]; dsimp only; rw [e2]; exact v2)
    rw [List.drop_zero] at g
    dsimp only at g
    obtain ⟨z0, z1, z2, k1, k2, k3, k4⟩ := ih (s.extract 0 (s.size - 9)) (out ++ [hv 0 (strInts (s.extract (s.size - 9) s.size))]) false (by omega) (by rw [List.length_append, List.length_singleton, e4]; omega) (by rw [e3]; exact figs_take hf _) (limbs_snoc hl (by rw [e2]; exact ⟨v1, v2⟩))
    refine ⟨z0, z1, z2, nat_Of_l1_s1 (z0 := hv 0 (strInts (s.extract (s.size - 9) s.size))) (z1 := z) h0 (in64 (by omega) (by omega)) (by omega) (by omega) (by rw [e1]; exact g) (by omega) (by rw [e1]; exact k1), k2, ?_, by rw [List.length_append, List.length_singleton, e4] at k4; omega⟩
    rw [k3, val_snoc, List.length_append, List.length_singleton, e2, e3, v3, Int.pow_succ, Int.mul_add, Int.mul_assoc]
    omega
theorem rof_check {s : ByteArray} (hl : s.size < 281474976710656) : ∀ (rest : List Int) (i : Nat), (strInts s).drop i = rest → (figs rest ∧ ∃ z, ref02_Of_l0 s i (ref02_Of_l0_x1 s z)) ∨ (¬ figs rest ∧ ref02_Of_l0 s i (ref02_Of_l0_x0 []))
  | [], i, hd => by
    have := drop_nil_le hd
    rw [strInts_len] at this
    exact .inl ⟨figs_nil, _, ref02_Of_l0_e3 (by omega)⟩
  | d :: r, i, hd => by
    obtain ⟨k1, k2, k3⟩ := at_drop hd
    rw [strInts_len] at k3
    rw [Int.toNat_natCast] at k1
    obtain ⟨b, b1, b2⟩ := str_get k1
    rw [figs_cons]
    by_cases c1 : d < 48
    · exact .inr ⟨fun h => by omega, ref02_Of_l0_e0 (by omega) (by omega) (by rw [Int.toNat_natCast]; exact b1) (by omega)⟩
    by_cases c2 : d > 57
    · exact .inr ⟨fun h => by omega, ref02_Of_l0_e1 (by omega) (by omega) (by rw [Int.toNat_natCast]; exact b1) (by omega) (by omega)⟩
    rcases rof_check hl r (i + 1) k2 with ⟨h1, z, h2⟩ | ⟨h1, h2⟩
    · exact .inl ⟨⟨by omega, h1⟩, z, ref02_Of_l0_s2 (by omega) (by omega) (by rw [Int.toNat_natCast]; exact b1) (by omega) (by omega) (in64 (by omega) (by omega)) (by exact_mod_cast h2)⟩
    · exact .inr ⟨fun h => h1 h.2, ref02_Of_l0_s2 (by omega) (by omega) (by rw [Int.toNat_natCast]; exact b1) (by omega) (by omega) (in64 (by omega) (by omega)) (by exact_mod_cast h2)⟩
theorem rof_in {out : List Int} {s : ByteArray} {outt : Bool} {e : Nat} (he : e ≤ s.size) (hl : s.size < 281474976710656) : ∀ (rest : List Int) (i : Nat) (x : Int), ((strInts s).take e).drop i = rest → figs rest → 0 ≤ x → hv x rest < 1000000000 →
    ∃ z, ref02_Of_l1 out s outt e x i (ref02_Of_l1_x0 out s outt e (hv x rest) z)
  | [], i, x, hd, hf, h0, h1 => by
    have := drop_nil_le hd
    rw [List.length_take, strInts_len] at this
    exact ⟨_, ref02_Of_l1_e1 (by omega)⟩
  | d :: r, i, x, hd, hf, h0, h1 => by
    obtain ⟨k1, k2, k3⟩ := at_drop hd
    rw [List.length_take, strInts_len] at k3
    rw [Int.toNat_natCast, List.getElem?_take, if_pos (by omega)] at k1
    obtain ⟨b, b1, b2⟩ := str_get k1
    rw [figs_cons] at hf
    rw [hv] at h1
    have hc : 10 * x + ((b.toNat : Int) - 48) = x * 10 + (d - 48) := by omega
    have hg := hv_ge hf.2 (x := x * 10 + (d - 48)) (by omega)
    obtain ⟨z, g⟩ := rof_in (out := out) (outt := outt) he hl r (i + 1) (x * 10 + (d - 48)) k2 hf.2 (by omega) h1
    refine ⟨z, ref02_Of_l1_s0 (b0 := b) (by omega) (inU32 (by omega) (by omega)) (by omega) (by rw [Int.toNat_natCast]; exact b1) (inU8 (by omega) (by omega)) (inU32 (by omega) (by omega)) (inU32 (by omega) (by omega)) (in64 (by omega) (by omega)) ?_⟩
    rw [hc]
    exact_mod_cast g
theorem rof_out {s : ByteArray} (hl : s.size ≤ 2000000) (hf : figs (strInts s)) : ∀ (n e : Nat) (out : List Int) (outt : Bool), e ≤ n → e ≤ s.size → out.length + e ≤ 2000000 → limbs out →
    ∃ z0 z2 z3, ref02_Of_l2 out s outt e (ref02_Of_l2_x0 z0 s z2 z3) ∧ limbs z0 ∧ val z0 = val out + 1000000000 ^ out.length * hv 0 ((strInts s).take e) ∧ z0.length ≤ out.length + e := by
  intro n
  induction n with
  | zero =>
    intro e out outt hn he hb ho
    have : e = 0 := by omega
    subst this
    refine ⟨out, outt, _, ref02_Of_l2_e1 (by omega), ho, ?_, by omega⟩
    show val out = val out + 1000000000 ^ out.length * 0
    rw [Int.mul_zero, Int.add_zero]
  | succ n ih =>
    intro e out outt hn he hb ho
    by_cases h0 : e = 0
    · subst h0
      refine ⟨out, outt, _, ref02_Of_l2_e1 (by omega), ho, ?_, by omega⟩
      show val out = val out + 1000000000 ^ out.length * 0
      rw [Int.mul_zero, Int.add_zero]
    have hlen := strInts_len s
    have hfe := figs_take hf e
    have hle : ((strInts s).take e).length = e := by rw [List.length_take]; omega
    have hne : (strInts s).take e ≠ [] := by
      intro h
      rw [h] at hle
      exact h0 hle.symm
    obtain ⟨⟨v1, v2⟩, v3⟩ := last_nine hfe hne
    rw [hle] at v1 v2 v3
    have e1 : (max 0 ((e : Int) - 9)) = ((e - 9 : Nat) : Int) := by omega
    obtain ⟨z, g⟩ := rof_in (out := out) (outt := outt) he (by omega) _ (e - 9) 0 rfl (figs_drop hfe _) (by omega) v2
    have hlo : limbs (out ++ [hv 0 (((strInts s).take e).drop (e - 9))]) := limbs_snoc ho ⟨v1, v2⟩
    by_cases h9 : e ≤ 9
    · refine ⟨_, false, _, ref02_Of_l2_s0 (z0 := hv 0 (((strInts s).take e).drop (e - 9))) (z1 := z) (by omega) (in64 (by omega) (by omega)) (by rw [e1]; exact g) (by omega) (ref02_Of_l2_e1 (by omega)), hlo, ?_, by rw [List.length_append, List.length_singleton]; omega⟩
      rw [val_snoc, v3]
      have : e - 9 = 0 := by omega
      rw [this, List.take_zero]
      show _ = val out + 1000000000 ^ out.length * (_ + 1000000000 * 0)
      rw [Int.mul_zero, Int.add_zero]
    · obtain ⟨z0, z2, z3, k1, k2, k3, k4⟩ := ih (e - 9) (out ++ [hv 0 (((strInts s).take e).drop (e - 9))]) false (by omega) (by omega) (by rw [List.length_append, List.length_singleton]; omega) hlo
      have e2 : (e : Int) - 9 = ((e - 9 : Nat) : Int) := by omega
      refine ⟨z0, z2, z3, ref02_Of_l2_s0 (z0 := hv 0 (((strInts s).take e).drop (e - 9))) (z1 := z) (by omega) (in64 (by omega) (by omega)) (by rw [e1]; exact g) (by omega) (by rw [e2]; exact k1), k2, ?_, by rw [List.length_append, List.length_singleton] at k4; omega⟩
      rw [k3, val_snoc, List.length_append, List.length_singleton, v3, Int.pow_succ, Int.mul_add, Int.mul_assoc, List.take_take, Nat.min_eq_left (by omega)]
      omega
def cut10 : List UInt8 := [48, 49, 50, 51, 52, 53, 54, 55, 56, 57]
theorem cut10_fig (b : UInt8) : cut10.contains b = true ↔ (48 ≤ (b.toNat : Int) ∧ (b.toNat : Int) ≤ 57) := by
  have h : ∀ n : Fin 256, (cut10.contains (UInt8.ofNat n.val) = true ↔ (48 ≤ ((UInt8.ofNat n.val).toNat : Int) ∧ ((UInt8.ofNat n.val).toNat : Int) ≤ 57)) := by decide +kernel
  have := h ⟨b.toNat, b.toNat_lt⟩
  simpa using this
theorem mem_dropWhile {α : Type} {p : α → Bool} {b : α} (hp : p b = false) : ∀ {l : List α}, b ∈ l → b ∈ l.dropWhile p
  | x :: r, h => by
    rw [List.dropWhile_cons]
    split
    · rename_i hx
      rcases List.mem_cons.1 h with rfl | h
      · rw [hp] at hx; cases hx
      · exact mem_dropWhile hp h
    · exact h
theorem dropWhile_none {α : Type} {p : α → Bool} : ∀ {l : List α}, (∀ b ∈ l, p b = true) → l.dropWhile p = []
  | [], _ => rfl
  | x :: r, h => by
    rw [List.dropWhile_cons, if_pos (h x (by simp))]
    exact dropWhile_none fun b hb => h b (by simp [hb])
theorem trim_figs {s : ByteArray} : Lib.trimS s.data.toList cut10 = [] ↔ figs (strInts s) := by
  constructor
  · intro h d hd
    simp only [strInts, List.mem_map] at hd
    obtain ⟨b, hb, rfl⟩ := hd
    refine (cut10_fig b).1 ?_
    by_cases hc : cut10.contains b = true
    · exact hc
    · have hc : cut10.contains b = false := by simpa using hc
      have h1 : b ∈ Lib.trimS s.data.toList cut10 := mem_dropWhile hc (List.mem_reverse.2 (mem_dropWhile hc (List.mem_reverse.2 hb)))
      rw [h] at h1
      cases h1
  · intro h
    have : s.data.toList.reverse.dropWhile (cut10.contains ·) = [] := by
      refine dropWhile_none fun b hb => ?_
      refine (cut10_fig b).2 (h _ ?_)
      exact List.mem_map.2 ⟨b, List.mem_reverse.1 hb, rfl⟩
    unfold Lib.trimS Lib.trimRightS
    rw [this]
    rfl
/-- How a text is read, by either. -/
theorem of_run (s : ByteArray) (hs : s.size ≤ 9223372036854775807) : (s.size ≤ 1048576 ∧ figs (strInts s) ∧ ∃ q q' : SL Int, nat_Of s q 0 ∧ ref02_Of s q' 0 ∧ isNum q.xs ∧ q.xs = q'.xs ∧ val q.xs = hv 0 (strInts s) ∧ q.xs.length ≤ 1048576) ∨
    ((s.size = 0 ∨ s.size > 1048576 ∨ ¬ figs (strInts s)) ∧ nat_Of s ⟨1, [], true⟩ 2 ∧ ref02_Of s ⟨1, [], true⟩ 2) := by
  by_cases h0 : s = (⟨#[]⟩ : ByteArray)
  · have := empty_str.1 h0
    exact .inr ⟨.inl this, nat_Of_r0 h0, ref02_Of_r0 (by omega)⟩
  have hz : s.size ≠ 0 := fun h => h0 (empty_str.2 h)
  by_cases h1 : (s.size : Int) > 1048576
  · exact .inr ⟨.inr (.inl (by omega)), nat_Of_r1 h0 h1, ref02_Of_r1 (by omega) h1⟩
  have hT : strings_Trim s (⟨#[48, 49, 50, 51, 52, 53, 54, 55, 56, 57]⟩ : ByteArray) ⟨(Lib.trimS s.data.toList cut10).toArray⟩ := R_trim (s := s) (c := (⟨#[48, 49, 50, 51, 52, 53, 54, 55, 56, 57]⟩ : ByteArray)) (by decide) hs
  rcases rof_check (s := s) (by omega) (strInts s) 0 rfl with ⟨hf, z, c1⟩ | ⟨hf, c1⟩
  · obtain ⟨z0, z1, z2, g1, g2, g3, g4⟩ := of_out s.size s [] true (Nat.le_refl _) (by simp; omega) hf limbs_nil
    obtain ⟨w0, w2, w3, k1, k2, k3, k4⟩ := rof_out (s := s) (by omega) hf s.size s.size [] true (Nat.le_refl _) (Nat.le_refl _) (by simp; omega) limbs_nil
    simp only [List.length_nil, Nat.zero_add] at g4 k4
    obtain ⟨q, q1, q2, q3, q4⟩ := trim_limbs (l := z0) (by unfold wide; omega) g2 z2
    obtain ⟨r, r1, r2, r3, r4⟩ := rtrim_limbs (l := w0) (by unfold wide; omega) k2 w2
    rw [List.take_of_length_le (by rw [strInts_len]; omega)] at k3
    simp only [List.length_nil, Int.pow_zero, Int.one_mul, val, Int.zero_add] at g3 k3
    refine .inl ⟨by omega, hf, q, r, ?_, ref02_Of_r3 (by omega) h1 c1 k1 r1, q2, val_inj q2 r2 (by rw [q3, r3, g3, k3]), by rw [q3, g3], by omega⟩
    exact nat_Of_r2 h0 h1 hT (by rw [trim_figs.2 hf]) g1 q1
  · refine .inr ⟨.inr (.inr hf), nat_Of_r3 h0 h1 hT (fun h => hf (trim_figs.1 ?_)), ref02_Of_r2 (by omega) h1 c1⟩
    have := congrArg (fun s : ByteArray => s.data.toList) h
    simpa using this
theorem strInts_app (a b : ByteArray) : strInts (a ++ b) = strInts a ++ strInts b := by
  simp only [strInts, ByteArray.data_append, Array.toList_append, List.map_append]
open Go.ChangeShapes Go.WideShapes Go.Deep
end
end Go.Proofs.YtkkekfehjbbhoaaGreatDoor.V

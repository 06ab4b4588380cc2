/- Contracts: products, quotients. -/
import Derived.Test.YtlijicnknhopkaaDoorM2
namespace Go.Proofs.YtlijicnknhopkaaDoor.V
open Go
set_option linter.unusedVariables false
set_option linter.unnecessarySimpa false
set_option linter.unusedSimpArgs false
set_option linter.unusedSectionVars false
theorem mul_lt_sq {x y : Int} (hx : 0 ≤ x ∧ x < 1000000000) (hy : 0 ≤ y ∧ y < 1000000000) : 0 ≤ x * y ∧ x * y ≤ 999999998000000001 := by
  have h1 := Int.mul_nonneg hx.1 hy.1
  have h2 := Int.mul_le_mul (show x ≤ 999999999 by omega) (show y ≤ 999999999 by omega) hy.1 (by decide)
  omega
/-! ### Products -/
theorem times_in {b : SL Int} {N i : Nat} {x : Int} {t18 : SL Int} {t19 t20 : Int} (hN : N < 4000000000000) (hb : limbs b.xs) (hi : i + b.xs.length ≤ N) (hx : 0 ≤ x ∧ x < 1000000000) (V0 : Int) : ∀ (m k : Nat) (out : List Int) (c : Int), b.xs.length - k = m → k ≤ b.xs.length → out.length = N → limbs out → tailZ out (i + b.xs.length) → (0 ≤ c ∧ c < 1000000000) → val out + 1000000000 ^ (i + k) * c = V0 + 1000000000 ^ i * (x * val (b.xs.take k)) →
    ∃ out' c' z, nat_times_l0 out b true N i x c t18 t19 t20 b (b.xs.length : Int) k (nat_times_l0_x0 out' b true N i x c' t18 t19 t20 b (b.xs.length : Int) z) ∧ out'.length = N ∧ limbs out' ∧ tailZ out' (i + b.xs.length) ∧ (0 ≤ c' ∧ c' < 1000000000) ∧ val out' + 1000000000 ^ (i + b.xs.length) * c' = V0 + 1000000000 ^ i * (x * val b.xs)
  | 0, k, out, c, hm, hk, hl, ho, ht, hc, hv => by
    have : k = b.xs.length := by omega
    subst this
    rw [List.take_length] at hv
    exact ⟨out, c, _, nat_times_l0_e1 (by omega), hl, ho, ht, hc, hv⟩
  | m + 1, k, out, c, hm, hk, hl, ho, ht, hc, hv => by
    have hlt : k < b.xs.length := by omega
    have gb : b.xs[k]? = some (b.xs[k]'hlt) := List.getElem?_eq_getElem _
    have go : out[i + k]? = some (out[i + k]'(by omega)) := List.getElem?_eq_getElem _
    have bb := limbs_get hb gb
    have bo := limbs_get ho go
    generalize b.xs[k]'hlt = y at gb bb
    generalize out[i + k]'(by omega) = o at go bo
    have hm2 := mul_lt_sq hx bb
    have e1 : ((k : Int)).toNat = k := by omega
    have e2 : ((i : Int) + (k : Int)).toNat = i + k := by omega
    have hq : 0 ≤ (x * y + o + c) / 1000000000 ∧ (x * y + o + c) / 1000000000 < 1000000000 := by omega
    have hr : 0 ≤ (x * y + o + c) % 1000000000 ∧ (x * y + o + c) % 1000000000 < 1000000000 := by omega
    have hs : (x * y + o + c) % 1000000000 + 1000000000 * ((x * y + o + c) / 1000000000) = x * y + o + c := Int.emod_add_mul_ediv _ _
    obtain ⟨out', c', z, g1, g2, g3, g4, g5, g6⟩ := times_in (t18 := t18) (t19 := t19) (t20 := t20) hN hb hi hx V0 m (k + 1) (out.set (i + k) ((x * y + o + c) % 1000000000)) ((x * y + o + c) / 1000000000) (by omega) (by omega) (by simpa using hl) (limbs_set ho hr.1 hr.2) (tailZ_set ht (by omega)) hq (by
      rw [val_set _ go, val_take_get gb, ← Nat.add_assoc, powB_succ]
      rw [powB_add] at hv ⊢
      generalize (x * y + o + c) % 1000000000 = r at hs ⊢
      generalize (x * y + o + c) / 1000000000 = q at hs ⊢
      grind)
    exact ⟨out', c', z, nat_times_l0_s0 (by omega) (by omega) (by rw [e1]; exact gb) (inU64 (by omega) (by omega)) (inU64 (by omega) (by omega)) (inU64 (by omega) (by omega)) (in64 (by omega) (by omega)) (by omega) (by rw [e2]; exact go) (by rw [e2]; omega) (inU64 (by omega) (by omega)) (inU64 (by omega) (by omega)) (inU64 (by omega) (by omega)) (by omega) (inU32 (by omega) (by omega)) (inU64 (by omega) (by omega)) (w64k (by omega)) (by rw [e2]; exact g1), g2, g3, g4, g5, g6⟩
theorem times_out {a b : SL Int} {N : Nat} (hNe : N = a.xs.length + b.xs.length) (hN : N < 4000000000000) (ha : limbs a.xs) (hb : limbs b.xs) : ∀ (m i : Nat) (out : List Int), a.xs.length - i = m → i ≤ a.xs.length → out.length = N → limbs out → tailZ out (i + b.xs.length) → val out = val (a.xs.take i) * val b.xs →
    ∃ out' z, nat_times_l1 out b true N a (a.xs.length : Int) i (nat_times_l1_x0 out' b true N a (a.xs.length : Int) z) ∧ out'.length = N ∧ limbs out' ∧ val out' = val a.xs * val b.xs
  | 0, i, out, hm, hi, hl, ho, ht, hv => by
    have : i = a.xs.length := by omega
    subst this
    rw [List.take_length] at hv
    exact ⟨out, _, nat_times_l1_e2 (by omega), hl, ho, hv⟩
  | m + 1, i, out, hm, hi, hl, ho, ht, hv => by
    have hlt : i < a.xs.length := by omega
    have ga : a.xs[i]? = some (a.xs[i]'hlt) := List.getElem?_eq_getElem _
    have ba := limbs_get ha ga
    generalize a.xs[i]'hlt = x at ga ba
    have e1 : ((i : Int)).toNat = i := by omega
    obtain ⟨out', c', z, g1, g2, g3, g4, g5, g6⟩ := times_in (b := b) (N := N) (i := i) (x := x) (t18 := a) (t19 := (a.xs.length : Int)) (t20 := i) hN hb (by omega) ba (val out) b.xs.length 0 out 0 (by omega) (by omega) hl ho ht ⟨by omega, by omega⟩ (by simp [val])
    have hvt := val_take_get ga
    by_cases hb0 : (b.xs.length : Int) > 0
    · have e2 : ((i : Int) + (b.xs.length : Int)).toNat = i + b.xs.length := by omega
      have go : out'[i + b.xs.length]? = some (out'[i + b.xs.length]'(by omega)) := List.getElem?_eq_getElem _
      have gz := g4 _ _ (Nat.le_refl _) go
      rw [gz] at go
      obtain ⟨out2, z2, k1, k2, k3, k4⟩ := times_out hNe hN ha hb m (i + 1) (out'.set (i + b.xs.length) c') (by omega) (by omega) (by simpa using g2) (limbs_set g3 g5.1 g5.2) (by
        refine fun j y hj hy => ?_
        rw [List.getElem?_set_ne (by omega)] at hy
        exact g4 j y (by omega) hy) (by
        rw [val_set _ go, hvt]
        rw [powB_add] at g6 ⊢
        rw [hv] at g6
        grind)
      exact ⟨out2, z2, nat_times_l1_s0 (by omega) (by omega) (by rw [e1]; exact ga) g1 hb0 (in64 (by omega) (by omega)) (inU32 (by omega) (by omega)) (by omega) (by rw [e2]; exact go) (by rw [e2]; omega) (w64k (by omega)) (by rw [e2]; exact k1), k2, k3, k4⟩
    · have hbn : b.xs = [] := by
        apply List.eq_nil_of_length_eq_zero; omega
      obtain ⟨out2, z2, k1, k2, k3, k4⟩ := times_out hNe hN ha hb m (i + 1) out' (by omega) (by omega) g2 g3 (tailZ_mono g4 (by omega)) (by
        rw [hbn] at g6 hv ⊢
        simp only [val, Int.mul_zero, Int.add_zero, List.length_nil, Nat.add_zero] at g6 hv ⊢
        have hc0 : val out' + 1000000000 ^ i * c' = 0 := by rw [g6, hv]
        have h1 := val_nonneg g3
        have h2 := Int.mul_nonneg (Int.le_of_lt (powB_pos i)) g5.1
        omega)
      exact ⟨out2, z2, nat_times_l1_s1 (by omega) (by omega) (by rw [e1]; exact ga) g1 hb0 (w64k (by omega)) k1, k2, k3, k4⟩
theorem times_run {a b : SL Int} (hfa : few a.xs) (hfb : few b.xs) (ha : limbs a.xs) (hb : limbs b.xs) : ∃ q : SL Int, nat_times a b q ∧ isNum q.xs ∧ val q.xs = val a.xs * val b.xs ∧ q.xs.length ≤ a.xs.length + b.xs.length := by
  unfold few at hfa hfb
  have e : (a.xs.length : Int) + (b.xs.length : Int) = ((a.xs.length + b.xs.length : Nat) : Int) := by omega
  generalize hn : a.xs.length + b.xs.length = n at e
  have ht : ((n : Int)).toNat = n := by omega
  obtain ⟨out, z, g1, g2, g3, g4⟩ := times_out (a := a) (b := b) hn.symm (by omega) ha hb a.xs.length 0 (List.replicate n 0) (by omega) (by omega) (by simp) (limbs_zeros n) (tailZ_zeros n _) (by rw [val_zeros]; simp [val])
  obtain ⟨q, k1, k2, k3, k4⟩ := trim_limbs (l := out) (by unfold wide; omega) g3 true
  refine ⟨q, nat_times_r0 (z0 := out) (z1 := z) ?_ ?_ ?_ ?_ ?_ ?_, k2, by rw [k3, g4], by omega⟩
  · rw [e]; exact in64 (by omega) (by omega)
  · omega
  · omega
  · rw [e, ht]; exact g1
  · rw [e, ht]; omega
  · rw [e, ht, ← g2, List.take_length]; exact k1
theorem mul_run {a b : SL Int} (hfa : few a.xs) (hfb : few b.xs) (ha : isNum a.xs) (hb : isNum b.xs) : ∃ q : SL Int, nat_Mul a b q 0 ∧ isNum q.xs ∧ val q.xs = val a.xs * val b.xs ∧ q.xs.length ≤ a.xs.length + b.xs.length := by
  obtain ⟨q, h1, h2⟩ := times_run hfa hfb ha.1 hb.1
  exact ⟨q, nat_Mul_r1 (both_true hfa ha hfb hb) rfl h1, h2⟩
/-! ### Divided by one limb -/
def headZ (l : List Int) (n : Nat) : Prop := ∀ j x, j < n → l[j]? = some x → x = 0
theorem small_loop {a : SL Int} {d : Int} {N : Nat} (hNe : N = a.xs.length) (hN : N < 4000000000000) (ha : limbs a.xs) (hd : 0 < d ∧ d < 1000000000) : ∀ (n : Nat) (out : List Int) (rest : Int), n ≤ N → out.length = N → limbs out → headZ out n → (0 ≤ rest ∧ rest < d) → val out * d + 1000000000 ^ n * rest = 1000000000 ^ n * val (a.xs.drop n) →
    ∃ out' rest' z, nat_small_l0 out a d true N rest ((n : Int) - 1) (nat_small_l0_x0 out' a d true N rest' z) ∧ out'.length = N ∧ limbs out' ∧ (0 ≤ rest' ∧ rest' < d) ∧ val out' * d + rest' = val a.xs
  | 0, out, rest, hn, hl, ho, hz, hr, hv => ⟨out, rest, _, nat_small_l0_e1 (by omega), hl, ho, hr, by simpa using hv⟩
  | n + 1, out, rest, hn, hl, ho, hz, hr, hv => by
    have e : (((n + 1 : Nat) : Int) - 1) = n := by omega
    have e1 : ((n : Int)).toNat = n := by omega
    have ga : a.xs[n]? = some (a.xs[n]'(by omega)) := List.getElem?_eq_getElem _
    have ba := limbs_get ha ga
    generalize a.xs[n]'(by omega) = x at ga ba
    have go : out[n]? = some (out[n]'(by omega)) := List.getElem?_eq_getElem _
    have gz := hz n _ (by omega) go
    rw [gz] at go
    have hq0 : 0 ≤ (rest * 1000000000 + x) / d := Int.ediv_nonneg (by omega) (by omega)
    have hq1 : (rest * 1000000000 + x) / d < 1000000000 := by
      apply Int.ediv_lt_of_lt_mul hd.1
      have : (rest + 1) * 1000000000 ≤ d * 1000000000 := by omega
      omega
    have hr0 := Int.emod_nonneg (rest * 1000000000 + x) (show d ≠ 0 by omega)
    have hr1 := Int.emod_lt_of_pos (rest * 1000000000 + x) hd.1
    have hs := Int.emod_add_mul_ediv (rest * 1000000000 + x) d
    have hdr := val_drop_get ga
    rw [e]
    obtain ⟨out', rest', z, g1, g2, g3, g4, g5⟩ := small_loop hNe hN ha hd n (out.set n ((rest * 1000000000 + x) / d)) ((rest * 1000000000 + x) % d) (by omega) (by simpa using hl) (limbs_set ho hq0 hq1) (by
      refine fun j y hj hy => ?_
      rw [List.getElem?_set_ne (by omega)] at hy
      exact hz j y (by omega) hy) ⟨hr0, hr1⟩ (by
      rw [val_set _ go, hdr]
      rw [powB_succ] at hv
      generalize (rest * 1000000000 + x) % d = r at hs ⊢
      generalize (rest * 1000000000 + x) / d = q at hs ⊢
      grind)
    exact ⟨out', rest', z, nat_small_l0_s0 (by omega) (inU64 (by omega) (by omega)) (by omega) (by rw [e1]; exact ga) (inU64 (by omega) (by omega)) (inU64 (by omega) (by omega)) (inU64 (by omega) (by omega)) (by omega) (by omega) (inU64 (by omega) (by omega)) (inU32 (by omega) (by omega)) (by rw [e1]; exact go) (by rw [e1]; omega) (in64 (by omega) (by omega)) (by rw [e1]; exact g1), g2, g3, g4, g5⟩
theorem val_one (z : Int) : val [z] = z := by simp [val]
theorem small_run {a : SL Int} {d : Int} (hfa : wide a.xs ∧ a.xs.length < 4000000000000) (ha : limbs a.xs) (hd : 0 < d ∧ d < 1000000000) : ∃ q r : SL Int, nat_small a d q r ∧ isNum q.xs ∧ isNum r.xs ∧ val a.xs = val q.xs * d + val r.xs ∧ val r.xs < d ∧ q.xs.length ≤ a.xs.length ∧ r.xs.length ≤ 1 := by
  obtain ⟨hw, hl⟩ := hfa
  obtain ⟨out, rest, z, g1, g2, g3, g4, g5⟩ := small_loop (a := a) (d := d) (N := a.xs.length) rfl hl ha hd a.xs.length (List.replicate a.xs.length 0) 0 (Nat.le_refl _) (by simp) (limbs_zeros _) (fun j x _ h => List.eq_of_mem_replicate (List.mem_of_getElem? h)) ⟨by omega, hd.1⟩ (by rw [val_zeros, List.drop_length]; simp [val])
  obtain ⟨q, k1, k2, k3, k4⟩ := trim_limbs (l := out) (by unfold wide; omega) g3 true
  have hr1 : limbs [rest] := by
    intro y hy; simp at hy; subst hy; omega
  obtain ⟨r, m1, m2, m3, m4⟩ := trim_limbs (l := [rest]) (by unfold wide; simp) hr1 true
  rw [val_one] at m3
  refine ⟨q, r, nat_small_r0 (z0 := out) (z1 := rest) (z2 := z) (by omega) (in64 (by omega) (by omega)) g1 (by omega) ?_ (inU32 (by omega) (by omega)) m1, k2, m2, by rw [k3, m3]; omega, by omega, by omega, by simpa using m4⟩
  rw [← g2, List.take_length]; exact k1
/-! ### Times one limb -/
theorem scaled_loop {a : SL Int} {d : Int} {N : Nat} (hNe : N = a.xs.length + 1) (hN : N < 4000000000000) (ha : limbs a.xs) (hd : 0 ≤ d ∧ d < 1000000000) : ∀ (m k : Nat) (out : List Int) (c : Int), a.xs.length - k = m → k ≤ a.xs.length → out.length = N → limbs out → tailZ out k → (0 ≤ c ∧ c < 1000000000) → val out + 1000000000 ^ k * c = val (a.xs.take k) * d →
    ∃ out' c' z, nat_scaled_l0 out a d true N c a (a.xs.length : Int) k (nat_scaled_l0_x0 out' a d true N c' a (a.xs.length : Int) z) ∧ out'.length = N ∧ limbs out' ∧ tailZ out' a.xs.length ∧ (0 ≤ c' ∧ c' < 1000000000) ∧ val out' + 1000000000 ^ a.xs.length * c' = val a.xs * d
  | 0, k, out, c, hm, hk, hl, ho, ht, hc, hv => by
    have : k = a.xs.length := by omega
    subst this
    rw [List.take_length] at hv
    exact ⟨out, c, _, nat_scaled_l0_e1 (by omega), hl, ho, ht, hc, hv⟩
  | m + 1, k, out, c, hm, hk, hl, ho, ht, hc, hv => by
    have hlt : k < a.xs.length := by omega
    have ga : a.xs[k]? = some (a.xs[k]'hlt) := List.getElem?_eq_getElem _
    have ba := limbs_get ha ga
    generalize a.xs[k]'hlt = y at ga ba
    have go : out[k]? = some (out[k]'(by omega)) := List.getElem?_eq_getElem _
    have gz := ht k _ (Nat.le_refl _) go
    rw [gz] at go
    have e1 : ((k : Int)).toNat = k := by omega
    have hm2 := mul_lt_sq ba hd
    have hq : 0 ≤ (y * d + c) / 1000000000 ∧ (y * d + c) / 1000000000 < 1000000000 := by omega
    have hr : 0 ≤ (y * d + c) % 1000000000 ∧ (y * d + c) % 1000000000 < 1000000000 := by omega
    have hs : (y * d + c) % 1000000000 + 1000000000 * ((y * d + c) / 1000000000) = y * d + c := Int.emod_add_mul_ediv _ _
    obtain ⟨out', c', z, g1, g2, g3, g4, g5, g6⟩ := scaled_loop hNe hN ha hd m (k + 1) (out.set k ((y * d + c) % 1000000000)) ((y * d + c) / 1000000000) (by omega) (by omega) (by simpa using hl) (limbs_set ho hr.1 hr.2) (by
      refine fun j x hj hx => ?_
      rw [List.getElem?_set_ne (by omega)] at hx
      exact ht j x (by omega) hx) hq (by
      rw [val_set _ go, val_take_get ga, powB_succ]
      generalize (y * d + c) % 1000000000 = r at hs ⊢
      generalize (y * d + c) / 1000000000 = q at hs ⊢
      grind)
    exact ⟨out', c', z, nat_scaled_l0_s0 (by omega) (by omega) (by rw [e1]; exact ga) (inU64 (by omega) (by omega)) (inU64 (by omega) (by omega)) (inU64 (by omega) (by omega)) (inU64 (by omega) (by omega)) (by omega) (inU32 (by omega) (by omega)) (inU64 (by omega) (by omega)) (by rw [e1]; exact go) (by rw [e1]; omega) (w64k (by omega)) (by rw [e1]; exact g1), g2, g3, g4, g5, g6⟩
theorem scaled_run {a : SL Int} {d : Int} (hfa : a.xs.length < 3000000000000) (ha : limbs a.xs) (hd : 0 ≤ d ∧ d < 1000000000) : ∃ l : List Int, nat_scaled a d ⟨1, l, true⟩ ∧ l.length = a.xs.length + 1 ∧ limbs l ∧ val l = val a.xs * d := by
  have e : (a.xs.length : Int) + 1 = ((a.xs.length + 1 : Nat) : Int) := by omega
  have ht : (((a.xs.length + 1 : Nat) : Int)).toNat = a.xs.length + 1 := by omega
  have ht2 : ((a.xs.length : Int)).toNat = a.xs.length := by omega
  obtain ⟨out, c, z, g1, g2, g3, g4, g5, g6⟩ := scaled_loop (a := a) (d := d) (N := a.xs.length + 1) rfl (by omega) ha hd a.xs.length 0 (List.replicate (a.xs.length + 1) 0) 0 (by omega) (by omega) (by simp) (limbs_zeros _) (tailZ_zeros _ _) ⟨by omega, by omega⟩ (by rw [val_zeros]; simp [val])
  have go : out[a.xs.length]? = some (out[a.xs.length]'(by omega)) := List.getElem?_eq_getElem _
  have gz := g4 _ _ (Nat.le_refl _) go
  rw [gz] at go
  refine ⟨out.set a.xs.length c, ?_, by simp [g2], limbs_set g3 g5.1 g5.2, by rw [val_set _ go, Int.sub_zero]; exact g6⟩
  have := nat_scaled_r0 (a := a) (d := d) (z0 := out) (z1 := c) (z2 := z) (y0 := 0) (by rw [e]; exact in64 (by omega) (by omega)) (by omega) (by omega) (by rw [e, ht]; exact g1) (inU32 (by omega) (by omega)) (by rw [ht2]; exact go) (by rw [e, ht, ht2]; omega) (by rw [e, ht, ht2]; simp [g2])
  rw [e, ht, ht2, List.take_of_length_le (by simp [g2])] at this
  exact this
end Go.Proofs.YtlijicnknhopkaaDoor.V

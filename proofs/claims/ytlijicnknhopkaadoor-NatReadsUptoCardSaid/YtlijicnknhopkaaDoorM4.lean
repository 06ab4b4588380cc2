/- Contracts: Knuth's way of dividing. -/
import Derived.Test.YtlijicnknhopkaaDoorM3
namespace Go.Proofs.YtlijicnknhopkaaDoor.V
open Go
set_option linter.unusedVariables false
set_option linter.unnecessarySimpa false
set_option linter.unusedSimpArgs false
set_option linter.unusedSectionVars false
/-! ### A window of limbs -/
theorem win_get {α : Type} (pre w post : List α) (i : Nat) (hi : i < w.length) : (pre ++ (w ++ post))[pre.length + i]? = w[i]? := by
  rw [List.getElem?_append_right (by omega), show pre.length + i - pre.length = i by omega, List.getElem?_append_left hi]
theorem win_set {α : Type} (pre w post : List α) (i : Nat) (x : α) (hi : i < w.length) : (pre ++ (w ++ post)).set (pre.length + i) x = pre ++ (w.set i x ++ post) := by
  rw [List.set_append_right _ _ (by omega), show pre.length + i - pre.length = i by omega, List.set_append_left _ _ hi]
theorem taken_cmp {v p : SL Int} {pre w post : List Int} {n N : Nat} {t : Bool} (hp : limbs p.xs) (hw : limbs w) (hpl : p.xs.length = n + 1) (hwl : w.length = n + 1) (hn : n < 4000000000000) : ∀ m : Nat, m ≤ n + 1 → p.xs.drop m = w.drop m →
    (val p.xs ≤ val w ∧ (nat_taken_l0 (pre ++ (w ++ post)) p t (n + 1) pre.length ((m : Int) - 1) (nat_taken_l0_x1 (pre ++ (w ++ post)) p t (n + 1) pre.length) ∨ ∃ z, nat_taken_l0 (pre ++ (w ++ post)) p t (n + 1) pre.length ((m : Int) - 1) (nat_taken_l0_x2 (pre ++ (w ++ post)) p t (n + 1) pre.length z))) ∨
    (val w < val p.xs ∧ nat_taken_l0 (pre ++ (w ++ post)) p t (n + 1) pre.length ((m : Int) - 1) (nat_taken_l0_x0 (pre ++ (w ++ post))))
  | 0, hm, hd => .inl ⟨by have : p.xs = w := by simpa using hd
                          rw [this]; omega, .inr ⟨_, nat_taken_l0_e3 (by omega)⟩⟩
  | m + 1, hm, hd => by
    have e : (((m + 1 : Nat) : Int) - 1) = m := by omega
    have e1 : ((m : Int)).toNat = m := by omega
    have gp : p.xs[m]? = some (p.xs[m]'(by omega)) := List.getElem?_eq_getElem _
    have gw : w[m]? = some (w[m]'(by omega)) := List.getElem?_eq_getElem _
    have gu : (pre ++ (w ++ post))[pre.length + ((m : Int)).toNat]? = some (w[m]'(by omega)) := by rw [e1, win_get _ _ _ _ (by omega), gw]
    have gp' : p.xs[((m : Int)).toNat]? = some (p.xs[m]'(by omega)) := by rw [e1]; exact gp
    have hdr : p.xs[m]'(by omega) = w[m]'(by omega) → p.xs.drop m = w.drop m := fun h => by
      rw [List.drop_eq_getElem_cons (l := p.xs) (i := m) (by omega), List.drop_eq_getElem_cons (l := w) (i := m) (by omega), hd, h]
    generalize p.xs[m]'(by omega) = x at gp gp' hdr
    generalize w[m]'(by omega) = y at gw gu hdr
    rw [e]
    rcases Int.lt_trichotomy x y with h | h | h
    · have := val_top hp hw (by omega) gp gw hd h
      exact .inl ⟨by omega, .inl (nat_taken_l0_e1 (by omega) (by omega) gp' (by omega) gu (by omega) (by omega))⟩
    · have st := fun {r_} (k : nat_taken_l0 (pre ++ (w ++ post)) p t (n + 1) pre.length ((m : Int) - 1) r_) => nat_taken_l0_s2 (i := (m : Int)) (by omega) (by omega) gp' (by omega) gu h (in64 (by omega) (by omega)) k
      rcases taken_cmp (v := v) (N := N) hp hw hpl hwl hn m (by omega) (hdr h) with ⟨h1, h2 | ⟨z, h2⟩⟩ | ⟨h1, h2⟩
      · exact .inl ⟨h1, .inl (st h2)⟩
      · exact .inl ⟨h1, .inr ⟨z, st h2⟩⟩
      · exact .inr ⟨h1, st h2⟩
    · have := val_top hw hp (by omega) gw gp hd.symm h
      exact .inr ⟨this, nat_taken_l0_e0 (by omega) (by omega) gp' (by omega) gu (by omega) h⟩
theorem taken_sub {p : SL Int} {pre post : List Int} {n : Nat} {t : Bool} (hp : limbs p.xs) (hpl : p.xs.length = n + 1) (hn : n < 4000000000000) (W : Int) : ∀ (m i : Nat) (w : List Int) (c : Int), n + 1 - i = m → i ≤ n + 1 → w.length = n + 1 → limbs w → (c = 0 ∨ c = 1) → val w = W - val (p.xs.take i) + 1000000000 ^ i * c →
    ∃ w' c' z, nat_taken_l1 (pre ++ (w ++ post)) p t (n + 1) pre.length c ((n + 1 : Nat) : Int) i (nat_taken_l1_x0 (pre ++ (w' ++ post)) p t (n + 1) pre.length c' ((n + 1 : Nat) : Int) z) ∧ w'.length = n + 1 ∧ limbs w' ∧ (c' = 0 ∨ c' = 1) ∧ val w' = W - val p.xs + 1000000000 ^ (n + 1) * c'
  | 0, i, w, c, hm, hi, hl, hw, hc, hv => by
    have : i = n + 1 := by omega
    subst this
    rw [List.take_of_length_le (by omega)] at hv
    exact ⟨w, c, _, nat_taken_l1_e2 (by omega), hl, hw, hc, hv⟩
  | m + 1, i, w, c, hm, hi, hl, hw, hc, hv => by
    have e1 : ((i : Int)).toNat = i := by omega
    have gp : p.xs[i]? = some (p.xs[i]'(by omega)) := List.getElem?_eq_getElem _
    have gw : w[i]? = some (w[i]'(by omega)) := List.getElem?_eq_getElem _
    have bp := limbs_get hp gp
    have bw := limbs_get hw gw
    generalize p.xs[i]'(by omega) = x at gp bp
    generalize w[i]'(by omega) = y at gw bw
    have gu : (pre ++ (w ++ post))[pre.length + ((i : Int)).toNat]? = some y := by rw [e1, win_get _ _ _ _ (by omega), gw]
    have gp' : p.xs[((i : Int)).toNat]? = some x := by rw [e1]; exact gp
    have hvt := val_take_get gp
    by_cases h : y < x + c
    · obtain ⟨w', c', z, g1, g2, g3, g4, g5⟩ := taken_sub hp hpl hn W m (i + 1) (w.set i (y + 1000000000 - (x + c))) 1 (by omega) (by omega) (by simpa using hl) (limbs_set hw (by omega) (by omega)) (.inr rfl) (by
        rw [val_set _ gw, hvt, powB_succ]
        grind)
      have g9 : ((pre ++ (w ++ post)).set (pre.length + ((i : Int)).toNat) (y + 1000000000))[pre.length + ((i : Int)).toNat]? = some (y + 1000000000) := by
        rw [List.getElem?_set_self]
        rw [e1]; simp; omega
      refine ⟨w', c', z, nat_taken_l1_s0 (by omega) (by omega) gp' (inU32 (by omega) (by omega)) (by omega) gu h (inU32 (by omega) (by omega)) g9 (inU32 (by omega) (by omega)) (w64k (by omega)) ?_, g2, g3, g4, g5⟩
      rw [List.set_set, e1, win_set _ _ _ _ _ (by omega)]
      exact g1
    · obtain ⟨w', c', z, g1, g2, g3, g4, g5⟩ := taken_sub hp hpl hn W m (i + 1) (w.set i (y - (x + c))) 0 (by omega) (by omega) (by simpa using hl) (limbs_set hw (by omega) (by omega)) (.inl rfl) (by
        rw [val_set _ gw, hvt, powB_succ]
        grind)
      refine ⟨w', c', z, nat_taken_l1_s1 (by omega) (by omega) gp' (inU32 (by omega) (by omega)) (by omega) gu h (inU32 (by omega) (by omega)) (w64k (by omega)) ?_, g2, g3, g4, g5⟩
      rw [e1, win_set _ _ _ _ _ (by omega)]
      exact g1
theorem taken_run {v : SL Int} {q : Int} {pre w post : List Int} {t : Bool} (hv : limbs v.xs) (hw : limbs w) (hwl : w.length = v.xs.length + 1) (hq : 0 ≤ q ∧ q < 1000000000) (hN : (pre ++ (w ++ post)).length < 3000000000000) :
    (val v.xs * q ≤ val w ∧ ∃ w', nat_taken (pre ++ (w ++ post)) t (pre ++ (w ++ post)).length v (pre.length : Int) q true (pre ++ (w' ++ post)) ∧ w'.length = w.length ∧ limbs w' ∧ val w' = val w - val v.xs * q) ∨
    (val w < val v.xs * q ∧ nat_taken (pre ++ (w ++ post)) t (pre ++ (w ++ post)).length v (pre.length : Int) q false (pre ++ (w ++ post))) := by
  have hN' := hN
  simp only [List.length_append] at hN'
  obtain ⟨l, s1, s2, s3, s4⟩ := scaled_run (a := v) (d := q) (by omega) hv hq
  have e1 : (((pre.length : Int) + (v.xs.length : Int)) + 1).toNat - ((pre.length : Int)).toNat = v.xs.length + 1 := by omega
  have e2 : 0 + ((pre.length : Int)).toNat = pre.length := by omega
  have e3 : (((v.xs.length + 1 : Nat)) : Int) - 1 = (v.xs.length : Int) := by omega
  have w1 : w64 ((pre.length : Int) + (v.xs.length : Int)) := in64 (by omega) (by omega)
  have w2 : w64 (((pre.length : Int) + (v.xs.length : Int)) + 1) := in64 (by omega) (by omega)
  have hle : (((pre.length : Int) + (v.xs.length : Int)) + 1).toNat ≤ (pre ++ (w ++ post)).length := by simp only [List.length_append]; omega
  obtain ⟨t', ht'⟩ : ∃ t', t' = (t && decide ((((pre.length : Int) + (v.xs.length : Int)) + 1).toNat = (pre ++ (w ++ post)).length)) := ⟨_, rfl⟩
  rcases taken_cmp (v := v) (N := 0) (p := ⟨1, l, true⟩) (pre := pre) (post := post) (t := t') s3 hw s2 hwl (by omega) (v.xs.length + 1) (Nat.le_refl _) (by rw [List.drop_of_length_le (by dsimp only; omega), List.drop_of_length_le (by omega)]) with ⟨h1, h2⟩ | ⟨h1, h2⟩
  · dsimp only at h1
    rw [s4] at h1
    refine .inl ⟨h1, ?_⟩
    obtain ⟨w', c', z, g1, g2, g3, g4, g5⟩ := taken_sub (p := ⟨1, l, true⟩) (pre := pre) (post := post) (t := t') s3 s2 (by omega) (val w) (v.xs.length + 1) 0 w 0 (by omega) (by omega) hwl hw (.inl rfl) (by simp [val])
    dsimp only at g5
    rw [s4] at g5
    have hc : c' = 0 := by
      rcases g4 with h | h
      · exact h
      · subst h
        exfalso
        have k1 := val_lt g3
        rw [g2] at k1
        omega
    subst hc
    refine ⟨w', ?_, by omega, g3, by omega⟩
    rw [e3] at h2
    rcases h2 with h2 | ⟨z0, h2⟩
    · refine nat_taken_r1 (r0 := ⟨1, l, true⟩) (z0 := pre ++ (w' ++ post)) (z1 := 0) (z2 := z) s1 w1 w2 (by omega) (by omega) (by omega) hle ?_ ?_
      · rw [e1, e2, ← ht']; exact h2
      · rw [e1, e2, ← ht']; exact g1
    · refine nat_taken_r2 (r0 := ⟨1, l, true⟩) (z0 := z0) (z1 := pre ++ (w' ++ post)) (z2 := 0) (z3 := z) s1 w1 w2 (by omega) (by omega) (by omega) hle ?_ ?_
      · rw [e1, e2, ← ht']; exact h2
      · rw [e1, e2, ← ht']; exact g1
  · dsimp only at h1
    rw [s4] at h1
    rw [e3] at h2
    refine .inr ⟨h1, nat_taken_r0 (r0 := ⟨1, l, true⟩) s1 w1 w2 (by omega) (by omega) (by omega) hle ?_⟩
    rw [e1, e2, ← ht']; exact h2
/-! ### A limb guessed -/
theorem and_mask {x : Int} (h0 : 0 ≤ x) (h1 : x < 18446744073709551616) : bitAnd .u64 x 4294967295 = x % 4294967296 := by
  obtain ⟨n, rfl⟩ := Int.eq_ofNat_of_zero_le h0
  have hn : n < 2 ^ 64 := by omega
  have e : (BitVec.ofInt 64 (n : Int) &&& BitVec.ofInt 64 4294967295).toNat = n % 4294967296 := by
    rw [BitVec.toNat_and]
    rw [show BitVec.ofInt 64 (n : Int) = BitVec.ofNat 64 n by simp, show BitVec.ofInt 64 4294967295 = BitVec.ofNat 64 4294967295 by rfl]
    rw [BitVec.toNat_ofNat, BitVec.toNat_ofNat, Nat.mod_eq_of_lt hn]
    exact Nat.and_two_pow_sub_one_eq_mod n 32
  show IntKind.u64.wrap (((BitVec.ofInt 64 (n : Int) &&& BitVec.ofInt 64 4294967295).toNat : Nat) : Int) = _
  rw [e]
  rw [show IntKind.u64.wrap ((n % 4294967296 : Nat) : Int) = ((n % 4294967296 : Nat) : Int) from inU64 (by omega) (by omega)]
  omega
theorem mul64_run {x y : Int} (hx : 0 ≤ x ∧ x < 4294967296) (hy : 0 ≤ y ∧ y < 4294967296) : bits_Mul64 x y 0 (x * y) := by
  have h0 := Int.mul_nonneg hx.1 hy.1
  have h1 : x * y ≤ 18446744065119617025 := by
    have := Int.mul_le_mul (show x ≤ 4294967295 by omega) (show y ≤ 4294967295 by omega) hy.1 (by decide)
    omega
  have ax : bitAnd .u64 x 4294967295 = x := by rw [and_mask (by omega) (by omega)]; omega
  have ay : bitAnd .u64 y 4294967295 = y := by rw [and_mask (by omega) (by omega)]; omega
  have px : x / 2 ^ 32 = 0 := by omega
  have py : y / 2 ^ 32 = 0 := by omega
  have hd : 0 ≤ x * y / 2 ^ 32 ∧ x * y / 2 ^ 32 < 4294967296 := by omega
  have am : bitAnd .u64 (x * y / 2 ^ 32) 4294967295 = x * y / 2 ^ 32 := by rw [and_mask (by omega) (by omega)]; omega
  have q0 : x * y / 2 ^ 32 / 2 ^ 32 = 0 := by omega
  have := @bits_Mul64_r0 x y
  rw [ax, ay, px, py] at this
  simp only [Int.zero_mul, Int.mul_zero, Int.zero_add, Int.add_zero] at this
  rw [am, q0] at this
  simp only [Int.add_zero] at this
  exact this (inU64 h0 (by omega)) (inU64 (by omega) (by omega)) (inU64 (by omega) (by omega)) (inU64 (by omega) (by omega)) (inU64 (by omega) (by omega)) (inU64 (by omega) (by omega)) (inU64 (by omega) (by omega)) (inU64 (by omega) (by omega)) (inU64 h0 (by omega))
theorem add64_run {x y : Int} (h0 : 0 ≤ x) (h1 : 0 ≤ y) (h : x + y < 18446744073709551616) : bits_Add64 x y 0 (x + y) 0 := R_add h0 h1 h
theorem div64_run {x y : Int} (h0 : 0 ≤ x) (h1 : x < 18446744073709551616) (hy : 0 < y) : bits_Div64 0 x y (x / y) (x % y) := by
  have h2 := Int.ediv_le_self y h0
  exact bits_Div64_r0 (by omega) (by omega) rfl h0 (by omega) (inU64 (Int.ediv_nonneg h0 (by omega)) (by omega))
/-- The true limb is not above the guess. -/
theorem guess_ge {w v : List Int} {n : Nat} {q : Int} (hw : limbs w) (hv : limbs v) (hn : v.length = n + 1) (hwl : w.length = n + 2) {a b c : Int} (ha : w[n + 1]? = some a) (hb : w[n]? = some b) (hc : v[n]? = some c) (hc0 : 0 < c) (hq0 : 0 ≤ q) (hq : val v * q ≤ val w) : q ≤ (a * 1000000000 + b) / c := by
  have e1 := val_take_drop w n (by omega)
  rw [val_drop_get hb, val_drop_get ha, List.drop_of_length_le (by omega)] at e1
  simp only [val, Int.mul_zero, Int.add_zero] at e1
  have e2 := val_take_drop v n (by omega)
  rw [val_drop_get hc, List.drop_of_length_le (by omega)] at e2
  simp only [val, Int.mul_zero, Int.add_zero] at e2
  have l1 := val_lt (limbs_take hw n)
  rw [List.length_take, Nat.min_eq_left (by omega)] at l1
  have l2 := val_nonneg (limbs_take hv n)
  have hB := powB_pos n
  have k1 : 1000000000 ^ n * c * q ≤ val v * q := Int.mul_le_mul_of_nonneg_right (by omega) hq0
  have k2 : (1000000000 : Int) ^ n * (q * c) < 1000000000 ^ n * (a * 1000000000 + b + 1) := by
    have e3 : (1000000000 : Int) ^ n * (q * c) = 1000000000 ^ n * c * q := by rw [Int.mul_comm q c, Int.mul_assoc]
    have e4 : (1000000000 : Int) ^ n * (a * 1000000000 + b + 1) = 1000000000 ^ n * (b + 1000000000 * a) + 1000000000 ^ n := by
      rw [show a * 1000000000 + b + 1 = (b + 1000000000 * a) + 1 by omega, Int.mul_add, Int.mul_one]
    omega
  have k3 := Int.lt_of_mul_lt_mul_left k2 (by omega)
  exact Int.le_ediv_of_mul_le hc0 (by omega)
theorem guess_loop {v : SL Int} {pre w post : List Int} {t : Bool} (hv : limbs v.xs) (hw : limbs w) (hwl : w.length = v.xs.length + 1) (hN : (pre ++ (w ++ post)).length < 3000000000000) (q : Int) (hq : 0 ≤ q ∧ q < 1000000000) (h1 : val v.xs * q ≤ val w) (h2 : val w < val v.xs * (q + 1)) (hV : 0 < val v.xs) : ∀ m : Nat, q + m < 1000000000 →
    ∃ w', nat_guess_l0 (pre ++ (w ++ post)) t (pre ++ (w ++ post)).length v (pre.length : Int) (q + m) (nat_guess_l0_x0 (pre ++ (w' ++ post)) t (pre ++ (w ++ post)).length v (pre.length : Int) q) ∧ w'.length = w.length ∧ limbs w' ∧ val w' = val w - val v.xs * q
  | 0, hm => by
    rcases taken_run (t := t) hv hw hwl hq hN with ⟨_, w', k1, k2, k3, k4⟩ | ⟨k1, _⟩
    · refine ⟨w', ?_, k2, k3, k4⟩
      rw [show q + ((0 : Nat) : Int) = q by omega]
      exact nat_guess_l0_e0 (inU32 hq.1 (by omega)) k1
    · omega
  | m + 1, hm => by
    rcases taken_run (t := t) (q := q + ((m + 1 : Nat) : Int)) hv hw hwl (by omega) hN with ⟨k1, _⟩ | ⟨_, k2⟩
    · exfalso
      have := Int.mul_le_mul_of_nonneg_left (show q + 1 ≤ q + ((m + 1 : Nat) : Int) by omega) (Int.le_of_lt hV)
      omega
    · obtain ⟨w', g1, g2⟩ := guess_loop (t := t) hv hw hwl hN q hq h1 h2 hV m (by omega)
      refine ⟨w', nat_guess_l0_s1 (inU32 (by omega) (by omega)) k2 (inU64 (by omega) (by omega)) ?_, g2⟩
      rw [show q + ((m + 1 : Nat) : Int) - 1 = q + m by omega]
      exact g1
theorem guess_run {v : SL Int} {pre w post : List Int} {t : Bool} (hv : isNum v.xs) (hv0 : v.xs ≠ []) (hw : limbs w) (hwl : w.length = v.xs.length + 1) (hN : (pre ++ (w ++ post)).length < 3000000000000) (hlt : val w < 1000000000 * val v.xs) :
    ∃ q w', nat_guess (pre ++ (w ++ post)) t (pre ++ (w ++ post)).length v (pre.length : Int) q (pre ++ (w' ++ post)) ∧ (0 ≤ q ∧ q < 1000000000) ∧ w'.length = w.length ∧ limbs w' ∧ val w = val v.xs * q + val w' ∧ val w' < val v.xs := by
  have hV := val_pos hv hv0
  obtain ⟨n, hn⟩ : ∃ n, v.xs.length = n + 1 := ⟨v.xs.length - 1, by have := List.length_pos_iff.2 hv0; omega⟩
  have hN' := hN
  simp only [List.length_append] at hN'
  have hW0 := val_nonneg hw
  obtain ⟨q, hqe⟩ : ∃ q, q = val w / val v.xs := ⟨_, rfl⟩
  have hs := Int.emod_add_mul_ediv (val w) (val v.xs)
  have hr0 := Int.emod_nonneg (val w) (show val v.xs ≠ 0 by omega)
  have hr1 := Int.emod_lt_of_pos (val w) hV
  rw [← hqe] at hs
  have hq0 : 0 ≤ q := by rw [hqe]; exact Int.ediv_nonneg hW0 (by omega)
  have hq1 : q < 1000000000 := by rw [hqe]; exact Int.ediv_lt_of_lt_mul hV hlt
  have h1 : val v.xs * q ≤ val w := by omega
  have h2 : val w < val v.xs * (q + 1) := by rw [Int.mul_add, Int.mul_one]; omega
  have ga : w[n + 1]? = some (w[n + 1]'(by omega)) := List.getElem?_eq_getElem _
  have gb : w[n]? = some (w[n]'(by omega)) := List.getElem?_eq_getElem _
  have gc : v.xs[n]? = some (v.xs[n]'(by omega)) := List.getElem?_eq_getElem _
  have ba := limbs_get hw ga
  have bb := limbs_get hw gb
  have bc := limbs_get hv.1 gc
  have hc0 : v.xs[n]'(by omega) ≠ 0 := by
    intro e
    apply hv.2
    rw [List.getLast?_eq_getElem?, show v.xs.length - 1 = n by omega, gc, e]
  generalize w[n + 1]'(by omega) = a at ga ba
  generalize w[n]'(by omega) = b at gb bb
  generalize v.xs[n]'(by omega) = c at gc bc hc0
  have hge := guess_ge hw hv.1 hn (by omega) ga gb gc (by omega) hq0 h1
  have e1 : ((pre.length : Int) + (v.xs.length : Int)).toNat = pre.length + (n + 1) := by omega
  have e2 : (((pre.length : Int) + (v.xs.length : Int)) - 1).toNat = pre.length + n := by omega
  have e3 : ((v.xs.length : Int) - 1).toNat = n := by omega
  have gA : (pre ++ (w ++ post))[((pre.length : Int) + (v.xs.length : Int)).toNat]? = some a := by rw [e1, win_get _ _ _ _ (by omega)]; exact ga
  have gB : (pre ++ (w ++ post))[(((pre.length : Int) + (v.xs.length : Int)) - 1).toNat]? = some b := by rw [e2, win_get _ _ _ _ (by omega)]; exact gb
  have gC : v.xs[((v.xs.length : Int) - 1).toNat]? = some c := by rw [e3]; exact gc
  have hm := mul64_run (x := a) (y := 1000000000) (by omega) (by omega)
  have hadd := add64_run (x := a * 1000000000) (y := b) (by omega) (by omega) (by omega)
  have hdiv := div64_run (x := a * 1000000000 + b) (y := c) (by omega) (by omega) (by omega)
  have hlen : (pre ++ (w ++ post)).length = pre.length + (w.length + post.length) := by simp
  have hfin : ∀ g : Int, q ≤ g → g < 1000000000 → ∃ w', nat_guess_l0 (pre ++ (w ++ post)) t (pre ++ (w ++ post)).length v (pre.length : Int) g (nat_guess_l0_x0 (pre ++ (w' ++ post)) t (pre ++ (w ++ post)).length v (pre.length : Int) q) ∧ w'.length = w.length ∧ limbs w' ∧ val w' = val w - val v.xs * q := by
    intro g hg hg1
    have := guess_loop (t := t) hv.1 hw hwl hN q ⟨hq0, hq1⟩ h1 h2 hV (g - q).toNat (by omega)
    rwa [show q + (((g - q).toNat : Nat) : Int) = g by omega] at this
  by_cases hbig : (a * 1000000000 + b) / c ≥ 1000000000
  · obtain ⟨w', g1, g2, g3, g4⟩ := hfin 999999999 (by omega) (by omega)
    refine ⟨q, w', nat_guess_r0 (y0 := a) (y1 := b) (y2 := c) (in64 (by omega) (by omega)) (by omega) gA (by omega) (inU64 (by omega) (by omega)) hm (in64 (by omega) (by omega)) (by omega) gB (by omega) (inU64 (by omega) (by omega)) hadd (inU64 (by omega) (by omega)) (in64 (by omega) (by omega)) (by omega) gC (inU64 (by omega) (by omega)) hdiv hbig g1 (inU32 hq0 (by omega)), ⟨hq0, hq1⟩, g2, g3, by omega, by omega⟩
  · obtain ⟨w', g1, g2, g3, g4⟩ := hfin ((a * 1000000000 + b) / c) hge (by omega)
    refine ⟨q, w', nat_guess_r1 (y0 := a) (y1 := b) (y2 := c) (in64 (by omega) (by omega)) (by omega) gA (by omega) (inU64 (by omega) (by omega)) hm (in64 (by omega) (by omega)) (by omega) gB (by omega) (inU64 (by omega) (by omega)) hadd (inU64 (by omega) (by omega)) (in64 (by omega) (by omega)) (by omega) gC (inU64 (by omega) (by omega)) hdiv hbig g1 (inU32 hq0 (by omega)), ⟨hq0, hq1⟩, g2, g3, by omega, by omega⟩
end Go.Proofs.YtlijicnknhopkaaDoor.V

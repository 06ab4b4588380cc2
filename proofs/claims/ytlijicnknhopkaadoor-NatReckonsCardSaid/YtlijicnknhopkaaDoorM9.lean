/- The document's division and power; the law NatReckons: the program's numbers and the document's, side by side. -/
import Derived.Test.YtlijicnknhopkaaDoorM8
import Derived.Test.YtlijicnknhopkaaDoorM7
namespace Go.Proofs.YtlijicnknhopkaaDoor.V
open Go
set_option linter.unusedVariables false
set_option linter.unnecessarySimpa false
set_option linter.unusedSimpArgs false
set_option linter.unusedSectionVars false
theorem cmpI_le {a b : Int} : cmpI a b ≤ 0 ↔ a ≤ b := by
  unfold cmpI
  split
  · constructor <;> intro _ <;> omega
  · split
    · constructor <;> intro _ <;> omega
    · constructor <;> intro _ <;> omega
theorem limbs_one {z : Int} (h0 : 0 ≤ z) (h1 : z < 1000000000) : limbs [z] := by
  intro x hx
  simp at hx
  subst hx
  exact ⟨h0, h1⟩
/-- One figure, cut, and the divisor times that figure. -/
theorem rfigure {b : SL Int} {z : Int} (hb : b.xs.length < 100000000000) (nb : isNum b.xs) (h0 : 0 ≤ z) (h1 : z < 1000000000) : ∃ r0 r1 : SL Int, ref02_Trim ⟨1, [z], true⟩ r0 ∧ ref02_mul b r0 r1 ∧ isNum r1.xs ∧ val r1.xs = val b.xs * z ∧ r1.xs.length ≤ b.xs.length + 2 := by
  obtain ⟨r0, t1, t2, t3, t4⟩ := rtrim_limbs (l := [z]) (by unfold wide; simp) (limbs_one h0 h1) true
  simp only [List.length_singleton] at t4
  obtain ⟨r1, m1, m2, m3, m4⟩ := rmul_run (a := b) (b := r0) (by unfold few; omega) (by unfold few; omega) nb.1 t2.1
  exact ⟨r0, r1, t1, m1, m2, by rw [m3, t3, val_one], by omega⟩
theorem rsearch {a b rest : SL Int} {q : List Int} {qt : Bool} {qn : Nat} {i : Int} (hb : b.xs.length < 100000000000) (nb : isNum b.xs) (fr : few rest.xs) (nr : isNum rest.xs) : ∀ (f : Nat) (low high : Int), high - low < (f : Int) → 0 ≤ low → low ≤ high → high < 1000000000 → val b.xs * low ≤ val rest.xs → val rest.xs < val b.xs * (high + 1) →
    ∃ z : Int, ref02_div_l0 q a b qt qn rest i low high (ref02_div_l0_x0 q a b qt qn rest i z z) ∧ 0 ≤ z ∧ z < 1000000000 ∧ val b.xs * z ≤ val rest.xs ∧ val rest.xs < val b.xs * (z + 1)
  | 0, low, high, hf, h0, h1, h2, h3, h4 => by omega
  | f + 1, low, high, hf, h0, h1, h2, h3, h4 => by
    by_cases hlt : low < high
    rotate_left
    · have : low = high := by omega
      subst this
      exact ⟨low, ref02_div_l0_e2 hlt, h0, h2, h3, h4⟩
    have hm0 : low < low + (high - low + 1) / 2 := by omega
    have hm1 : low + (high - low + 1) / 2 ≤ high := by omega
    obtain ⟨r0, r1, t1, t2, t3, t4, t5⟩ := rfigure (z := low + (high - low + 1) / 2) hb nb (by omega) (by omega)
    have hc := rcompare_run (a := r1) (b := rest) (by unfold few; omega) fr t3 nr
    have u1 : wk .u32 (high - low) := few_u32 (by omega) (by omega)
    have u2 : wk .u32 (high - low + 1) := few_u32 (by omega) (by omega)
    have u3 : wk .u32 ((high - low + 1) / 2) := few_u32 (by omega) (by omega)
    have u4 : wk .u32 (low + (high - low + 1) / 2) := few_u32 (by omega) (by omega)
    by_cases hle : cmpI (val r1.xs) (val rest.xs) ≤ 0
    · have hle' := cmpI_le.1 hle
      rw [t4] at hle'
      obtain ⟨z, g1, g2⟩ := rsearch (a := a) (q := q) (qt := qt) (qn := qn) (i := i) hb nb fr nr f (low + (high - low + 1) / 2) high (by omega) (by omega) (by omega) h2 hle' h4
      exact ⟨z, ref02_div_l0_s0 hlt u1 u2 (by omega) u3 u4 t1 t2 hc hle g1, g2⟩
    · have hle' : ¬ val r1.xs ≤ val rest.xs := fun h => hle (cmpI_le.2 h)
      rw [t4] at hle'
      obtain ⟨z, g1, g2⟩ := rsearch (a := a) (q := q) (qt := qt) (qn := qn) (i := i) hb nb fr nr f low (low + (high - low + 1) / 2 - 1) (by omega) h0 (by omega) (by omega) h3 (by rw [Int.sub_add_cancel]; omega)
      exact ⟨z, ref02_div_l0_s1 hlt u1 u2 (by omega) u3 u4 t1 t2 hc hle (few_u32 (by omega) (by omega)) g1, g2⟩
theorem rdiv_step {a b : SL Int} {rest : List Int} {y i : Int} {q : List Int} {qt : Bool} {qn : Nat} (hb : b.xs.length < 100000000000) (nb : isNum b.xs) (hy : 0 ≤ y ∧ y < 1000000000) (nr : isNum rest) (lr : val rest < val b.xs) :
    ∃ (r0 : SL Int) (z : Int) (r1 r2 r3 : SL Int), ref02_Trim ⟨1, [y] ++ rest, false⟩ r0 ∧ ref02_div_l0 q a b qt qn r0 i 0 999999999 (ref02_div_l0_x0 q a b qt qn r0 i z z) ∧ ref02_Trim ⟨1, [z], true⟩ r1 ∧ ref02_mul b r1 r2 ∧ ref02_sub r0 r2 r3 ∧ isNum r3.xs ∧ val r3.xs < val b.xs ∧ (0 ≤ z ∧ z < 1000000000) ∧ y + 1000000000 * val rest = val b.xs * z + val r3.xs := by
  have hrl : rest.length ≤ b.xs.length := by
    rcases Nat.lt_or_ge b.xs.length rest.length with h | h
    · have := val_len_lt nb nr h
      omega
    · exact h
  have hl1 : limbs ([y] ++ rest) := limbs_append.2 ⟨limbs_one hy.1 hy.2, nr.1⟩
  obtain ⟨r0, t1, t2, t3, t4⟩ := rtrim_limbs (l := [y] ++ rest) (by unfold wide; simp; omega) hl1 false
  have hv : val ([y] ++ rest) = y + 1000000000 * val rest := by
    rw [val_append, val_one]; simp
  rw [hv] at t3
  simp only [List.length_append, List.length_singleton] at t4
  have n0 := val_nonneg nr.1
  have nb0 := val_nonneg nb.1
  obtain ⟨z, g1, g2, g3, g4, g5⟩ := rsearch (a := a) (q := q) (qt := qt) (qn := qn) (i := i) (rest := r0) hb nb (by unfold few; omega) t2 1000000000 0 999999999 (by omega) (by omega) (by omega) (by omega) (by rw [Int.mul_zero, t3]; omega) (by rw [t3]; omega)
  obtain ⟨r1, r2, m1, m2, m3, m4, m5⟩ := rfigure (z := z) hb nb g2 g3
  obtain ⟨r3, s1, s2, s3, s4⟩ := rsub_run (a := r0) (b := r2) (by unfold few; omega) t2 m3 (by rw [m4]; exact g4)
  rw [Int.mul_add, Int.mul_one] at g5
  refine ⟨r0, z, r1, r2, r3, t1, g1, m1, m2, s1, s2, ?_, ⟨g2, g3⟩, ?_⟩
  · rw [s3, m4]; omega
  · rw [s3, m4, t3]; omega
theorem rdiv_b {a b : SL Int} {n : Nat} (hn : n = a.xs.length) (hnl : n < 100000000000) (ha : limbs a.xs) (hb : b.xs.length < 100000000000) (nb : isNum b.xs) : ∀ (k : Nat) (q : List Int) (rest : SL Int), k ≤ n → q.length = n → limbs q → isNum rest.xs → val rest.xs < val b.xs → val (a.xs.drop k) = val b.xs * val (q.drop k) + val rest.xs →
    ∃ (z : List Int) (r : SL Int), ref02_div_l1_b q a b true n rest ((k : Int) - 1) (ref02_div_l1_x1 z a b true n r (-1)) ∧ z.length = n ∧ limbs z ∧ isNum r.xs ∧ val r.xs < val b.xs ∧ val a.xs = val b.xs * val z + val r.xs
  | 0, q, rest, hk, hq, lq, nr, lr, e => by
    have h := ref02_div_l1_b_e3 (q := q) (a := a) (b := b) (qt := true) (qn := n) (rest := rest) (i := -1) (by omega)
    exact ⟨q, rest, h, hq, lq, nr, lr, by simpa using e⟩
  | k + 1, q, rest, hk, hq, lq, nr, lr, e => by
    have hka : k < a.xs.length := by omega
    have hkq : k < q.length := by omega
    have gy : a.xs[k]? = some a.xs[k] := List.getElem?_eq_getElem hka
    have gq : q[k]? = some q[k] := List.getElem?_eq_getElem hkq
    have by_ := limbs_get ha gy
    obtain ⟨r0, z, r1, r2, r3, t1, t2, t3, t4, t5, t6, t7, t8, t9⟩ := rdiv_step (a := a) (b := b) (rest := rest.xs) (y := a.xs[k]) (i := (k : Int)) (q := q) (qt := true) (qn := n) hb nb by_ nr lr
    have hrl : rest.xs.length ≤ b.xs.length := by
      rcases Nat.lt_or_ge b.xs.length rest.xs.length with h | h
      · have := val_len_lt nb nr h
        omega
      · exact h
    have hd : (q.set k z).drop k = z :: q.drop (k + 1) := by
      rw [List.drop_eq_getElem_cons (by rw [List.length_set]; exact hkq)]
      simp [List.drop_set_of_lt]
    have e2 : val (a.xs.drop k) = val b.xs * val ((q.set k z).drop k) + val r3.xs := by
      rw [val_drop_get gy, e, hd]
      have : val (z :: q.drop (k + 1)) = z + 1000000000 * val (q.drop (k + 1)) := rfl
      rw [this, Int.mul_add, Int.mul_add, Int.mul_left_comm 1000000000]
      omega
    obtain ⟨zz, r, g1, g2⟩ := rdiv_b hn hnl ha hb nb k (q.set k z) r3 (by omega) (by rw [List.length_set]; exact hq) (limbs_set lq t8.1 t8.2) t6 t7 e2
    refine ⟨zz, r, ?_, g2⟩
    have ek : ((k + 1 : Nat) : Int) - 1 = (k : Int) := by omega
    rw [ek]
    exact ref02_div_l1_b_s2 (i := (k : Int)) (by omega) (by omega) gy (by omega) t1 t2 gq (by rw [Int.toNat_natCast]; omega) t3 t4 t5 (in64 (by omega) (by omega)) (by rw [Int.toNat_natCast]; exact g1)
theorem rdiv_run {a b : SL Int} (hfa : a.xs.length < 100000000000) (hb : b.xs.length < 100000000000) (na : isNum a.xs) (nb : isNum b.xs) (hb0 : b.xs ≠ []) :
    ∃ q r : SL Int, ref02_div a b q r ∧ isNum q.xs ∧ isNum r.xs ∧ val a.xs = val b.xs * val q.xs + val r.xs ∧ val r.xs < val b.xs ∧ r.xs.length ≤ b.xs.length := by
  have hbp := val_pos nb hb0
  have hlen : ∀ {r : List Int}, isNum r → val r < val b.xs → r.length ≤ b.xs.length := by
    intro r nr lr
    rcases Nat.lt_or_ge b.xs.length r.length with h | h
    · have := val_len_lt nb nr h
      omega
    · exact h
  have v0 : val ([] : List Int) = 0 := rfl
  by_cases h0 : a.xs.length = 0
  · have ha0 : a.xs = [] := List.length_eq_zero_iff.1 h0
    obtain ⟨r0, t1, t2, t3, t4⟩ := rtrim_limbs (l := ([] : List Int)) (by unfold wide; simp) limbs_nil true
    have h1 := ref02_div_l1_e1 (q := List.replicate a.xs.length 0) (rest := []) (a := a) (b := b) (qt := true) (qn := a.xs.length) (restt := true) (restn := 0) (i := (a.xs.length : Int) - 1) (by omega)
    refine ⟨r0, ⟨1, [], true⟩, ref02_div_r0 (by omega) (in64 (by omega) (by omega)) h1 (by rw [h0]; simp) (by rw [h0]; exact t1) (by simp), t2, isNum_nil, ?_, ?_, by simp⟩
    · rw [t3, ha0, v0]; simp [v0]
    · rw [v0]; exact hbp
  · obtain ⟨n, hn⟩ : ∃ n, a.xs.length = n + 1 := ⟨a.xs.length - 1, by omega⟩
    have hka : n < a.xs.length := by omega
    have gy : a.xs[n]? = some a.xs[n] := List.getElem?_eq_getElem hka
    have hl : limbs (List.replicate a.xs.length 0) := limbs_zeros _
    have gq : (List.replicate a.xs.length (0 : Int))[n]? = some 0 := by rw [List.getElem?_replicate]; simp [hka]
    obtain ⟨r0, z, r1, r2, r3, t1, t2, t3, t4, t5, t6, t7, t8, t9⟩ := rdiv_step (a := a) (b := b) (rest := []) (y := a.xs[n]) (i := (n : Int)) (q := List.replicate a.xs.length 0) (qt := true) (qn := a.xs.length) hb nb (limbs_get na.1 gy) isNum_nil (by rw [v0]; exact hbp)
    have hd : ((List.replicate a.xs.length (0 : Int)).set n z).drop n = [z] := by
      rw [List.drop_eq_getElem_cons (by rw [List.length_set, List.length_replicate]; exact hka)]
      simp [List.drop_set_of_lt]
      omega
    have e2 : val (a.xs.drop n) = val b.xs * val (((List.replicate a.xs.length (0 : Int)).set n z).drop n) + val r3.xs := by
      rw [val_drop_get gy, hd, val_one, List.drop_eq_nil_of_le (by omega), v0]
      rw [v0] at t9
      exact t9
    obtain ⟨zz, r, g1, g2, g3, g4, g5, g6⟩ := rdiv_b (b := b) rfl hfa na.1 hb nb n ((List.replicate a.xs.length 0).set n z) r3 (by omega) (by simp) (limbs_set hl t8.1 t8.2) t6 t7 e2
    obtain ⟨q, k1, k2, k3, k4⟩ := rtrim_limbs (l := zz) (by unfold wide; omega) g3 true
    have en : (a.xs.length : Int) - 1 = (n : Int) := by omega
    refine ⟨q, r, ref02_div_r1 (z0 := zz) (z1 := a) (z2 := b) (z3 := true) (z4 := a.xs.length) (z5 := r) (z6 := -1) (by omega) (in64 (by omega) (by omega)) ?_ (by omega) (by rw [← g2, List.take_length]; exact k1), k2, g4, by rw [k3]; exact g6, g5, hlen g4 g5⟩
    rw [en]
    exact ref02_div_l1_s0 (i := (n : Int)) (by omega) (by omega) gy (by simp) (by simp) (by simpa using t1) t2 gq (by rw [Int.toNat_natCast]; omega) t3 t4 t5 (in64 (by omega) (by omega)) (by rw [Int.toNat_natCast]; exact g1)
theorem rpower_loop {m : SL Int} (hm : m.xs.length < 10000000000) (nm : isNum m.xs) (hm0 : m.xs ≠ []) : ∀ (f n : Nat), n < f → n < 9223372036854775808 → ∀ (out x : SL Int), isNum out.xs → isNum x.xs → out.xs.length ≤ m.xs.length → x.xs.length ≤ m.xs.length → val out.xs < val m.xs →
    ∃ z0 z1 z2, ref02_Power_l0 n m out x (ref02_Power_l0_x0 z0 m z1 z2) ∧ isNum z1.xs ∧ val z1.xs = (val out.xs * val x.xs ^ n) % val m.xs
  | 0, n, hf, _, _, _, _, _, _, _, _ => by omega
  | f + 1, n, hf, hn, out, x, no, nx, lo, lx, ho => by
    have fo : few out.xs := by unfold few; omega
    have fx : few x.xs := by unfold few; omega
    by_cases h0 : n = 0
    · subst h0
      refine ⟨_, out, x, ref02_Power_l0_e2 (by omega), no, ?_⟩
      rw [Int.pow_zero, Int.mul_one, Int.emod_eq_of_lt (val_nonneg no.1) ho]
    have e2 : ((n : Int)) / 2 = ((n / 2 : Nat) : Int) := by omega
    have w2 : w64 ((n : Int) / 2) := in64 (by omega) (by omega)
    obtain ⟨xx, s1, s2, s3, s4⟩ := rmul_run fx fx nx.1 nx.1
    obtain ⟨qx, rx, b1, b2, b3, b4, b5, b6⟩ := rdiv_run (a := xx) (b := m) (by omega) (by omega) s2 nm hm0
    have b7 : val rx.xs = val xx.xs % val m.xs := mod_of (by rw [b4, Int.mul_comm]) (val_nonneg b3.1) b5
    have hx2 : val xx.xs = val x.xs ^ 2 := by rw [s3, Int.pow_succ, Int.pow_one]
    by_cases hp : (n : Int) % 2 = 1
    · obtain ⟨oo, t1, t2, t3, t4⟩ := rmul_run fo fx no.1 nx.1
      obtain ⟨qo, ro, a1, a2, a3, a4, a5, a6⟩ := rdiv_run (a := oo) (b := m) (by omega) (by omega) t2 nm hm0
      have a7 : val ro.xs = val oo.xs % val m.xs := mod_of (by rw [a4, Int.mul_comm]) (val_nonneg a3.1) a5
      obtain ⟨z0, z1, z2, g1, g2, g3⟩ := rpower_loop hm nm hm0 f (n / 2) (by omega) (by omega) ro rx a3 b3 a6 b6 a5
      refine ⟨z0, z1, z2, ref02_Power_l0_s0 (by omega) (by omega) hp t1 a1 s1 b1 w2 (by rw [e2]; exact g1), g2, ?_⟩
      rw [g3, a7, b7, hx2, mul_pow_emod, t3, ← Int.pow_mul, Int.mul_assoc]
      congr 2
      have : n = 2 * (n / 2) + 1 := by omega
      conv => rhs; rw [this]
      rw [Int.pow_succ, Int.mul_comm]
    · obtain ⟨z0, z1, z2, g1, g2, g3⟩ := rpower_loop hm nm hm0 f (n / 2) (by omega) (by omega) out rx no b3 lo b6 ho
      refine ⟨z0, z1, z2, ref02_Power_l0_s1 (by omega) (by omega) hp s1 b1 w2 (by rw [e2]; exact g1), g2, ?_⟩
      rw [g3, b7, hx2, Int.mul_emod, pow_emod, ← Int.mul_emod, ← Int.pow_mul, show 2 * (n / 2) = n by omega]
theorem rpower_run {a m : SL Int} {n : Nat} (ha : a.xs.length < 10000000000) (hm : m.xs.length < 10000000000) (na : isNum a.xs) (nm : isNum m.xs) (hm0 : m.xs ≠ []) (hn : n < 9223372036854775808) (ca : ref02_Check a 0) (cm : ref02_Check m 0) : ∃ z : SL Int, ref02_Power a n m z 0 ∧ isNum z.xs ∧ val z.xs = val a.xs ^ n % val m.xs := by
  have hml := List.length_pos_iff.2 hm0
  obtain ⟨qo, o, o1, o2, o3, o4, o5, o6⟩ := rdiv_run (a := ⟨1, [1], true⟩) (b := m) (by simp) (by omega) isNum_one nm hm0
  obtain ⟨qx, x, x1, x2, x3, x4, x5, x6⟩ := rdiv_run (a := a) (b := m) (by omega) (by omega) na nm hm0
  have o7 : val o.xs = val [1] % val m.xs := mod_of (by rw [Int.mul_comm]; exact o4) (val_nonneg o3.1) o5
  have x7 : val x.xs = val a.xs % val m.xs := mod_of (by rw [x4, Int.mul_comm]) (val_nonneg x3.1) x5
  obtain ⟨z0, z1, z2, g1, g2, g3⟩ := rpower_loop hm nm hm0 (n + 1) n (by omega) hn o x o3 x3 o6 x6 o5
  refine ⟨z1, ref02_Power_r4 ca rfl cm rfl (by omega) (by omega) o1 x1 g1, g2, ?_⟩
  rw [g3, o7, x7, mul_pow_emod]
  have : val [(1 : Int)] = 1 := rfl
  rw [this, Int.one_mul]
theorem quot_of {q q' m r r' : Int} (h : q * m + r = m * q' + r') (hr : r = r') (hm : 0 < m) : q = q' := by
  subst hr
  have : q * m = q' * m := by rw [Int.mul_comm q' m]; omega
  exact Int.eq_of_mul_eq_mul_right (by omega) this
def bothSides (a b a' b' : SL Int) : Prop :=
  (isNum a.xs ∧ isNum b.xs ∧ nat_both a' b' 0 ∧ ref02_Check a 0 ∧ ref02_Check b 0) ∨ (nat_both a' b' 2 ∧ (ref02_Check a 2 ∨ (ref02_Check a 0 ∧ ref02_Check b 2)))
theorem both_sides {a b a' b' : SL Int} (ea : a'.xs = a.xs) (eb : b'.xs = b.xs) (hfa : huge a.xs) (hfb : huge b.xs) (hua : u32s a.xs) (hub : u32s b.xs) : bothSides a b a' b' := by
  have fa := fits_run (a := a') (by rw [ea]; exact hfa) (by rw [ea]; exact hua)
  have fb := fits_run (a := b') (by rw [eb]; exact hfb) (by rw [eb]; exact hub)
  rw [ea] at fa
  rw [eb] at fb
  rcases rcheck_run hfa hua with ⟨ha, ca⟩ | ⟨ha, ca⟩
  · rcases fa with ⟨_, fa⟩ | ⟨na, _⟩
    rotate_left
    · exact absurd ha na
    rcases rcheck_run hfb hub with ⟨hb, cb⟩ | ⟨hb, cb⟩
    · rcases fb with ⟨_, fb⟩ | ⟨nb, _⟩
      rotate_left
      · exact absurd hb nb
      exact .inl ⟨ha, hb, nat_both_r0 fa fb, ca, cb⟩
    · rcases fb with ⟨nb, _⟩ | ⟨_, fb⟩
      · exact absurd nb hb
      exact .inr ⟨nat_both_r1 fa fb, .inr ⟨ca, cb⟩⟩
  · rcases fa with ⟨na, _⟩ | ⟨_, fa⟩
    · exact absurd na ha
    exact .inr ⟨nat_both_r2 fa, .inl ca⟩
theorem d2 : (2 : Int) ≠ 0 := by decide
section
variable {a b a' b' : SL Int} {n_ : Int} (ea : a'.xs = a.xs) (eb : b'.xs = b.xs) (la : a.xs.length ≤ 60) (lb : b.xs.length ≤ 60) (H : bothSides a b a' b')
include ea eb la lb H
theorem k_compare : ∃ c e, nat_Compare a' b' c e ∧ ref02_Compare a b c e := by
  have fa : few a.xs := by unfold few; omega
  have fb : few b.xs := by unfold few; omega
  rcases H with ⟨na, nb, hb, ca, cb⟩ | ⟨hb, ca | ⟨ca, cb⟩⟩
  · have h := compare_run (a := a') (b := b') (by rw [ea]; exact fa) (by rw [eb]; exact fb) (by rw [ea]; exact na) (by rw [eb]; exact nb)
    rw [ea, eb] at h
    exact ⟨_, 0, nat_Compare_r1 hb rfl h, ref02_Compare_r2 ca rfl cb rfl (rcompare_run fa fb na nb)⟩
  · exact ⟨0, 2, nat_Compare_r0 hb d2, ref02_Compare_r0 ca d2⟩
  · exact ⟨0, 2, nat_Compare_r0 hb d2, ref02_Compare_r1 ca rfl cb d2⟩
theorem k_add : ∃ q q' e, nat_Add a' b' q e ∧ ref02_Add a b q' e ∧ few q.xs ∧ q.xs = q'.xs := by
  have fa : few a.xs := by unfold few; omega
  have fb : few b.xs := by unfold few; omega
  rcases H with ⟨na, nb, hb, ca, cb⟩ | ⟨hb, ca | ⟨ca, cb⟩⟩
  · obtain ⟨q, q1, q2, q3, q4⟩ := add_run (a := a') (b := b') (by rw [ea]; exact fa) (by rw [eb]; exact fb) (by rw [ea]; exact na) (by rw [eb]; exact nb)
    rw [ea, eb] at q3 q4
    obtain ⟨r, r1, r2, r3⟩ := radd_run fa fb na nb ca cb
    exact ⟨q, r, 0, q1, r1, by unfold few; omega, val_inj q2 r2 (by rw [q3, r3])⟩
  · exact ⟨_, _, 2, nat_Add_r0 hb d2, ref02_Add_r0 ca d2, by unfold few; simp, rfl⟩
  · exact ⟨_, _, 2, nat_Add_r0 hb d2, ref02_Add_r1 ca rfl cb d2, by unfold few; simp, rfl⟩
theorem k_sub : ∃ q q' e, nat_Sub a' b' q e ∧ ref02_Sub a b q' e ∧ few q.xs ∧ q.xs = q'.xs := by
  have fa : few a.xs := by unfold few; omega
  have fb : few b.xs := by unfold few; omega
  rcases H with ⟨na, nb, hb, ca, cb⟩ | ⟨hb, ca | ⟨ca, cb⟩⟩
  · have hc := rcompare_run fa fb na nb
    by_cases hlt : val a.xs < val b.xs
    · have h := compare_run (a := a') (b := b') (by rw [ea]; exact fa) (by rw [eb]; exact fb) (by rw [ea]; exact na) (by rw [eb]; exact nb)
      rw [ea, eb] at h
      exact ⟨_, _, 2, nat_Sub_r1 hb rfl h (cmpI_lt.2 hlt), ref02_Sub_r2 ca rfl cb rfl hc (cmpI_lt.2 hlt), by unfold few; simp, rfl⟩
    · obtain ⟨q, q1, q2, q3, q4⟩ := sub_run (a := a') (b := b') (by rw [ea]; exact fa) (by rw [eb]; exact fb) (by rw [ea]; exact na) (by rw [eb]; exact nb) (by rw [ea, eb]; omega)
      rw [ea, eb] at q3 q4
      obtain ⟨r, r1, r2, r3, r4⟩ := rsub_run fa na nb (by omega)
      exact ⟨q, r, 0, q1, ref02_Sub_r3 ca rfl cb rfl hc (fun h => hlt (cmpI_lt.1 h)) r1, by unfold few; omega, val_inj q2 r2 (by rw [q3, r3])⟩
  · exact ⟨_, _, 2, nat_Sub_r0 hb d2, ref02_Sub_r0 ca d2, by unfold few; simp, rfl⟩
  · exact ⟨_, _, 2, nat_Sub_r0 hb d2, ref02_Sub_r1 ca rfl cb d2, by unfold few; simp, rfl⟩
theorem k_mul : ∃ q q' e, nat_Mul a' b' q e ∧ ref02_Mul a b q' e ∧ few q.xs ∧ q.xs = q'.xs := by
  have fa : few a.xs := by unfold few; omega
  have fb : few b.xs := by unfold few; omega
  rcases H with ⟨na, nb, hb, ca, cb⟩ | ⟨hb, ca | ⟨ca, cb⟩⟩
  · obtain ⟨q, q1, q2, q3, q4⟩ := mul_run (a := a') (b := b') (by rw [ea]; exact fa) (by rw [eb]; exact fb) (by rw [ea]; exact na) (by rw [eb]; exact nb)
    rw [ea, eb] at q3 q4
    obtain ⟨r, r1, r2, r3, r4⟩ := rmul_run fa fb na.1 nb.1
    exact ⟨q, r, 0, q1, ref02_Mul_r2 ca rfl cb rfl r1, by unfold few; omega, val_inj q2 r2 (by rw [q3, r3])⟩
  · exact ⟨_, _, 2, nat_Mul_r0 hb d2, ref02_Mul_r0 ca d2, by unfold few; simp, rfl⟩
  · exact ⟨_, _, 2, nat_Mul_r0 hb d2, ref02_Mul_r1 ca rfl cb d2, by unfold few; simp, rfl⟩
theorem k_div : ∃ q r q' r' e, nat_Div a' b' q r e ∧ ref02_Div a b q' r' e ∧ few q.xs ∧ q.xs = q'.xs ∧ few r.xs ∧ r.xs = r'.xs := by
  have fa : few a.xs := by unfold few; omega
  have fb : few b.xs := by unfold few; omega
  have f0 : few ([] : List Int) := by unfold few; simp
  rcases H with ⟨na, nb, hb, ca, cb⟩ | ⟨hb, ca | ⟨ca, cb⟩⟩
  · by_cases hb0 : b.xs = []
    · exact ⟨_, _, _, _, 20, nat_Div_r1 hb rfl (by rw [eb, hb0]; simp), ref02_Div_r2 ca rfl cb rfl (by rw [hb0]; simp), f0, rfl, f0, rfl⟩
    · have hl := List.length_pos_iff.2 hb0
      have hp := val_pos nb hb0
      obtain ⟨q, r, q1, q2, q3, q4, q5, q6, q7⟩ := div_run (a := a') (b := b') (by rw [ea]; exact fa) (by rw [eb]; exact fb) (by rw [ea]; exact na) (by rw [eb]; exact nb) (by rw [eb]; exact hb0)
      rw [ea] at q4 q6
      rw [eb] at q4 q5 q7
      obtain ⟨s, t, s1, s2, s3, s4, s5, s6⟩ := rdiv_run (a := a) (b := b) (by omega) (by omega) na nb hb0
      have e1 := mod_of q4 (val_nonneg q3.1) q5
      have e2 : val t.xs = val a.xs % val b.xs := mod_of (by rw [s4, Int.mul_comm]) (val_nonneg s3.1) s5
      have e3 : val r.xs = val t.xs := by rw [e1, e2]
      exact ⟨q, r, s, t, 0, q1, ref02_Div_r3 ca rfl cb rfl (by omega) s1, by unfold few; omega, val_inj q2 s2 (quot_of (q4.symm.trans s4) e3 hp), by unfold few; omega, val_inj q3 s3 e3⟩
  · exact ⟨_, _, _, _, 2, nat_Div_r0 hb d2, ref02_Div_r0 ca d2, f0, rfl, f0, rfl⟩
  · exact ⟨_, _, _, _, 2, nat_Div_r0 hb d2, ref02_Div_r1 ca rfl cb d2, f0, rfl, f0, rfl⟩
theorem k_power (hn : n_ < 9223372036854775808) : ∃ q q' e, nat_Power a' n_ b' q e ∧ ref02_Power a n_ b q' e ∧ few q.xs ∧ q.xs = q'.xs := by
  have fa : few a.xs := by unfold few; omega
  have fb : few b.xs := by unfold few; omega
  have f0 : few ([] : List Int) := by unfold few; simp
  rcases H with ⟨na, nb, hb, ca, cb⟩ | ⟨hb, ca | ⟨ca, cb⟩⟩
  · by_cases hb0 : b.xs = []
    · exact ⟨_, _, 20, nat_Power_r1 hb rfl (by rw [eb, hb0]; simp), ref02_Power_r2 ca rfl cb rfl (by rw [hb0]; simp), f0, rfl⟩
    · have hl := List.length_pos_iff.2 hb0
      by_cases h0 : n_ < 0
      · exact ⟨_, _, 2, nat_Power_r2 hb rfl (by rw [eb]; omega) h0, ref02_Power_r3 ca rfl cb rfl (by omega) h0, f0, rfl⟩
      obtain ⟨n, rfl⟩ := Int.eq_ofNat_of_zero_le (show 0 ≤ n_ by omega)
      obtain ⟨q, q1, q2, q3, q4⟩ := power_run (a := a') (m := b') (n := n) (by rw [ea]; exact fa) (by rw [eb]; omega) (by rw [ea]; exact na) (by rw [eb]; exact nb) (by rw [eb]; exact hb0) (by omega)
      rw [ea, eb] at q3
      rw [eb] at q4
      obtain ⟨r, r1, r2, r3⟩ := rpower_run (a := a) (m := b) (n := n) (by omega) (by omega) na nb hb0 (by omega) ca cb
      exact ⟨q, r, 0, q1, r1, by unfold few; omega, val_inj q2 r2 (by rw [q3, r3])⟩
  · exact ⟨_, _, 2, nat_Power_r0 hb d2, ref02_Power_r0 ca d2, f0, rfl⟩
  · exact ⟨_, _, 2, nat_Power_r0 hb d2, ref02_Power_r1 ca rfl cb d2, f0, rfl⟩
end
theorem reckons_run {a b : SL Int} {n_ : Int} (hfa : huge a.xs) (hfb : huge b.xs) (hua : u32s a.xs) (hub : u32s b.xs) (hn : n_ < 9223372036854775808) : law_NatReckons a b n_ true := by
  by_cases la : (a.xs.length : Int) > 60
  · exact law_NatReckons_r0 la heads_ok
  by_cases lb : (b.xs.length : Int) > 60
  · exact law_NatReckons_r1 la lb heads_ok
  have H := both_sides (a := a) (b := b) (a' := ⟨1, a.xs, false⟩) (b' := ⟨1, b.xs, false⟩) rfl rfl hfa hfb hua hub
  have la' : a.xs.length ≤ 60 := by omega
  have lb' : b.xs.length ≤ 60 := by omega
  obtain ⟨c, e, c1, c2⟩ := k_compare (a := a) (b := b) (a' := ⟨1, a.xs, false⟩) (b' := ⟨1, b.xs, false⟩) rfl rfl la' lb' H
  obtain ⟨p, p', pe, p1, p2, p3, p4⟩ := k_add (a := a) (b := b) (a' := ⟨1, a.xs, false⟩) (b' := ⟨1, b.xs, false⟩) rfl rfl la' lb' H
  obtain ⟨q, q', qe, q1, q2, q3, q4⟩ := k_sub (a := a) (b := b) (a' := ⟨1, a.xs, false⟩) (b' := ⟨1, b.xs, false⟩) rfl rfl la' lb' H
  obtain ⟨r, r', re, r1, r2, r3, r4⟩ := k_mul (a := a) (b := b) (a' := ⟨1, a.xs, false⟩) (b' := ⟨1, b.xs, false⟩) rfl rfl la' lb' H
  obtain ⟨s, t, s', t', se, s1, s2, s3, s4, s5, s6⟩ := k_div (a := a) (b := b) (a' := ⟨1, a.xs, false⟩) (b' := ⟨1, b.xs, false⟩) rfl rfl la' lb' H
  obtain ⟨u, u', ue, u1, u2, u3, u4⟩ := k_power (a := a) (b := b) (a' := ⟨1, a.xs, false⟩) (b' := ⟨1, b.xs, false⟩) rfl rfl la' lb' H hn
  have fa : few a.xs := by unfold few; omega
  have fb : few b.xs := by unfold few; omega
  exact law_NatReckons_r2 la lb (ref02_Copy_r0 (by omega)) (ref02_Copy_r0 (by omega)) c1 c2 p1 p2 q1 q2 rfl rfl (same_true p3 p4) rfl (same_true q3 q4) rfl r1 r2 s1 s2 u1 u2 (same_true r3 r4) rfl (same_true s3 s4) (same_true s5 s6) rfl (same_true u3 u4) rfl (same_true fa rfl) (same_true fb rfl) heads_ok
theorem inK_lt {n : Int} (h : inK .i64 n) : n < 9223372036854775808 := by
  unfold inK Lit.wf at h
  simp [IntKind.min, IntKind.max, IntKind.signed, IntKind.bits] at h
  omega
theorem reckons_true {a b : SL Int} {n : Int} (ha : wfS 4 (inK .u32) a) (hb : wfS 4 (inK .u32) b) (hn : inK .i64 n) : law_NatReckons a b n true := reckons_run (wf_huge ha) (wf_huge hb) (wf_u32 ha) (wf_u32 hb) (inK_lt hn)
end Go.Proofs.YtlijicnknhopkaaDoor.V

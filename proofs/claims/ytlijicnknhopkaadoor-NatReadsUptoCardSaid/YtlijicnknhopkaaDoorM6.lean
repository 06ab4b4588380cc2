/- The laws NatRing and NatPowers. -/
import Derived.Test.YtlijicnknhopkaaDoorM5
namespace Go.Proofs.YtlijicnknhopkaaDoor.V
open Go
set_option linter.unusedVariables false
set_option linter.unnecessarySimpa false
set_option linter.unusedSimpArgs false
set_option linter.unusedSectionVars false
theorem ring_run {a b c : SL Int} (hfa : huge a.xs) (hfb : huge b.xs) (hfc : huge c.xs) (hua : u32s a.xs) (hub : u32s b.xs) (huc : u32s c.xs) : law_NatRing a b c true := by
  have ca := check_run hfa hua
  have cb := check_run hfb hub
  have cc := check_run hfc huc
  unfold huge at hfa hfb hfc
  rcases ca with ⟨ha, ca⟩ | ⟨_, ca⟩
  rotate_left
  · exact law_NatRing_r0 ca (by decide) heads_ok
  rcases cb with ⟨hb, cb⟩ | ⟨_, cb⟩
  rotate_left
  · exact law_NatRing_r1 ca rfl cb (by decide) heads_ok
  rcases cc with ⟨hc, cc⟩ | ⟨_, cc⟩
  rotate_left
  · exact law_NatRing_r2 ca rfl cb rfl cc (by decide) heads_ok
  have w1 : w64 ((a.xs.length : Int) + (b.xs.length : Int)) := in64 (by omega) (by omega)
  have w2 : w64 (((a.xs.length : Int) + (b.xs.length : Int)) + (c.xs.length : Int)) := in64 (by omega) (by omega)
  by_cases h : (((a.xs.length : Int) + (b.xs.length : Int)) + (c.xs.length : Int)) > 200
  · exact law_NatRing_r3 ca rfl cb rfl cc rfl w1 w2 h heads_ok
  have fa : few a.xs := by unfold few; omega
  have fb : few b.xs := by unfold few; omega
  have fc : few c.xs := by unfold few; omega
  obtain ⟨ab, p1, p2, p3, p4⟩ := add_run fa fb ha hb
  obtain ⟨ba, q1, q2, q3, q4⟩ := add_run fb fa hb ha
  obtain ⟨bc, r1, r2, r3, r4⟩ := add_run fb fc hb hc
  have fab : few ab.xs := by unfold few; omega
  have fbc : few bc.xs := by unfold few; omega
  have fba : few ba.xs := by unfold few; omega
  obtain ⟨x, x1, x2, x3, x4⟩ := add_run fab fc p2 hc
  obtain ⟨y, y1, y2, y3, y4⟩ := add_run fa fbc ha r2
  obtain ⟨m, m1, m2, m3, m4⟩ := mul_run fa fb ha hb
  obtain ⟨n, n1, n2, n3, n4⟩ := mul_run fb fa hb ha
  obtain ⟨p, s1, s2, s3, s4⟩ := mul_run fa fbc ha r2
  obtain ⟨q, t1, t2, t3, t4⟩ := mul_run fa fc ha hc
  obtain ⟨r, u1, u2, u3, u4⟩ := add_run (a := m) (b := q) (by unfold few; omega) (by unfold few; omega) m2 t2
  have ha0 := val_nonneg ha.1
  obtain ⟨d, d1, d2, d3, d4⟩ := sub_run fab fb p2 hb (by omega)
  have fp : few p.xs := by unfold few; omega
  exact law_NatRing_r4 ca rfl cb rfl cc rfl w1 w2 h p1 q1 r1 x1 y1 m1 n1 s1 t1 u1 d1 (same_true fab (val_inj p2 q2 (by omega))) (same_true (by unfold few; omega) (val_inj x2 y2 (by omega)))
    (same_true (by unfold few; omega) (val_inj m2 n2 (by rw [m3, n3, Int.mul_comm]))) (same_true fp (val_inj s2 u2 (by rw [s3, u3, m3, t3, r3, Int.mul_add]))) rfl (same_true (by unfold few; omega) (val_inj d2 ha (by omega))) (nat_Check_r0 (fits_true fp s2)) rfl heads_ok
/-! ### Powers -/
theorem mod_of {a q m r : Int} (h : a = q * m + r) (h0 : 0 ≤ r) (h1 : r < m) : r = a % m := by
  subst h
  rw [Int.add_comm, Int.add_mul_emod_self_right, Int.emod_eq_of_lt h0 h1]
theorem pow_emod (a m : Int) : ∀ k : Nat, ((a % m) ^ k) % m = a ^ k % m
  | 0 => by simp
  | k + 1 => by
    rw [Int.pow_succ, Int.pow_succ, Int.mul_emod, pow_emod a m k, Int.emod_emod_of_dvd _ (Int.dvd_refl m), ← Int.mul_emod]
theorem mul_pow_emod (o x m : Int) (k : Nat) : (o % m * (x % m) ^ k) % m = (o * x ^ k) % m := by
  rw [Int.mul_emod, pow_emod, Int.emod_emod_of_dvd _ (Int.dvd_refl m), ← Int.mul_emod]
theorem and_one {n : Nat} (h : n < 9223372036854775808) : bitAnd .i64 (n : Int) 1 = ((n % 2 : Nat) : Int) := by
  have hn : n < 2 ^ 64 := by omega
  have e : (BitVec.ofInt 64 (n : Int) &&& BitVec.ofInt 64 1).toNat = n % 2 := by
    rw [BitVec.toNat_and]
    rw [show BitVec.ofInt 64 (n : Int) = BitVec.ofNat 64 n by simp, show BitVec.ofInt 64 1 = BitVec.ofNat 64 1 by rfl]
    rw [BitVec.toNat_ofNat, BitVec.toNat_ofNat, Nat.mod_eq_of_lt hn]
    exact Nat.and_one_is_mod n
  show IntKind.i64.wrap (((BitVec.ofInt 64 (n : Int) &&& BitVec.ofInt 64 1).toNat : Nat) : Int) = _
  rw [e]
  exact in64 (by omega) (by omega)
theorem rest_run {x m : SL Int} (hx : few x.xs) (hm : few m.xs) (nx : isNum x.xs) (nm : isNum m.xs) (hm0 : m.xs ≠ []) : ∃ r : SL Int, nat_Power_f1 m x r m ∧ isNum r.xs ∧ val r.xs = val x.xs % val m.xs ∧ val r.xs < val m.xs ∧ r.xs.length ≤ m.xs.length := by
  obtain ⟨q, r, g1, g2, g3, g4, g5, g6, g7⟩ := divided_run hx hm nx nm hm0
  exact ⟨r, nat_Power_f1_r0 g1, g3, mod_of g4 (val_nonneg g3.1) g5, g5, g7⟩
theorem power_loop {m : SL Int} (hm : m.xs.length < 100000000000) (nm : isNum m.xs) (hm0 : m.xs ≠ []) : ∀ (f n : Nat), n < f → n < 9223372036854775808 → ∀ (out x : SL Int), isNum out.xs → isNum x.xs → out.xs.length ≤ m.xs.length → x.xs.length ≤ m.xs.length → val out.xs < val m.xs →
    ∃ z0 z1 z2 z3, nat_Power_l0 m n out x (nat_Power_l0_x0 z0 z1 z2 z3) ∧ isNum z2.xs ∧ val z2.xs = (val out.xs * val x.xs ^ n) % val m.xs ∧ z2.xs.length ≤ m.xs.length
  | 0, n, hf, _, _, _, _, _, _, _, _ => by omega
  | f + 1, n, hf, hn, out, x, no, nx, lo, lx, ho => by
    have fm : few m.xs := by unfold few; omega
    have fo : few out.xs := by unfold few; omega
    have fx : few x.xs := by unfold few; omega
    have hmp := val_pos nm hm0
    by_cases h0 : n = 0
    · subst h0
      refine ⟨_, _, out, _, nat_Power_l0_e4 (by omega), no, ?_, lo⟩
      rw [Int.pow_zero, Int.mul_one, Int.emod_eq_of_lt (val_nonneg no.1) ho]
    have e2 : ((n : Int)) / 2 ^ 1 = ((n / 2 : Nat) : Int) := by omega
    have hb := and_one (n := n) (by omega)
    obtain ⟨oo, t1, t2, t3, t4⟩ := times_run fo fx no.1 nx.1
    obtain ⟨xx, s1, s2, s3, s4⟩ := times_run fx fx nx.1 nx.1
    obtain ⟨ro, a1, a2, a3, a4, a5⟩ := rest_run (x := oo) (by unfold few; omega) fm t2 nm hm0
    obtain ⟨rx, b1, b2, b3, b4, b5⟩ := rest_run (x := xx) (by unfold few; omega) fm s2 nm hm0
    have hx2 : val xx.xs = val x.xs ^ 2 := by rw [s3, Int.pow_succ, Int.pow_one]
    rcases Nat.mod_two_eq_zero_or_one n with hp | hp
    · have hnb : ¬ bitAnd .i64 (n : Int) 1 > 0 := by rw [hb, hp]; decide
      have h1 : (n : Int) > 1 := by omega
      obtain ⟨z0, z1, z2, z3, g1, g2, g3, g4⟩ := power_loop hm nm hm0 f (n / 2) (by omega) (by omega) out rx no b2 lo b5 ho
      refine ⟨z0, z1, z2, z3, nat_Power_l0_s2 (by omega) hnb h1 s1 b1 (by rw [e2]; exact g1), g2, ?_, g4⟩
      rw [g3, b3, hx2, Int.mul_emod, pow_emod, ← Int.mul_emod, ← Int.pow_mul, show 2 * (n / 2) = n by omega]
    · have hnb : bitAnd .i64 (n : Int) 1 > 0 := by rw [hb, hp]; decide
      by_cases h1 : (n : Int) > 1
      · obtain ⟨z0, z1, z2, z3, g1, g2, g3, g4⟩ := power_loop hm nm hm0 f (n / 2) (by omega) (by omega) ro rx a2 b2 a5 b5 a4
        refine ⟨z0, z1, z2, z3, nat_Power_l0_s0 (by omega) hnb t1 a1 h1 s1 b1 (by rw [e2]; exact g1), g2, ?_, g4⟩
        rw [g3, a3, b3, hx2, mul_pow_emod, t3, ← Int.pow_mul, Int.mul_assoc]
        congr 2
        have : n = 2 * (n / 2) + 1 := by omega
        conv => rhs; rw [this]
        rw [Int.pow_succ, Int.mul_comm]
      · have hn1 : n = 1 := by omega
        subst hn1
        obtain ⟨z0, z1, z2, z3, g1, g2, g3, g4⟩ := power_loop hm nm hm0 f 0 (by omega) (by omega) ro x a2 nx a5 lx a4
        refine ⟨z0, z1, z2, z3, nat_Power_l0_s1 (by omega) hnb t1 a1 h1 (by rw [e2]; exact g1), g2, ?_, g4⟩
        rw [g3, a3, t3, Int.pow_zero, Int.mul_one, Int.pow_one, Int.emod_emod_of_dvd _ (Int.dvd_refl _)]
theorem isNum_one : isNum [1] := ⟨by intro x hx; simp at hx; subst hx; decide, by simp⟩
theorem power_run {a m : SL Int} {n : Nat} (ha : few a.xs) (hm : m.xs.length < 100000000000) (na : isNum a.xs) (nm : isNum m.xs) (hm0 : m.xs ≠ []) (hn : n < 9223372036854775808) : ∃ z : SL Int, nat_Power a n m z 0 ∧ isNum z.xs ∧ val z.xs = val a.xs ^ n % val m.xs ∧ z.xs.length ≤ m.xs.length := by
  have fm : few m.xs := by unfold few; omega
  have hml := List.length_pos_iff.2 hm0
  obtain ⟨o, o1, o2, o3, o4, o5⟩ := rest_run (x := ⟨1, [1], true⟩) (by unfold few; simp) fm isNum_one nm hm0
  obtain ⟨x, x1, x2, x3, x4, x5⟩ := rest_run ha fm na nm hm0
  obtain ⟨z0, z1, z2, z3, g1, g2, g3, g4⟩ := power_loop hm nm hm0 (n + 1) n (by omega) hn o x o2 x2 o5 x5 o4
  refine ⟨z2, nat_Power_r3 (both_true ha na fm nm) rfl (by omega) (by omega) o1 x1 g1, g2, ?_, g4⟩
  rw [g3, o3, x3, mul_pow_emod]
  have : val [(1 : Int)] = 1 := rfl
  dsimp only
  rw [this, Int.one_mul]
theorem powers_run {a b : SL Int} {m n : Int} (hfa : huge a.xs) (hfb : huge b.xs) (hua : u32s a.xs) (hub : u32s b.xs) : law_NatPowers a m n b true := by
  have ca := check_run hfa hua
  have cb := check_run hfb hub
  unfold huge at hfa hfb
  rcases ca with ⟨ha, ca⟩ | ⟨_, ca⟩
  rotate_left
  · exact law_NatPowers_r0 ca (by decide) heads_ok
  rcases cb with ⟨hb, cb⟩ | ⟨_, cb⟩
  rotate_left
  · exact law_NatPowers_r1 ca rfl cb (by decide) heads_ok
  by_cases h0 : (b.xs.length : Int) = 0
  · exact law_NatPowers_r2 ca rfl cb rfl h0 heads_ok
  by_cases h1 : (a.xs.length : Int) > 20
  · exact law_NatPowers_r3 ca rfl cb rfl h0 h1 heads_ok
  by_cases h2 : (b.xs.length : Int) > 20
  · exact law_NatPowers_r4 ca rfl cb rfl h0 h1 h2 heads_ok
  by_cases h3 : m < 0
  · exact law_NatPowers_r5 ca rfl cb rfl h0 h1 h2 h3 heads_ok
  by_cases h4 : n < 0
  · exact law_NatPowers_r6 ca rfl cb rfl h0 h1 h2 h3 h4 heads_ok
  by_cases h5 : m > 1000
  · exact law_NatPowers_r7 ca rfl cb rfl h0 h1 h2 h3 h4 h5 heads_ok
  by_cases h6 : n > 1000
  · exact law_NatPowers_r8 ca rfl cb rfl h0 h1 h2 h3 h4 h5 h6 heads_ok
  obtain ⟨m', rfl⟩ := Int.eq_ofNat_of_zero_le (show 0 ≤ m by omega)
  obtain ⟨n', rfl⟩ := Int.eq_ofNat_of_zero_le (show 0 ≤ n by omega)
  have hb0 : b.xs ≠ [] := by intro e; rw [e] at h0; simp at h0
  have fa : few a.xs := by unfold few; omega
  have fb : few b.xs := by unfold few; omega
  obtain ⟨x, x1, x2, x3, x4⟩ := power_run (n := m') fa (by omega) ha hb hb0 (by omega)
  obtain ⟨y, y1, y2, y3, y4⟩ := power_run (n := n') fa (by omega) ha hb hb0 (by omega)
  obtain ⟨z, z1, z2, z3, z4⟩ := power_run (n := m' + n') fa (by omega) ha hb hb0 (by omega)
  obtain ⟨p, p1, p2, p3, p4⟩ := mul_run (a := x) (b := y) (by unfold few; omega) (by unfold few; omega) x2 y2
  obtain ⟨q, r, r1, r2, r3, r4, r5, r6, r7⟩ := div_run (a := p) (b := b) (by unfold few; omega) fb p2 hb hb0
  have hr := mod_of r4 (val_nonneg r3.1) r5
  refine law_NatPowers_r9 ca rfl cb rfl h0 h1 h2 h3 h4 h5 h6 x1 y1 (in64 (by omega) (by omega)) (by exact_mod_cast z1) p1 r1 rfl rfl rfl rfl (same_true (by unfold few; omega) (val_inj r3 z2 ?_)) heads_ok
  rw [hr, p3, x3, y3, z3, ← Int.mul_emod, Int.pow_add]
end Go.Proofs.YtlijicnknhopkaaDoor.V

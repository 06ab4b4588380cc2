/- Contracts: quotients whole, powers; the laws NatRests, NatRing, NatPowers. -/
import Derived.Test.YtlijicnknhopkaaDoorM4
namespace Go.Proofs.YtlijicnknhopkaaDoor.V
open Go
set_option linter.unusedVariables false
set_option linter.unnecessarySimpa false
set_option linter.unusedSimpArgs false
set_option linter.unusedSectionVars false
theorem div_loop {v : SL Int} {sc : Int} {L M : Nat} {V0 : Int} (hv : isNum v.xs) (hv0 : v.xs ≠ []) (hLM : L = M + v.xs.length) (hL : L < 2500000000000) : ∀ (m : Nat) (u Q : List Int), m ≤ M → u.length = L → limbs u → val (u.drop m) < val v.xs → Q.length = M → limbs Q → headZ Q m → V0 = val v.xs * val Q + val u →
    ∃ u' Q' z, nat_divided_l0 u Q sc false L v (v.xs.length : Int) true M ((m : Int) - 1) (nat_divided_l0_x0 u' Q' sc false L v (v.xs.length : Int) true M z) ∧ u'.length = L ∧ limbs u' ∧ Q'.length = M ∧ limbs Q' ∧ val u' < val v.xs ∧ V0 = val v.xs * val Q' + val u'
  | 0, u, Q, hm, hul, hu, hd, hQl, hQ, hz, hV => ⟨u, Q, _, nat_divided_l0_e1 (by omega), hul, hu, hQl, hQ, by simpa using hd, hV⟩
  | m + 1, u, Q, hm, hul, hu, hd, hQl, hQ, hz, hV => by
    have hvl : 0 < v.xs.length := List.length_pos_iff.2 hv0
    have e : (((m + 1 : Nat) : Int) - 1) = m := by omega
    have e1 : ((m : Int)).toNat = m := by omega
    have hVp := val_pos hv hv0
    have hVlt := val_lt hv.1
    -- the window
    obtain ⟨pre, hpre⟩ : ∃ pre, pre = u.take m := ⟨_, rfl⟩
    obtain ⟨w, hwe⟩ : ∃ w, w = (u.drop m).take (v.xs.length + 1) := ⟨_, rfl⟩
    obtain ⟨post, hpost⟩ : ∃ post, post = (u.drop m).drop (v.xs.length + 1) := ⟨_, rfl⟩
    have hsplit : u = pre ++ (w ++ post) := by rw [hpre, hwe, hpost, List.take_append_drop, List.take_append_drop]
    have hprel : pre.length = m := by rw [hpre, List.length_take]; omega
    have hwl : w.length = v.xs.length + 1 := by rw [hwe, List.length_take, List.length_drop]; omega
    have hlw : limbs w := by rw [hwe]; exact limbs_take (limbs_drop hu m) _
    have hlp : limbs post := by rw [hpost]; exact limbs_drop (limbs_drop hu m) _
    have hlpre : limbs pre := by rw [hpre]; exact limbs_take hu m
    have hgu : u[m]? = some (u[m]'(by omega)) := List.getElem?_eq_getElem _
    have bx := limbs_get hu hgu
    have hdm : val (u.drop m) = u[m]'(by omega) + 1000000000 * val (u.drop (m + 1)) := val_drop_get hgu
    generalize u[m]'(by omega) = x at hgu bx hdm
    have hwp : u.drop m = w ++ post := by rw [hwe, hpost, List.take_append_drop]
    have hvw : val (w ++ post) = val w + 1000000000 ^ (v.xs.length + 1) * val post := by rw [val_append, hwl]
    have hp0 := val_nonneg hlp
    have hw0 := val_nonneg hlw
    have hpz : val post = 0 := by
      rcases Int.lt_or_le 0 (val post) with h | h
      · exfalso
        have k := Int.mul_le_mul_of_nonneg_left (show 1 ≤ val post by omega) (Int.le_of_lt (powB_pos (v.xs.length + 1)))
        rw [Int.mul_one, powB_succ] at k
        rw [powB_succ] at hvw
        rw [hwp] at hdm
        omega
      · omega
    rw [hpz, Int.mul_zero, Int.add_zero] at hvw
    have hwlt : val w < 1000000000 * val v.xs := by rw [← hvw, ← hwp, hdm]; omega
    obtain ⟨q, w', g1, g2, g3, g4, g5, g6⟩ := guess_run (t := false) (pre := pre) (post := post) hv hv0 hlw hwl (by rw [← hsplit]; omega) hwlt
    rw [← hsplit, hprel, hul] at g1
    have hul' : (pre ++ (w' ++ post)).length = L := by
      rw [← hul, hsplit]; simp only [List.length_append, g3]
    have hlu' : limbs (pre ++ (w' ++ post)) := limbs_append.2 ⟨hlpre, limbs_append.2 ⟨g4, hlp⟩⟩
    have hdrop : (pre ++ (w' ++ post)).drop m = w' ++ post := by rw [← hprel, List.drop_left]
    have hvd : val (w' ++ post) = val w' := by rw [val_append, hpz]; omega
    have gQ : Q[m]? = some (Q[m]'(by omega)) := List.getElem?_eq_getElem _
    have gz := hz m _ (by omega) gQ
    rw [gz] at gQ
    have hvu : val u = val pre + 1000000000 ^ m * val w := by rw [hsplit, val_append, hprel, hvw]
    have hvu' : val (pre ++ (w' ++ post)) = val pre + 1000000000 ^ m * val w' := by rw [val_append, hprel, hvd]
    obtain ⟨u2, Q2, z, k1, k2⟩ := div_loop (sc := sc) (V0 := V0) hv hv0 hLM hL m (pre ++ (w' ++ post)) (Q.set m q) (by omega) hul' hlu' (by rw [hdrop, hvd]; exact g6) (by simpa using hQl) (limbs_set hQ g2.1 g2.2) (by
      refine fun j y hj hy => ?_
      rw [List.getElem?_set_ne (by omega)] at hy
      exact hz j y (by omega) hy) (by
      rw [val_set _ gQ, hvu', Int.sub_zero, hV, hvu, g5]
      grind)
    refine ⟨u2, Q2, z, ?_, k2⟩
    rw [e]
    exact nat_divided_l0_s0 (by omega) g1 (by omega) (by rw [e1]; exact gQ) (by rw [e1]; omega) (in64 (by omega) (by omega)) (by rw [e1]; exact k1)
theorem clone_run {a : SL Int} (hfa : few a.xs) : ∃ q : SL Int, sl_Clone_uint32_uint32 a q ∧ q.xs = a.xs := by
  cases h : a.xs with
  | nil =>
    refine ⟨⟨1, [], false⟩, ?_, rfl⟩
    have : slD 1 (D.int .u32) a = .sl a.e [] a.t := by unfold slD; rw [h]; rfl
    unfold sl_Clone_uint32_uint32
    rw [this]
    exact R_clone
  | cons x r =>
    have e : slD 1 (D.int .u32) a = .sl 1 (.int .u32 x :: dl (D.int .u32) r) a.t := by unfold slD; rw [h]; rfl
    unfold few at hfa
    refine ⟨⟨1, a.xs, false⟩, sl_Clone_uint32_uint32_r1 (by rw [e]; rfl) (by omega) (by rw [e]; rfl), h⟩
theorem divided_run {a b : SL Int} (hfa : few a.xs) (hfb : few b.xs) (ha : isNum a.xs) (hb : isNum b.xs) (hb0 : b.xs ≠ []) :
    ∃ q r : SL Int, nat_divided a b q r ∧ isNum q.xs ∧ isNum r.xs ∧ val a.xs = val q.xs * val b.xs + val r.xs ∧ val r.xs < val b.xs ∧ q.xs.length ≤ a.xs.length + 2 ∧ r.xs.length ≤ b.xs.length := by
  have hfa' := hfa
  have hfb' := hfb
  unfold few at hfa' hfb'
  have hbl : 0 < b.xs.length := List.length_pos_iff.2 hb0
  have hbp := val_pos hb hb0
  have hc := compare_run hfa hfb ha hb
  have rlen : ∀ r : List Int, isNum r → val r < val b.xs → r.length ≤ b.xs.length := fun r hr hlt => by
    rcases Nat.lt_or_ge b.xs.length r.length with h | h
    · have := val_len_lt hb hr h; omega
    · exact h
  by_cases h1 : cmpI (val a.xs) (val b.xs) < 0
  · have hlt := cmpI_lt.1 h1
    obtain ⟨q, hq, hq2⟩ := clone_run hfa
    exact ⟨⟨1, [], true⟩, q, nat_divided_r0 hc h1 hq, isNum_nil, by rw [hq2]; exact ha, by simp [val, hq2], by rw [hq2]; exact hlt, by simp, rlen _ (by rw [hq2]; exact ha) (by rw [hq2]; exact hlt)⟩
  have hge : val b.xs ≤ val a.xs := by
    have := mt cmpI_lt.2 h1; omega
  have hlen : b.xs.length ≤ a.xs.length := by
    rcases Nat.lt_or_ge a.xs.length b.xs.length with h | h
    · have := val_len_lt ha hb h; omega
    · exact h
  by_cases h2 : (b.xs.length : Int) = 1
  · obtain ⟨y, hy⟩ : ∃ y, b.xs = [y] := List.length_eq_one_iff.1 (by omega)
    have hyb : val b.xs = y := by rw [hy]; exact val_one y
    have hby : 0 < y ∧ y < 1000000000 := by
      refine ⟨by omega, ?_⟩
      have := hb.1 y (by rw [hy]; simp)
      omega
    obtain ⟨q, r, g1, g2, g3, g4, g5, g6, g7⟩ := small_run (a := a) (d := y) ⟨by unfold wide; omega, by omega⟩ ha.1 hby
    exact ⟨q, r, nat_divided_r1 hc h1 h2 (by rw [hy]; rfl) g1, g2, g3, by rw [hyb]; exact g4, by rw [hyb]; exact g5, by omega, rlen _ g3 (by rw [hyb]; exact g5)⟩
  · have gt : b.xs[b.xs.length - 1]? = some (b.xs[b.xs.length - 1]'(by omega)) := List.getElem?_eq_getElem _
    have bt := limbs_get hb.1 gt
    have ht0 : b.xs[b.xs.length - 1]'(by omega) ≠ 0 := by
      intro e
      apply hb.2
      rw [List.getLast?_eq_getElem?, gt, e]
    have e0 : ((b.xs.length : Int) - 1).toNat = b.xs.length - 1 := by omega
    have gt' : b.xs[((b.xs.length : Int) - 1).toNat]? = some (b.xs[b.xs.length - 1]'(by omega)) := by rw [e0]; exact gt
    generalize b.xs[b.xs.length - 1]'(by omega) = y at gt gt' bt ht0
    obtain ⟨sc, hsc⟩ : ∃ sc, sc = 1000000000 / (y + 1) := ⟨_, rfl⟩
    have hsc1 : 1 ≤ sc := by rw [hsc]; exact Int.le_ediv_of_mul_le (by omega) (by omega)
    have hsc2 : sc < 1000000000 := by rw [hsc]; exact Int.ediv_lt_of_lt_mul (by omega) (by omega)
    obtain ⟨la, s1, s2, s3, s4⟩ := scaled_run (a := a) (d := sc) (by omega) ha.1 ⟨by omega, hsc2⟩
    obtain ⟨lb, t1, t2, t3, t4⟩ := scaled_run (a := b) (d := sc) (by omega) hb.1 ⟨by omega, hsc2⟩
    obtain ⟨v, v1, v2, v3, v4⟩ := trim_limbs (l := lb) (by unfold wide; omega) t3 true
    have hvV : val v.xs = val b.xs * sc := by rw [v3, t4]
    have hVpos : 0 < val v.xs := by rw [hvV]; exact Int.mul_pos hbp (by omega)
    have hv0 : v.xs ≠ [] := by intro e; rw [e] at hVpos; simp [val] at hVpos
    have hvl : 0 < v.xs.length := List.length_pos_iff.2 hv0
    obtain ⟨L, hL⟩ : ∃ L, L = (la ++ [0]).length := ⟨_, rfl⟩
    have hL' : L = a.xs.length + 2 := by rw [hL, List.length_append, s2]; rfl
    obtain ⟨M, hM⟩ : ∃ M, L = M + v.xs.length := ⟨L - v.xs.length, by omega⟩
    have hlu : limbs (la ++ [0]) := limbs_append.2 ⟨s3, by intro z hz; simp at hz; subst hz; decide⟩
    have hvu : val (la ++ [0]) = val a.xs * sc := by rw [val_append, s4]; simp [val]
    have htop : val ((la ++ [0]).drop M) < val v.xs := by
      have e1 : (la ++ [0]).drop M = la.drop M ++ [0] := by rw [List.drop_append_of_le_length (by omega)]
      rw [e1, val_append]
      have e2 : val [(0 : Int)] = 0 := rfl
      rw [e2, Int.mul_zero, Int.add_zero]
      have l1 := val_lt (limbs_drop s3 M)
      have l2 := val_ge v2 hv0
      have e3 : (la.drop M).length = v.xs.length - 1 := by rw [List.length_drop]; omega
      rw [e3] at l1
      omega
    have eM : (L : Int) - (v.xs.length : Int) = (M : Int) := by omega
    have eMn : ((M : Int)).toNat = M := by omega
    obtain ⟨u', Q, z, d1, d2, d3, d4, d5, d6, d7⟩ := div_loop (v := v) (sc := sc) (L := L) (M := M) (V0 := val a.xs * sc) v2 hv0 hM (by omega) M (la ++ [0]) (List.replicate M 0) (Nat.le_refl _) hL.symm hlu htop (by simp) (limbs_zeros M) (fun j x _ h => List.eq_of_mem_replicate (List.mem_of_getElem? h)) (by rw [val_zeros, hvu]; omega)
    obtain ⟨qq, k1, k2, k3, k4⟩ := trim_limbs (l := Q) (by unfold wide; omega) d5 true
    have hu't : val (u'.take v.xs.length) = val u' := by
      have e1 := val_take_drop u' v.xs.length (by omega)
      have l0 := val_nonneg (limbs_take d3 v.xs.length)
      have l1 := val_nonneg (limbs_drop d3 v.xs.length)
      have l2 := val_lt v2.1
      rcases Int.lt_or_le 0 (val (u'.drop v.xs.length)) with h | h
      · exfalso
        have k := Int.mul_le_mul_of_nonneg_left (show 1 ≤ val (u'.drop v.xs.length) by omega) (Int.le_of_lt (powB_pos v.xs.length))
        rw [Int.mul_one] at k
        omega
      · have : val (u'.drop v.xs.length) = 0 := by omega
        rw [this, Int.mul_zero] at e1; omega
    obtain ⟨r4, m1, m2, m3, m4⟩ := trim_limbs (l := u'.take v.xs.length) (by unfold wide; rw [List.length_take]; omega) (limbs_take d3 _) (false && decide (((v.xs.length : Int)).toNat = L))
    have hr4l : r4.xs.length < 3000000000000 := by rw [List.length_take] at m4; omega
    obtain ⟨r5, r6, n1, n2, n3, n4, n5, n6, n7⟩ := small_run (a := r4) (d := sc) ⟨by unfold wide; omega, by omega⟩ m2.1 ⟨by omega, hsc2⟩
    rw [m3, hu't] at n4
    -- the rest is a multiple of the scale
    have hr60 := val_nonneg n3.1
    have hr50 := val_nonneg n2.1
    have hkey : (val a.xs - val b.xs * val Q - val r5.xs) * sc = val r6.xs := by
      rw [hvV] at d7
      have : val a.xs * sc - val b.xs * val Q * sc - val r5.xs * sc = val r6.xs := by
        have e9 : val b.xs * sc * val Q = val b.xs * val Q * sc := by rw [Int.mul_assoc, Int.mul_comm sc, ← Int.mul_assoc]
        omega
      rw [Int.sub_mul, Int.sub_mul]; exact this
    have hz0 : val a.xs - val b.xs * val Q - val r5.xs = 0 := by
      rcases Int.lt_trichotomy (val a.xs - val b.xs * val Q - val r5.xs) 0 with h | h | h
      · exfalso
        have := Int.mul_le_mul_of_nonneg_right (show val a.xs - val b.xs * val Q - val r5.xs ≤ -1 by omega) (show 0 ≤ sc by omega)
        omega
      · exact h
      · exfalso
        have := Int.mul_le_mul_of_nonneg_right (show 1 ≤ val a.xs - val b.xs * val Q - val r5.xs by omega) (show 0 ≤ sc by omega)
        omega
    have hr5 : val r5.xs < val b.xs := by
      have h9 : val r5.xs * sc < val b.xs * sc := by rw [← hvV]; omega
      exact Int.lt_of_mul_lt_mul_right h9 (by omega)
    refine ⟨qq, r5, ?_, k2, n2, ?_, hr5, by omega, rlen _ n2 hr5⟩
    · have hvn : ((v.xs.length : Int)).toNat = v.xs.length := by omega
      have hh := nat_divided_r2 (a := a) (b := b) (r0 := cmpI (val a.xs) (val b.xs)) (y0 := y) (r1 := ⟨1, la, true⟩) (r2 := ⟨1, lb, true⟩) (r3 := v) (z0 := u') (z1 := Q) (z2 := z) (r4 := r4) (r5 := r5) (r6 := r6) (r7 := qq) hc h1 h2 (in64 (by omega) (by omega)) (by omega) gt' (inU32 (by omega) (by omega)) (by omega)
      rw [← hsc] at hh
      dsimp only at hh
      rw [← hL, eM, eMn, hvn] at hh
      exact hh (inU32 (by omega) (by omega)) s1 rfl (by omega) t1 v1 (in64 (by omega) (by omega)) (by omega) (by omega) (in64 (by omega) (by omega)) d1 (by omega) (by omega) m1 n1 (by omega) (by rw [← d4, List.take_length]; exact k1)
    · rw [k3, Int.mul_comm]; omega
theorem div_run {a b : SL Int} (hfa : few a.xs) (hfb : few b.xs) (ha : isNum a.xs) (hb : isNum b.xs) (hb0 : b.xs ≠ []) :
    ∃ q r : SL Int, nat_Div a b q r 0 ∧ isNum q.xs ∧ isNum r.xs ∧ val a.xs = val q.xs * val b.xs + val r.xs ∧ val r.xs < val b.xs ∧ q.xs.length ≤ a.xs.length + 2 ∧ r.xs.length ≤ b.xs.length := by
  obtain ⟨q, r, h1, h2⟩ := divided_run hfa hfb ha hb hb0
  have hbl := List.length_pos_iff.2 hb0
  exact ⟨q, r, nat_Div_r2 (both_true hfa ha hfb hb) rfl (by omega) h1, h2⟩
theorem check_run {a : SL Int} (hf : huge a.xs) (hu : u32s a.xs) : (isNum a.xs ∧ nat_Check a 0) ∨ (¬ isNum a.xs ∧ nat_Check a 2) := by
  rcases fits_run hf hu with ⟨h1, h2⟩ | ⟨h1, h2⟩
  · exact .inl ⟨h1, nat_Check_r0 h2⟩
  · exact .inr ⟨h1, nat_Check_r1 h2⟩
/-! ### NatRests -/
theorem rests_run {a b : SL Int} (hfa : huge a.xs) (hfb : huge b.xs) (hua : u32s a.xs) (hub : u32s b.xs) : law_NatRests a b true := by
  have ca := check_run hfa hua
  have cb := check_run hfb hub
  unfold huge at hfa hfb
  rcases ca with ⟨ha, ca⟩ | ⟨_, ca⟩
  · rcases cb with ⟨hb, cb⟩ | ⟨_, cb⟩
    · have w1 : w64 ((a.xs.length : Int) + (b.xs.length : Int)) := in64 (by omega) (by omega)
      by_cases h : (a.xs.length : Int) + (b.xs.length : Int) > 200
      · exact law_NatRests_r2 ca rfl cb rfl w1 h heads_ok
      · have fa : few a.xs := by unfold few; omega
        have fb : few b.xs := by unfold few; omega
        by_cases h0 : (b.xs.length : Int) = 0
        · exact law_NatRests_r3 ca rfl cb rfl w1 h (nat_Div_r1 (both_true fa ha fb hb) rfl h0) h0 rfl heads_ok
        · have hb0 : b.xs ≠ [] := by intro e; rw [e] at h0; simp at h0
          obtain ⟨q, r, g1, g2, g3, g4, g5, g6, g7⟩ := div_run fa fb ha hb hb0
          obtain ⟨m, m1, m2, m3, m4⟩ := mul_run (a := q) (b := b) (by unfold few; omega) fb g2 hb
          obtain ⟨s, s1, s2, s3, s4⟩ := add_run (a := m) (b := r) (by unfold few; omega) (by unfold few; omega) m2 g3
          have hc := compare_run (a := r) (b := b) (by unfold few; omega) fb g3 hb
          exact law_NatRests_r4 ca rfl cb rfl w1 h g1 h0 m1 s1 (nat_Compare_r1 (both_true (by unfold few; omega) g3 fb hb) rfl hc) rfl rfl (cmpI_lt.2 g5) (same_true (by unfold few; omega) (val_inj s2 ha (by rw [s3, m3, g4]))) heads_ok
    · exact law_NatRests_r1 ca rfl cb (by decide) heads_ok
  · exact law_NatRests_r0 ca (by decide) heads_ok
end Go.Proofs.YtlijicnknhopkaaDoor.V

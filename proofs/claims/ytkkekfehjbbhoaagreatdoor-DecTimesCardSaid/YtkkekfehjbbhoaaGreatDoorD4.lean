/- The law DecMultiples. -/
import Derived.Test.YtkkekfehjbbhoaaGreatDoorD2
namespace Go.Proofs.YtkkekfehjbbhoaaGreatDoor.V
open Go
set_option linter.unusedVariables false
set_option linter.unnecessarySimpa false
set_option linter.unusedSimpArgs false
set_option linter.unusedSectionVars false
theorem hv_pos {l : List Int} (hf : figs l) (hne : l ≠ []) (hh : l.head? ≠ some 48) : 0 < hv 0 l := by
  cases l with
  | nil => exact absurd rfl hne
  | cons d r =>
    rw [figs_cons] at hf
    have hd : d ≠ 48 := fun e => hh (by simp [e])
    rw [hv]
    have := hv_ge hf.2 (x := 0 * 10 + (d - 48)) (by omega)
    omega
theorem isNum_ten : isNum [10] := ⟨by intro x hx; simp at hx; subst hx; decide, by simp⟩
theorem num_check {l : SL Int} (h : isNum l.xs) (hl : l.xs.length < 1000000000) : ref02_Check l 0 := by
  rcases rcheck_run (a := l) (by unfold huge; omega) (limbs_u32 h.1) with ⟨_, c⟩ | ⟨n, _⟩
  · exact c
  · exact absurd h n
/-- What is reckoned, by either: the rest of a product by a power of ten. -/
theorem multiple_run {a b : Dec} (oa : okD a) (ob : okD b) (ha : sgn a ≠ 0) (hb : sgn b > 0) (n : Nat) (hn : n < 9223372036854775808) :
    ∃ x y t p q r x' y' t' p' q' r' : SL Int, nat_Of a.Digits x 0 ∧ nat_Of b.Digits y 0 ∧ nat_Power ⟨1, [10], true⟩ n y t 0 ∧ nat_Mul x t p 0 ∧ nat_Div p y q r 0 ∧
      ref02_Of a.Digits x' 0 ∧ ref02_Of b.Digits y' 0 ∧ ref02_Power ⟨1, [10], true⟩ n y' t' 0 ∧ ref02_Mul x' t' p' 0 ∧ ref02_Div p' y' q' r' 0 ∧ r.xs = r'.xs ∧
      isNum r.xs ∧ val r.xs = (hv 0 a.ds * 10 ^ n) % hv 0 b.ds := by
  have za : a.Digits.size ≠ 0 := fun h => ha (by unfold sgn; rw [if_pos h])
  have zb : b.Digits.size ≠ 0 := fun h => by unfold sgn at hb; rw [if_pos h] at hb; omega
  rcases oa with h | ⟨_, sa, ha1, ha2, fa, _, _⟩
  · exact absurd h.1 za
  rcases ob with h | ⟨_, sb, hb1, hb2, fb, _, _⟩
  · exact absurd h.1 zb
  have hbp : 0 < hv 0 b.ds := hv_pos fb (fun e => zb (by have := congrArg List.length e; rw [strInts_len] at this; simpa using this)) hb1
  rcases of_run a.Digits (by omega) with ⟨_, _, x, x', o1, o2, o3, o4, o5, o6⟩ | ⟨bad, _⟩
  rotate_left
  · rcases bad with h | h | h
    · exact absurd h za
    · omega
    · exact absurd fa h
  rcases of_run b.Digits (by omega) with ⟨_, _, y, y', u1, u2, u3, u4, u5, u6⟩ | ⟨bad, _⟩
  rotate_left
  · rcases bad with h | h | h
    · exact absurd h zb
    · omega
    · exact absurd fb h
  have y0 : y.xs ≠ [] := fun e => by
    rw [e] at u5
    have : val ([] : List Int) = 0 := rfl
    rw [this] at u5
    have h2 : hv 0 (strInts b.Digits) = hv 0 b.ds := rfl
    omega
  have yl := List.length_pos_iff.2 y0
  have f10 : few ([10] : List Int) := by unfold few; simp
  obtain ⟨t, t1, t2, t3, t4⟩ := power_run (a := ⟨1, [10], true⟩) (m := y) (n := n) f10 (by omega) isNum_ten u3 y0 hn
  obtain ⟨p, p1, p2, p3, p4⟩ := mul_run (a := x) (b := t) (by unfold few; omega) (by unfold few; omega) o3 t2
  obtain ⟨q, r, d1, d2, d3, d4, d5, d6, d7⟩ := div_run (a := p) (b := y) (by unfold few; omega) (by unfold few; omega) p2 u3 y0
  have x'n : isNum x'.xs := by rw [← o4]; exact o3
  have y'n : isNum y'.xs := by rw [← u4]; exact u3
  have c10 : ref02_Check ⟨1, [10], true⟩ 0 := num_check isNum_ten (by simp)
  have cx := num_check x'n (by rw [← o4]; omega)
  have cy := num_check y'n (by rw [← u4]; omega)
  obtain ⟨t', s1, s2, s3⟩ := rpower_run (a := ⟨1, [10], true⟩) (m := y') (n := n) (by simp) (by rw [← u4]; omega) isNum_ten y'n (by rw [← u4]; exact y0) hn c10 cy
  rw [← u4] at s3
  have et : t'.xs = t.xs := val_inj s2 t2 (by rw [s3, t3])
  have ct := num_check s2 (by rw [et]; omega)
  obtain ⟨p', m1, m2, m3, m4⟩ := rmul_run (a := x') (b := t') (by unfold few; rw [← o4]; omega) (by unfold few; rw [et]; omega) x'n.1 s2.1
  have ep : p'.xs = p.xs := val_inj m2 p2 (by rw [m3, p3, et, ← o4])
  have cp := num_check m2 (by rw [ep]; omega)
  obtain ⟨q', r', v1, v2, v3, v4, v5, v6⟩ := rdiv_run (a := p') (b := y') (by rw [ep]; omega) (by rw [← u4]; omega) m2 y'n (by rw [← u4]; exact y0)
  rw [ep, ← u4] at v4
  rw [← u4] at v5
  have e1 := mod_of d4 (val_nonneg d3.1) d5
  have e2 : val r'.xs = val p.xs % val y.xs := mod_of (by rw [v4, Int.mul_comm]) (val_nonneg v3.1) v5
  refine ⟨x, y, t, p, q, r, x', y', t', p', q', r', o1, u1, t1, p1, d1, o2, u2, s1, ref02_Mul_r2 cx rfl ct rfl m1, ref02_Div_r3 cp rfl cy rfl (by rw [← u4]; omega) v1, val_inj d3 v3 (by rw [e1, e2]), d3, ?_⟩
  have v10 : val [(10 : Int)] = 10 := rfl
  rw [e1, p3, o5, t3, u5]
  dsimp only
  rw [v10, Int.mul_emod, Int.emod_emod_of_dvd _ (Int.dvd_refl _), ← Int.mul_emod]
theorem multiples_both {a b : Dec} (ha : wf_Dec a) (hb : wf_Dec b) : ∃ (v : Bool) (e : Int), dec_Multiple a b v e ∧ ref03_Multiple a b v e := by
  rcases check_dec (wf_size ha) with ⟨oa, ca, ra⟩ | ⟨oa, ca, ra⟩
  rotate_left
  · exact ⟨false, 2, dec_Multiple_r0 ca (by decide), ref03_Multiple_r0 ra (by decide)⟩
  rcases check_dec (wf_size hb) with ⟨ob, cb, rb⟩ | ⟨ob, cb, rb⟩
  rotate_left
  · exact ⟨false, 2, dec_Multiple_r1 ca rfl cb (by decide), ref03_Multiple_r1 ra rfl rb (by decide)⟩
  obtain ⟨sb, tb⟩ := sgn_run b
  obtain ⟨sa, ta⟩ := sgn_run a
  by_cases h1 : sgn b ≤ 0
  · exact ⟨false, 20, dec_Multiple_r2 ca rfl cb rfl sb h1, ref03_Multiple_r2 ra rfl rb rfl tb h1⟩
  by_cases h2 : sgn a = 0
  · have h3 : a.Digits = (⟨#[]⟩ : ByteArray) := by
      refine empty_str.2 (Classical.byContradiction fun h => ?_)
      unfold sgn at h2
      rw [if_neg h] at h2
      split at h2 <;> omega
    exact ⟨true, 0, dec_Multiple_r3 ca rfl cb rfl sb h1 sa h2, ref03_Multiple_r3 ra rfl rb rfl tb h1 h3⟩
  have h3 : ¬ a.Digits = (⟨#[]⟩ : ByteArray) := fun h => h2 (by unfold sgn; rw [if_pos (empty_str.1 h)])
  by_cases h4 : a.Exp < b.Exp
  · exact ⟨false, 0, dec_Multiple_r4 ca rfl cb rfl sb h1 sa h2 h4, ref03_Multiple_r4 ra rfl rb rfl tb h1 h3 h4⟩
  obtain ⟨_, _, _, ea1, ea2⟩ := ok_figs oa
  obtain ⟨_, _, _, eb1, eb2⟩ := ok_figs ob
  obtain ⟨n, hn⟩ := Int.eq_ofNat_of_zero_le (show 0 ≤ a.Exp - b.Exp by omega)
  have w : w64 (a.Exp - b.Exp) := in64 (by omega) (by omega)
  obtain ⟨x, y, t, p, q, r, x', y', t', p', q', r', k1, k2, k3, k4, k5, l1, l2, l3, l4, l5, e, _, _⟩ := multiple_run oa ob h2 (by omega) n (by omega)
  rw [← hn] at k3 l3
  by_cases hr : (r.xs.length : Int) = 0
  · exact ⟨true, 0, dec_Multiple_r5 ca rfl cb rfl sb h1 sa h2 h4 k1 k2 w k3 k4 k5 hr, ref03_Multiple_r5 ra rfl rb rfl tb h1 h3 h4 l1 l2 w l3 l4 l5 (by rw [← e]; exact hr)⟩
  · exact ⟨false, 0, dec_Multiple_r6 ca rfl cb rfl sb h1 sa h2 h4 k1 k2 w k3 k4 k5 hr, ref03_Multiple_r6 ra rfl rb rfl tb h1 h3 h4 l1 l2 w l3 l4 l5 (by rw [← e]; exact hr)⟩
theorem multiples_true {a b : Dec} (ha : wf_Dec a) (hb : wf_Dec b) : law_DecMultiples a b true := by
  by_cases h1 : (a.Digits.size : Int) > 400
  · exact law_DecMultiples_r0 h1 heads_ok
  by_cases h2 : (b.Digits.size : Int) > 400
  · exact law_DecMultiples_r1 h1 h2 heads_ok
  obtain ⟨v, e, k1, k2⟩ := multiples_both ha hb
  cases v
  · exact law_DecMultiples_r3 h1 h2 k1 k2 rfl heads_ok
  · exact law_DecMultiples_r2 h1 h2 k1 k2 rfl heads_ok
end Go.Proofs.YtkkekfehjbbhoaaGreatDoor.V

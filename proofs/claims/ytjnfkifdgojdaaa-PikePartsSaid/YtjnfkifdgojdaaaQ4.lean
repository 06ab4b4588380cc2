/- The law PikeParts. -/import Derived.Test.YtjnfkifdgojdaaaMC
namespace Go.Proofs.Ytjnfkifdgojdaaa.V
open Go
set_option linter.unusedVariables false
set_option linter.unusedSimpArgs false
set_option linter.unusedSectionVars false
set_option linter.unnecessarySimpa false
theorem bool_of {a b : Bool} {P : Prop} (h1 : a = true ↔ P) (h2 : b = true ↔ P) : a = b := by
 cases a <;> cases b <;> simp_all
theorem parts_true {x y : Rx} {s : ByteArray} (hx : wf_Rx x) (hy : wf_Rx y) : law_PikeParts x y s true := by
 rcases size_all hx (m := 1000) (by omega) (by omega) with ⟨rx, sx⟩ | ⟨_, sx⟩
 ·rcases size_all hy (m := 1000) (by omega) (by omega) with ⟨ry, sy⟩ | ⟨_, sy⟩
  ·by_cases c1 : min (totR 1000 x + 1) (1000 + 1) > 500
   ·exact law_PikeParts_r2 sx sy rfl rfl c1 heads_true'
   by_cases c2 : min (totR 1000 y + 1) (1000 + 1) > 500
   ·exact law_PikeParts_r3 sx sy rfl rfl c1 c2 heads_true'
   by_cases c3 : (s.size : Int) > 200
   ·exact law_PikeParts_r4 sx sy rfl rfl c1 c2 c3 heads_true'
   have lx := levels_run 1000 (by omega) hx rx
   have ly := levels_run 1000 (by omega) hy ry
   by_cases c4 : (lvl 1000 x : Int) > 900
   ·exact law_PikeParts_r5 sx sy rfl rfl c1 c2 c3 lx c4 heads_true'
   by_cases c5 : (lvl 1000 y : Int) > 900
   ·exact law_PikeParts_r6 sx sy rfl rfl c1 c2 c3 lx c4 ly c5 heads_true'
   have rx' : rightR 999 x := (fuel_mono (s := []) _ 999 (right_lvl _ rx) (by omega)).1
   have ry' : rightR 999 y := (fuel_mono (s := []) _ 999 (right_lvl _ ry) (by omega)).1
   have tx := (fuel_mono (s := []) _ 1000 rx' (by omega)).2.1
   have ty := (fuel_mono (s := []) _ 1000 ry' (by omega)).2.1
   have t0 := totR_nonneg 999 rx'
   have t1 := totR_nonneg 999 ry'
   have ra : rightR 1000 (two 4 x y) := right_two (.inr rfl) rx' ry'
   have rs : rightR 1000 (two 3 x emptyX) := right_two (.inl rfl) rx' (right_empty 998)
   have ta : totR 1000 (two 4 x y) = totR 999 x + totR 999 y + 2 := tot_alt
   have ts : totR 1000 (two 3 x emptyX) = totR 999 x := by
    have : totR 1000 (two 3 x emptyX) = totR 999 x + totR 999 emptyX := tot_seq
    rw [this, show totR 999 emptyX = 0 from rfl, Int.add_zero]
   have bx : totR 1000 x + 1 ≤ 65536 := by omega
   have by_ : totR 1000 y + 1 ≤ 65536 := by omega
   have ba : totR 1000 (two 4 x y) + 1 ≤ 65536 := by omega
   have bs : totR 1000 (two 3 x emptyX) + 1 ≤ 65536 := by omega
   have ls : s.size < 100000000 := by omega
   obtain ⟨l1, g1, k1⟩ := compiled (most := 1000) hx rx (by omega) (by omega)
   obtain ⟨l2, g2, k2⟩ := compiled (most := 1000) hy ry (by omega) (by omega)
   obtain ⟨l3, g3, k3⟩ := compiled (most := 1010) (wf_two (.inr rfl) hx hy) ra (by omega) (by omega)
   obtain ⟨l4, g4, k4⟩ := compiled (most := 1010) (wf_two (.inl rfl) hx wf_empty) rs (by omega) (by omega)
   by_cases hg : GoodT (strInts s)
   ·rcases found_run (s := s) rx bx k1 ls with ⟨n, _⟩ | ⟨p, f1, n1, p1, q1, e1⟩
    ·exact absurd hg n
    rcases found_run (s := s) ry by_ k2 ls with ⟨n, _⟩ | ⟨p2, f2, n2, p2', q2, e2⟩
    ·exact absurd hg n
    rcases found_run (s := s) ra ba k3 ls with ⟨n, _⟩ | ⟨p3, f3, n3, p3', q3, e3⟩
    ·exact absurd hg n
    rcases found_run (s := s) rs bs k4 ls with ⟨n, _⟩ | ⟨p4, f4, n4, p4', q4, e4⟩
    ·exact absurd hg n
    obtain rfl := p2'.uniq p1
    obtain rfl := p3'.uniq p1
    obtain rfl := p4'.uniq p1
    have mx := fun i j => (fuel_mono (s := p4) _ 1000 rx' (by omega)).2.2 i j
    have my := fun i j => (fuel_mono (s := p4) _ 1000 ry' (by omega)).2.2 i j
    have e14 : f1 = f4 := by
     refine bool_of e1 (e4.trans ⟨?_, ?_⟩)
     ·rintro ⟨i, j, h1, h2⟩
      obtain ⟨k, h3, h4⟩ := M_seq.1 h2
      have : j = k := h4
      subst this
      exact ⟨i, j, h1, (mx i j).2 h3⟩
     ·rintro ⟨i, j, h1, h2⟩
      exact ⟨i, j, h1, M_seq.2 ⟨j, (mx i j).1 h2, rfl⟩⟩
    have e123 : f3 = (f1 || f2) := by
     refine bool_of e3 ?_
     rw [Bool.or_eq_true, e1, e2]
     constructor
     ·rintro (⟨i, j, h1, h2⟩ | ⟨i, j, h1, h2⟩)
      ·exact ⟨i, j, h1, M_alt.2 (.inl ((mx i j).1 h2))⟩
      ·exact ⟨i, j, h1, M_alt.2 (.inr ((my i j).1 h2))⟩
     ·rintro ⟨i, j, h1, h2⟩
      rcases M_alt.1 h2 with h | h
      ·exact .inl ⟨i, j, h1, (mx i j).2 h⟩
      ·exact .inr ⟨i, j, h1, (my i j).2 h⟩
    subst e14
    subst e123
    cases f1 <;> cases f2
    ·exact law_PikeParts_r26 sx sy rfl rfl c1 c2 c3 lx c4 ly c5 g1 g2 g3 g4 q1 q2 q3 q4 rfl rfl rfl rfl rfl heads_true'
    ·exact law_PikeParts_r19 sx sy rfl rfl c1 c2 c3 lx c4 ly c5 g1 g2 g3 g4 q1 q2 q3 q4 rfl rfl rfl rfl rfl heads_true'
    ·exact law_PikeParts_r13 sx sy rfl rfl c1 c2 c3 lx c4 ly c5 g1 g2 g3 g4 q1 q2 q3 q4 rfl rfl rfl rfl rfl heads_true'
    ·exact law_PikeParts_r8 sx sy rfl rfl c1 c2 c3 lx c4 ly c5 g1 g2 g3 g4 q1 q2 q3 q4 rfl rfl rfl rfl rfl heads_true'
   ·rcases found_run (s := s) rx bx k1 ls with ⟨_, q1⟩ | ⟨p, _, _, p1, _⟩
    ·rcases found_run (s := s) ry by_ k2 ls with ⟨_, q2⟩ | ⟨p, _, _, p1, _⟩
     ·rcases found_run (s := s) ra ba k3 ls with ⟨_, q3⟩ | ⟨p, _, _, p1, _⟩
      ·rcases found_run (s := s) rs bs k4 ls with ⟨_, q4⟩ | ⟨p, _, _, p1, _⟩
       ·exact law_PikeParts_r25 sx sy rfl rfl c1 c2 c3 lx c4 ly c5 g1 g2 g3 g4 q1 q2 q3 q4 rfl rfl rfl rfl (by decide) heads_true'
       ·exact absurd ⟨_, p1⟩ hg
      ·exact absurd ⟨_, p1⟩ hg
     ·exact absurd ⟨_, p1⟩ hg
    ·exact absurd ⟨_, p1⟩ hg
  ·exact law_PikeParts_r1 sx sy rfl (by decide) heads_true'
 ·rcases size_all hy (m := 1000) (by omega) (by omega) with ⟨ry, sy⟩ | ⟨_, sy⟩
  ·exact law_PikeParts_r0 sx sy (by decide) heads_true'
  ·exact law_PikeParts_r0 sx sy (by decide) heads_true'
end Go.Proofs.Ytjnfkifdgojdaaa.V

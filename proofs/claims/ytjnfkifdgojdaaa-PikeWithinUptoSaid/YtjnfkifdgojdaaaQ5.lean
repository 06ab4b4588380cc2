/- The law PikeWithin. -/import Derived.Test.YtjnfkifdgojdaaaMC
namespace Go.Proofs.Ytjnfkifdgojdaaa.V
open Go
set_option linter.unusedVariables false
set_option linter.unusedSimpArgs false
set_option linter.unusedSectionVars false
set_option linter.unnecessarySimpa false
def anyX : Rx := Rx.mk 2 ⟨2, [(Range.mk 0 1114111)], true⟩ 0 0 false ⟨0, [], true⟩
def everyX : Rx := Rx.mk 5 ⟨0, [], true⟩ 0 (-1) false ⟨6, [anyX], true⟩
theorem right_any (n : Nat) : rightR (n + 1) anyX := ⟨⟨.inl rfl, .inr ⟨rfl, rfl, rfl⟩, .one (by unfold okR top; decide), .inl ⟨.inr (.inl rfl), rfl⟩⟩, fun z hz => by cases hz⟩
theorem right_every (n : Nat) : rightR (n + 2) everyX := by
 refine ⟨⟨.inr rfl, .inl rfl, .nil, .inr (.inr ⟨rfl, rfl, by decide, by decide, by decide, by decide, by decide⟩)⟩, fun z hz => ?_⟩
 have hz' : z ∈ [anyX] := hz
 rw [List.mem_singleton.1 hz']
 exact right_any n
theorem wf_any : wf_Rx anyX := by
 refine .mk (x := anyX) (by show (Lit.int .i64 2).wf = true; decide) ⟨by show 1 * 16 ≤ 140737488351232; decide, fun y hy => ?_⟩ (by show (Lit.int .i64 0).wf = true; decide) (by show (Lit.int .i64 0).wf = true; decide) (by show 0 * 80 ≤ 140737488351232; decide) (fun z hz => (by cases hz))
 have hy' : y ∈ [Range.mk 0 1114111] := hy
 rw [List.mem_singleton.1 hy']
 exact ⟨by show (Lit.int .i64 0).wf = true; decide, by show (Lit.int .i64 1114111).wf = true; decide⟩
theorem wf_every : wf_Rx everyX := by
 refine .mk (x := everyX) (by show (Lit.int .i64 5).wf = true; decide) ⟨by show 0 * 16 ≤ 140737488351232; decide, fun y hy => (by cases hy)⟩ (by show (Lit.int .i64 0).wf = true; decide) (by show (Lit.int .i64 (-1)).wf = true; decide) (by show 1 * 80 ≤ 140737488351232; decide) (fun z hz => ?_)
 have hz' : z ∈ [anyX] := hz
 rw [List.mem_singleton.1 hz']
 exact wf_any
theorem GP.range {l p : List Int} (h : GP l p) : ∀ c ∈ p, 0 ≤ c ∧ c ≤ 1114111 := by
 induction h with
 | nil => intro c hc; cases hc
 | one h0 h1 _ ih =>
  intro c hc
  rcases List.mem_cons.1 hc with rfl | hc
  ·omega
  ·exact ih c hc
 | two h0 h1 hc0 _ ih =>
  intro c hc
  rcases List.mem_cons.1 hc with rfl | hc
  ·omega
  ·exact ih c hc
 | three h0 h1 hc0 hd _ ih =>
  intro c hc
  rcases List.mem_cons.1 hc with rfl | hc
  ·omega
  ·exact ih c hc
 | @four b c' d e l p h0 h1 hc0 hd he _ ih =>
  intro c hc
  rcases List.mem_cons.1 hc with rfl | hc
  ·unfold lowB highB at hc0
   split at hc0 <;> split at hc0 <;> omega
  ·exact ih c hc
theorem M_every {n : Nat} {p : List Int} (hp : ∀ c ∈ p, 0 ≤ c ∧ c ≤ 1114111) : ∀ (k i : Nat), i + k ≤ p.length → powM (M (n + 1) p anyX) k i (i + k)
 | 0, i, _ => rfl
 | k + 1, i, h => by
  refine ⟨i + 1, ?_, ?_⟩
  ·obtain ⟨c, hc⟩ : ∃ c, p[i]? = some c := ⟨_, List.getElem?_eq_getElem (by omega)⟩
   exact ⟨c, hc, ⟨Range.mk 0 1114111, List.mem_singleton.2 rfl, hp c (List.mem_of_getElem? hc)⟩, rfl⟩
  ·have := M_every (n := n) hp k (i + 1) (by omega)
   rwa [show i + 1 + k = i + (k + 1) by omega] at this
theorem within_true {x : Rx} {s : ByteArray} (hx : wf_Rx x) (hs : s.size ≤ 1048576) : law_PikeWithin x s true := by
 have hl := str_len s
 have szx : ∃ a b, nfa_Size x 1000 a b := by
  rcases size_all hx (m := 1000) (by omega) (by omega) with ⟨_, h⟩ | ⟨_, h⟩
  ·exact ⟨_, _, h⟩
  ·exact ⟨_, _, h⟩
 rcases ref_points_run (b := ⟨1, strInts s, false⟩) (bytes_str s) (by show (strInts s).length < _; omega) with ⟨p, t, hp, hr⟩ | ⟨hn, hr⟩
 ·rcases size_all hx (m := 1000) (by omega) (by omega) with ⟨rx, sx⟩ | ⟨_, sx⟩
  ·by_cases c1 : min (totR 1000 x + 1) (1000 + 1) > 500
   ·exact law_PikeWithin_r2 hr sx rfl rfl c1 heads_true'
   by_cases c2 : (p.length : Int) > 100
   ·exact law_PikeWithin_r3 hr sx rfl rfl c1 c2 heads_true'
   have lx := levels_run 1000 (by omega) hx rx
   by_cases c3 : (lvl 1000 x : Int) > 900
   ·exact law_PikeWithin_r4 hr sx rfl rfl c1 c2 lx c3 heads_true'
   have rx' : rightR 999 x := (fuel_mono (s := []) _ 999 (right_lvl _ rx) (by omega)).1
   have tx := (fuel_mono (s := []) _ 1000 rx' (by omega)).2.1
   have t0 := totR_nonneg 999 rx'
   have ry : rightR 1000 (two 3 everyX x) := right_two (.inl rfl) (right_every 997) rx'
   have ty : totR 1000 (two 3 everyX x) = 3 + totR 999 x := by
    have : totR 1000 (two 3 everyX x) = totR 999 everyX + totR 999 x := tot_seq
    rw [this, show totR 999 everyX = 3 from rfl]
   have wy := wf_two (.inl rfl) wf_every hx
   obtain ⟨l1, g1, k1⟩ := compiled (most := 1000) hx rx (by omega) (by omega)
   obtain ⟨l2, g2, k2⟩ := compiled (most := 1010) wy ry (by omega) (by omega)
   rcases found_run (s := s) rx (by omega) k1 (by omega) with ⟨n, _⟩ | ⟨p1, f, n, hp1, q1, e1⟩
   ·exact absurd ⟨_, hp⟩ n
   obtain rfl := hp1.uniq hp
   obtain ⟨f1, f2⟩ := comp_fits ry (by omega) k2
   obtain ⟨f3, f4⟩ := fits_okL f2 (by omega)
   rcases ends_run (l := ⟨4, l2 ++ [doneS], false⟩) (s := s) f3 (by simp; omega) (by omega) with ⟨o, _⟩ | ⟨_, g, _⟩ | ⟨_, p2, out, t2, hp2, q2, sp⟩
   ·exact absurd f4 o
   ·exact absurd ⟨_, hp⟩ g
   obtain rfl := hp2.uniq hp
   have hpl := specE_plc p2.length 0 [0] [] out (fun y => by rw [List.mem_singleton]; exact Iff.rfl) sp
   have hmem := Plc.mem p2.length 0 [] out hpl
   have key : f = true ↔ 0 < out.length := by
    rw [e1]
    constructor
    ·rintro ⟨i, j, h1, h2⟩
     have hd : Dn false (l2 ++ [doneS]) p2 j := by
      refine (dn_means ry (by omega) k2 j).2 ⟨0, .inr rfl, Nat.zero_le _, M_seq.2 ⟨i, ?_, ((fuel_mono (s := p2) _ 1000 rx' (by omega)).2.2 i j).1 h2⟩⟩
      have hpw := M_every (n := 997) hp.range i 0 (by omega)
      rw [Nat.zero_add] at hpw
      have hi : (0 : Int) ≤ (i : Int) := by omega
      exact ⟨i, hi, .inl (by decide), hpw⟩
     have := (hmem (j : Int)).2 (.inr ⟨j, Nat.zero_le _, by have := (M_le _ _ _ h1 h2).2; omega, rfl, hd⟩)
     exact List.length_pos_of_mem this
    ·intro h
     obtain ⟨v, hv⟩ := List.exists_mem_of_length_pos h
     rcases (hmem v).1 hv with h | ⟨j, _, _, _, hd⟩
     ·cases h
     ·obtain ⟨i, h1, h2, h3⟩ := (dn_means ry (by omega) k2 j).1 hd
      obtain ⟨k, h4, h5⟩ := M_seq.1 h3
      exact ⟨k, j, (M_le _ _ _ h2 h4).2, ((fuel_mono (s := p2) _ 1000 rx' (by omega)).2.2 k j).2 h5⟩
   cases f with
   | true => exact law_PikeWithin_r5 hr sx rfl rfl c1 c2 lx c3 g1 g2 q1 q2 rfl rfl rfl rfl (by have := key.1 rfl; show (out.length : Int) > 0; omega) heads_true'
   | false => exact law_PikeWithin_r6 hr sx rfl rfl c1 c2 lx c3 g1 g2 q1 q2 rfl rfl rfl rfl (by
     show ¬ (out.length : Int) > 0
     intro h
     have := key.2 (by omega)
     cases this) heads_true'
  ·exact law_PikeWithin_r1 hr sx rfl (by decide) heads_true'
 ·obtain ⟨a, b, h⟩ := szx
  exact law_PikeWithin_r0 hr h (by decide) heads_true'
end Go.Proofs.Ytjnfkifdgojdaaa.V

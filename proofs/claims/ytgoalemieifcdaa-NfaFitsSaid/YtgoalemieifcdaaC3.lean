/- Contracts: a tree's states as the program builds them; what is compiled. -/
import Derived.Test.YtgoalemieifcdaaC2
namespace Go.Proofs.Ytgoalemieifcdaa.V
open Go
set_option linter.unusedVariables false
set_option linter.unusedSimpArgs false
set_option linter.unusedSectionVars false
set_option linter.unnecessarySimpa false
theorem clone_run {s : SL Range} (h : s.xs.length < 8796093022207) : ∃ t, sl_Clone_Range s ⟨2, s.xs, t⟩ := by
  obtain ⟨e, xs, t⟩ := s
  cases xs with
  | nil => exact ⟨false, lim_x rfl⟩
  | cons a l =>
    have hl : (a :: l).length < 8796093022207 := h
    exact ⟨false, R_fn tab_30 rfl ⟨0, fun n hn => xFn_run (p := some _) [.b false, .ap (dl e_Range (a :: l)) (dl e_Range (a :: l)) (a :: l).length, .snap (slD 2 e_Range ⟨2, a :: l, false⟩) [2]] (by kernel_rfl) (And.intro (And.intro (show isNil .slice (.d (slD 2 e_Range (⟨e, a :: l, t⟩ : SL Range))) = some false from rfl) (ap_o e_Range [] (a :: l) 16 [] 0 rfl rfl rfl (elems_slD 2 e_Range (⟨e, a :: l, t⟩ : SL _)) (by omega))) (snap_row 2 e_Range false 2 (a :: l)))⟩⟩
theorem rpt_run {n : Nat} {x : Rx} {o : List State} {t : Bool} (hx : wf_Rx x) (h : rightR (n + 1) x) (k5 : x.Kind = 5) (hB : ∀ y ∈ x.Sub.xs, Bd (comp n) y (totR n y).toNat) (hl : o.length + (comp (n + 1) o.length x).length ≤ 1000000) :
    ∃ m o' t', rpt m t o x o' t' ∧ o'.map ps = o.map ps ++ comp (n + 1) o.length x := by
  obtain ⟨⟨_, _, _, h4⟩, hs⟩ := h
  obtain ⟨_, hl1, a1, a2, a3, a4, a5⟩ : x.Kind = 5 ∧ x.Sub.xs.length = 1 ∧ 0 ≤ x.Min ∧ x.Min ≤ 1000 ∧ -1 ≤ x.Max ∧ x.Max ≤ 1000 ∧ (x.Max < 0 ∨ x.Min ≤ x.Max) := by omega
  obtain ⟨y, hy⟩ := List.length_eq_one_iff.1 hl1
  have hm : y ∈ x.Sub.xs := by rw [hy]; simp
  have hsub : x.Sub.xs[Int.toNat 0]? = some y := by rw [hy]; rfl
  obtain ⟨_, _, hw⟩ := wfRx_small hx
  have t0 := totR_nonneg n (hs y hm)
  have hsz := size_run n (hw y hm) (hs y hm) (m := 1) (by omega) (by omega)
  have hBd := hB y hm
  generalize hT : (totR n y).toNat = T at hBd
  have hleast : (if min (totR n y) 1 = 0 then (0 : Int) else x.Min) = (leastC n x y : Int) := by
    unfold leastC
    by_cases c : totR n y = 0
    · rw [if_pos (by omega), if_pos c]; rfl
    · rw [if_neg (by omega), if_neg c]; omega
  have hle : leastC n x y ≤ 1000 := by unfold leastC; split <;> omega
  have hcomp : comp (n + 1) o.length x = timesC (comp n) y (leastC n x y) o.length ++ (if x.Max < 0 then starC (comp n) y (o.length + (timesC (comp n) y (leastC n x y) o.length).length)
          else optsC (comp n) y (o.length + (timesC (comp n) y (leastC n x y) o.length).length + (optsC (comp n) y 0 (x.Max - x.Min).toNat (o.length + (timesC (comp n) y (leastC n x y) o.length).length)).length) (x.Max - x.Min).toNat (o.length + (timesC (comp n) y (leastC n x y) o.length).length)) := by
    rw [comp, if_neg (by omega), if_neg (by omega), if_neg (by omega), if_pos k5, hy]
  rw [hcomp, List.length_append, timesC_len hBd.1] at hl
  obtain ⟨m1, z2, z0, g1, _, g3, g4⟩ := times_run (a := (leastC n x y : Int)) hBd hsub (by omega) (leastC n x y) o t false 0 (by omega) (by omega) (by omega)
  have lz := len_ps g4
  rw [timesC_len hBd.1] at lz
  rw [← hleast] at g1
  rw [hcomp, timesC_len hBd.1, ← lz]
  rw [← lz] at hl
  by_cases c : x.Max < 0
  · rw [if_pos c] at hl ⊢
    unfold starC at hl ⊢
    rw [List.length_cons, List.length_append, hBd.1, List.length_singleton] at hl
    rw [hBd.1]
    have f1 := fork_run (t := z0) (o := z2) (by omega)
    obtain ⟨m2, o2, t2, b1, b2⟩ := hBd.2 (z2 ++ [fk ((z2.length : Int) + 1) 0]) false (by simp; omega)
    have l2 := len_ps b2
    rw [hBd.1, List.length_append, List.length_singleton] at l2
    have f2 := jump_run (t := t2) (o := o2) (by omega)
    have e3 : (o2 ++ [fk ((o2.length : Int) + 1) 0]).map ps = (z2.map ps ++ ps (fk ((z2.length : Int) + 1) 0) :: comp n (z2.length + 1) y) ++ ps (fk ((o2.length : Int) + 1) 0) :: [] := by
      rw [List.map_append, b2]
      simp
    obtain ⟨o4, q1, q2, q3⟩ := jumpf_run (t := false) (to := (z2.length : Int)) (i := o2.length) e3 (by simp only [List.length_append, List.length_cons, List.length_map, hBd.1]; omega)
    have e4 : o4.map ps = z2.map ps ++ ps (fk ((z2.length : Int) + 1) 0) :: (comp n (z2.length + 1) y ++ [pfork z2.length z2.length]) := by
      rw [q3]
      simp only [List.append_assoc, List.cons_append]
      rfl
    obtain ⟨o5, r1, r2, r3⟩ := forkf_run (t := false) (i := z2.length) e4 (by simp)
    rw [q2] at r1
    refine ⟨true, o5, false, rpt_star hsub hsz g1 g3 c f1 b1 f2 q1 r1 (by omega), ?_⟩
    rw [r3, g4]
    have e5 : (o4.length : Int) = ((z2.length + T + 2 : Nat) : Int) := by rw [q2, List.length_append, List.length_singleton]; omega
    rw [e5]
    simp only [List.append_assoc]
    rfl
  · rw [if_neg c] at hl ⊢
    rw [optsC_len hBd.1] at hl
    rw [optsC_len hBd.1]
    have hk : x.Max - x.Min = (((x.Max - x.Min).toNat : Nat) : Int) := by omega
    obtain ⟨m2, o2, t2, ot, p1, p2, p3, p4⟩ := opts_run (a := x.Max - x.Min) hBd hsub (by omega) (x.Max - x.Min).toNat z2 z0 m1 [] true 0 (by omega) (by omega) (by rfl) (by rw [lz, Nat.add_assoc]; exact hl)
    rw [List.nil_append] at p1
    have l2 := len_ps p4
    rw [optsC_len hBd.1] at l2
    have hil : ∀ (k b : Nat), (optsI (comp n) y k b).length = k := by
      intro k
      induction k with
      | zero => intro b; rfl
      | succ k ih => intro b; rw [optsI, List.length_cons, ih]
    obtain ⟨o3, z, q1, q2, q3⟩ := patch_run (f := comp n) (y := y) (m := m2) (t := t2) (outs := optsI (comp n) y (x.Max - x.Min).toNat z2.length) (ot := ot) (e := z2.length + (x.Max - x.Min).toNat * (T + 1)) (by rw [hil]; omega) (x.Max - x.Min).toNat 0 o2 (z2.map ps) l2 (by rw [List.drop_zero, List.length_map]) (by rw [p4, List.length_map])
    refine ⟨m2, o3, t2, rpt_opts hsub hsz g1 g3 c (in64 (by omega) (by omega)) p1 p2 p3 q1 q2, ?_⟩
    rw [q3, List.length_map, g4, List.append_assoc]
/-! ### A row of parts -/
def S0 (m t : Bool) (o : List State) (l : SL Rx) (i : Int) (rs : Ex × XSt) : Prop := match m with
  | false => nfa_builder_build_l0 t o.length o l l.xs.length i rs
  | true => nfa_builder_build_l0_b t o.length o l l.xs.length i rs
def SX (m t : Bool) (o : List State) (l : SL Rx) (i : Int) : Ex × XSt := match m with
  | false => nfa_builder_build_l0_x0 t o.length o l l.xs.length i
  | true => nfa_builder_build_l0_x1 t o.length o l l.xs.length i
theorem S0_step {m m' t t' : Bool} {o r : List State} {l : SL Rx} {y : Rx} {b : Int} {rs : Ex × XSt} (h0 : b < l.xs.length) (hb : 0 ≤ b) (h1 : l.xs[b.toNat]? = some y) (h2 : bld m' t o y r t') (h3 : w64 (b + 1)) (hk : S0 (m || m') t' r l (b + 1) rs) : S0 m t o l b rs := by
  cases m <;> cases m'
  · obtain ⟨h2, rfl, hl⟩ := h2
    have hk' : nfa_builder_build_l0 t' r.length r l l.xs.length (b + 1) rs := hk
    rw [hl] at hk'
    exact nfa_builder_build_l0_s0 h0 hb h1 h2 h3 hk'
  · exact nfa_builder_build_l0_s1 h0 hb h1 h2 h3 hk
  · obtain ⟨h2, rfl, hl⟩ := h2
    have hk' : nfa_builder_build_l0_b t' r.length r l l.xs.length (b + 1) rs := hk
    rw [hl] at hk'
    exact nfa_builder_build_l0_b_s3 h0 hb h1 h2 h3 hk'
  · exact nfa_builder_build_l0_b_s4 h0 hb h1 h2 h3 hk
theorem S0_exit {m t : Bool} {o : List State} {l : SL Rx} {b : Int} (h0 : ¬ b < l.xs.length) : S0 m t o l b (SX m t o l b) := by
  cases m
  · exact nfa_builder_build_l0_e2 h0
  · exact nfa_builder_build_l0_b_e5 h0
theorem seq_run {f : Nat → Rx → List PS} {l : SL Rx} (hs : l.xs.length < 9000000000000) (hB : ∀ y ∈ l.xs, ∃ T, Bd f y T) : ∀ (rest : List Rx) (k : Nat) (o : List State) (t m : Bool), l.xs.drop k = rest → o.length + (seqC f o.length rest).length ≤ 1000000 →
    ∃ m' o' t' z, S0 m t o l k (SX m' t' o' l z) ∧ (m = true → m' = true) ∧ (m' = false → t' = t ∧ o'.length = o.length) ∧ o'.map ps = o.map ps ++ seqC f o.length rest
  | [], k, o, t, m, hd, hl => by
    have := drop_nil_le hd
    exact ⟨m, o, t, k, S0_exit (by omega), fun h => h, fun _ => ⟨rfl, rfl⟩, by simp [seqC]⟩
  | y :: rest, k, o, t, m, hd, hl => by
    obtain ⟨h1, h2, h3⟩ := at_drop hd
    have hy : y ∈ l.xs := List.mem_of_mem_drop (by rw [hd]; exact List.mem_cons_self ..)
    obtain ⟨T, hT⟩ := hB y hy
    rw [seqC, List.length_append, hT.1] at hl
    obtain ⟨m1, o1, t1, g1, g2⟩ := hT.2 o t (by omega)
    have l1 := len_ps g2
    rw [hT.1] at l1
    obtain ⟨m2, o2, t2, z, g3, g4, g5, g6⟩ := seq_run hs hB rest (k + 1) o1 t1 (m || m1) h2 (by rw [l1]; omega)
    refine ⟨m2, o2, t2, z, S0_step (by omega) (by omega) h1 g1 (in64 (by omega) (by omega)) g3, fun h => g4 (by rw [h]; rfl), fun h => ?_, ?_⟩
    · have hm : (m || m1) = false := by
        cases hh : (m || m1) with
        | false => rfl
        | true => rw [g4 hh] at h; cases h
      have hm1 : m1 = false := by cases m <;> cases m1 <;> simp_all
      subst hm1
      obtain ⟨_, rfl, e⟩ := g1
      obtain ⟨e1, e2⟩ := g5 h
      exact ⟨e1, by omega⟩
    · rw [g6, g2, l1]
      simp only [seqC, hT.1, List.append_assoc]
/-! ### A choice -/
def altZ (f : Nat → Rx → List PS) : Nat → List Rx → List PS
  | _, [] => []
  | b, [y] => f b y
  | b, y :: z :: r => pfork (b + 1) (b + (f (b + 1) y).length + 2) :: (f (b + 1) y ++ pfork (b + (f (b + 1) y).length + 2) 0 :: altZ f (b + (f (b + 1) y).length + 2) (z :: r))
def altI (f : Nat → Rx → List PS) : Nat → List Rx → List Int
  | _, [] => []
  | _, [_] => []
  | b, y :: z :: r => ((b + 1 + (f (b + 1) y).length : Nat) : Int) :: altI f (b + (f (b + 1) y).length + 2) (z :: r)
theorem altZ_len (f : Nat → Rx → List PS) (e : Nat) : ∀ (l : List Rx) (b : Nat), (altZ f b l).length = (altC f e b l).length
  | [], b => rfl
  | [y], b => rfl
  | y :: z :: r, b => by simp only [altZ, altC, List.length_cons, List.length_append, altZ_len f e (z :: r)]
def A1 (m t : Bool) (o : List State) (x : Rx) (outs : List Int) (ot : Bool) (i : Int) (rs : Ex × XSt) : Prop := match m with
  | false => nfa_builder_build_l1 t o.length o x outs ot outs.length x.Sub x.Sub.xs.length i rs
  | true => nfa_builder_build_l1_b t o.length x outs o ot outs.length x.Sub x.Sub.xs.length i rs
def AX (m m' t : Bool) (o : List State) (x : Rx) (outs : List Int) (y : Rx) (ot : Bool) : Ex × XSt := match m, m' with
  | false, false => nfa_builder_build_l1_x0 t o.length o x outs y ot outs.length
  | false, true => nfa_builder_build_l1_x1 t o.length x outs y o ot outs.length
  | true, false => nfa_builder_build_l1_x3 t o.length x outs o y ot outs.length
  | true, true => nfa_builder_build_l1_x4 t o.length x outs y o ot outs.length
theorem A1_last {m m' t t' : Bool} {o r : List State} {x y : Rx} {outs : List Int} {ot : Bool} {i : Int} (h0 : i < x.Sub.xs.length) (hi : 0 ≤ i) (h1 : x.Sub.xs[i.toNat]? = some y) (hw : w64 ((x.Sub.xs.length : Int) - 1)) (he : i = (x.Sub.xs.length : Int) - 1) (h2 : bld m' t o y r t') : A1 m t o x outs ot i (AX m m' t' r x outs y ot) := by
  cases m <;> cases m'
  · obtain ⟨h2, rfl, hl⟩ := h2
    show nfa_builder_build_l1 t' o.length o x outs ot outs.length x.Sub x.Sub.xs.length i (nfa_builder_build_l1_x0 t' r.length r x outs y ot outs.length)
    rw [hl]
    exact nfa_builder_build_l1_e0 h0 hi h1 hw he h2
  · exact nfa_builder_build_l1_e1 h0 hi h1 hw he h2
  · obtain ⟨h2, rfl, hl⟩ := h2
    show nfa_builder_build_l1_b t' o.length x outs o ot outs.length x.Sub x.Sub.xs.length i (nfa_builder_build_l1_x3 t' r.length x outs r y ot outs.length)
    rw [hl]
    exact nfa_builder_build_l1_b_e5 h0 hi h1 hw he h2
  · exact nfa_builder_build_l1_b_e6 h0 hi h1 hw he h2
theorem A1_step {m m' t t1 t2 t3 : Bool} {o o1 o2 o3 o4 : List State} {x y : Rx} {outs : List Int} {ot : Bool} {i p j : Int} {rs : Ex × XSt} (h0 : i < x.Sub.xs.length) (hi : 0 ≤ i) (h1 : x.Sub.xs[i.toNat]? = some y) (hw : w64 ((x.Sub.xs.length : Int) - 1)) (he : ¬ i = (x.Sub.xs.length : Int) - 1)
    (hf : nfa_builder_fork_m t o.length o p o1 o1.length t1) (h2 : bld m' t1 o1 y o2 t2) (hj : nfa_builder_jump_m t2 o2.length o2 j o3 o3.length t3) (hb : (outs.length + 1) * 8 ≤ 140737488355328) (hp : nfa_builder_fork_f1 t3 o3.length o3 p o4) (hl4 : o4.length = o3.length) (h3 : w64 (i + 1)) (hk : A1 true t3 o4 x (outs ++ [j]) false (i + 1) rs) : A1 m t o x outs ot i rs := by
  have tk : outs.take outs.length = outs := List.take_length ..
  have hk' : nfa_builder_build_l1_b t3 o4.length x (outs ++ [j]) o4 false (outs ++ [j]).length x.Sub x.Sub.xs.length (i + 1) rs := hk
  rw [show (outs ++ [j]).length = outs.length + 1 by simp, hl4] at hk'
  cases m <;> cases m'
  · obtain ⟨h2, rfl, hl⟩ := h2
    rw [hl] at hj
    exact nfa_builder_build_l1_s2 h0 hi h1 hw he hf h2 hj (Nat.le_refl _) hb hp h3 (by rw [tk]; exact hk')
  · exact nfa_builder_build_l1_s3 h0 hi h1 hw he hf h2 hj (Nat.le_refl _) hb hp h3 (by rw [tk]; exact hk')
  · obtain ⟨h2, rfl, hl⟩ := h2
    rw [hl] at hj
    exact nfa_builder_build_l1_b_s7 h0 hi h1 hw he hf h2 hj (Nat.le_refl _) hb hp h3 (by rw [tk]; exact hk')
  · exact nfa_builder_build_l1_b_s8 h0 hi h1 hw he hf h2 hj (Nat.le_refl _) hb hp h3 (by rw [tk]; exact hk')
theorem alt_run {f : Nat → Rx → List PS} {x : Rx} (hs : x.Sub.xs.length < 9000000000000) (hB : ∀ y ∈ x.Sub.xs, ∃ T, Bd f y T) : ∀ (rest : List Rx) (k : Nat) (o : List State) (t m : Bool) (outs : List Int) (ot : Bool), rest ≠ [] → x.Sub.xs.drop k = rest → outs.length ≤ k → o.length + (altZ f o.length rest).length ≤ 1000000 →
    ∃ m1 m2 o' t' ot' y', A1 m t o x outs ot k (AX m1 m2 t' o' x (outs ++ altI f o.length rest) y' ot') ∧ (m = true → m1 = true) ∧ (m1 = false → m2 = false → t' = t ∧ o'.length = o.length) ∧ o'.map ps = o.map ps ++ altZ f o.length rest
  | [], k, o, t, m, outs, ot, hne, hd, ho, hl => absurd rfl hne
  | [y], k, o, t, m, outs, ot, hne, hd, ho, hl => by
    obtain ⟨h1, h2, h3⟩ := at_drop hd
    have h4 := drop_nil_le h2
    have hy : y ∈ x.Sub.xs := List.mem_of_mem_drop (by rw [hd]; exact List.mem_cons_self ..)
    obtain ⟨T, hT⟩ := hB y hy
    simp only [altZ, hT.1] at hl
    obtain ⟨m1, o1, t1, g1, g2⟩ := hT.2 o t hl
    refine ⟨m, m1, o1, t1, ot, y, ?_, fun h => h, fun _ h => ?_, by rw [g2]; simp only [altZ]⟩
    · rw [altI, List.append_nil]
      exact A1_last (by omega) (by omega) h1 (in64 (by omega) (by omega)) (by omega) g1
    · subst h
      exact ⟨g1.2.1, g1.2.2⟩
  | y :: z :: r, k, o, t, m, outs, ot, hne, hd, ho, hl => by
    obtain ⟨h1, h2, h3⟩ := at_drop hd
    obtain ⟨_, _, h5⟩ := at_drop h2
    have hy : y ∈ x.Sub.xs := List.mem_of_mem_drop (by rw [hd]; exact List.mem_cons_self ..)
    obtain ⟨T, hT⟩ := hB y hy
    simp only [altZ, hT.1, List.length_cons, List.length_append] at hl
    have f1 := fork_run (t := t) (o := o) (by omega)
    obtain ⟨m2, o2, t2, b1, b2⟩ := hT.2 (o ++ [fk ((o.length : Int) + 1) 0]) false (by simp; omega)
    have l2 := len_ps b2
    rw [hT.1, List.length_append, List.length_singleton] at l2
    have f2 := jump_run (t := t2) (o := o2) (by omega)
    have e3 : (o2 ++ [fk ((o2.length : Int) + 1) 0]).map ps = o.map ps ++ ps (fk ((o.length : Int) + 1) 0) :: (f (o.length + 1) y ++ [ps (fk ((o2.length : Int) + 1) 0)]) := by
      rw [List.map_append, b2]
      simp
    obtain ⟨o4, q1, q2, q3⟩ := forkf_run (t := false) (i := o.length) e3 (by simp)
    have l3 : (o2 ++ [fk ((o2.length : Int) + 1) 0]).length = o.length + T + 2 := by rw [List.length_append, List.length_singleton]; omega
    obtain ⟨n1, n2, o5, t5, ot5, y5, r1, r2, r3, r4⟩ := alt_run hs hB (z :: r) (k + 1) o4 false true (outs ++ [(o2.length : Int)]) false (by simp) h2 (by simp; omega) (by rw [q2, l3]; omega)
    have hn1 := r2 rfl
    subst hn1
    refine ⟨true, n2, o5, t5, ot5, y5, ?_, fun _ => rfl, fun h => (by cases h), ?_⟩
    · refine A1_step (by omega) (by omega) h1 (in64 (by omega) (by omega)) (by omega) f1 b1 f2 (by omega) q1 q2 (in64 (by omega) (by omega)) ?_
      rw [altI, hT.1, show ((o.length + 1 + T : Nat) : Int) = (o2.length : Int) by omega, show outs ++ (o2.length : Int) :: altI f (o.length + T + 2) (z :: r) = (outs ++ [(o2.length : Int)]) ++ altI f (o.length + T + 2) (z :: r) by simp, ← l3, ← q2]
      exact r1
    · rw [r4, q3, q2, l3, altZ, hT.1]
      simp only [List.append_assoc, List.cons_append, List.nil_append]
      rw [show ps (fk ((o2.length : Int) + 1) 0) = pfork (o.length + T + 2) 0 by
        unfold ps fk pfork
        rw [show (o2.length : Int) + 1 = ((o.length + T + 2 : Nat) : Int) by omega]
        rfl]
      rfl
def A2 (m t : Bool) (o : List State) (outs : List Int) (ot : Bool) (a b : Int) (rs : Ex × XSt) : Prop := match m with
  | false => nfa_builder_build_l2 t o.length o outs ot outs.length a b rs
  | true => nfa_builder_build_l2v1 t o.length outs o ot outs.length a b rs
def AX2 (m t : Bool) (o : List State) (outs : List Int) (ot : Bool) (a b : Int) : Ex × XSt := match m with
  | false => nfa_builder_build_l2_x0 t o.length o outs ot outs.length a b
  | true => nfa_builder_build_l2v1_x0 t o.length outs o ot outs.length a b
theorem A2_step {m t : Bool} {o r : List State} {outs : List Int} {ot : Bool} {a b i : Int} {rs : Ex × XSt} (h0 : b < a) (h1 : 0 ≤ b) (h2 : b.toNat < outs.length) (h3 : outs[b.toNat]? = some i) (h4 : nfa_builder_jump_f1 t o.length o o.length i r) (hl : r.length = o.length) (h5 : w64 (b + 1)) (hk : A2 m t r outs ot a (b + 1) rs) : A2 m t o outs ot a b rs := by
  cases m
  · have hk' : nfa_builder_build_l2 t r.length r outs ot outs.length a (b + 1) rs := hk
    rw [hl] at hk'
    exact nfa_builder_build_l2_s0 h0 h1 h2 h3 h4 h5 hk'
  · have hk' : nfa_builder_build_l2v1 t r.length outs r ot outs.length a (b + 1) rs := hk
    rw [hl] at hk'
    exact nfa_builder_build_l2v1_s0 h0 h1 h2 h3 h4 h5 hk'
theorem A2_exit {m t : Bool} {o : List State} {outs : List Int} {ot : Bool} {a b : Int} (h0 : ¬ b < a) : A2 m t o outs ot a b (AX2 m t o outs ot a b) := by
  cases m
  · exact nfa_builder_build_l2_e1 h0
  · exact nfa_builder_build_l2v1_e1 h0
theorem patchA_run {f : Nat → Rx → List PS} {m t : Bool} {outs : List Int} {ot : Bool} {e : Nat} (hs : outs.length < 9000000000000) : ∀ (l : List Rx) (j : Nat) (o : List State) (pre : List PS), o.length = e → outs.drop j = altI f pre.length l → o.map ps = pre ++ altZ f pre.length l →
    ∃ o' z, A2 m t o outs ot outs.length j (AX2 m t o' outs ot outs.length z) ∧ o'.length = o.length ∧ o'.map ps = pre ++ altC f e pre.length l
  | [], j, o, pre, he, hd, ho => by
    have := drop_nil_le hd
    exact ⟨o, j, A2_exit (by omega), rfl, by simpa [altC, altZ] using ho⟩
  | [y], j, o, pre, he, hd, ho => by
    have := drop_nil_le hd
    exact ⟨o, j, A2_exit (by omega), rfl, by simpa [altC, altZ] using ho⟩
  | y :: w :: r, j, o, pre, he, hd, ho => by
    rw [altI] at hd
    obtain ⟨h1, h2, h3⟩ := at_drop hd
    rw [altZ] at ho
    have ho' : o.map ps = (pre ++ pfork (pre.length + 1) (pre.length + (f (pre.length + 1) y).length + 2) :: f (pre.length + 1) y) ++ pfork (pre.length + (f (pre.length + 1) y).length + 2) 0 :: altZ f (pre.length + (f (pre.length + 1) y).length + 2) (w :: r) := by
      rw [ho]; simp
    obtain ⟨o1, g1, g2, g3⟩ := jumpf_run (t := t) (to := (o.length : Int)) (i := pre.length + 1 + (f (pre.length + 1) y).length) ho' (by simp; omega)
    have e3 : (pre ++ pfork (pre.length + 1) (pre.length + (f (pre.length + 1) y).length + 2) :: (f (pre.length + 1) y ++ [pfork e e])).length = pre.length + (f (pre.length + 1) y).length + 2 := by simp; omega
    obtain ⟨o2, z, k1, k2, k3⟩ := patchA_run (m := m) (t := t) (ot := ot) (e := e) hs (w :: r) (j + 1) o1 (pre ++ pfork (pre.length + 1) (pre.length + (f (pre.length + 1) y).length + 2) :: (f (pre.length + 1) y ++ [pfork e e])) (by omega) (by rw [h2, e3]) (by
      rw [g3, e3, he]
      simp [pfork])
    refine ⟨o2, z, A2_step (by omega) (by omega) (by omega) h1 g1 g2 (in64 (by omega) (by omega)) k1, by omega, ?_⟩
    rw [k3, e3, altC]
    simp
theorem altI_len (f : Nat → Rx → List PS) : ∀ (l : List Rx) (b : Nat), (altI f b l).length ≤ l.length
  | [], b => Nat.le_refl _
  | [y], b => Nat.zero_le _
  | y :: z :: r, b => by
    rw [altI, List.length_cons]
    have := altI_len f (z :: r) (b + (f (b + 1) y).length + 2)
    simp only [List.length_cons] at this ⊢
    omega
theorem bld_alt {m1 m2 t t2 ot : Bool} {o o2 o3 : List State} {x y : Rx} {outs : List Int} {z : Int} (k4 : x.Kind = 4) (h1 : A1 false t o x [] true 0 (AX m1 m2 t2 o2 x outs y ot)) (hz : m1 = false → m2 = false → t2 = t ∧ o2.length = o.length)
    (h2 : A2 (m1 || m2) t2 o2 outs ot outs.length 0 (AX2 (m1 || m2) t2 o3 outs ot outs.length z)) (hl : o3.length = o2.length) : bld (m1 || m2) t o x o3 t2 := by
  have n2 : ¬ x.Kind = 2 := by omega
  have n3 : ¬ x.Kind = 3 := by omega
  have n6 : ¬ x.Kind = 6 := by omega
  have n7 : ¬ x.Kind = 7 := by omega
  have n8 : ¬ x.Kind = 8 := by omega
  have n9 : ¬ x.Kind = 9 := by omega
  cases m1 <;> cases m2
  · obtain ⟨rfl, e⟩ := hz rfl rfl
    have h1' : nfa_builder_build_l1 t2 o.length o x [] true 0 x.Sub x.Sub.xs.length 0 (nfa_builder_build_l1_x0 t2 o2.length o2 x outs y ot outs.length) := h1
    have h2' : nfa_builder_build_l2 t2 o2.length o2 outs ot outs.length outs.length 0 (nfa_builder_build_l2_x0 t2 o3.length o3 outs ot outs.length outs.length z) := h2
    rw [hl] at h2'
    rw [e] at h1' h2'
    exact ⟨nfa_builder_build_r7 n2 n6 n7 n8 n9 n3 k4 h1' h2', rfl, by omega⟩
  · have h2' : nfa_builder_build_l2v1 t2 o2.length outs o2 ot outs.length outs.length 0 (nfa_builder_build_l2v1_x0 t2 o3.length outs o3 ot outs.length outs.length z) := h2
    show nfa_builder_build_m t o.length o x o3 o3.length t2
    rw [hl] at h2' ⊢
    exact nfa_builder_build_r8 n2 n6 n7 n8 n9 n3 k4 h1 h2'
  · have h2' : nfa_builder_build_l2v1 t2 o2.length outs o2 ot outs.length outs.length 0 (nfa_builder_build_l2v1_x0 t2 o3.length outs o3 ot outs.length outs.length z) := h2
    show nfa_builder_build_m t o.length o x o3 o3.length t2
    rw [hl] at h2' ⊢
    exact nfa_builder_build_r10 n2 n6 n7 n8 n9 n3 k4 h1 h2'
  · have h2' : nfa_builder_build_l2v1 t2 o2.length outs o2 ot outs.length outs.length 0 (nfa_builder_build_l2v1_x0 t2 o3.length outs o3 ot outs.length outs.length z) := h2
    show nfa_builder_build_m t o.length o x o3 o3.length t2
    rw [hl] at h2' ⊢
    exact nfa_builder_build_r11 n2 n6 n7 n8 n9 n3 k4 h1 h2'
/-! ### Any tree -/
theorem one_run {t : Bool} {o : List State} {s : State} {b : Nat} (h : o.length < 1000000000) (hb : s.B = 0) : ∃ o' t', nfa_builder_put_m t o.length o s o.length o' o'.length t' ∧ o'.map ps = o.map ps ++ [⟨s.Kind, s.Ranges.xs, ((o.length + 1 : Nat) : Int), 0⟩] := by
  refine ⟨_, _, put_run h, ?_⟩
  rw [List.map_append, List.map_cons, List.map_nil]
  unfold ps
  rw [hb]
  rfl
theorem build_run : ∀ (n : Nat) {x : Rx}, wf_Rx x → rightR n x → Bd (comp n) x (totR n x).toNat
  | 0, x, hx, h => h.elim
  | n + 1, x, hx, h => by
    obtain ⟨w1, w2, w3⟩ := wfRx_small hx
    have hB : ∀ y ∈ x.Sub.xs, Bd (comp n) y (totR n y).toNat := fun y hy => build_run n (w3 y hy) (h.2 y hy)
    refine ⟨fun b => comp_len' h b, fun o t hl => ?_⟩
    rw [← comp_len' h o.length] at hl
    have h4 := h.1.2.2.2
    by_cases k2 : x.Kind = 2
    · obtain ⟨ct, hc⟩ := clone_run (s := x.Ranges) (by unfold small at w1; omega)
      obtain ⟨o', t', g1, g2⟩ := one_run (b := 0) (t := t) (o := o) (s := State.mk 1 ⟨2, x.Ranges.xs, ct⟩ 0 0) (by omega) rfl
      exact ⟨true, o', t', nfa_builder_build_r0 k2 hc g1, by rw [g2, comp, if_pos k2]⟩
    by_cases k6 : x.Kind = 6
    · obtain ⟨o', t', g1, g2⟩ := one_run (b := 0) (t := t) (o := o) (s := State.mk 3 ⟨0, [], true⟩ 0 0) (by omega) rfl
      exact ⟨true, o', t', nfa_builder_build_r1 k2 k6 g1, by rw [g2]; simp [comp, k6]⟩
    by_cases k7 : x.Kind = 7
    · obtain ⟨o', t', g1, g2⟩ := one_run (b := 0) (t := t) (o := o) (s := State.mk 4 ⟨0, [], true⟩ 0 0) (by omega) rfl
      exact ⟨true, o', t', nfa_builder_build_r2 k2 k6 k7 g1, by rw [g2]; simp [comp, k7]⟩
    by_cases k8 : x.Kind = 8
    · obtain ⟨o', t', g1, g2⟩ := one_run (b := 0) (t := t) (o := o) (s := State.mk 5 ⟨0, [], true⟩ 0 0) (by omega) rfl
      exact ⟨true, o', t', nfa_builder_build_r3 k2 k6 k7 k8 g1, by rw [g2]; simp [comp, k8]⟩
    by_cases k9 : x.Kind = 9
    · obtain ⟨o', t', g1, g2⟩ := one_run (b := 0) (t := t) (o := o) (s := State.mk 6 ⟨0, [], true⟩ 0 0) (by omega) rfl
      exact ⟨true, o', t', nfa_builder_build_r4 k2 k6 k7 k8 k9 g1, by rw [g2]; simp [comp, k9]⟩
    by_cases k3 : x.Kind = 3
    · have ec : comp (n + 1) o.length x = seqC (comp n) o.length x.Sub.xs := by rw [comp, if_neg k2, if_pos k3]
      rw [ec] at hl ⊢
      obtain ⟨m, o', t', z, g1, g2, g3, g4⟩ := seq_run (f := comp n) w2 (fun y hy => ⟨_, hB y hy⟩) x.Sub.xs 0 o t false (by simp) hl
      refine ⟨m, o', t', ?_, g4⟩
      cases m with
      | false =>
        obtain ⟨rfl, e⟩ := g3 rfl
        have g1' : nfa_builder_build_l0 t' o.length o x.Sub x.Sub.xs.length 0 (nfa_builder_build_l0_x0 t' o'.length o' x.Sub x.Sub.xs.length z) := g1
        rw [e] at g1'
        exact ⟨nfa_builder_build_r5 k2 k6 k7 k8 k9 k3 g1', rfl, e⟩
      | true => exact nfa_builder_build_r6 k2 k6 k7 k8 k9 k3 g1
    by_cases k4 : x.Kind = 4
    · have ec : comp (n + 1) o.length x = altC (comp n) (o.length + (altC (comp n) 0 o.length x.Sub.xs).length) o.length x.Sub.xs := by rw [comp, if_neg k2, if_neg k3, if_pos k4]
      have hne : x.Sub.xs ≠ [] := fun e => by rw [e] at h4; simp at h4; omega
      have el := altZ_len (comp n) 0 x.Sub.xs o.length
      rw [ec, altC_len_e (comp n) _ 0, ← el] at hl
      rw [ec]
      obtain ⟨m1, m2, o2, t2, ot, y, g1, _, g3, g4⟩ := alt_run (f := comp n) w2 (fun y hy => ⟨_, hB y hy⟩) x.Sub.xs 0 o t false [] true hne (by simp) (by simp) hl
      rw [List.nil_append] at g1
      have l2 := len_ps g4
      obtain ⟨o3, z, q1, q2, q3⟩ := patchA_run (f := comp n) (m := m1 || m2) (t := t2) (outs := altI (comp n) o.length x.Sub.xs) (ot := ot) (e := o.length + (altC (comp n) 0 o.length x.Sub.xs).length) (by
        have := altI_len (comp n) x.Sub.xs o.length
        omega) x.Sub.xs 0 o2 (o.map ps) (by rw [l2, el]) (by rw [List.drop_zero, List.length_map]) (by rw [g4, List.length_map])
      exact ⟨m1 || m2, o3, t2, bld_alt k4 g1 g3 q1 q2, by rw [q3, List.length_map]⟩
    by_cases k5 : x.Kind = 5
    · obtain ⟨m, o', t', g1, g2⟩ := rpt_run (t := t) hx h k5 hB hl
      refine ⟨m, o', t', ?_, g2⟩
      cases m with
      | false => exact ⟨nfa_builder_build_r13 k2 k6 k7 k8 k9 k3 k4 k5 g1.1, g1.2⟩
      | true => exact nfa_builder_build_r14 k2 k6 k7 k8 k9 k3 k4 k5 g1
    · exact ⟨false, o, t, ⟨nfa_builder_build_r15 k2 k6 k7 k8 k9 k3 k4 k5, rfl, rfl⟩, by simp [comp, k2, k3, k4, k5, k6, k7, k8, k9]⟩
end Go.Proofs.Ytgoalemieifcdaa.V

/- Contracts: a builder's states; what is compiled. -/
import Derived.Test.YtgoalemieifcdaaC1
namespace Go.Proofs.Ytgoalemieifcdaa.V
open Go
set_option linter.unusedVariables false
set_option linter.unusedSimpArgs false
set_option linter.unusedSectionVars false
set_option linter.unnecessarySimpa false
/-! ### In either form: the row moved or not -/
def bld (m t : Bool) (o : List State) (x : Rx) (o' : List State) (t' : Bool) : Prop := match m with
  | true => nfa_builder_build_m t o.length o x o' o'.length t'
  | false => nfa_builder_build t o.length o x o' ∧ t' = t ∧ o'.length = o.length
def rpt (m t : Bool) (o : List State) (x : Rx) (o' : List State) (t' : Bool) : Prop := match m with
  | true => nfa_builder_repeat_m t o.length o x o' o'.length t'
  | false => nfa_builder_repeat t o.length o x o' ∧ t' = t ∧ o'.length = o.length
theorem put_run {t : Bool} {o : List State} {s : State} (h : o.length < 1000000000) : nfa_builder_put_m t o.length o s o.length (o ++ [State.mk s.Kind s.Ranges ((o.length : Int) + 1) s.B]) (o ++ [State.mk s.Kind s.Ranges ((o.length : Int) + 1) s.B]).length false := by
  have := nfa_builder_put_r0 (bst := t) (bsn := o.length) (o1 := o) (s := s) (in64 (by omega) (by omega)) (by omega) (Nat.le_refl _)
  rwa [List.take_length] at this
def fk (a : Int) (b : Int) : State := ⟨2, ⟨0, [], true⟩, a, b⟩
theorem fork_run {t : Bool} {o : List State} (h : o.length < 1000000000) : nfa_builder_fork_m t o.length o o.length (o ++ [fk ((o.length : Int) + 1) 0]) (o ++ [fk ((o.length : Int) + 1) 0]).length false := nfa_builder_fork_r0 (put_run h)
theorem jump_run {t : Bool} {o : List State} (h : o.length < 1000000000) : nfa_builder_jump_m t o.length o o.length (o ++ [fk ((o.length : Int) + 1) 0]) (o ++ [fk ((o.length : Int) + 1) 0]).length false := nfa_builder_jump_r0 (put_run h)
/-- A state's second way, or both, written. -/
theorem forkf_run {t : Bool} {o : List State} {i : Nat} {pre post : List PS} {p : PS} (h : o.map ps = pre ++ p :: post) (hi : pre.length = i) :
    ∃ o', nfa_builder_fork_f1 t o.length o (i : Int) o' ∧ o'.length = o.length ∧ o'.map ps = pre ++ ⟨p.k, p.r, p.a, (o.length : Int)⟩ :: post := by
  have hl : i < o.length := by
    have := congrArg List.length h
    simp at this
    omega
  obtain ⟨y, hy⟩ : ∃ y, o[i]? = some y := ⟨_, List.getElem?_eq_getElem hl⟩
  have hp : ps y = p := by
    have h1 : (o.map ps)[i]? = some (ps y) := by rw [List.getElem?_map, hy]; rfl
    rw [h, List.getElem?_append_right (by omega), hi] at h1
    simpa using h1.symm
  refine ⟨_, nfa_builder_fork_f1_r0 (y0 := y) (by omega) (by rw [Int.toNat_natCast]; exact hy) (by rw [Int.toNat_natCast]; exact hl), by simp, ?_⟩
  rw [Int.toNat_natCast, List.map_set, h, List.set_append_right _ _ (by omega), hi, Nat.sub_self, List.set_cons_zero]
  subst hp
  rfl
theorem jumpf_run {t : Bool} {o : List State} {i : Nat} {to : Int} {pre post : List PS} {p : PS} (h : o.map ps = pre ++ p :: post) (hi : pre.length = i) :
    ∃ o', nfa_builder_jump_f1 t o.length o to (i : Int) o' ∧ o'.length = o.length ∧ o'.map ps = pre ++ ⟨p.k, p.r, to, to⟩ :: post := by
  have hl : i < o.length := by
    have := congrArg List.length h
    simp at this
    omega
  obtain ⟨y, hy⟩ : ∃ y, o[i]? = some y := ⟨_, List.getElem?_eq_getElem hl⟩
  have hp : ps y = p := by
    have h1 : (o.map ps)[i]? = some (ps y) := by rw [List.getElem?_map, hy]; rfl
    rw [h, List.getElem?_append_right (by omega), hi] at h1
    simpa using h1.symm
  refine ⟨_, nfa_builder_jump_f1_r0 (y0 := y) (y1 := State.mk y.Kind y.Ranges to y.B) (by omega) (by rw [Int.toNat_natCast]; exact hy) (by rw [Int.toNat_natCast]; exact hl) (by rw [Int.toNat_natCast, List.getElem?_set_self hl]), by simp, ?_⟩
  rw [Int.toNat_natCast, List.map_set, List.map_set, h, List.set_append_right _ _ (by omega), hi, Nat.sub_self, List.set_cons_zero, List.set_append_right _ _ (by omega), hi, Nat.sub_self, List.set_cons_zero]
  subst hp
  rfl
/-- What building a part does. -/
def Bd (f : Nat → Rx → List PS) (y : Rx) (T : Nat) : Prop := (∀ b, (f b y).length = T) ∧ ∀ (o : List State) (t : Bool), o.length + T ≤ 1000000 → ∃ m o' t', bld m t o y o' t' ∧ o'.map ps = o.map ps ++ f o.length y
theorem len_ps {o o' : List State} {l : List PS} (h : o'.map ps = o.map ps ++ l) : o'.length = o.length + l.length := by
  have := congrArg List.length h
  simpa using this
/-! ### Some times -/
def L0 (m t : Bool) (o : List State) (x : Rx) (a b : Int) (rs : Ex × XSt) : Prop := match m with
  | false => nfa_builder_repeat_l0 t o.length o x a b rs
  | true => nfa_builder_repeat_l0_b t o.length x o a b rs
def X0 (m t : Bool) (o : List State) (x : Rx) (a b : Int) : Ex × XSt := match m with
  | false => nfa_builder_repeat_l0_x0 t o.length o x a b
  | true => nfa_builder_repeat_l0_x1 t o.length x o a b
theorem L0_step {m m' t t' : Bool} {o r : List State} {x y : Rx} {a b : Int} {rs : Ex × XSt} (h0 : b < a) (h1 : x.Sub.xs[Int.toNat 0]? = some y) (h2 : bld m' t o y r t') (h3 : w64 (b + 1)) (hk : L0 (m || m') t' r x a (b + 1) rs) : L0 m t o x a b rs := by
  cases m <;> cases m'
  · obtain ⟨h2, rfl, hl⟩ := h2
    have hk' : nfa_builder_repeat_l0 t' r.length r x a (b + 1) rs := hk
    rw [hl] at hk'
    exact nfa_builder_repeat_l0_s0 h0 h1 h2 h3 hk'
  · exact nfa_builder_repeat_l0_s1 h0 h1 h2 h3 hk
  · obtain ⟨h2, rfl, hl⟩ := h2
    have hk' : nfa_builder_repeat_l0_b t' r.length x r a (b + 1) rs := hk
    rw [hl] at hk'
    exact nfa_builder_repeat_l0_b_s3 h0 h1 h2 h3 hk'
  · exact nfa_builder_repeat_l0_b_s4 h0 h1 h2 h3 hk
theorem L0_exit {m t : Bool} {o : List State} {x : Rx} {a b : Int} (h0 : ¬ b < a) : L0 m t o x a b (X0 m t o x a b) := by
  cases m
  · exact nfa_builder_repeat_l0_e2 h0
  · exact nfa_builder_repeat_l0_b_e5 h0
theorem times_run {f : Nat → Rx → List PS} {x y : Rx} {T : Nat} {a : Int} (hB : Bd f y T) (h1 : x.Sub.xs[Int.toNat 0]? = some y) (ha : a < 100000000) : ∀ (k : Nat) (o : List State) (t m : Bool) (b : Int), a = b + k → 0 ≤ b → o.length + k * T ≤ 1000000 →
    ∃ m' o' t', L0 m t o x a b (X0 m' t' o' x a a) ∧ (m = true → m' = true) ∧ (m' = false → t' = t ∧ o'.length = o.length) ∧ o'.map ps = o.map ps ++ timesC f y k o.length
  | 0, o, t, m, b, hb, h0, hl => by
    have : a = b := by omega
    subst this
    exact ⟨m, o, t, L0_exit (by omega), fun h => h, fun _ => ⟨rfl, rfl⟩, by simp [timesC]⟩
  | k + 1, o, t, m, b, hb, h0, hl => by
    rw [Nat.add_mul k 1, Nat.one_mul] at hl
    obtain ⟨m1, o1, t1, g1, g2⟩ := hB.2 o t (by omega)
    have l1 := len_ps g2
    rw [hB.1] at l1
    obtain ⟨m2, o2, t2, g3, g4, g5, g6⟩ := times_run hB h1 ha k o1 t1 (m || m1) (b + 1) (by omega) (by omega) (by omega)
    refine ⟨m2, o2, t2, L0_step (by omega) h1 g1 (in64 (by omega) (by omega)) g3, fun h => g4 (by rw [h]; rfl), fun h => ?_, ?_⟩
    · have hm : (m || m1) = false := by
        cases hh : (m || m1) with
        | false => rfl
        | true => rw [g4 hh] at h; cases h
      have hm1 : m1 = false := by cases m <;> cases m1 <;> simp_all
      subst hm1
      obtain ⟨_, rfl, e⟩ := g1
      obtain ⟨e1, e2⟩ := g5 h
      exact ⟨e1, by omega⟩
    · rw [g6, g2, l1]
      simp only [timesC, hB.1, List.append_assoc]
/-! ### Forks, the other ways of which are told behind -/
def optsI (f : Nat → Rx → List PS) (y : Rx) : Nat → Nat → List Int
  | 0, _ => []
  | k + 1, b => (b : Int) :: optsI f y k (b + 1 + (f (b + 1) y).length)
def L1 (m t : Bool) (o : List State) (x : Rx) (outs : List Int) (ot : Bool) (a b : Int) (rs : Ex × XSt) : Prop := match m with
  | false => nfa_builder_repeat_l1 t o.length o x outs ot outs.length a b rs
  | true => nfa_builder_repeat_l1_b t o.length x outs o ot outs.length a b rs
def X1 (m t : Bool) (o : List State) (x : Rx) (outs : List Int) (ot : Bool) (a b : Int) : Ex × XSt := match m with
  | false => nfa_builder_repeat_l1_x0 t o.length o x outs ot outs.length a b
  | true => nfa_builder_repeat_l1_x1 t o.length x outs o ot outs.length a b
theorem L1_step {m m' t t' t1 : Bool} {o o1 r : List State} {x y : Rx} {outs : List Int} {ot : Bool} {a b i : Int} {rs : Ex × XSt} (h0 : b < a) (hf : nfa_builder_fork_m t o.length o i o1 o1.length t1) (hb : (outs.length + 1) * 8 ≤ 140737488355328) (h1 : x.Sub.xs[Int.toNat 0]? = some y) (h2 : bld m' t1 o1 y r t') (h3 : w64 (b + 1)) (hk : L1 true t' r x (outs ++ [i]) false a (b + 1) rs) : L1 m t o x outs ot a b rs := by
  have tk : outs.take outs.length = outs := List.take_length ..
  have hk' : nfa_builder_repeat_l1_b t' r.length x (outs ++ [i]) r false (outs ++ [i]).length a (b + 1) rs := hk
  rw [show (outs ++ [i]).length = outs.length + 1 by simp] at hk'
  cases m <;> cases m'
  · obtain ⟨h2, rfl, hl⟩ := h2
    rw [hl] at hk'
    exact nfa_builder_repeat_l1_s0 h0 hf (Nat.le_refl _) hb h1 h2 h3 (by rw [tk]; exact hk')
  · exact nfa_builder_repeat_l1_s1 h0 hf (Nat.le_refl _) hb h1 h2 h3 (by rw [tk]; exact hk')
  · obtain ⟨h2, rfl, hl⟩ := h2
    rw [hl] at hk'
    exact nfa_builder_repeat_l1_b_s3 h0 hf (Nat.le_refl _) hb h1 h2 h3 (by rw [tk]; exact hk')
  · exact nfa_builder_repeat_l1_b_s4 h0 hf (Nat.le_refl _) hb h1 h2 h3 (by rw [tk]; exact hk')
theorem L1_exit {m t : Bool} {o : List State} {x : Rx} {outs : List Int} {ot : Bool} {a b : Int} (h0 : ¬ b < a) : L1 m t o x outs ot a b (X1 m t o x outs ot a b) := by
  cases m
  · exact nfa_builder_repeat_l1_e2 h0
  · exact nfa_builder_repeat_l1_b_e5 h0
theorem opts_run {f : Nat → Rx → List PS} {x y : Rx} {T : Nat} {a : Int} (hB : Bd f y T) (h1 : x.Sub.xs[Int.toNat 0]? = some y) (ha : a < 100000000) : ∀ (k : Nat) (o : List State) (t m : Bool) (outs : List Int) (ot : Bool) (b : Int), a = b + k → 0 ≤ b → (outs.length : Int) = b → o.length + k * (T + 1) ≤ 1000000 →
    ∃ m' o' t' ot', L1 m t o x outs ot a b (X1 m' t' o' x (outs ++ optsI f y k o.length) ot' a a) ∧ (m = true → m' = true) ∧ (m' = false → t' = t ∧ o'.length = o.length) ∧ o'.map ps = o.map ps ++ optsC f y 0 k o.length
  | 0, o, t, m, outs, ot, b, hb, h0, ho, hl => by
    have : a = b := by omega
    subst this
    refine ⟨m, o, t, ot, ?_, fun h => h, fun _ => ⟨rfl, rfl⟩, by simp [optsC]⟩
    rw [optsI, List.append_nil]
    exact L1_exit (by omega)
  | k + 1, o, t, m, outs, ot, b, hb, h0, ho, hl => by
    rw [Nat.add_mul k 1, Nat.one_mul] at hl
    have hf := fork_run (t := t) (o := o) (by omega)
    obtain ⟨m1, o1, t1, g1, g2⟩ := hB.2 (o ++ [fk ((o.length : Int) + 1) 0]) false (by simp; omega)
    have l1 := len_ps g2
    rw [hB.1, List.length_append, List.length_singleton] at l1
    obtain ⟨m2, o2, t2, ot2, g3, g4, g5, g6⟩ := opts_run hB h1 ha k o1 t1 true (outs ++ [(o.length : Int)]) false (b + 1) (by omega) (by omega) (by simp; omega) (by omega)
    have hm2 := g4 rfl
    subst hm2
    refine ⟨true, o2, t2, ot2, L1_step (by omega) hf (by omega) h1 g1 (in64 (by omega) (by omega)) ?_, fun _ => rfl, fun h => (by cases h), ?_⟩
    · rw [optsI, hB.1, show outs ++ (o.length : Int) :: optsI f y k (o.length + 1 + T) = (outs ++ [(o.length : Int)]) ++ optsI f y k (o.length + 1 + T) by simp, ← l1]
      exact g3
    · rw [g6, g2, l1]
      simp only [optsC, hB.1, List.length_append, List.length_singleton, List.map_append, List.map_cons, List.map_nil, List.append_assoc, List.singleton_append, List.cons_append]
      rfl
def L2 (m t : Bool) (o : List State) (outs : List Int) (ot : Bool) (a b : Int) (rs : Ex × XSt) : Prop := match m with
  | false => nfa_builder_repeat_l2 t o.length o outs ot outs.length a b rs
  | true => nfa_builder_repeat_l2v1 t o.length outs o ot outs.length a b rs
def X2 (m t : Bool) (o : List State) (outs : List Int) (ot : Bool) (a b : Int) : Ex × XSt := match m with
  | false => nfa_builder_repeat_l2_x0 t o.length o outs ot outs.length a b
  | true => nfa_builder_repeat_l2v1_x0 t o.length outs o ot outs.length a b
theorem L2_step {m t : Bool} {o r : List State} {outs : List Int} {ot : Bool} {a b i : Int} {rs : Ex × XSt} (h0 : b < a) (h1 : 0 ≤ b) (h2 : b.toNat < outs.length) (h3 : outs[b.toNat]? = some i) (h4 : nfa_builder_fork_f1 t o.length o i r) (hl : r.length = o.length) (h5 : w64 (b + 1)) (hk : L2 m t r outs ot a (b + 1) rs) : L2 m t o outs ot a b rs := by
  cases m
  · have hk' : nfa_builder_repeat_l2 t r.length r outs ot outs.length a (b + 1) rs := hk
    rw [hl] at hk'
    exact nfa_builder_repeat_l2_s0 h0 h1 h2 h3 h4 h5 hk'
  · have hk' : nfa_builder_repeat_l2v1 t r.length outs r ot outs.length a (b + 1) rs := hk
    rw [hl] at hk'
    exact nfa_builder_repeat_l2v1_s0 h0 h1 h2 h3 h4 h5 hk'
theorem L2_exit {m t : Bool} {o : List State} {outs : List Int} {ot : Bool} {a b : Int} (h0 : ¬ b < a) : L2 m t o outs ot a b (X2 m t o outs ot a b) := by
  cases m
  · exact nfa_builder_repeat_l2_e1 h0
  · exact nfa_builder_repeat_l2v1_e1 h0
theorem patch_run {f : Nat → Rx → List PS} {y : Rx} {m t : Bool} {outs : List Int} {ot : Bool} {e : Nat} (hs : outs.length < 1000000000) : ∀ (k j : Nat) (o : List State) (pre : List PS), o.length = e → outs.drop j = optsI f y k pre.length → o.map ps = pre ++ optsC f y 0 k pre.length →
    ∃ o' z, L2 m t o outs ot outs.length j (X2 m t o' outs ot outs.length z) ∧ o'.length = o.length ∧ o'.map ps = pre ++ optsC f y e k pre.length
  | 0, j, o, pre, he, hd, ho => by
    have := drop_nil_le hd
    exact ⟨o, j, L2_exit (by omega), rfl, by simpa [optsC] using ho⟩
  | k + 1, j, o, pre, he, hd, ho => by
    rw [optsI] at hd
    obtain ⟨h1, h2, h3⟩ := at_drop hd
    rw [optsC] at ho
    obtain ⟨o1, g1, g2, g3⟩ := forkf_run (t := t) ho rfl
    rw [he] at g3
    have e3 : (pre ++ pfork (pre.length + 1) e :: f (pre.length + 1) y).length = pre.length + 1 + (f (pre.length + 1) y).length := by simp; omega
    obtain ⟨o2, z, k1, k2, k3⟩ := patch_run (m := m) (t := t) (ot := ot) (e := e) hs k (j + 1) o1 (pre ++ pfork (pre.length + 1) e :: f (pre.length + 1) y) (by omega) (by rw [h2, e3]) (by
      rw [g3, e3]; simp [pfork])
    refine ⟨o2, z, L2_step (by omega) (by omega) (by omega) h1 g1 g2 (in64 (by omega) (by omega)) k1, by omega, ?_⟩
    rw [k3, e3, optsC]
    simp
/-! ### A repeat -/
theorem rpt_star {m m' t z0 : Bool} {o z2 : List State} {x y : Rx} {r0 a b i : Int} {t1 t2 t3 : Bool} {o1 o2 o3 o4 o5 : List State} {j : Int} (h0 : x.Sub.xs[Int.toNat 0]? = some y) (h1 : nfa_size y 1 r0) (h3 : L0 false t o x (if r0 = 0 then 0 else x.Min) 0 (X0 m z0 z2 x a b)) (hz : m = false → z0 = t ∧ z2.length = o.length) (h4 : x.Max < 0)
    (h5 : nfa_builder_fork_m z0 z2.length z2 i o1 o1.length t1) (h7 : bld m' t1 o1 y o2 t2) (h8 : nfa_builder_jump_m t2 o2.length o2 j o3 o3.length t3) (h9 : nfa_builder_jump_f1 t3 o3.length o3 (z2.length : Int) j o4) (h10 : nfa_builder_fork_f1 t3 o3.length o4 i o5) (hl : o5.length = o3.length) : nfa_builder_repeat_m t o.length o x o5 o5.length t3 := by
  rw [hl]
  have h3' : nfa_builder_repeat_l0 t o.length o x (if r0 = 0 then 0 else x.Min) 0 (X0 m z0 z2 x a b) := h3
  cases m <;> cases m' <;> by_cases c : r0 = 0
  · rw [if_pos c] at h3'; obtain ⟨h7, rfl, e⟩ := h7
    rw [e] at h8
    exact nfa_builder_repeat_r0 h0 h1 c h3' h4 h5 h0 h7 h8 h9 h10
  · rw [if_neg c] at h3'; obtain ⟨h7, rfl, e⟩ := h7
    rw [e] at h8
    exact nfa_builder_repeat_r8 h0 h1 c h3' h4 h5 h0 h7 h8 h9 h10
  · rw [if_pos c] at h3'
    exact nfa_builder_repeat_r1 h0 h1 c h3' h4 h5 h0 h7 h8 h9 h10
  · rw [if_neg c] at h3'
    exact nfa_builder_repeat_r9 h0 h1 c h3' h4 h5 h0 h7 h8 h9 h10
  · rw [if_pos c] at h3'; obtain ⟨h7, rfl, e⟩ := h7
    rw [e] at h8
    exact nfa_builder_repeat_r4 h0 h1 c h3' h4 h5 h0 h7 h8 h9 h10
  · rw [if_neg c] at h3'; obtain ⟨h7, rfl, e⟩ := h7
    rw [e] at h8
    exact nfa_builder_repeat_r12 h0 h1 c h3' h4 h5 h0 h7 h8 h9 h10
  · rw [if_pos c] at h3'
    exact nfa_builder_repeat_r5 h0 h1 c h3' h4 h5 h0 h7 h8 h9 h10
  · rw [if_neg c] at h3'
    exact nfa_builder_repeat_r13 h0 h1 c h3' h4 h5 h0 h7 h8 h9 h10
theorem rpt_opts {m m' t z0 : Bool} {o z2 : List State} {x y : Rx} {r0 a b z : Int} {t2 ot : Bool} {o2 o3 : List State} {outs : List Int} (h0 : x.Sub.xs[Int.toNat 0]? = some y) (h1 : nfa_size y 1 r0) (h3 : L0 false t o x (if r0 = 0 then 0 else x.Min) 0 (X0 m z0 z2 x a b)) (hz : m = false → z0 = t ∧ z2.length = o.length) (h4 : ¬ x.Max < 0) (h5 : w64 (x.Max - x.Min))
    (h6 : L1 m z0 z2 x [] true (x.Max - x.Min) 0 (X1 m' t2 o2 x outs ot (x.Max - x.Min) (x.Max - x.Min))) (hmm : m = true → m' = true) (hz2 : m' = false → t2 = z0 ∧ o2.length = z2.length) (h7 : L2 m' t2 o2 outs ot outs.length 0 (X2 m' t2 o3 outs ot outs.length z)) (hl : o3.length = o2.length) : rpt m' t o x o3 t2 := by
  have h3' : nfa_builder_repeat_l0 t o.length o x (if r0 = 0 then 0 else x.Min) 0 (X0 m z0 z2 x a b) := h3
  cases m' with
  | false =>
    obtain ⟨rfl, e2⟩ := hz2 rfl
    have hm : m = false := by cases m with
      | false => rfl
      | true => cases hmm rfl
    subst hm
    obtain ⟨rfl, e1⟩ := hz rfl
    refine ⟨?_, rfl, by omega⟩
    have h6' : nfa_builder_repeat_l1 t2 z2.length z2 x [] true 0 (x.Max - x.Min) 0 (nfa_builder_repeat_l1_x0 t2 o2.length o2 x outs ot outs.length (x.Max - x.Min) (x.Max - x.Min)) := h6
    have h7' : nfa_builder_repeat_l2 t2 o2.length o2 outs ot outs.length outs.length 0 (nfa_builder_repeat_l2_x0 t2 o3.length o3 outs ot outs.length outs.length z) := h7
    rw [hl, e2, e1] at h7'
    rw [e2, e1] at h6'
    have h3'' : nfa_builder_repeat_l0 t2 o.length o x (if r0 = 0 then 0 else x.Min) 0 (nfa_builder_repeat_l0_x0 t2 z2.length z2 x a b) := h3'
    rw [e1] at h3''
    by_cases c : r0 = 0
    · rw [if_pos c] at h3''
      exact nfa_builder_repeat_r2 h0 h1 c h3'' h4 h5 h6' h7'
    · rw [if_neg c] at h3''
      exact nfa_builder_repeat_r10 h0 h1 c h3'' h4 h5 h6' h7'
  | true =>
    have h7' : nfa_builder_repeat_l2v1 t2 o2.length outs o2 ot outs.length outs.length 0 (nfa_builder_repeat_l2v1_x0 t2 o3.length outs o3 ot outs.length outs.length z) := h7
    rw [hl] at h7'
    show nfa_builder_repeat_m t o.length o x o3 o3.length t2
    rw [hl]
    cases m with
    | false =>
      by_cases c : r0 = 0
      · rw [if_pos c] at h3'
        exact nfa_builder_repeat_r3 h0 h1 c h3' h4 h5 h6 h7'
      · rw [if_neg c] at h3'
        exact nfa_builder_repeat_r11 h0 h1 c h3' h4 h5 h6 h7'
    | true =>
      by_cases c : r0 = 0
      · rw [if_pos c] at h3'
        exact nfa_builder_repeat_r7 h0 h1 c h3' h4 h5 h6 h7'
      · rw [if_neg c] at h3'
        exact nfa_builder_repeat_r15 h0 h1 c h3' h4 h5 h6 h7'
end Go.Proofs.Ytgoalemieifcdaa.V

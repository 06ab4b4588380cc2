/- pike.Search; the law PikeSteps. -/
import Derived.Test.YtjnfkifdgojdaaaK5
import Derived.Test.YtjnfkifdgojdaaaN3
import Derived.Test.YtjnfkifdgojdaaaVY
namespace Go.Proofs.Ytjnfkifdgojdaaa.V
open Go
set_option linter.unusedVariables false
set_option linter.unnecessarySimpa false
set_option linter.unusedSimpArgs false
set_option linter.unusedSectionVars false
theorem bytes_str (s : ByteArray) : isBytes (strInts s) := by
  intro x hx
  unfold strInts at hx
  obtain ⟨b, _, rfl⟩ := List.mem_map.1 hx
  have := UInt8.toNat_lt b
  omega
theorem str_len (s : ByteArray) : (strInts s).length = s.size := by
  unfold strInts
  rw [List.length_map, Array.length_toList]
  rfl
theorem wfStates_of {l : SL State} (h : wfS 48 wf_State l) : wfStates l := by
  refine ⟨by have := h.1; unfold small; omega, fun s hs => ?_⟩
  have h1 := (h.2 s hs).2.1.1
  unfold small
  omega
theorem fits_of {l : SL State} (hw : wfStates l) (h : okL l) : Fits l.xs := by
  refine ⟨fun st hst k => ?_, fun st hst k => ?_, fun st hst k => ?_, fun st hst => ?_⟩
  · have := h.2 st hst
    unfold okS at this
    exact this.2.2.1 k
  · have := h.2 st hst
    unfold okS at this
    exact this.2.2.2.2.1 k
  · have := h.2 st hst
    unfold okS at this
    exact this.2.2.2.2.2.2.1 (by omega)
  · have := hw.2 st hst
    unfold small at this
    omega
theorem over_run {r : pike_run} (hF : Fits r.l_.xs) (hs : r.s_.xs.length < 100000000) (hn : r.l_.xs.length < 10000000) (hp0 : 0 < r.l_.xs.length) : ∃ f n, pike_run_over_v1 0 false r true n f ∧ Spec r.l_.xs r.s_.xs true r.s_.xs.length 0 [0] 0 f n := by
  have hv : ∀ x ∈ ([0] : List Int), 0 ≤ x ∧ x < r.l_.xs.length := fun x hx => by
    rw [List.mem_singleton.1 hx]; omega
  obtain ⟨all, at_, d, h1, h2, h3, h4⟩ := spread_run (r := r) (i := 0) (src := ⟨1, [0], true⟩) (by omega) (by omega) (by omega) (by show ([0] : List Int).length < _; simp) hv (hF.nx _ _)
  have hav : ∀ x ∈ all, 0 ≤ x ∧ x < r.l_.xs.length := fun x hx => Clos.lt hv (hF.nx _ _) ((h3 x).1 hx)
  have hal : all.length ≤ r.l_.xs.length := nodup_le _ _ h2 hav
  have hw : w64 ((0 : Int) + (all.length : Int)) := in64 (by omega) (by omega)
  have he := search_each 0 all.length (((0 : Nat) : Int)) false d hw
  cases d with
  | true =>
    refine ⟨true, _, pike_run_over_v1_r0 (pike_run_over_v1_l0_e2 (by omega) h1 he), ?_⟩
    cases hl : r.s_.xs.length with
    | zero => exact ⟨all, h2, h3, h4, rfl⟩
    | succ m => exact ⟨all, h2, h3, .inl ⟨h4.1 rfl, rfl, rfl⟩⟩
  | false =>
    cases hl : r.s_.xs.length with
    | zero => exact ⟨false, _, pike_run_over_v1_r0 (pike_run_over_v1_l0_e3 (by omega) h1 he (by omega)), all, h2, h3, h4, rfl⟩
    | succ m =>
      obtain ⟨p, hp⟩ : ∃ p, r.s_.xs[0]? = some p := ⟨_, List.getElem?_eq_getElem (by omega)⟩
      obtain ⟨out, ot, g1, g2, g3⟩ := follow_run (r := r) (p := p) (all := ⟨1, all, at_⟩) (by show all.length < _; omega) hav hF.r
      have tk2 : out.take out.length = out := List.take_length ..
      have g2' : out.length ≤ all.length := g2
      obtain ⟨f, n, x, i', al, k1, k2⟩ := over_loop hF hs hn hp0 m 1 (out ++ [0]) false (0 + all.length) false (by omega) (fun y hy => by
        rcases List.mem_append.1 hy with h | h
        · obtain ⟨x, _, h⟩ := (g3 y).1 h
          exact hF.go h
        · rw [List.mem_singleton.1 h]; omega) (by simp; omega) (by omega) (by omega)
      refine ⟨f, n, pike_run_over_v1_r4 (pike_run_over_v1_l0_s4 (by omega) h1 he (by omega) (by omega) hp g1 (by omega) (Nat.le_refl _) (in64 (by omega) (by omega)) (by rw [tk2]; exact k1)), all, h2, h3, .inr ⟨fun h => (by have := h4.2 h; cases this), p, out ++ [0], hp, fun y => ?_, k2⟩⟩
      rw [List.mem_append, g3, List.mem_singleton]
      constructor
      · rintro (h | h)
        · exact .inr h
        · exact .inl ⟨rfl, h⟩
      · rintro (⟨_, h⟩ | h)
        · exact .inr h
        · exact .inl h
theorem begin_run {l : SL State} {s : ByteArray} (hw : wfStates l) (hs : s.size < 100000000) :
    (¬ okL l ∧ pike_begin l s D.nilp 101) ∨ (okL l ∧ ¬ GoodT (strInts s) ∧ pike_begin l s (.ptr [(slD 4 e_State l), (slD 1 (D.int .i64) ⟨1, [], true⟩)]) 10) ∨
      (okL l ∧ ∃ p t, GP (strInts s) p ∧ pike_begin l s (.ptr [(slD 4 e_State l), (slD 1 (D.int .i64) ⟨1, p, t⟩)]) 0) := by
  have hl := str_len s
  rcases check_run hw with ⟨o, h⟩ | ⟨o, h⟩
  · rcases utf_points_run (b := ⟨1, strInts s, false⟩) (bytes_str s) (by show (strInts s).length < _; omega) with ⟨p, t, h1, h2⟩ | ⟨h1, h2⟩
    · exact .inr (.inr ⟨o, p, t, h1, pike_begin_r1 h rfl h2⟩)
    · exact .inr (.inl ⟨o, h1, pike_begin_r1 h rfl h2⟩)
  · exact .inl ⟨o, pike_begin_r0 h (by decide)⟩
theorem okL_pos {l : SL State} (h : okL l) : 0 < l.xs.length := List.length_pos_iff.2 h.1
theorem search_run {l : SL State} {s : ByteArray} (hw : wfStates l) (hn : l.xs.length < 10000000) (hs : s.size < 100000000) :
    (¬ okL l ∧ pike_Search l s false 0 101) ∨ (okL l ∧ ¬ GoodT (strInts s) ∧ pike_Search l s false 0 10) ∨ (okL l ∧ ∃ p f n, GP (strInts s) p ∧ pike_Search l s f n 0 ∧ Spec l.xs p true p.length 0 [0] 0 f n) := by
  rcases begin_run hw hs with ⟨o, h⟩ | ⟨o, g, h⟩ | ⟨o, p, t, g, h⟩
  · exact .inl ⟨o, pike_Search_r0 h (by decide)⟩
  · exact .inr (.inl ⟨o, g, pike_Search_r3 (r0 := ⟨l, ⟨1, [], true⟩⟩) h (by decide)⟩)
  · have hp := g.len
    rw [str_len] at hp
    obtain ⟨f, n, h1, h2⟩ := over_run (r := ⟨l, ⟨1, p, t⟩⟩) (fits_of hw o) (by show p.length < _; omega) hn (okL_pos o)
    refine .inr (.inr ⟨o, p, f, n, g, ?_, h2⟩)
    cases f with
    | true => exact pike_Search_r4 (r0 := ⟨l, ⟨1, p, t⟩⟩) h rfl h1 rfl
    | false => exact pike_Search_r5 (r0 := ⟨l, ⟨1, p, t⟩⟩) h rfl h1 rfl
theorem spec_bound {l : List State} {s : List Int} {again : Bool} (hF : Fits l) (h0 : 0 < l.length) : ∀ (m i : Nat) (src : List Int) (acc n : Int) (f : Bool), (∀ x ∈ src, 0 ≤ x ∧ x < l.length) → Spec l s again m i src acc f n → acc ≤ n ∧ n ≤ acc + ((m + 1) * l.length : Nat) ∧ (src ≠ [] → acc + 1 ≤ n)
  | 0, i, src, acc, n, f, hv, ⟨a, h1, h2, h3, h4⟩ => by
    have hal : a.length ≤ l.length := nodup_le _ _ h1 (fun x hx => Clos.lt hv (hF.nx _ _) ((h2 x).1 hx))
    refine ⟨by omega, by simp; omega, fun hne => ?_⟩
    obtain ⟨x, hx⟩ := List.exists_mem_of_ne_nil _ hne
    have := List.length_pos_of_mem ((h2 x).2 (.base hx))
    omega
  | m + 1, i, src, acc, n, f, hv, ⟨a, h1, h2, h3⟩ => by
    have hav : ∀ x ∈ a, 0 ≤ x ∧ x < l.length := fun x hx => Clos.lt hv (hF.nx _ _) ((h2 x).1 hx)
    have hal : a.length ≤ l.length := nodup_le _ _ h1 hav
    have hpos : src ≠ [] → 1 ≤ a.length := fun hne => by
      obtain ⟨x, hx⟩ := List.exists_mem_of_ne_nil _ hne
      exact List.length_pos_of_mem ((h2 x).2 (.base hx))
    have e : (m + 1 + 1) * l.length = (m + 1) * l.length + l.length := by rw [Nat.add_mul (m + 1) 1, Nat.one_mul]
    rcases h3 with ⟨_, _, h5⟩ | ⟨_, p, s', h4, h5, h6⟩
    · refine ⟨by omega, by omega, fun hne => ?_⟩
      have := hpos hne
      omega
    · have hv' : ∀ y ∈ s', 0 ≤ y ∧ y < l.length := fun y hy => by
        rcases (h5 y).1 hy with ⟨_, h⟩ | ⟨x, hx, h⟩
        · omega
        · exact hF.go h
      have := spec_bound hF h0 m (i + 1) s' _ _ _ hv' h6
      refine ⟨by omega, by omega, fun hne => ?_⟩
      have := hpos hne
      omega
theorem heads_true : law_heads true := R_heads
theorem steps_run {l : SL State} {s : ByteArray} (hw : wfStates l) (hn : l.xs.length < 10000000) (hs : s.size < 100000000) : law_PikeSteps l s true := by
  have hl := str_len s
  have href : ∃ r2 r3, ref01_Points ⟨1, strInts s, false⟩ r2 r3 := by
    rcases ref_points_run (b := ⟨1, strInts s, false⟩) (bytes_str s) (by show (strInts s).length < _; omega) with ⟨p, t, _, h⟩ | ⟨_, h⟩
    · exact ⟨_, _, h⟩
    · exact ⟨_, _, h⟩
  rcases search_run hw hn hs with ⟨o, h⟩ | ⟨o, g, h⟩ | ⟨o, p, f, n, g, h, sp⟩
  · obtain ⟨r2, r3, hr⟩ := href
    exact law_PikeSteps_r2 h hr (by decide) rfl heads_true
  · obtain ⟨r2, r3, hr⟩ := href
    exact law_PikeSteps_r2 h hr (by decide) rfl heads_true
  · have hF := fits_of hw o
    have hp := okL_pos o
    have hpl := g.len
    rw [hl] at hpl
    obtain ⟨b1, b2, b3⟩ := spec_bound hF hp _ _ _ _ _ _ (fun x hx => by rw [List.mem_singleton.1 hx]; omega) sp
    have b4 := b3 (by simp)
    rcases ref_points_run (b := ⟨1, strInts s, false⟩) (bytes_str s) (by show (strInts s).length < _; omega) with ⟨q, t, hq, hr⟩ | ⟨hq, _⟩
    · have e : q = p := hq.uniq g
      subst e
      have em : ((q.length : Int) + 1) * (l.xs.length : Int) = (((q.length + 1) * l.xs.length : Nat) : Int) := by
        rw [Int.natCast_mul, Int.natCast_add]; rfl
      have hm : (q.length + 1) * l.xs.length ≤ 100000001 * 10000000 := Nat.mul_le_mul (by omega) (by omega)
      have w1 : w64 ((q.length : Int) + 1) := in64 (by omega) (by omega)
      have w2 : w64 (((q.length : Int) + 1) * (l.xs.length : Int)) := by rw [em]; exact in64 (by omega) (by omega)
      cases f with
      | true => exact law_PikeSteps_r1 h hr rfl rfl (by omega) w1 w2 (by rw [em]; omega) heads_true
      | false => exact law_PikeSteps_r3 h hr rfl rfl (by omega) w1 w2 (by rw [em]; omega) heads_true
    · exact absurd ⟨_, g⟩ hq
theorem steps_true {l : SL State} {s : ByteArray} (w0 : wfS 48 wf_State l) (b0 : l.xs.length ≤ 1048576) (b1 : s.size ≤ 1048576) : law_PikeSteps l s true := steps_run (wfStates_of w0) (by omega) (by omega)
end Go.Proofs.Ytjnfkifdgojdaaa.V

/- Contracts: the document's code points; what follows; a search's run. -/
import Derived.Test.YtjnfkifdgojdaaaK3
import Derived.Test.YtjnfkifdgojdaaaK4
namespace Go.Proofs.Ytjnfkifdgojdaaa.V
open Go
set_option linter.unusedVariables false
set_option linter.unnecessarySimpa false
set_option linter.unusedSimpArgs false
set_option linter.unusedSectionVars false
theorem and7 {x : Int} (h0 : 0 ≤ x) (h1 : x < 256) : bitAnd .i64 x 7 = x % 8 := by have := bits_and (k := 3) h0 (by omega) (by decide); simpa using this
theorem and15 {x : Int} (h0 : 0 ≤ x) (h1 : x < 256) : bitAnd .i64 x 15 = x % 16 := by have := bits_and (k := 4) h0 (by omega) (by decide); simpa using this
theorem and31 {x : Int} (h0 : 0 ≤ x) (h1 : x < 256) : bitAnd .i64 x 31 = x % 32 := by have := bits_and (k := 5) h0 (by omega) (by decide); simpa using this
theorem and63 {x : Int} (h0 : 0 ≤ x) (h1 : x < 256) : bitAnd .i64 x 63 = x % 64 := by have := bits_and (k := 6) h0 (by omega) (by decide); simpa using this
theorem or6 {a r : Int} (h0 : 0 ≤ a) (h1 : a < 65536) (hr0 : 0 ≤ r) (hr : r < 64) : bitOr .i64 (a * 2 ^ 6) r = a * 64 + r := by have := bits_or (k := 6) h0 h1 hr0 (by omega) (by decide); simpa using this
theorem or12 {a r : Int} (h0 : 0 ≤ a) (h1 : a < 65536) (hr0 : 0 ≤ r) (hr : r < 4096) : bitOr .i64 (a * 2 ^ 12) r = a * 4096 + r := by have := bits_or (k := 12) h0 h1 hr0 (by omega) (by decide); simpa using this
theorem or18 {a r : Int} (h0 : 0 ≤ a) (h1 : a < 65536) (hr0 : 0 ≤ r) (hr : r < 262144) : bitOr .i64 (a * 2 ^ 18) r = a * 262144 + r := by have := bits_or (k := 18) h0 h1 hr0 (by omega) (by decide); simpa using this
theorem goes0 {c : Int} (h : c < 128) : goesL c = 0 := by unfold goesL; rw [if_pos h]
theorem goes1 {c : Int} (h0 : 194 ≤ c) (h1 : c ≤ 223) : goesL c = 1 := by unfold goesL; rw [if_neg (by omega), if_neg (by omega), if_pos (by omega)]
theorem goes2 {c : Int} (h0 : 224 ≤ c) (h1 : c ≤ 239) : goesL c = 2 := by unfold goesL; rw [if_neg (by omega), if_neg (by omega), if_neg (by omega), if_pos (by omega)]
theorem goes3 {c : Int} (h0 : 240 ≤ c) (h1 : c ≤ 244) : goesL c = 3 := by unfold goesL; rw [if_neg (by omega), if_neg (by omega), if_neg (by omega), if_neg (by omega)]
theorem step_good {b : SL Int} {i : Nat} {c : Int} {l : List Int} (hs : b.xs.length < 1000000000000000) (hd : b.xs.drop i = c :: l) (h0 : 0 ≤ c) (hg : GoodT (c :: l)) : ref01_step b i (goesL c + 1) true := by
  rcases step_run hs hd with ⟨r, g1, g2, g3, g4, g5⟩ | ⟨g1, _⟩
  · exact g5
  · have := (good_cons h0).1 hg
    exact absurd ⟨this.1, gm_has this.2⟩ g1
theorem ref_points_loop {b : SL Int} (hb : isBytes b.xs) (hs : b.xs.length < 100000000000) : ∀ (p : List Int) (i : Nat) (out : List Int) (t : Bool), GP (b.xs.drop i) p → out.length + p.length < 1000000000000 → ∃ t' z, ref01_Points_l0 out b t i (ref01_Points_l0_x0 (out ++ p) b t' z)
  | [], i, out, t, h, hl => by
    have hn : b.xs.drop i = [] := by
      cases hd : b.xs.drop i with
      | nil => rfl
      | cons x r => rw [hd] at h; cases h
    have := drop_len hn
    rw [List.append_nil]
    exact ⟨_, _, ref01_Points_l0_e8 (by omega)⟩
  | x :: q, i, out, t, h, hl => by
    simp only [List.length_cons] at hl
    generalize hd : b.xs.drop i = l at h
    have hg : GoodT l := ⟨_, h⟩
    have fin : ∀ {n : Nat} {r : List Int}, b.xs.drop (i + n) = r → GP r q → ∃ t' z, ref01_Points_l0 (out ++ [x]) b false ((i + n : Nat) : Int) (ref01_Points_l0_x0 (out ++ x :: q) b t' z) := fun e g => by
      obtain ⟨t', z, k⟩ := ref_points_loop hb hs q _ (out ++ [x]) false (by rw [e]; exact g) (by simp; omega)
      rw [List.append_assoc] at k
      exact ⟨t', z, k⟩
    have wz : ∀ {z : Int}, 0 ≤ z → z < 256 → w64 z := fun h1 h2 => in64 (by omega) (by omega)
    cases h with
    | @one c l p h0 h1 h =>
      obtain ⟨k1, k2, k3⟩ := drop_cons hd
      have kg : b.xs[((i : Nat) : Int).toNat]? = some x := by rw [Int.toNat_natCast]; exact k1
      have bx := hb x (List.mem_of_getElem? k1)
      have s := step_good (by omega) hd h0 hg
      rw [goes0 h1] at s
      obtain ⟨t', z, k⟩ := fin (n := 1) k2 h
      exact ⟨t', z, ref01_Points_l0_s3 (by omega) s (by omega) kg (wz bx.1 bx.2) (by decide) (by decide) (by decide) (by omega) (in64 (by omega) (by omega)) k⟩
    | @two c d l p h0 h1 hc h =>
      obtain ⟨k1, k2, k3⟩ := drop_cons hd
      obtain ⟨j1, j2, j3⟩ := drop_cons k2
      have kg : b.xs[((i : Nat) : Int).toNat]? = some c := by rw [Int.toNat_natCast]; exact k1
      have jg : b.xs[((i : Int) + 1).toNat]? = some d := by rw [show ((i : Int) + 1).toNat = i + 1 by omega]; exact j1
      have bc := hb c (List.mem_of_getElem? k1)
      have bd := hb d (List.mem_of_getElem? j1)
      have s := step_good (by omega) hd bc.1 hg
      rw [goes1 h0 h1] at s
      obtain ⟨t', z, k⟩ := fin (n := 2) j2 h
      have e : bitOr .i64 ((bitAnd .i64 c 31) * 2 ^ 6) (bitAnd .i64 d 63) = c % 32 * 64 + d % 64 := by rw [and31 bc.1 bc.2, and63 bd.1 bd.2, or6 (by omega) (by omega) (by omega) (by omega)]
      refine ⟨t', z, ref01_Points_l0_s0 (y0 := c) (y1 := d) (by omega) s (by omega) kg (wz bc.1 bc.2) (by decide) (by rw [and31 bc.1 bc.2]; exact in64 (by omega) (by omega)) (in64 (by omega) (by omega)) (by omega) jg (wz bd.1 bd.2) (by omega) (in64 (by omega) (by omega)) ?_⟩
      rw [e]
      exact k
    | @three c d f l p h0 h1 hc hf h =>
      obtain ⟨k1, k2, k3⟩ := drop_cons hd
      obtain ⟨j1, j2, j3⟩ := drop_cons k2
      obtain ⟨m1, m2, m3⟩ := drop_cons j2
      have kg : b.xs[((i : Nat) : Int).toNat]? = some c := by rw [Int.toNat_natCast]; exact k1
      have jg : b.xs[((i : Int) + 1).toNat]? = some d := by rw [show ((i : Int) + 1).toNat = i + 1 by omega]; exact j1
      have mg : b.xs[((i : Int) + 2).toNat]? = some f := by rw [show ((i : Int) + 2).toNat = i + 1 + 1 by omega]; exact m1
      have bc := hb c (List.mem_of_getElem? k1)
      have bd := hb d (List.mem_of_getElem? j1)
      have bf := hb f (List.mem_of_getElem? m1)
      have s := step_good (by omega) hd bc.1 hg
      rw [goes2 h0 h1] at s
      obtain ⟨t', z, k⟩ := fin (n := 3) m2 h
      have e : bitOr .i64 (bitOr .i64 ((bitAnd .i64 c 15) * 2 ^ 12) ((bitAnd .i64 d 63) * 2 ^ 6)) (bitAnd .i64 f 63) = c % 16 * 4096 + d % 64 * 64 + f % 64 := by
        rw [and15 bc.1 bc.2, and63 bd.1 bd.2, and63 bf.1 bf.2, or12 (by omega) (by omega) (by omega) (by omega), show c % 16 * 4096 + d % 64 * 2 ^ 6 = (c % 16 * 64 + d % 64) * 2 ^ 6 by omega, or6 (by omega) (by omega) (by omega) (by omega)]
        omega
      refine ⟨t', z, ref01_Points_l0_s1 (y0 := c) (y1 := d) (y2 := f) (by omega) s (by omega) kg (wz bc.1 bc.2) (by decide) (by decide) (by rw [and15 bc.1 bc.2]; exact in64 (by omega) (by omega)) (in64 (by omega) (by omega)) (by omega) jg (wz bd.1 bd.2) (by rw [and63 bd.1 bd.2]; exact in64 (by omega) (by omega)) (in64 (by omega) (by omega)) (by omega) mg (wz bf.1 bf.2) (by omega) (in64 (by omega) (by omega)) ?_⟩
      rw [e]
      exact k
    | @four c d f g l p h0 h1 hc hf hg2 h =>
      obtain ⟨k1, k2, k3⟩ := drop_cons hd
      obtain ⟨j1, j2, j3⟩ := drop_cons k2
      obtain ⟨m1, m2, m3⟩ := drop_cons j2
      obtain ⟨n1, n2, n3⟩ := drop_cons m2
      have kg : b.xs[((i : Nat) : Int).toNat]? = some c := by rw [Int.toNat_natCast]; exact k1
      have jg : b.xs[((i : Int) + 1).toNat]? = some d := by rw [show ((i : Int) + 1).toNat = i + 1 by omega]; exact j1
      have mg : b.xs[((i : Int) + 2).toNat]? = some f := by rw [show ((i : Int) + 2).toNat = i + 1 + 1 by omega]; exact m1
      have ng : b.xs[((i : Int) + 3).toNat]? = some g := by rw [show ((i : Int) + 3).toNat = i + 1 + 1 + 1 by omega]; exact n1
      have bc := hb c (List.mem_of_getElem? k1)
      have bd := hb d (List.mem_of_getElem? j1)
      have bf := hb f (List.mem_of_getElem? m1)
      have bg := hb g (List.mem_of_getElem? n1)
      have s := step_good (by omega) hd bc.1 hg
      rw [goes3 h0 h1] at s
      obtain ⟨t', z, k⟩ := fin (n := 4) n2 h
      have e : bitOr .i64 (bitOr .i64 (bitOr .i64 ((bitAnd .i64 c 7) * 2 ^ 18) ((bitAnd .i64 d 63) * 2 ^ 12)) ((bitAnd .i64 f 63) * 2 ^ 6)) (bitAnd .i64 g 63) = c % 8 * 262144 + d % 64 * 4096 + f % 64 * 64 + g % 64 := by
        rw [and7 bc.1 bc.2, and63 bd.1 bd.2, and63 bf.1 bf.2, and63 bg.1 bg.2, or18 (by omega) (by omega) (by omega) (by omega), show c % 8 * 262144 + d % 64 * 2 ^ 12 = (c % 8 * 64 + d % 64) * 2 ^ 12 by omega, or12 (by omega) (by omega) (by omega) (by omega), show (c % 8 * 64 + d % 64) * 4096 + f % 64 * 2 ^ 6 = ((c % 8 * 64 + d % 64) * 64 + f % 64) * 2 ^ 6 by omega, or6 (by omega) (by omega) (by omega) (by omega)]
        omega
      refine ⟨t', z, ref01_Points_l0_s2 (y0 := c) (y1 := d) (y2 := f) (y3 := g) (by omega) s (by omega) kg (wz bc.1 bc.2) (by decide) (by decide) (by decide) (by rw [and7 bc.1 bc.2]; exact in64 (by omega) (by omega)) (in64 (by omega) (by omega)) (by omega) jg (wz bd.1 bd.2) (by rw [and63 bd.1 bd.2]; exact in64 (by omega) (by omega)) (in64 (by omega) (by omega)) (by omega) mg (wz bf.1 bf.2) (by rw [and63 bf.1 bf.2]; exact in64 (by omega) (by omega)) (in64 (by omega) (by omega)) (by omega) ng (wz bg.1 bg.2) (by omega) (in64 (by omega) (by omega)) ?_⟩
      rw [e]
      exact k
theorem ref_points_run {b : SL Int} (hb : isBytes b.xs) (hs : b.xs.length < 100000000000) : (∃ p t, GP b.xs p ∧ ref01_Points b ⟨1, p, t⟩ 0) ∨ (¬ GoodT b.xs ∧ ref01_Points b ⟨1, [], true⟩ 10) := by
  rcases ref_good_run hb (by omega) with ⟨⟨p, hp⟩, n, h⟩ | ⟨hn, n, h⟩
  · obtain ⟨t, z, g⟩ := ref_points_loop hb hs p 0 [] true (by rw [List.drop_zero]; exact hp) (by have := hp.len; simp; omega)
    rw [List.nil_append] at g
    exact .inl ⟨p, t, hp, ref01_Points_r0 h g⟩
  · exact .inr ⟨hn, ref01_Points_r1 h⟩
/-! ### What follows -/
def hitR (p : Int) (l : List Range) : Prop := ∃ x ∈ l, x.From ≤ p ∧ p ≤ x.To
theorem fol_in {r : pike_run} {p n : Int} {st : State} {t12 : SL Int} {t13 t14 : Int} {out : List Int} {outt : Bool} (h0 : 0 ≤ n) (hst : r.l_.xs[n.toNat]? = some st) (ho : (out.length + 1) * 8 ≤ 140737488355328) (hs : st.Ranges.xs.length < 100000000000000) : ∀ (rest : List Range) (k : Nat), st.Ranges.xs.drop k = rest →
    (hitR p rest ∧ ∃ z, pike_run_follow_l0 out r p outt n t12 t13 t14 st.Ranges (st.Ranges.xs.length : Int) k (pike_run_follow_l0_x0 z st.A (out ++ [st.A]) r p t12 t13 t14)) ∨
    (¬ hitR p rest ∧ ∃ z, pike_run_follow_l0 out r p outt n t12 t13 t14 st.Ranges (st.Ranges.xs.length : Int) k (pike_run_follow_l0_x1 out r p outt n t12 t13 t14 st.Ranges (st.Ranges.xs.length : Int) z))
  | [], k, hd => by
    have := drop_len hd
    exact .inr ⟨fun ⟨x, hx, _⟩ => by simp at hx, _, pike_run_follow_l0_e3 (by omega)⟩
  | x :: rest, k, hd => by
    obtain ⟨k1, k2, k3⟩ := drop_cons hd
    have kg : st.Ranges.xs[((k : Nat) : Int).toNat]? = some x := by rw [Int.toNat_natCast]; exact k1
    have w : w64 ((k : Int) + 1) := in64 (by omega) (by omega)
    by_cases h1 : p ≥ x.From
    · by_cases h2 : p ≤ x.To
      · exact .inl ⟨⟨x, List.mem_cons_self .., h1, h2⟩, _, pike_run_follow_l0_e0 (by omega) (by omega) kg h1 h2 h0 hst ho⟩
      · rcases fol_in h0 hst ho hs rest (k + 1) k2 with ⟨⟨y, hy, hy2⟩, z, g⟩ | ⟨g1, z, g⟩
        · exact .inl ⟨⟨y, List.mem_cons_of_mem _ hy, hy2⟩, z, pike_run_follow_l0_s1 (by omega) (by omega) kg h1 h2 w g⟩
        · refine .inr ⟨fun ⟨y, hy, hy2⟩ => ?_, z, pike_run_follow_l0_s1 (by omega) (by omega) kg h1 h2 w g⟩
          rcases List.mem_cons.1 hy with rfl | hy
          · omega
          · exact g1 ⟨y, hy, hy2⟩
    · rcases fol_in h0 hst ho hs rest (k + 1) k2 with ⟨⟨y, hy, hy2⟩, z, g⟩ | ⟨g1, z, g⟩
      · exact .inl ⟨⟨y, List.mem_cons_of_mem _ hy, hy2⟩, z, pike_run_follow_l0_s2 (by omega) (by omega) kg h1 w g⟩
      · refine .inr ⟨fun ⟨y, hy, hy2⟩ => ?_, z, pike_run_follow_l0_s2 (by omega) (by omega) kg h1 w g⟩
        rcases List.mem_cons.1 hy with rfl | hy
        · omega
        · exact g1 ⟨y, hy, hy2⟩
/-- A state that a code point goes on from. -/
def goTo (l : List State) (p x y : Int) : Prop := ∃ st, l[x.toNat]? = some st ∧ hitR p st.Ranges.xs ∧ y = st.A
theorem fol_loop {r : pike_run} {p : Int} {all : SL Int} (ha : all.xs.length < 100000000000) (hv : ∀ x ∈ all.xs, 0 ≤ x ∧ x < r.l_.xs.length) (hs : ∀ st ∈ r.l_.xs, st.Ranges.xs.length < 100000000000000) : ∀ (rest : List Int) (k : Nat) (out : List Int) (outt : Bool), all.xs.drop k = rest → out.length ≤ k →
    ∃ out' outt' z, pike_run_follow_l1 out r p outt all (all.xs.length : Int) k (pike_run_follow_l1_x0 out' r p outt' all (all.xs.length : Int) z) ∧ out'.length ≤ out.length + rest.length ∧ ∀ y, y ∈ out' ↔ y ∈ out ∨ ∃ x ∈ rest, goTo r.l_.xs p x y
  | [], k, out, outt, hd, hk => by
    have := drop_len hd
    exact ⟨out, outt, _, pike_run_follow_l1_e2 (by omega), by simp, fun y => by simp⟩
  | x :: rest, k, out, outt, hd, hk => by
    obtain ⟨k1, k2, k3⟩ := drop_cons hd
    have kg : all.xs[((k : Nat) : Int).toNat]? = some x := by rw [Int.toNat_natCast]; exact k1
    have hx := hv x (List.mem_of_getElem? k1)
    have w : w64 ((k : Int) + 1) := in64 (by omega) (by omega)
    obtain ⟨st, hst⟩ : ∃ st, r.l_.xs[x.toNat]? = some st := ⟨_, List.getElem?_eq_getElem (by omega)⟩
    have hsr := hs st (List.mem_of_getElem? hst)
    rcases fol_in (out := out) (outt := outt) (t12 := all) (t13 := (all.xs.length : Int)) (t14 := (k : Int)) (p := p) hx.1 hst (by omega) hsr st.Ranges.xs 0 (by simp) with ⟨g1, z, g2⟩ | ⟨g1, z, g2⟩
    · obtain ⟨out', outt', z', j1, j2, j3⟩ := fol_loop ha hv hs rest (k + 1) (out ++ [st.A]) false k2 (by simp; omega)
      refine ⟨out', outt', z', pike_run_follow_l1_s0 (by omega) (by omega) kg hx.1 hst g2 w j1, by simp at j2 ⊢; omega, fun y => ?_⟩
      rw [j3, List.mem_append, List.mem_singleton]
      constructor
      · rintro ((h | h) | ⟨u, hu, h⟩)
        · exact .inl h
        · exact .inr ⟨x, List.mem_cons_self .., st, hst, g1, h⟩
        · exact .inr ⟨u, List.mem_cons_of_mem _ hu, h⟩
      · rintro (h | ⟨u, hu, st', h1, h2, h3⟩)
        · exact .inl (.inl h)
        · rcases List.mem_cons.1 hu with rfl | hu
          · rw [hst] at h1; cases h1; exact .inl (.inr h3)
          · exact .inr ⟨u, hu, st', h1, h2, h3⟩
    · obtain ⟨out', outt', z', j1, j2, j3⟩ := fol_loop ha hv hs rest (k + 1) out outt k2 (by omega)
      refine ⟨out', outt', z', pike_run_follow_l1_s1 (by omega) (by omega) kg hx.1 hst g2 w j1, by simp; omega, fun y => ?_⟩
      rw [j3]
      constructor
      · rintro (h | ⟨u, hu, h⟩)
        · exact .inl h
        · exact .inr ⟨u, List.mem_cons_of_mem _ hu, h⟩
      · rintro (h | ⟨u, hu, st', h1, h2, h3⟩)
        · exact .inl h
        · rcases List.mem_cons.1 hu with rfl | hu
          · rw [hst] at h1; cases h1; exact absurd h2 g1
          · exact .inr ⟨u, hu, st', h1, h2, h3⟩
theorem follow_run {r : pike_run} {p : Int} {all : SL Int} (ha : all.xs.length < 100000000000) (hv : ∀ x ∈ all.xs, 0 ≤ x ∧ x < r.l_.xs.length) (hs : ∀ st ∈ r.l_.xs, st.Ranges.xs.length < 100000000000000) : ∃ out t, pike_run_follow r all p out out.length t ∧ out.length ≤ all.xs.length ∧ ∀ y, y ∈ out ↔ ∃ x ∈ all.xs, goTo r.l_.xs p x y := by
  obtain ⟨out, t, z, h1, h2, h3⟩ := fol_loop (p := p) ha hv hs all.xs 0 [] true (by simp) (by simp)
  exact ⟨out, t, pike_run_follow_r0 h1, by simpa using h2, fun y => by rw [h3]; simp⟩
/-! ### A search's run -/
/-- What a run finds, and in how many steps: places to come; place; where from; steps so far. -/
def Spec (l : List State) (s : List Int) (again : Bool) : Nat → Nat → List Int → Int → Bool → Int → Prop
  | 0, i, src, acc, f, n => ∃ all : List Int, all.Nodup ∧ (∀ x, x ∈ all ↔ Clos (nxL l s i) src x) ∧ (f = true ↔ ∃ x ∈ all, isDone l x) ∧ n = acc + all.length
  | m + 1, i, src, acc, f, n => ∃ all : List Int, all.Nodup ∧ (∀ x, x ∈ all ↔ Clos (nxL l s i) src x) ∧ (((∃ x ∈ all, isDone l x) ∧ f = true ∧ n = acc + all.length) ∨
      ((¬ ∃ x ∈ all, isDone l x) ∧ ∃ (p : Int) (src' : List Int), s[i]? = some p ∧ (∀ y, y ∈ src' ↔ (again = true ∧ y = 0) ∨ ∃ x ∈ all, goTo l p x y) ∧ Spec l s again m (i + 1) src' (acc + all.length) f n))
theorem spec_uniq {l : List State} {s : List Int} {again : Bool} : ∀ (m i : Nat) (src src2 : List Int) (acc n n2 : Int) (f f2 : Bool), (∀ x, x ∈ src ↔ x ∈ src2) → Spec l s again m i src acc f n → Spec l s again m i src2 acc f2 n2 → f = f2 ∧ n = n2
  | 0, i, src, src2, acc, n, n2, f, f2, he, ⟨a, h1, h2, h3, h4⟩, ⟨b, g1, g2, g3, g4⟩ => by
    have hm : ∀ x, x ∈ a ↔ x ∈ b := fun x => by rw [h2, g2]; exact Clos.congr he x
    have hl := nodup_ext_length h1 g1 hm
    refine ⟨?_, by rw [h4, g4, hl]⟩
    have : f = true ↔ f2 = true := by
      rw [h3, g3]
      exact ⟨fun ⟨x, hx, k⟩ => ⟨x, (hm x).1 hx, k⟩, fun ⟨x, hx, k⟩ => ⟨x, (hm x).2 hx, k⟩⟩
    cases f <;> cases f2 <;> simp_all
  | m + 1, i, src, src2, acc, n, n2, f, f2, he, ⟨a, h1, h2, h3⟩, ⟨b, g1, g2, g3⟩ => by
    have hm : ∀ x, x ∈ a ↔ x ∈ b := fun x => by rw [h2, g2]; exact Clos.congr he x
    have hl := nodup_ext_length h1 g1 hm
    have hd : (∃ x ∈ a, isDone l x) ↔ ∃ x ∈ b, isDone l x := ⟨fun ⟨x, hx, k⟩ => ⟨x, (hm x).1 hx, k⟩, fun ⟨x, hx, k⟩ => ⟨x, (hm x).2 hx, k⟩⟩
    rcases h3 with ⟨h3, h4, h5⟩ | ⟨h3, p, s', h4, h5, h6⟩ <;> rcases g3 with ⟨g3, g4, g5⟩ | ⟨g3, q, t', g4, g5, g6⟩
    · exact ⟨by rw [h4, g4], by rw [h5, g5, hl]⟩
    · exact absurd (hd.1 h3) g3
    · exact absurd (hd.2 g3) h3
    · rw [h4] at g4
      cases g4
      rw [← hl] at g6
      refine spec_uniq m (i + 1) s' t' _ _ _ _ _ (fun y => ?_) h6 g6
      rw [h5, g5]
      constructor
      · rintro (h | ⟨x, hx, k⟩)
        · exact .inl h
        · exact .inr ⟨x, (hm x).1 hx, k⟩
      · rintro (h | ⟨x, hx, k⟩)
        · exact .inl h
        · exact .inr ⟨x, (hm x).2 hx, k⟩
/-- States that may be: what they go on to is among them. -/
structure Fits (l : List State) : Prop where
  a : ∀ st ∈ l, st.Kind ≠ 7 → 0 ≤ st.A ∧ st.A < l.length
  b : ∀ st ∈ l, st.Kind = 2 → 0 ≤ st.B ∧ st.B < l.length
  z : ∀ st ∈ l, st.Kind = 7 → st.Ranges.xs = []
  r : ∀ st ∈ l, st.Ranges.xs.length < 100000000000000
theorem Fits.nx {l : List State} (h : Fits l) (s : List Int) (i : Nat) (x : Int) (h0 : 0 ≤ x) (h1 : x < l.length) : ∀ y ∈ nxL l s i x, 0 ≤ y ∧ y < l.length := by
  intro y hy
  unfold nxL at hy
  obtain ⟨st, hst⟩ : ∃ st, l[x.toNat]? = some st := ⟨_, List.getElem?_eq_getElem (by omega)⟩
  rw [hst] at hy
  have hm := List.mem_of_getElem? hst
  rcases List.mem_append.1 hy with hy | hy
  · unfold kGo at hy
    split at hy
    · rw [List.mem_singleton.1 hy]
      refine h.a st hm fun e => ?_
      rename_i hb
      rw [e] at hb
      unfold letsB at hb
      simp at hb
    · simp at hy
  · unfold kFork at hy
    split at hy
    · rw [List.mem_singleton.1 hy]
      exact h.b st hm (by assumption)
    · simp at hy
theorem Fits.go {l : List State} (h : Fits l) {p x y : Int} (hg : goTo l p x y) : 0 ≤ y ∧ y < l.length := by
  obtain ⟨st, h1, ⟨u, hu, _⟩, rfl⟩ := hg
  have hm := List.mem_of_getElem? h1
  refine h.a st hm fun e => ?_
  rw [h.z st hm e] at hu
  simp at hu
theorem search_each (a n k : Int) (c b : Bool) (hw : w64 (a + n)) : pike_Search_f1 a c k n b (!b) (a + n) b := by
  cases b with
  | true => exact pike_Search_f1_r0 hw
  | false => exact pike_Search_f1_r1 hw
theorem over_loop {r : pike_run} (hF : Fits r.l_.xs) (hs : r.s_.xs.length < 100000000) (hn : r.l_.xs.length < 10000000) (hp0 : 0 < r.l_.xs.length) : ∀ (m i : Nat) (src : List Int) (t : Bool) (acc : Int) (c : Bool), i + m = r.s_.xs.length → (∀ x ∈ src, 0 ≤ x ∧ x < r.l_.xs.length) → src.length ≤ r.l_.xs.length + 1 → 0 ≤ acc → acc ≤ i * 10000000 →
    ∃ f n x i' al, pike_run_over_v1_l0_b acc c src r true t src.length i (pike_run_over_v1_l0_x4 n f x r i' al) ∧ Spec r.l_.xs r.s_.xs true m i src acc f n := by
  intro m
  induction m with
  | zero =>
    intro i src t acc c hi hv hl h0 ha
    obtain ⟨all, at_, d, h1, h2, h3, h4⟩ := spread_run (r := r) (i := i) (src := ⟨1, src, t⟩) (by omega) (by omega) (by omega) (by show src.length < _; omega) hv (hF.nx _ _)
    have hal : all.length ≤ r.l_.xs.length := nodup_le _ _ h2 (fun x hx => Clos.lt hv (hF.nx _ _) ((h3 x).1 hx))
    have hw : w64 (acc + (all.length : Int)) := in64 (by omega) (by omega)
    have he := search_each acc all.length i c d hw
    have tk : src.take src.length = src := List.take_length ..
    have h1' : pike_run_spread r ⟨1, src.take src.length, t⟩ i ⟨1, all, at_⟩ d := by rw [tk]; exact h1
    cases d with
    | true => exact ⟨_, _, _, _, _, pike_run_over_v1_l0_b_e16 (by omega) (Nat.le_refl _) h1' he, all, h2, h3, h4, rfl⟩
    | false => exact ⟨_, _, _, _, _, pike_run_over_v1_l0_b_e17 (by omega) (Nat.le_refl _) h1' he (by omega), all, h2, h3, h4, rfl⟩
  | succ m ih =>
    intro i src t acc c hi hv hl h0 ha
    obtain ⟨all, at_, d, h1, h2, h3, h4⟩ := spread_run (r := r) (i := i) (src := ⟨1, src, t⟩) (by omega) (by omega) (by omega) (by show src.length < _; omega) hv (hF.nx _ _)
    have hav : ∀ x ∈ all, 0 ≤ x ∧ x < r.l_.xs.length := fun x hx => Clos.lt hv (hF.nx _ _) ((h3 x).1 hx)
    have hal : all.length ≤ r.l_.xs.length := nodup_le _ _ h2 hav
    have hw : w64 (acc + (all.length : Int)) := in64 (by omega) (by omega)
    have he := search_each acc all.length i c d hw
    have tk : src.take src.length = src := List.take_length ..
    have h1' : pike_run_spread r ⟨1, src.take src.length, t⟩ i ⟨1, all, at_⟩ d := by rw [tk]; exact h1
    cases d with
    | true => exact ⟨_, _, _, _, _, pike_run_over_v1_l0_b_e16 (by omega) (Nat.le_refl _) h1' he, all, h2, h3, .inl ⟨h4.1 rfl, rfl, rfl⟩⟩
    | false =>
      obtain ⟨p, hp⟩ : ∃ p, r.s_.xs[i]? = some p := ⟨_, List.getElem?_eq_getElem (by omega)⟩
      have hp' : r.s_.xs[((i : Nat) : Int).toNat]? = some p := by rw [Int.toNat_natCast]; exact hp
      obtain ⟨out, ot, g1, g2, g3⟩ := follow_run (r := r) (p := p) (all := ⟨1, all, at_⟩) (by show all.length < _; omega) hav hF.r
      have tk2 : out.take out.length = out := List.take_length ..
      have g2' : out.length ≤ all.length := g2
      obtain ⟨f, n, x, i', al, k1, k2⟩ := ih (i + 1) (out ++ [0]) false (acc + all.length) false (by omega) (fun y hy => by
        rcases List.mem_append.1 hy with h | h
        · obtain ⟨x, _, h⟩ := (g3 y).1 h
          exact hF.go h
        · rw [List.mem_singleton.1 h]
          omega) (by simp; omega) (by omega) (by omega)
      refine ⟨f, n, x, i', al, pike_run_over_v1_l0_b_s18 (by omega) (Nat.le_refl _) h1' he (by omega) (by omega) hp' g1 (by omega) (Nat.le_refl _) (in64 (by omega) (by omega)) ?_, all, h2, h3, .inr ⟨fun h => (by have := h4.2 h; cases this), p, out ++ [0], hp, fun y => ?_, k2⟩⟩
      · rw [tk2]; exact k1
      · rw [List.mem_append, g3, List.mem_singleton]
        constructor
        · rintro (h | h)
          · exact .inr h
          · exact .inl ⟨rfl, h⟩
        · rintro (⟨_, h⟩ | h)
          · exact .inr h
          · exact .inl h
end Go.Proofs.Ytjnfkifdgojdaaa.V

/- The law PikeMeans. -/
import Derived.Test.YtjnfkifdgojdaaaGreatQ6
import Derived.Test.YtjnfkifdgojdaaaGreatMC
namespace Go.Proofs.YtjnfkifdgojdaaaGreat.V
open Go
set_option linter.unusedVariables false
set_option linter.unusedSimpArgs false
set_option linter.unusedSectionVars false
set_option linter.unnecessarySimpa false
theorem counts_loop {x : Rx} (hs : x.Sub.xs.length < 9000000000000) (hf : ∀ y ∈ x.Sub.xs, ∃ b, law_counts y b) : ∀ (rest : List Rx) (k : Nat), x.Sub.xs.drop k = rest → law_counts_l0 x k (law_counts_l0_x0 x) ∨ ∃ z, law_counts_l0 x k (law_counts_l0_x1 x z)
 | [], k, hd => by
  have := drop_nil_le hd
  exact .inr ⟨k, law_counts_l0_e2 (by omega)⟩
 | y :: rest, k, hd => by
  obtain ⟨h1, h2, h3⟩ := at_drop hd
  obtain ⟨b, hb⟩ := hf y (List.mem_of_mem_drop (by rw [hd]; exact List.mem_cons_self ..))
  cases b with
  | true => exact .inl (law_counts_l0_e0 (by omega) (by omega) h1 hb)
  | false =>
   have w : w64 ((k : Int) + 1) := in64 (by omega) (by omega)
   rcases counts_loop hs hf rest (k + 1) h2 with h | ⟨z, h⟩
   ·exact .inl (law_counts_l0_s1 (by omega) (by omega) h1 hb w h)
   ·exact .inr ⟨z, law_counts_l0_s1 (by omega) (by omega) h1 hb w h⟩
theorem counts_run : ∀ (n : Nat) {x : Rx}, wf_Rx x → rightR n x → ∃ b, law_counts x b
 | 0, x, hx, h => h.elim
 | n + 1, x, hx, h => by
  obtain ⟨_, w2, w3⟩ := wfRx_small hx
  rcases counts_loop w2 (fun y hy => counts_run n (w3 y hy) (h.2 y hy)) x.Sub.xs 0 (by simp) with g | ⟨z, g⟩
  ·exact ⟨true, law_counts_r0 g⟩
  ·by_cases c1 : x.Min > 6
   ·exact ⟨true, law_counts_r1 g c1⟩
   by_cases c2 : x.Max > 6
   ·exact ⟨true, law_counts_r2 g c1 c2⟩
   ·exact ⟨false, law_counts_r3 g c1 c2⟩
theorem law_in {x : Rx} {places : List Int} {p ends want m : SL Int} {found : Bool} {pt : Bool} {P : Nat → Prop} {k : Int} (hp : p.xs.length < 100000000) (hm : Bits m.xs P (p.xs.length + 1)) : ∀ (r j : Nat) (sb : Bool), j + r = p.xs.length + 1 → ∃ sb' z, law_PikeMeans_l0 x places p ends found want pt sb k m j (if sb' = true then law_PikeMeans_l0_x0 x places p ends found want pt k m z else law_PikeMeans_l0_x1 x places p ends found want pt k m z) ∧ (sb' = true ↔ sb = true ∨ ∃ i, j ≤ i ∧ i ≤ p.xs.length ∧ P i)
 | 0, j, sb, hj => by
  refine ⟨sb, j, ?_, ⟨fun h => .inl h, fun h => h.elim id fun ⟨i, h1, h2, _⟩ => by omega⟩⟩
  cases sb with
  | true => exact law_PikeMeans_l0_e1 (by omega)
  | false => exact law_PikeMeans_l0_e4 (by omega)
 | r + 1, j, sb, hj => by
  have w : w64 ((j : Int) + 1) := in64 (by omega) (by omega)
  obtain ⟨y, h1, _, h3⟩ := hm.get (k := j) (by omega)
  have h1' : m.xs[((j : Nat) : Int).toNat]? = some y := by rw [Int.toNat_natCast]; exact h1
  cases sb with
  | true =>
   obtain ⟨sb', z, g1, g2⟩ := law_in (x := x) (places := places) (ends := ends) (want := want) (found := found) (pt := pt) (k := k) hp hm r (j + 1) true (by omega)
   exact ⟨sb', z, law_PikeMeans_l0_s0 (by omega) w g1, g2.trans (by simp)⟩
  | false =>
   by_cases c : y = 1
   ·obtain ⟨sb', z, g1, g2⟩ := law_in (x := x) (places := places) (ends := ends) (want := want) (found := found) (pt := pt) (k := k) hp hm r (j + 1) true (by omega)
    refine ⟨sb', z, law_PikeMeans_l0_s2 (by omega) (by omega) h1' c w g1, g2.trans ?_⟩
    exact ⟨fun _ => .inr ⟨j, Nat.le_refl _, by omega, h3.1 c⟩, fun _ => .inl rfl⟩
   ·obtain ⟨sb', z, g1, g2⟩ := law_in (x := x) (places := places) (ends := ends) (want := want) (found := found) (pt := pt) (k := k) hp hm r (j + 1) false (by omega)
    refine ⟨sb', z, law_PikeMeans_l0_s3 (by omega) (by omega) h1' c w g1, g2.trans ?_⟩
    refine or_congr_right ⟨fun ⟨i, i1, i2, i3⟩ => ⟨i, by omega, i2, i3⟩, fun ⟨i, i1, i2, i3⟩ => ?_⟩
    rcases Nat.lt_or_ge j i with e | e
    ·exact ⟨i, e, i2, i3⟩
    ·have : i = j := by omega
     subst this
     exact absurd (h3.2 i3) c
theorem law_out {x : Rx} {p ends want : SL Int} {found : Bool} {P : Nat → Prop} {R : Nat → Nat → Prop} (hp : p.xs.length < 100000000) (hw : Bits want.xs P (p.xs.length + 1)) (hM : ∀ i : Nat, i < p.xs.length + 1 → ∃ o, lm x p i o ∧ Bits o.xs (R i) (p.xs.length + 1)) :
  ∀ (r k : Nat) (places : List Int) (pt sb : Bool), k + r = p.xs.length → places.length ≤ k → ∃ places' pt' sb' z, law_PikeMeans_l1 x places p ends found want pt sb k (law_PikeMeans_l1_x0 x places' p ends found want pt' sb' z) ∧ Plc P r k places places' ∧ (sb' = true ↔ sb = true ∨ ∃ a, k ≤ a ∧ a ≤ p.xs.length ∧ ∃ i, i ≤ p.xs.length ∧ R a i) := by
 intro r
 induction r with
 | zero =>
  intro k places pt sb hk hpl
  have w : w64 ((k : Int) + 1) := in64 (by omega) (by omega)
  obtain ⟨y, h1, _, h3⟩ := hw.get (k := k) (by omega)
  have h1' : want.xs[((k : Nat) : Int).toNat]? = some y := by rw [Int.toNat_natCast]; exact h1
  obtain ⟨o, o1, o2⟩ := hM k (by omega)
  have fin : ∀ (sb' : Bool), (sb' = true ↔ sb = true ∨ ∃ i, 0 ≤ i ∧ i ≤ p.xs.length ∧ R k i) → (sb' = true ↔ sb = true ∨ ∃ a, k ≤ a ∧ a ≤ p.xs.length ∧ ∃ i, i ≤ p.xs.length ∧ R a i) := fun sb' g => g.trans (or_congr_right ⟨fun ⟨i, _, i2, i3⟩ => ⟨k, Nat.le_refl _, by omega, i, i2, i3⟩, fun ⟨a, a1, a2, i, i2, i3⟩ => by
   have : a = k := by omega
   subst this
   exact ⟨i, Nat.zero_le _, i2, i3⟩⟩)
  by_cases c : y = 1
  ·obtain ⟨sb', z, g1, g2⟩ := law_in (x := x) (places := places ++ [(k : Int)]) (ends := ends) (want := want) (found := found) (pt := false) (k := (k : Int)) hp o2 (p.xs.length + 1) 0 sb (by omega)
   refine ⟨_, false, sb', (k : Int) + 1, ?_, .inl ⟨h3.1 c, rfl⟩, fin sb' g2⟩
   cases sb' with
   | true => exact law_PikeMeans_l1_s0 (by omega) (by omega) h1' c (by omega) o1 g1 w (law_PikeMeans_l1_e4 (by omega))
   | false => exact law_PikeMeans_l1_s1 (by omega) (by omega) h1' c (by omega) o1 g1 w (law_PikeMeans_l1_e4 (by omega))
  ·obtain ⟨sb', z, g1, g2⟩ := law_in (x := x) (places := places) (ends := ends) (want := want) (found := found) (pt := pt) (k := (k : Int)) hp o2 (p.xs.length + 1) 0 sb (by omega)
   refine ⟨_, pt, sb', (k : Int) + 1, ?_, .inr ⟨fun h => c (h3.2 h), rfl⟩, fin sb' g2⟩
   cases sb' with
   | true => exact law_PikeMeans_l1_s2 (by omega) (by omega) h1' c o1 g1 w (law_PikeMeans_l1_e4 (by omega))
   | false => exact law_PikeMeans_l1_s3 (by omega) (by omega) h1' c o1 g1 w (law_PikeMeans_l1_e4 (by omega))
 | succ r ih =>
  intro k places pt sb hk hpl
  have w : w64 ((k : Int) + 1) := in64 (by omega) (by omega)
  obtain ⟨y, h1, _, h3⟩ := hw.get (k := k) (by omega)
  have h1' : want.xs[((k : Nat) : Int).toNat]? = some y := by rw [Int.toNat_natCast]; exact h1
  obtain ⟨o, o1, o2⟩ := hM k (by omega)
  have fin : ∀ (sb' sb2 : Bool), (sb' = true ↔ sb = true ∨ ∃ i, 0 ≤ i ∧ i ≤ p.xs.length ∧ R k i) → (sb2 = true ↔ sb' = true ∨ ∃ a, k + 1 ≤ a ∧ a ≤ p.xs.length ∧ ∃ i, i ≤ p.xs.length ∧ R a i) → (sb2 = true ↔ sb = true ∨ ∃ a, k ≤ a ∧ a ≤ p.xs.length ∧ ∃ i, i ≤ p.xs.length ∧ R a i) := fun sb' sb2 g g2 => by
   rw [g2, g]
   constructor
   ·rintro ((h | ⟨i, _, i2, i3⟩) | ⟨a, a1, a2, h⟩)
    ·exact .inl h
    ·exact .inr ⟨k, Nat.le_refl _, by omega, i, i2, i3⟩
    ·exact .inr ⟨a, by omega, a2, h⟩
   ·rintro (h | ⟨a, a1, a2, i, i2, i3⟩)
    ·exact .inl (.inl h)
    ·rcases Nat.lt_or_ge k a with e | e
     ·exact .inr ⟨a, e, a2, i, i2, i3⟩
     ·have : a = k := by omega
      subst this
      exact .inl (.inr ⟨i, Nat.zero_le _, i2, i3⟩)
  by_cases c : y = 1
  ·obtain ⟨sb', z, g1, g2⟩ := law_in (x := x) (places := places ++ [(k : Int)]) (ends := ends) (want := want) (found := found) (pt := false) (k := (k : Int)) hp o2 (p.xs.length + 1) 0 sb (by omega)
   obtain ⟨pl, pt2, sb2, z2, k1, k2, k3⟩ := ih (k + 1) (places ++ [(k : Int)]) false sb' (by omega) (by simp; omega)
   refine ⟨pl, pt2, sb2, z2, ?_, ⟨_, .inl ⟨h3.1 c, rfl⟩, k2⟩, fin sb' sb2 g2 k3⟩
   cases sb' with
   | true => exact law_PikeMeans_l1_s0 (by omega) (by omega) h1' c (by omega) o1 g1 w k1
   | false => exact law_PikeMeans_l1_s1 (by omega) (by omega) h1' c (by omega) o1 g1 w k1
  ·obtain ⟨sb', z, g1, g2⟩ := law_in (x := x) (places := places) (ends := ends) (want := want) (found := found) (pt := pt) (k := (k : Int)) hp o2 (p.xs.length + 1) 0 sb (by omega)
   obtain ⟨pl, pt2, sb2, z2, k1, k2, k3⟩ := ih (k + 1) places pt sb' (by omega) (by omega)
   refine ⟨pl, pt2, sb2, z2, ?_, ⟨_, .inr ⟨fun h => c (h3.2 h), rfl⟩, k2⟩, fin sb' sb2 g2 k3⟩
   cases sb' with
   | true => exact law_PikeMeans_l1_s2 (by omega) (by omega) h1' c o1 g1 w k1
   | false => exact law_PikeMeans_l1_s3 (by omega) (by omega) h1' c o1 g1 w k1
theorem GP.nonneg {l p : List Int} (h : GP l p) : ∀ c ∈ p, 0 ≤ c := by
 induction h with
 | nil => intro c hc; cases hc
 | one h0 h1 _ ih =>
  intro c hc
  rcases List.mem_cons.1 hc with rfl | hc
  ·exact h0
  ·exact ih c hc
 | two h0 h1 hc0 _ ih =>
  intro c hc
  rcases List.mem_cons.1 hc with rfl | hc
  ·omega
  ·exact ih c hc
 | three h0 h1 hc0 hd _ ih =>
  intro c hc
  rcases List.mem_cons.1 hc with rfl | hc
  ·omega
  ·exact ih c hc
 | four h0 h1 hc0 hd he _ ih =>
  intro c hc
  rcases List.mem_cons.1 hc with rfl | hc
  ·omega
  ·exact ih c hc
theorem means_true {x : Rx} {s : ByteArray} (hx : wf_Rx x) (hs : s.size ≤ 1048576) : law_PikeMeans x s true := by
 have hl := str_len s
 have szx : ∃ a b, nfa_Size x 1000 a b := by
  rcases size_all hx (m := 1000) (by omega) (by omega) with ⟨_, h⟩ | ⟨_, h⟩
  ·exact ⟨_, _, h⟩
  ·exact ⟨_, _, h⟩
 rcases ref_points_run (b := ⟨1, strInts s, false⟩) (bytes_str s) (by show (strInts s).length < _; omega) with ⟨p, t, hp, hr⟩ | ⟨hn, hr⟩
 ·have hpl := hp.len
  by_cases c2 : (p.length : Int) > 12
  ·obtain ⟨a, b, h⟩ := szx
   exact law_PikeMeans_r1 hr h rfl c2 heads_true'
  rcases size_all hx (m := 1000) (by omega) (by omega) with ⟨rx, sx⟩ | ⟨_, sx⟩
  ·by_cases c1 : min (totR 1000 x + 1) (1000 + 1) > 40
   ·exact law_PikeMeans_r3 hr sx rfl c2 rfl c1 heads_true'
   have lx := levels_run 1000 (by omega) hx rx
   by_cases c3 : (lvl 1000 x : Int) > 5
   ·exact law_PikeMeans_r4 hr sx rfl c2 rfl c1 lx c3 heads_true'
   have bx : totR 1000 x + 1 ≤ 65536 := by omega
   obtain ⟨l1, g1, k1⟩ := compiled (most := 1000) hx rx (by omega) (by omega)
   obtain ⟨cb, hcb⟩ := counts_run 1000 hx rx
   cases cb with
   | true => exact law_PikeMeans_r5 hr sx rfl c2 rfl c1 lx c3 hcb heads_true'
   | false =>
    rcases found_run (s := s) rx bx k1 (by omega) with ⟨n, _⟩ | ⟨p1, f, n, hp1, q1, e1⟩
    ·exact absurd ⟨_, hp⟩ n
    obtain rfl := hp1.uniq hp
    obtain ⟨f1, f2⟩ := comp_fits rx bx k1
    obtain ⟨f3, f4⟩ := fits_okL f2 (by omega)
    rcases ends_run (l := ⟨4, l1 ++ [doneS], false⟩) (s := s) f3 (by simp; omega) (by omega) with ⟨o, _⟩ | ⟨_, g, _⟩ | ⟨_, p2, out, t2, hp2, q2, sp⟩
    ·exact absurd f4 o
    ·exact absurd ⟨_, hp⟩ g
    obtain rfl := hp2.uniq hp
    have hplc := specE_plc p2.length 0 [0] [] out (fun y => by rw [List.mem_singleton]; exact Iff.rfl) sp
    have hmr := means_run (s := ⟨1, p2, t⟩) (by show p2.length < _; omega) hp.nonneg 1000 hx rx
    obtain ⟨want, w1, w2⟩ := hmr 0 (Nat.succ_pos _)
    obtain ⟨places, pt, sb, z, j1, j2, j3⟩ := law_out (x := x) (p := ⟨1, p2, t⟩) (ends := ⟨1, out, t2⟩) (found := f) (by show p2.length < _; omega) w2 hmr p2.length 0 [] true false (by show 0 + p2.length = p2.length; omega) (by simp)
    have epl : out = places := Plc.uniq p2.length 0 [] out places (fun j _ hj => by
     rw [dn_means rx bx k1]
     constructor
     ·rintro ⟨i, h1, _, h3⟩
      rcases h1 with h1 | rfl
      ·cases h1
      ·exact h3
     ·intro h; exact ⟨0, .inr rfl, Nat.zero_le _, h⟩) hplc j2
    subst epl
    have esb : f = sb := by
     have : f = true ↔ sb = true := by
      rw [e1, j3]
      constructor
      ·rintro ⟨i, j, h1, h2⟩
       exact .inr ⟨i, Nat.zero_le _, h1, j, (M_le _ _ _ h1 h2).2, h2⟩
      ·rintro (h | ⟨a, _, a2, i, _, h⟩)
       ·cases h
       ·exact ⟨a, i, a2, h⟩
     exact Bool.eq_iff_iff.2 this
    subst esb
    have hi := ints_run (a := ⟨1, out, t2⟩) (b := ⟨1, out, pt⟩) rfl (by
     show out.length < 100000000000
     have : out.length ≤ p2.length + 1 := by
      have key : ∀ (m i : Nat) (acc out : List Int), Plc (Dn false (l1 ++ [doneS]) p2) m i acc out → out.length ≤ acc.length + m + 1 := by
       intro m
       induction m with
       | zero =>
        intro i acc out h
        rcases h with ⟨_, rfl⟩ | ⟨_, rfl⟩
        ·simp
        ·omega
       | succ m ih =>
        rintro i acc out ⟨a, h1, h2⟩
        have := ih _ _ _ h2
        rcases h1 with ⟨_, rfl⟩ | ⟨_, rfl⟩
        ·simp at this; omega
        ·omega
      have := key _ _ _ _ hplc
      simpa using this
     omega)
    cases f with
    | true => exact law_PikeMeans_r6 hr sx rfl c2 rfl c1 lx c3 hcb g1 q2 q1 rfl rfl rfl w1 j1 hi heads_true'
    | false => exact law_PikeMeans_r13 hr sx rfl c2 rfl c1 lx c3 hcb g1 q2 q1 rfl rfl rfl w1 j1 hi heads_true'
  ·exact law_PikeMeans_r2 hr sx rfl c2 (by decide) heads_true'
 ·obtain ⟨a, b, h⟩ := szx
  exact law_PikeMeans_r0 hr h (by decide) heads_true'
end Go.Proofs.YtjnfkifdgojdaaaGreat.V

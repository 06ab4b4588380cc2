/- The document's answers for numbers: what they reckon; the law NatReckons. -/
import Derived.Test.YtlijicnknhopkaaDoorVQ
namespace Go.Proofs.YtlijicnknhopkaaDoor.V
open Go
set_option linter.unusedVariables false
set_option linter.unnecessarySimpa false
set_option linter.unusedSimpArgs false
set_option linter.unusedSectionVars false
theorem rtrim_loop {a : SL Int} (hf : wide a.xs) : ∀ n : Nat, n ≤ a.xs.length → (∀ i x, n ≤ i → a.xs[i]? = some x → x = 0) → ∃ m : Nat, ref02_Trim_l0 a n (ref02_Trim_l0_x0 a m) ∧ m ≤ a.xs.length ∧ a.xs.take m = trimL a.xs
  | 0, hn, hz => ⟨0, ref02_Trim_l0_e2 (by omega), by omega, take_trim (by omega) hz (.inl rfl)⟩
  | n + 1, hn, hz => by
    unfold wide at hf
    have e : (((n + 1 : Nat) : Int) - 1) = n := by omega
    have hg : a.xs[(((n + 1 : Nat) : Int) - 1).toNat]? = some (a.xs[n]'(by omega)) := by rw [e]; simp
    have hg' : a.xs[n]? = some (a.xs[n]'(by omega)) := List.getElem?_eq_getElem _
    have w1 : w64 (((n + 1 : Nat) : Int) - 1) := in64 (by omega) (by omega)
    by_cases c : a.xs[n]'(by omega) = 0
    · obtain ⟨m, h, h2, h3⟩ := rtrim_loop (a := a) (by unfold wide; exact hf) n (by omega) (fun i x hi hx => by
        rcases Nat.eq_or_lt_of_le hi with h | h
        · subst h; rw [hg'] at hx; cases hx; exact c
        · exact hz i x h hx)
      refine ⟨m, ref02_Trim_l0_s0 (by omega) w1 (by omega) hg c ?_, h2, h3⟩
      rw [e]; exact h
    · exact ⟨n + 1, ref02_Trim_l0_e1 (by omega) w1 (by omega) hg c, hn, take_trim hn hz (.inr ⟨_, c, by rw [Nat.add_sub_cancel]; exact hg'⟩)⟩
theorem rtrim_limbs {l : List Int} (hf : wide l) (hl : limbs l) (t : Bool) : ∃ q : SL Int, ref02_Trim ⟨1, l, t⟩ q ∧ isNum q.xs ∧ val q.xs = val l ∧ q.xs.length ≤ l.length := by
  obtain ⟨m, h, h2, h3⟩ := rtrim_loop (a := ⟨1, l, t⟩) hf l.length (Nat.le_refl _) (fun i x hi hx => by
    have : l[i]? = some x := hx
    rw [List.getElem?_eq_none hi] at this; cases this)
  have h3' : l.take m = trimL l := h3
  have h2' : m ≤ l.length := h2
  have hlen : (trimL l).length ≤ l.length := by rw [← h3', List.length_take]; omega
  unfold wide at hf
  have e : ((m : Int)).toNat = m := by omega
  have hh := ref02_Trim_r0 (a := ⟨1, l, t⟩) h (by omega) (by rw [e]; exact h2) (by rw [e]; dsimp only; rw [List.length_take]; omega)
  rw [e] at hh
  dsimp only at hh
  rw [h3'] at hh
  exact ⟨_, hh, isNum_trim hl, val_trim l, hlen⟩
theorem rcheck_loop {a : SL Int} (hf : huge a.xs) : ∀ (rest : List Int) (k : Nat), a.xs.drop k = rest → ((∀ y ∈ rest, y < 1000000000) ∧ ∃ z, ref02_Check_l0 a k (ref02_Check_l0_x1 a z)) ∨ ((¬ ∀ y ∈ rest, y < 1000000000) ∧ ref02_Check_l0 a k ref02_Check_l0_x0)
  | [], k, hd => .inl ⟨fun y h => (by cases h), k, ref02_Check_l0_e2 (by have := drop_nil_le hd; omega)⟩
  | y :: rest, k, hd => by
    obtain ⟨h1, h2, h3⟩ := at_drop hd
    unfold huge at hf
    by_cases c : y ≥ 1000000000
    · exact .inr ⟨fun h => by have := h y (List.mem_cons_self ..); omega, ref02_Check_l0_e0 (by omega) (by omega) h1 c⟩
    · rcases rcheck_loop (a := a) hf rest (k + 1) h2 with ⟨g, z, h⟩ | ⟨g, h⟩
      · exact .inl ⟨fun q hq => by rcases List.mem_cons.1 hq with rfl | hq; omega; exact g q hq, z, ref02_Check_l0_s1 (by omega) (by omega) h1 c (w64k (by omega)) h⟩
      · exact .inr ⟨fun hh => g fun q hq => hh q (List.mem_cons_of_mem _ hq), ref02_Check_l0_s1 (by omega) (by omega) h1 c (w64k (by omega)) h⟩
theorem rcheck_run {a : SL Int} (hf : huge a.xs) (hu : u32s a.xs) : (isNum a.xs ∧ ref02_Check a 0) ∨ (¬ isNum a.xs ∧ ref02_Check a 2) := by
  have hf' := hf
  unfold huge at hf'
  rcases rcheck_loop hf a.xs 0 List.drop_zero with ⟨g, z, h⟩ | ⟨g, h⟩
  · by_cases h0 : (a.xs.length : Int) > 0
    · have gl : a.xs[((a.xs.length : Int) - 1).toNat]? = some (a.xs[a.xs.length - 1]'(by omega)) := by
        rw [show ((a.xs.length : Int) - 1).toNat = a.xs.length - 1 by omega]; exact List.getElem?_eq_getElem _
      have hlast : a.xs.getLast? = some (a.xs[a.xs.length - 1]'(by omega)) := by rw [List.getLast?_eq_getElem?, List.getElem?_eq_getElem]
      by_cases c : a.xs[a.xs.length - 1]'(by omega) = 0
      · exact .inr ⟨fun hn => hn.2 (by rw [hlast, c]), ref02_Check_r1 h h0 (in64 (by omega) (by omega)) (by omega) gl c⟩
      · exact .inl ⟨⟨fun y hy => ⟨(hu y hy).1, g y hy⟩, by rw [hlast]; intro e; exact c (Option.some.inj e)⟩, ref02_Check_r2 h h0 (in64 (by omega) (by omega)) (by omega) gl c⟩
    · have : a.xs = [] := List.eq_nil_of_length_eq_zero (by omega)
      exact .inl ⟨by rw [this]; exact isNum_nil, ref02_Check_r3 h h0⟩
  · exact .inr ⟨fun hn => g fun y hy => (hn.1 y hy).2, ref02_Check_r0 h⟩
theorem rcompare_loop {a b : SL Int} (hf : few a.xs) (ha : limbs a.xs) (hb : limbs b.xs) (hl : a.xs.length = b.xs.length) : ∀ n : Nat, n ≤ a.xs.length → a.xs.drop n = b.xs.drop n →
    (a.xs = b.xs ∧ ∃ z, ref02_compare_l0 a b ((n : Int) - 1) (ref02_compare_l0_x2 a b z)) ∨ (val a.xs < val b.xs ∧ ref02_compare_l0 a b ((n : Int) - 1) ref02_compare_l0_x0) ∨ (val b.xs < val a.xs ∧ ref02_compare_l0 a b ((n : Int) - 1) ref02_compare_l0_x1)
  | 0, hn, hd => .inl ⟨by simpa using hd, _, ref02_compare_l0_e3 (by omega)⟩
  | n + 1, hn, hd => by
    have hf' := hf
    unfold few at hf'
    have e : (((n + 1 : Nat) : Int) - 1) = n := by omega
    have e1 : ((n : Int)).toNat = n := by omega
    have ga : a.xs[n]? = some (a.xs[n]'(by omega)) := List.getElem?_eq_getElem _
    have gb : b.xs[n]? = some (b.xs[n]'(by omega)) := List.getElem?_eq_getElem _
    have hdr : a.xs[n]'(by omega) = b.xs[n]'(by omega) → a.xs.drop n = b.xs.drop n := fun h => by
      rw [List.drop_eq_getElem_cons (l := a.xs) (i := n) (by omega), List.drop_eq_getElem_cons (l := b.xs) (i := n) (by omega), hd, h]
    generalize a.xs[n]'(by omega) = x at ga hdr
    generalize b.xs[n]'(by omega) = y at gb hdr
    have ga' : a.xs[((n : Int)).toNat]? = some x := by rw [e1]; exact ga
    have gb' : b.xs[((n : Int)).toNat]? = some y := by rw [e1]; exact gb
    rw [e]
    rcases Int.lt_trichotomy x y with h | h | h
    · exact .inr (.inl ⟨val_top ha hb hl ga gb hd h, ref02_compare_l0_e0 (by omega) (by omega) ga' gb' h⟩)
    · have st := fun {r_} (k : ref02_compare_l0 a b ((n : Int) - 1) r_) => ref02_compare_l0_s2 (i := (n : Int)) (by omega) (by omega) ga' gb' (by omega) (by omega) (in64 (by omega) (by omega)) k
      rcases rcompare_loop hf ha hb hl n (by omega) (hdr h) with ⟨h1, z, h2⟩ | ⟨h1, h2⟩ | ⟨h1, h2⟩
      · exact .inl ⟨h1, z, st h2⟩
      · exact .inr (.inl ⟨h1, st h2⟩)
      · exact .inr (.inr ⟨h1, st h2⟩)
    · exact .inr (.inr ⟨val_top hb ha hl.symm gb ga hd.symm h, ref02_compare_l0_e1 (by omega) (by omega) ga' gb' (by omega) h⟩)
theorem rcompare_run {a b : SL Int} (hfa : few a.xs) (hfb : few b.xs) (ha : isNum a.xs) (hb : isNum b.xs) : ref02_compare a b (cmpI (val a.xs) (val b.xs)) := by
  have hfa' := hfa
  have hfb' := hfb
  unfold few at hfa' hfb'
  have eL : ∀ {x y : Int}, x < y → cmpI x y = -1 := fun h => by unfold cmpI; rw [if_pos h]
  have eG : ∀ {x y : Int}, y < x → cmpI x y = 1 := fun h => by unfold cmpI; rw [if_neg (by omega), if_pos (by omega)]
  rcases Nat.lt_trichotomy a.xs.length b.xs.length with h | h | h
  · rw [eL (val_len_lt ha hb h)]
    exact ref02_compare_r0 (by omega) (by omega)
  · have w1 : w64 ((a.xs.length : Int) - 1) := in64 (by omega) (by omega)
    rcases rcompare_loop hfa ha.1 hb.1 h a.xs.length (Nat.le_refl _) (by rw [List.drop_length, h, List.drop_length]) with ⟨h1, z, h2⟩ | ⟨h1, h2⟩ | ⟨h1, h2⟩
    · rw [cmpI_eq.2 (by rw [h1])]
      exact ref02_compare_r4 (by omega) w1 h2
    · rw [eL h1]; exact ref02_compare_r2 (by omega) w1 h2
    · rw [eG h1]; exact ref02_compare_r3 (by omega) w1 h2
  · rw [eG (val_len_lt hb ha h)]
    exact ref02_compare_r1 (by omega) (by omega)
/-! ### Sums, differences -/
theorem radd_step {a b : SL Int} {out : List Int} {t : Bool} {c : Int} {i : Nat} (hi : i < max a.xs.length b.xs.length) (hm : max a.xs.length b.xs.length < 2000000000000) (ho : out.length ≤ i) (ha : limbs a.xs) (hb : limbs b.xs) (hc : 0 ≤ c ∧ c < 1000000000) {r_ : Ex × XSt}
    (hk : ref02_Add_l0 (out ++ [(c + limb a.xs i + limb b.xs i) % 1000000000]) a b false ((c + limb a.xs i + limb b.xs i) / 1000000000) ((i : Int) + 1) r_) : ref02_Add_l0 out a b t c i r_ := by
  have e1 : ((i : Int)).toNat = i := by omega
  have la := limb_bound ha i
  have lb := limb_bound hb i
  by_cases h1 : i < a.xs.length
  · have ga : a.xs[((i : Int)).toNat]? = some (limb a.xs i) := by
      rw [e1, List.getElem?_eq_getElem h1, limb_some (List.getElem?_eq_getElem h1)]
    by_cases h2 : i < b.xs.length
    · have gb : b.xs[((i : Int)).toNat]? = some (limb b.xs i) := by
        rw [e1, List.getElem?_eq_getElem h2, limb_some (List.getElem?_eq_getElem h2)]
      exact ref02_Add_l0_s0 (by omega) (by omega) (by omega) ga (inU64 (by omega) (by omega)) (inU64 (by omega) (by omega)) (by omega) gb (inU64 (by omega) (by omega)) (inU64 (by omega) (by omega)) (by omega) (inU32 (by omega) (by omega)) (by omega) (inU64 (by omega) (by omega)) (in64 (by omega) (by omega)) hk
    · have z : limb b.xs i = 0 := limb_none (by omega)
      rw [z, Int.add_zero] at hk
      exact ref02_Add_l0_s1 (by omega) (by omega) (by omega) ga (inU64 (by omega) (by omega)) (inU64 (by omega) (by omega)) (by omega) (by omega) (inU32 (by omega) (by omega)) (by omega) (inU64 (by omega) (by omega)) (in64 (by omega) (by omega)) hk
  · have z : limb a.xs i = 0 := limb_none (by omega)
    rw [z, Int.add_zero] at hk
    have h2 : i < b.xs.length := by omega
    have gb : b.xs[((i : Int)).toNat]? = some (limb b.xs i) := by
      rw [e1, List.getElem?_eq_getElem h2, limb_some (List.getElem?_eq_getElem h2)]
    exact ref02_Add_l0_s2 (by omega) (by omega) (by omega) (by omega) gb (inU64 (by omega) (by omega)) (inU64 (by omega) (by omega)) (by omega) (inU32 (by omega) (by omega)) (by omega) (inU64 (by omega) (by omega)) (in64 (by omega) (by omega)) hk
theorem val_snoc (l : List Int) (x : Int) : val (l ++ [x]) = val l + 1000000000 ^ l.length * x := by rw [val_append, val_one]
theorem limbs_snoc {l : List Int} {x : Int} (h : limbs l) (hx : 0 ≤ x ∧ x < 1000000000) : limbs (l ++ [x]) := limbs_append.2 ⟨h, by intro y hy; simp at hy; subst hy; exact hx⟩
theorem radd_loop {a b : SL Int} {n : Nat} (hn : n = max a.xs.length b.xs.length) (hm : n < 2000000000000) (ha : limbs a.xs) (hb : limbs b.xs) : ∀ (m i : Nat) (out : List Int) (t : Bool) (c : Int), n - i = m → i ≤ n → out.length = i → limbs out → (c = 0 ∨ c = 1) → val out + 1000000000 ^ i * c = val (a.xs.take i) + val (b.xs.take i) →
    ∃ out' t' c' z, ref02_Add_l0 out a b t c i (ref02_Add_l0_x0 out' a b t' c' z) ∧ out'.length = n ∧ limbs out' ∧ (c' = 0 ∨ c' = 1) ∧ val out' + 1000000000 ^ n * c' = val (a.xs.take n) + val (b.xs.take n)
  | 0, i, out, t, c, hk, hi, hl, ho, hc, hv => by
    have : i = n := by omega
    subst this
    exact ⟨out, t, c, _, ref02_Add_l0_e4 (by omega), hl, ho, hc, hv⟩
  | m + 1, i, out, t, c, hk, hi, hl, ho, hc, hv => by
    have la := limb_bound ha i
    have lb := limb_bound hb i
    have hs := Int.emod_add_mul_ediv (c + limb a.xs i + limb b.xs i) 1000000000
    obtain ⟨out', t', c', z, g1, g2, g3, g4, g5⟩ := radd_loop hn hm ha hb m (i + 1) (out ++ [(c + limb a.xs i + limb b.xs i) % 1000000000]) false ((c + limb a.xs i + limb b.xs i) / 1000000000) (by omega) (by omega) (by simp [hl]) (limbs_snoc ho (by omega)) (by omega) (by
      rw [val_snoc, take_lim, take_lim, hl, powB_succ]
      generalize (c + limb a.xs i + limb b.xs i) % 1000000000 = r at hs ⊢
      generalize (c + limb a.xs i + limb b.xs i) / 1000000000 = q at hs ⊢
      grind)
    exact ⟨out', t', c', z, radd_step (by omega) (by omega) (by omega) ha hb (by omega) g1, g2, g3, g4, g5⟩
theorem radd_run {a b : SL Int} (hfa : few a.xs) (hfb : few b.xs) (ha : isNum a.xs) (hb : isNum b.xs) (ca : ref02_Check a 0) (cb : ref02_Check b 0) : ∃ q : SL Int, ref02_Add a b q 0 ∧ isNum q.xs ∧ val q.xs = val a.xs + val b.xs := by
  unfold few at hfa hfb
  obtain ⟨n, hn⟩ : ∃ n, n = max a.xs.length b.xs.length := ⟨_, rfl⟩
  obtain ⟨out, t, c, z, g1, g2, g3, g4, g5⟩ := radd_loop (a := a) (b := b) hn (by omega) ha.1 hb.1 n 0 [] true 0 (by omega) (by omega) rfl limbs_nil (.inl rfl) (by simp [val])
  rw [List.take_of_length_le (by omega), List.take_of_length_le (by omega)] at g5
  obtain ⟨q, k1, k2, k3, k4⟩ := rtrim_limbs (l := out ++ [c]) (by unfold wide; simp; omega) (limbs_snoc g3 (by omega)) false
  exact ⟨q, ref02_Add_r2 ca rfl cb rfl g1 (inU32 (by omega) (by omega)) (by omega) k1, k2, by rw [k3, val_snoc, g2]; exact g5⟩
theorem rsub_loop {a b : SL Int} (hm : a.xs.length < 2000000000000) (ha : limbs a.xs) (hb : limbs b.xs) : ∀ (m i : Nat) (out : List Int) (t : Bool) (c : Int), a.xs.length - i = m → i ≤ a.xs.length → out.length = i → limbs out → (c = 0 ∨ c = 1) → val out - 1000000000 ^ i * c = val (a.xs.take i) - val (b.xs.take i) →
    ∃ out' t' c' z, ref02_sub_l0 out a b t c i (ref02_sub_l0_x0 out' a b t' c' z) ∧ out'.length = a.xs.length ∧ limbs out' ∧ (c' = 0 ∨ c' = 1) ∧ val out' - 1000000000 ^ a.xs.length * c' = val a.xs - val (b.xs.take a.xs.length)
  | 0, i, out, t, c, hk, hi, hl, ho, hc, hv => by
    have : i = a.xs.length := by omega
    subst this
    rw [List.take_length] at hv
    exact ⟨out, t, c, _, ref02_sub_l0_e4 (by omega), hl, ho, hc, hv⟩
  | m + 1, i, out, t, c, hk, hi, hl, ho, hc, hv => by
    have e1 : ((i : Int)).toNat = i := by omega
    have hia : i < a.xs.length := by omega
    have ga : a.xs[((i : Int)).toNat]? = some (limb a.xs i) := by
      rw [e1, List.getElem?_eq_getElem hia, limb_some (List.getElem?_eq_getElem hia)]
    have la := limb_bound ha i
    have lb := limb_bound hb i
    have w1 : w64 ((i : Int) + 1) := in64 (by omega) (by omega)
    by_cases hge : limb a.xs i ≥ c + limb b.xs i
    · obtain ⟨out', t', c', z, g1, g2, g3, g4, g5⟩ := rsub_loop (b := b) hm ha hb m (i + 1) (out ++ [limb a.xs i - (c + limb b.xs i)]) false 0 (by omega) (by omega) (by simp [hl]) (limbs_snoc ho (by omega)) (.inl rfl) (by
        rw [val_snoc, take_lim, take_lim, hl]; grind)
      by_cases h2 : i < b.xs.length
      · have gb : b.xs[((i : Int)).toNat]? = some (limb b.xs i) := by
          rw [e1, List.getElem?_eq_getElem h2, limb_some (List.getElem?_eq_getElem h2)]
        exact ⟨out', t', c', z, ref02_sub_l0_s0 (by omega) (by omega) (by omega) gb (inU32 (by omega) (by omega)) ga hge (inU32 (by omega) (by omega)) (by omega) w1 g1, g2, g3, g4, g5⟩
      · have z0 : limb b.xs i = 0 := limb_none (by omega)
        rw [z0, Int.add_zero] at g1 hge
        exact ⟨out', t', c', z, ref02_sub_l0_s2 (by omega) (by omega) (by omega) ga hge (inU32 (by omega) (by omega)) (by omega) w1 g1, g2, g3, g4, g5⟩
    · obtain ⟨out', t', c', z, g1, g2, g3, g4, g5⟩ := rsub_loop (b := b) hm ha hb m (i + 1) (out ++ [limb a.xs i + 1000000000 - (c + limb b.xs i)]) false 1 (by omega) (by omega) (by simp [hl]) (limbs_snoc ho (by omega)) (.inr rfl) (by
        rw [val_snoc, take_lim, take_lim, hl, powB_succ]; grind)
      by_cases h2 : i < b.xs.length
      · have gb : b.xs[((i : Int)).toNat]? = some (limb b.xs i) := by
          rw [e1, List.getElem?_eq_getElem h2, limb_some (List.getElem?_eq_getElem h2)]
        exact ⟨out', t', c', z, ref02_sub_l0_s1 (by omega) (by omega) (by omega) gb (inU32 (by omega) (by omega)) ga hge (inU32 (by omega) (by omega)) (inU32 (by omega) (by omega)) (by omega) w1 g1, g2, g3, g4, g5⟩
      · have z0 : limb b.xs i = 0 := limb_none (by omega)
        rw [z0, Int.add_zero] at g1 hge
        exact ⟨out', t', c', z, ref02_sub_l0_s3 (by omega) (by omega) (by omega) ga hge (inU32 (by omega) (by omega)) (inU32 (by omega) (by omega)) (by omega) w1 g1, g2, g3, g4, g5⟩
theorem rsub_run {a b : SL Int} (hfa : few a.xs) (ha : isNum a.xs) (hb : isNum b.xs) (hle : val b.xs ≤ val a.xs) : ∃ q : SL Int, ref02_sub a b q ∧ isNum q.xs ∧ val q.xs = val a.xs - val b.xs ∧ q.xs.length ≤ a.xs.length := by
  unfold few at hfa
  have hlen : b.xs.length ≤ a.xs.length := by
    rcases Nat.lt_or_ge a.xs.length b.xs.length with h | h
    · have := val_len_lt ha hb h; omega
    · exact h
  obtain ⟨out, t, c, z, g1, g2, g3, g4, g5⟩ := rsub_loop (a := a) (b := b) (by omega) ha.1 hb.1 a.xs.length 0 [] true 0 (by omega) (by omega) rfl limbs_nil (.inl rfl) (by simp [val])
  rw [List.take_of_length_le hlen] at g5
  have hc : c = 0 := by
    rcases g4 with h | h
    · exact h
    · subst h
      exfalso
      have h1 := val_lt g3
      rw [g2] at h1
      omega
  subst hc
  obtain ⟨q, k1, k2, k3, k4⟩ := rtrim_limbs (l := out) (by unfold wide; omega) g3 t
  exact ⟨q, ref02_sub_r0 g1 k1, k2, by rw [k3]; omega, by omega⟩
/-! ### Products -/
theorem rmul_in {a b : SL Int} {N i : Nat} {x : Int} (hN : N < 4000000000000) (hb : limbs b.xs) (hi : i + b.xs.length < N) (hgx : a.xs[i]? = some x) (hx : 0 ≤ x ∧ x < 1000000000) (V0 : Int) : ∀ (m k : Nat) (out : List Int) (c : Int), b.xs.length - k = m → k ≤ b.xs.length → out.length = N → limbs out → tailZ out (i + b.xs.length) → (0 ≤ c ∧ c < 1000000000) → val out + 1000000000 ^ (i + k) * c = V0 + 1000000000 ^ i * (x * val (b.xs.take k)) →
    ∃ out' c' z, ref02_mul_l0 out a b true N i c k (ref02_mul_l0_x0 out' a b true N i c' z) ∧ out'.length = N ∧ limbs out' ∧ tailZ out' (i + b.xs.length + 1) ∧ val out' = V0 + 1000000000 ^ i * (x * val b.xs)
  | 0, k, out, c, hm, hk, hl, ho, ht, hc, hv => by
    have : k = b.xs.length := by omega
    subst this
    rw [List.take_length] at hv
    by_cases h0 : c > 0
    · have e2 : ((i : Int) + (b.xs.length : Int)).toNat = i + b.xs.length := by omega
      have go : out[i + b.xs.length]? = some (out[i + b.xs.length]'(by omega)) := List.getElem?_eq_getElem _
      have gz := ht _ _ (Nat.le_refl _) go
      rw [gz] at go
      have em : (c + 0) % 1000000000 = c := by omega
      have ed : (c + 0) / 1000000000 = 0 := by omega
      refine ⟨out.set (i + b.xs.length) c, 0, _, ref02_mul_l0_s1 (out := out) (a := a) (b := b) (outt := true) (outn := N) (i := (i : Int)) (k := (b.xs.length : Int)) (by omega) h0 (in64 (by omega) (by omega)) (by omega) (by rw [e2]; exact go) (by rw [e2]; omega) (inU64 (by omega) (by omega)) (inU64 (by omega) (by omega)) (by omega) (inU32 (by omega) (by omega)) (inU64 (by omega) (by omega)) (in64 (by omega) (by omega)) (by
        rw [em, ed, e2]
        exact ref02_mul_l0_e2 (by omega) (by omega)), by simpa using hl, limbs_set ho hc.1 hc.2, ?_, ?_⟩
      · refine fun j y hj hy => ?_
        rw [List.getElem?_set_ne (by omega)] at hy
        exact ht j y (by omega) hy
      · rw [val_set _ go, Int.sub_zero]; exact hv
    · have : c = 0 := by omega
      subst this
      exact ⟨out, 0, _, ref02_mul_l0_e2 (by omega) (by omega), hl, ho, tailZ_mono ht (by omega), by omega⟩
  | m + 1, k, out, c, hm, hk, hl, ho, ht, hc, hv => by
    have hlt : k < b.xs.length := by omega
    have gb : b.xs[k]? = some (b.xs[k]'hlt) := List.getElem?_eq_getElem _
    have go : out[i + k]? = some (out[i + k]'(by omega)) := List.getElem?_eq_getElem _
    have bb := limbs_get hb gb
    have bo := limbs_get ho go
    generalize b.xs[k]'hlt = y at gb bb
    generalize out[i + k]'(by omega) = o at go bo
    have hm2 := mul_lt_sq hx bb
    have e0 : ((i : Int)).toNat = i := by omega
    have e1 : ((k : Int)).toNat = k := by omega
    have e2 : ((i : Int) + (k : Int)).toNat = i + k := by omega
    have hs : (c + o + x * y) % 1000000000 + 1000000000 * ((c + o + x * y) / 1000000000) = c + o + x * y := Int.emod_add_mul_ediv _ _
    obtain ⟨out', c', z, g1, g2, g3, g4, g5⟩ := rmul_in hN hb hi hgx hx V0 m (k + 1) (out.set (i + k) ((c + o + x * y) % 1000000000)) ((c + o + x * y) / 1000000000) (by omega) (by omega) (by simpa using hl) (limbs_set ho (by omega) (by omega)) (tailZ_set ht (by omega)) (by omega) (by
      rw [val_set _ go, val_take_get gb, ← Nat.add_assoc, powB_succ]
      rw [powB_add] at hv ⊢
      generalize (c + o + x * y) % 1000000000 = r at hs ⊢
      generalize (c + o + x * y) / 1000000000 = q at hs ⊢
      grind)
    exact ⟨out', c', z, ref02_mul_l0_s0 (by omega) (in64 (by omega) (by omega)) (by omega) (by rw [e2]; exact go) (by rw [e2]; omega) (inU64 (by omega) (by omega)) (inU64 (by omega) (by omega)) (by omega) (by rw [e0]; exact hgx) (inU64 (by omega) (by omega)) (by omega) (by rw [e1]; exact gb) (inU64 (by omega) (by omega)) (inU64 (by omega) (by omega)) (inU64 (by omega) (by omega)) (by omega) (inU32 (by omega) (by omega)) (inU64 (by omega) (by omega)) (in64 (by omega) (by omega)) (by rw [e2]; exact g1), g2, g3, g4, g5⟩
theorem rmul_out {a b : SL Int} {N : Nat} (hNe : N = a.xs.length + b.xs.length + 1) (hN : N < 4000000000000) (ha : limbs a.xs) (hb : limbs b.xs) : ∀ (m i : Nat) (out : List Int), a.xs.length - i = m → i ≤ a.xs.length → out.length = N → limbs out → tailZ out (i + b.xs.length) → val out = val (a.xs.take i) * val b.xs →
    ∃ out' z, ref02_mul_l1 out a b true N i (ref02_mul_l1_x0 out' a b true N z) ∧ out'.length = N ∧ limbs out' ∧ val out' = val a.xs * val b.xs
  | 0, i, out, hm, hi, hl, ho, ht, hv => by
    have : i = a.xs.length := by omega
    subst this
    rw [List.take_length] at hv
    exact ⟨out, _, ref02_mul_l1_e1 (by omega), hl, ho, hv⟩
  | m + 1, i, out, hm, hi, hl, ho, ht, hv => by
    have hlt : i < a.xs.length := by omega
    have ga : a.xs[i]? = some (a.xs[i]'hlt) := List.getElem?_eq_getElem _
    have ba := limbs_get ha ga
    generalize a.xs[i]'hlt = x at ga ba
    obtain ⟨out', c', z, g1, g2, g3, g4, g5⟩ := rmul_in (b := b) (N := N) (i := i) hN hb (by omega) ga ba (val out) b.xs.length 0 out 0 (by omega) (by omega) hl ho ht ⟨by omega, by omega⟩ (by simp [val])
    obtain ⟨out2, z2, k1, k2, k3, k4⟩ := rmul_out hNe hN ha hb m (i + 1) out' (by omega) (by omega) g2 g3 (by rw [show i + 1 + b.xs.length = i + b.xs.length + 1 by omega]; exact g4) (by
      rw [g5, hv, val_take_get ga]; grind)
    exact ⟨out2, z2, ref02_mul_l1_s0 (by omega) g1 (in64 (by omega) (by omega)) k1, k2, k3, k4⟩
theorem rmul_run {a b : SL Int} (hfa : few a.xs) (hfb : few b.xs) (ha : limbs a.xs) (hb : limbs b.xs) : ∃ q : SL Int, ref02_mul a b q ∧ isNum q.xs ∧ val q.xs = val a.xs * val b.xs ∧ q.xs.length ≤ a.xs.length + b.xs.length + 1 := by
  unfold few at hfa hfb
  have e : (a.xs.length : Int) + (b.xs.length : Int) + 1 = ((a.xs.length + b.xs.length + 1 : Nat) : Int) := by omega
  generalize hn : a.xs.length + b.xs.length + 1 = n at e
  have ht : ((n : Int)).toNat = n := by omega
  obtain ⟨out, z, g1, g2, g3, g4⟩ := rmul_out (a := a) (b := b) hn.symm (by omega) ha hb a.xs.length 0 (List.replicate n 0) (by omega) (by omega) (by simp) (limbs_zeros n) (tailZ_zeros n _) (by rw [val_zeros]; simp [val])
  obtain ⟨q, k1, k2, k3, k4⟩ := rtrim_limbs (l := out) (by unfold wide; omega) g3 true
  refine ⟨q, ref02_mul_r0 (z0 := out) (z1 := z) ?_ ?_ ?_ ?_ ?_ ?_ ?_, k2, by rw [k3, g4], by omega⟩
  · exact in64 (by omega) (by omega)
  · rw [e]; exact in64 (by omega) (by omega)
  · omega
  · omega
  · rw [e, ht]; exact g1
  · rw [e, ht]; omega
  · rw [e, ht, ← g2, List.take_length]; exact k1
end Go.Proofs.YtlijicnknhopkaaDoor.V

/- Numbers: limbs, what is reckoned, texts (several texts together). -/
import Derived.Test.YtkkekfehjbbhoaaGreatDoorVQ
import Derived.Test.YtkkekfehjbbhoaaGreatDoorMA
import Derived.Test.YtkkekfehjbbhoaaGreatDoorVY
import Derived.Test.YtkkekfehjbbhoaaGreatDoorRows
import Derived.Test.YtkkekfehjbbhoaaGreatDoorV28
import Derived.Deep.Slices
namespace Go.Proofs.YtkkekfehjbbhoaaGreatDoor.V
section
open Go
set_option linter.unusedVariables false
set_option linter.unnecessarySimpa false
set_option linter.unusedSimpArgs false
set_option linter.unusedSectionVars false
theorem rtrim_loop {a : SL Int} (hf : wide a.xs) : ∀ n : Nat, n ≤ a.xs.length → (∀ i x, n ≤ i → a.xs[i]? = some x → x = 0) → ∃ m : Nat, ref02_Trim_l0 a n (ref02_Trim_l0_x0 a m) ∧ m ≤ a.xs.length ∧ a.xs.take m = trimL a.xs
  | 0, hn, hz => ⟨0, ref02_Trim_l0_e2 (by omega), by omega, take_trim (by omega) hz (.inl rfl)⟩
  | n + 1, hn, hz => by
    unfold wide at hf
    have e : (((n + 1 : Nat) : Int) - 1) = n := by omega
    have hg : a.xs[(((n + 1 : Nat) : Int) - 1).toNat]? = some (a.xs[n]'(by omega)) := by rw [e]; simp
    have hg' : a.xs[n]? = some (a.xs[n]'(by omega)) := List.getElem?_eq_getElem _
    have w1 : w64 (((n + 1 : Nat) : Int) - 1) := in64 (by omega) (by omega)
    by_cases c : a.xs[n]'(by omega) = 0
    · obtain ⟨m, h, h2, h3⟩ := rtrim_loop (a := a) (by unfold wide; exact hf) n (by omega) (fun i x hi hx => by
        rcases Nat.eq_or_lt_of_le hi with h | h
        · subst h; rw [hg'] at hx; cases hx; exact c
        · exact hz i x h hx)
      refine ⟨m, ref02_Trim_l0_s0 (by omega) w1 (by omega) hg c ?_, h2, h3⟩
      rw [e]; exact h
    · exact ⟨n + 1, ref02_Trim_l0_e1 (by omega) w1 (by omega) hg c, hn, take_trim hn hz (.inr ⟨_, c, by rw [Nat.add_sub_cancel]; exact hg'⟩)⟩
theorem rtrim_limbs {l : List Int} (hf : wide l) (hl : limbs l) (t : Bool) : ∃ q : SL Int, ref02_Trim ⟨1, l, t⟩ q ∧ isNum q.xs ∧ val q.xs = val l ∧ q.xs.length ≤ l.length := by
  obtain ⟨m, h, h2, h3⟩ := rtrim_loop (a := ⟨1, l, t⟩) hf l.length (Nat.le_refl _) (fun i x hi hx => by
    have : l[i]? = some x := hx
    rw [List.getElem?_eq_none hi] at this; cases this)
  have h3' : l.take m = trimL l := h3
  have h2' : m ≤ l.length := h2
  have hlen : (trimL l).length ≤ l.length := by rw [← h3', List.length_take]; omega
  unfold wide at hf
  have e : ((m : Int)).toNat = m := by omega
  have hh := ref02_Trim_r0 (a := ⟨1, l, t⟩) h (by omega) (by rw [e]; exact h2) (by rw [e]; dsimp only; rw [List.length_take]; omega)
  rw [e] at hh
  dsimp only at hh
  rw [h3'] at hh
  exact ⟨_, hh, isNum_trim hl, val_trim l, hlen⟩
theorem rcheck_loop {a : SL Int} (hf : huge a.xs) : ∀ (rest : List Int) (k : Nat), a.xs.drop k = rest → ((∀ y ∈ rest, y < 1000000000) ∧ ∃ z, ref02_Check_l0 a k (ref02_Check_l0_x1 a z)) ∨ ((¬ ∀ y ∈ rest, y < 1000000000) ∧ ref02_Check_l0 a k ref02_Check_l0_x0)
  | [], k, hd => .inl ⟨fun y h => (by cases h), k, ref02_Check_l0_e2 (by have := drop_nil_le hd; omega)⟩
  | y :: rest, k, hd => by
    obtain ⟨h1, h2, h3⟩ := at_drop hd
    unfold huge at hf
    by_cases c : y ≥ 1000000000
    · exact .inr ⟨fun h => by have := h y (List.mem_cons_self ..); omega, ref02_Check_l0_e0 (by omega) (by omega) h1 c⟩
    · rcases rcheck_loop (a := a) hf rest (k + 1) h2 with ⟨g, z, h⟩ | ⟨g, h⟩
      · exact .inl ⟨fun q hq => by rcases List.mem_cons.1 hq with rfl | hq; omega; exact g q hq, z, ref02_Check_l0_s1 (by omega) (by omega) h1 c (w64k (by omega)) h⟩
      · exact .inr ⟨fun hh => g fun q hq => hh q (List.mem_cons_of_mem _ hq), ref02_Check_l0_s1 (by omega) (by omega) h1 c (w64k (by omega)) h⟩
theorem rcheck_run {a : SL Int} (hf : huge a.xs) (hu : u32s a.xs) : (isNum a.xs ∧ ref02_Check a 0) ∨ (¬ isNum a.xs ∧ ref02_Check a 2) := by
  have hf' := hf
  unfold huge at hf'
  rcases rcheck_loop hf a.xs 0 List.drop_zero with ⟨g, z, h⟩ | ⟨g, h⟩
  · by_cases h0 : (a.xs.length : Int) > 0
    · have gl : a.xs[((a.xs.length : Int) - 1).toNat]? = some (a.xs[a.xs.length - 1]'(by omega)) := by
        rw [show ((a.xs.length : Int) - 1).toNat = a.xs.length - 1 by omega]; exact List.getElem?_eq_getElem _
      have hlast : a.xs.getLast? = some (a.xs[a.xs.length - 1]'(by omega)) := by rw [List.getLast?_eq_getElem?, List.getElem?_eq_getElem]
      by_cases c : a.xs[a.xs.length - 1]'(by omega) = 0
      · exact .inr ⟨fun hn => hn.2 (by rw [hlast, c]), ref02_Check_r1 h h0 (in64 (by omega) (by omega)) (by omega) gl c⟩
      · exact .inl ⟨⟨fun y hy => ⟨(hu y hy).1, g y hy⟩, by rw [hlast]; intro e; exact c (Option.some.inj e)⟩, ref02_Check_r2 h h0 (in64 (by omega) (by omega)) (by omega) gl c⟩
    · have : a.xs = [] := List.eq_nil_of_length_eq_zero (by omega)
      exact .inl ⟨by rw [this]; exact isNum_nil, ref02_Check_r3 h h0⟩
  · exact .inr ⟨fun hn => g fun y hy => (hn.1 y hy).2, ref02_Check_r0 h⟩
theorem rcompare_loop {a b : SL Int} (hf : few a.xs) (ha : limbs a.xs) (hb : limbs b.xs) (hl : a.xs.length = b.xs.length) : ∀ n : Nat, n ≤ a.xs.length → a.xs.drop n = b.xs.drop n →
    (a.xs = b.xs ∧ ∃ z, ref02_compare_l0 a b ((n : Int) - 1) (ref02_compare_l0_x2 a b z)) ∨ (val a.xs < val b.xs ∧ ref02_compare_l0 a b ((n : Int) - 1) ref02_compare_l0_x0) ∨ (val b.xs < val a.xs ∧ ref02_compare_l0 a b ((n : Int) - 1) ref02_compare_l0_x1)
  | 0, hn, hd => .inl ⟨by simpa using hd, _, ref02_compare_l0_e3 (by omega)⟩
  | n + 1, hn, hd => by
    have hf' := hf
    unfold few at hf'
    have e : (((n + 1 : Nat) : Int) - 1) = n := by omega
    have e1 : ((n : Int)).toNat = n := by omega
    have ga : a.xs[n]? = some (a.xs[n]'(by omega)) := List.getElem?_eq_getElem _
    have gb : b.xs[n]? = some (b.xs[n]'(by omega)) := List.getElem?_eq_getElem _
    have hdr : a.xs[n]'(by omega) = b.xs[n]'(by omega) → a.xs.drop n = b.xs.drop n := fun h => by
      rw [List.drop_eq_getElem_cons (l := a.xs) (i := n) (by omega), List.drop_eq_getElem_cons (l := b.xs) (i := n) (by omega), hd, h]
    generalize a.xs[n]'(by omega) = x at ga hdr
    generalize b.xs[n]'(by omega) = y at gb hdr
    have ga' : a.xs[((n : Int)).toNat]? = some x := by rw [e1]; exact ga
    have gb' : b.xs[((n : Int)).toNat]? = some y := by rw [e1]; exact gb
    rw [e]
    rcases Int.lt_trichotomy x y with h | h | h
    · exact .inr (.inl ⟨val_top ha hb hl ga gb hd h, ref02_compare_l0_e0 (by omega) (by omega) ga' gb' h⟩)
    · have st := fun {r_} (k : ref02_compare_l0 a b ((n : Int) - 1) r_) => ref02_compare_l0_s2 (i := (n : Int)) (by omega) (by omega) ga' gb' (by omega) (by omega) (in64 (by omega) (by omega)) k
      rcases rcompare_loop hf ha hb hl n (by omega) (hdr h) with ⟨h1, z, h2⟩ | ⟨h1, h2⟩ | ⟨h1, h2⟩
      · exact .inl ⟨h1, z, st h2⟩
      · exact .inr (.inl ⟨h1, st h2⟩)
      · exact .inr (.inr ⟨h1, st h2⟩)
    · exact .inr (.inr ⟨val_top hb ha hl.symm gb ga hd.symm h, ref02_compare_l0_e1 (by omega) (by omega) ga' gb' (by omega) h⟩)
theorem rcompare_run {a b : SL Int} (hfa : few a.xs) (hfb : few b.xs) (ha : isNum a.xs) (hb : isNum b.xs) : ref02_compare a b (cmpI (val a.xs) (val b.xs)) := by
  have hfa' := hfa
  have hfb' := hfb
  unfold few at hfa' hfb'
  have eL : ∀ {x y : Int}, x < y → cmpI x y = -1 := fun h => by unfold cmpI; rw [if_pos h]
  have eG : ∀ {x y : Int}, y < x → cmpI x y = 1 := fun h => by unfold cmpI; rw [if_neg (by omega), if_pos (by omega)]
  rcases Nat.lt_trichotomy a.xs.length b.xs.length with h | h | h
  · rw [eL (val_len_lt ha hb h)]
    exact ref02_compare_r0 (by omega) (by omega)
  · have w1 : w64 ((a.xs.length : Int) - 1) := in64 (by omega) (by omega)
    rcases rcompare_loop hfa ha.1 hb.1 h a.xs.length (Nat.le_refl _) (by rw [List.drop_length, h, List.drop_length]) with ⟨h1, z, h2⟩ | ⟨h1, h2⟩ | ⟨h1, h2⟩
    · rw [cmpI_eq.2 (by rw [h1])]
      exact ref02_compare_r4 (by omega) w1 h2
    · rw [eL h1]; exact ref02_compare_r2 (by omega) w1 h2
    · rw [eG h1]; exact ref02_compare_r3 (by omega) w1 h2
  · rw [eG (val_len_lt hb ha h)]
    exact ref02_compare_r1 (by omega) (by omega)
/-! ### Sums, differences -/
theorem val_snoc (l : List Int) (x : Int) : val (l ++ [x]) = val l + 1000000000 ^ l.length * x := by rw [val_append, val_one]
theorem limbs_snoc {l : List Int} {x : Int} (h : limbs l) (hx : 0 ≤ x ∧ x < 1000000000) : limbs (l ++ [x]) := limbs_append.2 ⟨h, by intro y hy; simp at hy; subst hy; exact hx⟩
theorem rsub_loop {a b : SL Int} (hm : a.xs.length < 2000000000000) (ha : limbs a.xs) (hb : limbs b.xs) : ∀ (m i : Nat) (out : List Int) (t : Bool) (c : Int), a.xs.length - i = m → i ≤ a.xs.length → out.length = i → limbs out → (c = 0 ∨ c = 1) → val out - 1000000000 ^ i * c = val (a.xs.take i) - val (b.xs.take i) →
    ∃ out' t' c' z, ref02_sub_l0 out a b t c i (ref02_sub_l0_x0 out' a b t' c' z) ∧ out'.length = a.xs.length ∧ limbs out' ∧ (c' = 0 ∨ c' = 1) ∧ val out' - 1000000000 ^ a.xs.length * c' = val a.xs - val (b.xs.take a.xs.length)
  | 0, i, out, t, c, hk, hi, hl, ho, hc, hv => by
    have : i = a.xs.length := by omega
    subst this
    rw [List.take_length] at hv
    exact ⟨out, t, c, _, ref02_sub_l0_e4 (by omega), hl, ho, hc, hv⟩
  | m + 1, i, out, t, c, hk, hi, hl, ho, hc, hv => by
    have e1 : ((i : Int)).toNat = i := by omega
    have hia : i < a.xs.length := by omega
    have ga : a.xs[((i : Int)).toNat]? = some (limb a.xs i) := by
      rw [e1, List.getElem?_eq_getElem hia, limb_some (List.getElem?_eq_getElem hia)]
    have la := limb_bound ha i
    have lb := limb_bound hb i
    have w1 : w64 ((i : Int) + 1) := in64 (by omega) (by omega)
    by_cases hge : limb a.xs i ≥ c + limb b.xs i
    · obtain ⟨out', t', c', z, g1, g2, g3, g4, g5⟩ := rsub_loop (b := b) hm ha hb m (i + 1) (out ++ [limb a.xs i - (c + limb b.xs i)]) false 0 (by omega) (by omega) (by simp [hl]) (limbs_snoc ho (by omega)) (.inl rfl) (by
        rw [val_snoc, take_lim, take_lim, hl]; grind)
      by_cases h2 : i < b.xs.length
      · have gb : b.xs[((i : Int)).toNat]? = some (limb b.xs i) := by
          rw [e1, List.getElem?_eq_getElem h2, limb_some (List.getElem?_eq_getElem h2)]
        exact ⟨out', t', c', z, ref02_sub_l0_s0 (by omega) (by omega) (by omega) gb (inU32 (by omega) (by omega)) ga hge (inU32 (by omega) (by omega)) (by omega) w1 g1, g2, g3, g4, g5⟩
      · have z0 : limb b.xs i = 0 := limb_none (by omega)
        rw [z0, Int.add_zero] at g1 hge
        exact ⟨out', t', c', z, ref02_sub_l0_s2 (by omega) (by omega) (by omega) ga hge (inU32 (by omega) (by omega)) (by omega) w1 g1, g2, g3, g4, g5⟩
    · obtain ⟨out', t', c', z, g1, g2, g3, g4, g5⟩ := rsub_loop (b := b) hm ha hb m (i + 1) (out ++ [limb a.xs i + 1000000000 - (c + limb b.xs i)]) false 1 (by omega) (by omega) (by simp [hl]) (limbs_snoc ho (by omega)) (.inr rfl) (by
        rw [val_snoc, take_lim, take_lim, hl, powB_succ]; grind)
      by_cases h2 : i < b.xs.length
      · have gb : b.xs[((i : Int)).toNat]? = some (limb b.xs i) := by
          rw [e1, List.getElem?_eq_getElem h2, limb_some (List.getElem?_eq_getElem h2)]
        exact ⟨out', t', c', z, ref02_sub_l0_s1 (by omega) (by omega) (by omega) gb (inU32 (by omega) (by omega)) ga hge (inU32 (by omega) (by omega)) (inU32 (by omega) (by omega)) (by omega) w1 g1, g2, g3, g4, g5⟩
      · have z0 : limb b.xs i = 0 := limb_none (by omega)
        rw [z0, Int.add_zero] at g1 hge
        exact ⟨out', t', c', z, ref02_sub_l0_s3 (by omega) (by omega) (by omega) ga hge (inU32 (by omega) (by omega)) (inU32 (by omega) (by omega)) (by omega) w1 g1, g2, g3, g4, g5⟩
theorem rsub_run {a b : SL Int} (hfa : few a.xs) (ha : isNum a.xs) (hb : isNum b.xs) (hle : val b.xs ≤ val a.xs) : ∃ q : SL Int, ref02_sub a b q ∧ isNum q.xs ∧ val q.xs = val a.xs - val b.xs ∧ q.xs.length ≤ a.xs.length := by
  unfold few at hfa
  have hlen : b.xs.length ≤ a.xs.length := by
    rcases Nat.lt_or_ge a.xs.length b.xs.length with h | h
    · have := val_len_lt ha hb h; omega
    · exact h
  obtain ⟨out, t, c, z, g1, g2, g3, g4, g5⟩ := rsub_loop (a := a) (b := b) (by omega) ha.1 hb.1 a.xs.length 0 [] true 0 (by omega) (by omega) rfl limbs_nil (.inl rfl) (by simp [val])
  rw [List.take_of_length_le hlen] at g5
  have hc : c = 0 := by
    rcases g4 with h | h
    · exact h
    · subst h
      exfalso
      have h1 := val_lt g3
      rw [g2] at h1
      omega
  subst hc
  obtain ⟨q, k1, k2, k3, k4⟩ := rtrim_limbs (l := out) (by unfold wide; omega) g3 t
  exact ⟨q, ref02_sub_r0 g1 k1, k2, by rw [k3]; omega, by omega⟩
/-! ### Products -/
theorem rmul_in {a b : SL Int} {N i : Nat} {x : Int} (hN : N < 4000000000000) (hb : limbs b.xs) (hi : i + b.xs.length < N) (hgx : a.xs[i]? = some x) (hx : 0 ≤ x ∧ x < 1000000000) (V0 : Int) : ∀ (m k : Nat) (out : List Int) (c : Int), b.xs.length - k = m → k ≤ b.xs.length → out.length = N → limbs out → tailZ out (i + b.xs.length) → (0 ≤ c ∧ c < 1000000000) → val out + 1000000000 ^ (i + k) * c = V0 + 1000000000 ^ i * (x * val (b.xs.take k)) →
    ∃ out' c' z, ref02_mul_l0 out a b true N i c k (ref02_mul_l0_x0 out' a b true N i c' z) ∧ out'.length = N ∧ limbs out' ∧ tailZ out' (i + b.xs.length + 1) ∧ val out' = V0 + 1000000000 ^ i * (x * val b.xs)
  | 0, k, out, c, hm, hk, hl, ho, ht, hc, hv => by
    have : k = b.xs.length := by omega
    subst this
    rw [List.take_length] at hv
    by_cases h0 : c > 0
    · have e2 : ((i : Int) + (b.xs.length : Int)).toNat = i + b.xs.length := by omega
      have go : out[i + b.xs.length]? = some (out[i + b.xs.length]'(by omega)) := List.getElem?_eq_getElem _
      have gz := ht _ _ (Nat.le_refl _) go
      rw [gz] at go
      have em : (c + 0) % 1000000000 = c := by omega
      have ed : (c + 0) / 1000000000 = 0 := by omega
      refine ⟨out.set (i + b.xs.length) c, 0, _, ref02_mul_l0_s1 (out := out) (a := a) (b := b) (outt := true) (outn := N) (i := (i : Int)) (k := (b.xs.length : Int)) (by omega) h0 (in64 (by omega) (by omega)) (by omega) (by rw [e2]; exact go) (by rw [e2]; omega) (inU64 (by omega) (by omega)) (inU64 (by omega) (by omega)) (by omega) (inU32 (by omega) (by omega)) (inU64 (by omega) (by omega)) (in64 (by omega) (by omega)) (by
        rw [em, ed, e2]
        exact ref02_mul_l0_e2 (by omega) (by omega)), by simpa using hl, limbs_set ho hc.1 hc.2, ?_, ?_⟩
      · refine fun j y hj hy => ?_
        rw [List.getElem?_set_ne (by omega)] at hy
        exact ht j y (by omega) hy
      · rw [val_set _ go, Int.sub_zero]; exact hv
    · have : c = 0 := by omega
      subst this
      exact ⟨out, 0, _, ref02_mul_l0_e2 (by omega) (by omega), hl, ho, tailZ_mono ht (by omega), by omega⟩
  | m + 1, k, out, c, hm, hk, hl, ho, ht, hc, hv => by
    have hlt : k < b.xs.length := by omega
    have gb : b.xs[k]? = some (b.xs[k]'hlt) := List.getElem?_eq_getElem _
    have go : out[i + k]? = some (out[i + k]'(by omega)) := List.getElem?_eq_getElem _
    have bb := limbs_get hb gb
    have bo := limbs_get ho go
    generalize b.xs[k]'hlt = y at gb bb
    generalize out[i + k]'(by omega) = o at go bo
    have hm2 := mul_lt_sq hx bb
    have e0 : ((i : Int)).toNat = i := by omega
    have e1 : ((k : Int)).toNat = k := by omega
    have e2 : ((i : Int) + (k : Int)).toNat = i + k := by omega
    have hs : (c + o + x * y) % 1000000000 + 1000000000 * ((c + o + x * y) / 1000000000) = c + o + x * y := Int.emod_add_mul_ediv _ _
    obtain ⟨out', c', z, g1, g2, g3, g4, g5⟩ := rmul_in hN hb hi hgx hx V0 m (k + 1) (out.set (i + k) ((c + o + x * y) % 1000000000)) ((c + o + x * y) / 1000000000) (by omega) (by omega) (by simpa using hl) (limbs_set ho (by omega) (by omega)) (tailZ_set ht (by omega)) (by omega) (by
      rw [val_set _ go, val_take_get gb, ← Nat.add_assoc, powB_succ]
      rw [powB_add] at hv ⊢
      generalize (c + o + x * y) % 1000000000 = r at hs ⊢
      generalize (c + o + x * y) / 1000000000 = q at hs ⊢
      grind)
    exact ⟨out', c', z, ref02_mul_l0_s0 (by omega) (in64 (by omega) (by omega)) (by omega) (by rw [e2]; exact go) (by rw [e2]; omega) (inU64 (by omega) (by omega)) (inU64 (by omega) (by omega)) (by omega) (by rw [e0]; exact hgx) (inU64 (by omega) (by omega)) (by omega) (by rw [e1]; exact gb) (inU64 (by omega) (by omega)) (inU64 (by omega) (by omega)) (inU64 (by omega) (by omega)) (by omega) (inU32 (by omega) (by omega)) (inU64 (by omega) (by omega)) (in64 (by omega) (by omega)) (by rw [e2]; exact g1), g2, g3, g4, g5⟩
theorem rmul_out {a b : SL Int} {N : Nat} (hNe : N = a.xs.length + b.xs.length + 1) (hN : N < 4000000000000) (ha : limbs a.xs) (hb : limbs b.xs) : ∀ (m i : Nat) (out : List Int), a.xs.length - i = m → i ≤ a.xs.length → out.length = N → limbs out → tailZ out (i + b.xs.length) → val out = val (a.xs.take i) * val b.xs →
    ∃ out' z, ref02_mul_l1 out a b true N i (ref02_mul_l1_x0 out' a b true N z) ∧ out'.length = N ∧ limbs out' ∧ val out' = val a.xs * val b.xs
  | 0, i, out, hm, hi, hl, ho, ht, hv => by
    have : i = a.xs.length := by omega
    subst this
    rw [List.take_length] at hv
    exact ⟨out, _, ref02_mul_l1_e1 (by omega), hl, ho, hv⟩
  | m + 1, i, out, hm, hi, hl, ho, ht, hv => by
    have hlt : i < a.xs.length := by omega
    have ga : a.xs[i]? = some (a.xs[i]'hlt) := List.getElem?_eq_getElem _
    have ba := limbs_get ha ga
    generalize a.xs[i]'hlt = x at ga ba
    obtain ⟨out', c', z, g1, g2, g3, g4, g5⟩ := rmul_in (b := b) (N := N) (i := i) hN hb (by omega) ga ba (val out) b.xs.length 0 out 0 (by omega) (by omega) hl ho ht ⟨by omega, by omega⟩ (by simp [val])
    obtain ⟨out2, z2, k1, k2, k3, k4⟩ := rmul_out hNe hN ha hb m (i + 1) out' (by omega) (by omega) g2 g3 (by rw [show i + 1 + b.xs.length = i + b.xs.length + 1 by omega]; exact g4) (by
      rw [g5, hv, val_take_get ga]; grind)
    exact ⟨out2, z2, ref02_mul_l1_s0 (by omega) g1 (in64 (by omega) (by omega)) k1, k2, k3, k4⟩
theorem rmul_run {a b : SL Int} (hfa : few a.xs) (hfb : few b.xs) (ha : limbs a.xs) (hb : limbs b.xs) : ∃ q : SL Int, ref02_mul a b q ∧ isNum q.xs ∧ val q.xs = val a.xs * val b.xs ∧ q.xs.length ≤ a.xs.length + b.xs.length + 1 := by
  unfold few at hfa hfb
  have e : (a.xs.length : Int) + (b.xs.length : Int) + 1 = ((a.xs.length + b.xs.length + 1 : Nat) : Int) := by omega
  generalize hn : a.xs.length + b.xs.length + 1 = n at e
  have ht : ((n : Int)).toNat = n := by omega
  obtain ⟨out, z, g1, g2, g3, g4⟩ := rmul_out (a := a) (b := b) hn.symm (by omega) ha hb a.xs.length 0 (List.replicate n 0) (by omega) (by omega) (by simp) (limbs_zeros n) (tailZ_zeros n _) (by rw [val_zeros]; simp [val])
  obtain ⟨q, k1, k2, k3, k4⟩ := rtrim_limbs (l := out) (by unfold wide; omega) g3 true
  refine ⟨q, ref02_mul_r0 (z0 := out) (z1 := z) ?_ ?_ ?_ ?_ ?_ ?_ ?_, k2, by rw [k3, g4], by omega⟩
  · exact in64 (by omega) (by omega)
  · rw [e]; exact in64 (by omega) (by omega)
  · omega
  · omega
  · rw [e, ht]; exact g1
  · rw [e, ht]; omega
  · rw [e, ht, ← g2, List.take_length]; exact k1
end
section
open Go
set_option linter.unusedVariables false
set_option linter.unnecessarySimpa false
set_option linter.unusedSimpArgs false
set_option linter.unusedSectionVars false
theorem wf_huge {l : SL Int} (h : wfS 4 (inK .u32) l) : huge l.xs := by
  have := h.1
  unfold huge; omega
theorem wf_u32 {l : SL Int} (h : wfS 4 (inK .u32) l) : u32s l.xs := fun x hx => by
  have := h.2 x hx
  unfold inK Lit.wf at this
  simp [IntKind.min, IntKind.max, IntKind.signed, IntKind.bits] at this
  omega
end
section
open Go
set_option linter.unusedVariables false
set_option linter.unnecessarySimpa false
set_option linter.unusedSimpArgs false
set_option linter.unusedSectionVars false
theorem cmpI_le {a b : Int} : cmpI a b ≤ 0 ↔ a ≤ b := by
  unfold cmpI
  split
  · constructor <;> intro _ <;> omega
  · split
    · constructor <;> intro _ <;> omega
    · constructor <;> intro _ <;> omega
theorem limbs_one {z : Int} (h0 : 0 ≤ z) (h1 : z < 1000000000) : limbs [z] := by
  intro x hx
  simp at hx
  subst hx
  exact ⟨h0, h1⟩
/-- One figure, cut, and the divisor times that figure. -/
theorem rfigure {b : SL Int} {z : Int} (hb : b.xs.length < 100000000000) (nb : isNum b.xs) (h0 : 0 ≤ z) (h1 : z < 1000000000) : ∃ r0 r1 : SL Int, ref02_Trim ⟨1, [z], true⟩ r0 ∧ ref02_mul b r0 r1 ∧ isNum r1.xs ∧ val r1.xs = val b.xs * z ∧ r1.xs.length ≤ b.xs.length + 2 := by
  obtain ⟨r0, t1, t2, t3, t4⟩ := rtrim_limbs (l := [z]) (by unfold wide; simp) (limbs_one h0 h1) true
  simp only [List.length_singleton] at t4
  obtain ⟨r1, m1, m2, m3, m4⟩ := rmul_run (a := b) (b := r0) (by unfold few; omega) (by unfold few; omega) nb.1 t2.1
  exact ⟨r0, r1, t1, m1, m2, by rw [m3, t3, val_one], by omega⟩
theorem rsearch {a b rest : SL Int} {q : List Int} {qt : Bool} {qn : Nat} {i : Int} (hb : b.xs.length < 100000000000) (nb : isNum b.xs) (fr : few rest.xs) (nr : isNum rest.xs) : ∀ (f : Nat) (low high : Int), high - low < (f : Int) → 0 ≤ low → low ≤ high → high < 1000000000 → val b.xs * low ≤ val rest.xs → val rest.xs < val b.xs * (high + 1) →
    ∃ z : Int, ref02_div_l0 q a b qt qn rest i low high (ref02_div_l0_x0 q a b qt qn rest i z z) ∧ 0 ≤ z ∧ z < 1000000000 ∧ val b.xs * z ≤ val rest.xs ∧ val rest.xs < val b.xs * (z + 1)
  | 0, low, high, hf, h0, h1, h2, h3, h4 => by omega
  | f + 1, low, high, hf, h0, h1, h2, h3, h4 => by
    by_cases hlt : low < high
    rotate_left
    · have : low = high := by omega
      subst this
      exact ⟨low, ref02_div_l0_e2 hlt, h0, h2, h3, h4⟩
    have hm0 : low < low + (high - low + 1) / 2 := by omega
    have hm1 : low + (high - low + 1) / 2 ≤ high := by omega
    obtain ⟨r0, r1, t1, t2, t3, t4, t5⟩ := rfigure (z := low + (high - low + 1) / 2) hb nb (by omega) (by omega)
    have hc := rcompare_run (a := r1) (b := rest) (by unfold few; omega) fr t3 nr
    have u1 : wk .u32 (high - low) := few_u32 (by omega) (by omega)
    have u2 : wk .u32 (high - low + 1) := few_u32 (by omega) (by omega)
    have u3 : wk .u32 ((high - low + 1) / 2) := few_u32 (by omega) (by omega)
    have u4 : wk .u32 (low + (high - low + 1) / 2) := few_u32 (by omega) (by omega)
    by_cases hle : cmpI (val r1.xs) (val rest.xs) ≤ 0
    · have hle' := cmpI_le.1 hle
      rw [t4] at hle'
      obtain ⟨z, g1, g2⟩ := rsearch (a := a) (q := q) (qt := qt) (qn := qn) (i := i) hb nb fr nr f (low + (high - low + 1) / 2) high (by omega) (by omega) (by omega) h2 hle' h4
      exact ⟨z, ref02_div_l0_s0 hlt u1 u2 (by omega) u3 u4 t1 t2 hc hle g1, g2⟩
    · have hle' : ¬ val r1.xs ≤ val rest.xs := fun h => hle (cmpI_le.2 h)
      rw [t4] at hle'
      obtain ⟨z, g1, g2⟩ := rsearch (a := a) (q := q) (qt := qt) (qn := qn) (i := i) hb nb fr nr f low (low + (high - low + 1) / 2 - 1) (by omega) h0 (by omega) (by omega) h3 (by rw [Int.sub_add_cancel]; omega)
      exact ⟨z, ref02_div_l0_s1 hlt u1 u2 (by omega) u3 u4 t1 t2 hc hle (few_u32 (by omega) (by omega)) g1, g2⟩
theorem rdiv_step {a b : SL Int} {rest : List Int} {y i : Int} {q : List Int} {qt : Bool} {qn : Nat} (hb : b.xs.length < 100000000000) (nb : isNum b.xs) (hy : 0 ≤ y ∧ y < 1000000000) (nr : isNum rest) (lr : val rest < val b.xs) :
    ∃ (r0 : SL Int) (z : Int) (r1 r2 r3 : SL Int), ref02_Trim ⟨1, [y] ++ rest, false⟩ r0 ∧ ref02_div_l0 q a b qt qn r0 i 0 999999999 (ref02_div_l0_x0 q a b qt qn r0 i z z) ∧ ref02_Trim ⟨1, [z], true⟩ r1 ∧ ref02_mul b r1 r2 ∧ ref02_sub r0 r2 r3 ∧ isNum r3.xs ∧ val r3.xs < val b.xs ∧ (0 ≤ z ∧ z < 1000000000) ∧ y + 1000000000 * val rest = val b.xs * z + val r3.xs := by
  have hrl : rest.length ≤ b.xs.length := by
    rcases Nat.lt_or_ge b.xs.length rest.length with h | h
    · have := val_len_lt nb nr h
      omega
    · exact h
  have hl1 : limbs ([y] ++ rest) := limbs_append.2 ⟨limbs_one hy.1 hy.2, nr.1⟩
  obtain ⟨r0, t1, t2, t3, t4⟩ := rtrim_limbs (l := [y] ++ rest) (by unfold wide; simp; omega) hl1 false
  have hv : val ([y] ++ rest) = y + 1000000000 * val rest := by
    rw [val_append, val_one]; simp
  rw [hv] at t3
  simp only [List.length_append, List.length_singleton] at t4
  have n0 := val_nonneg nr.1
  have nb0 := val_nonneg nb.1
  obtain ⟨z, g1, g2, g3, g4, g5⟩ := rsearch (a := a) (q := q) (qt := qt) (qn := qn) (i := i) (rest := r0) hb nb (by unfold few; omega) t2 1000000000 0 999999999 (by omega) (by omega) (by omega) (by omega) (by rw [Int.mul_zero, t3]; omega) (by rw [t3]; omega)
  obtain ⟨r1, r2, m1, m2, m3, m4, m5⟩ := rfigure (z := z) hb nb g2 g3
  obtain ⟨r3, s1, s2, s3, s4⟩ := rsub_run (a := r0) (b := r2) (by unfold few; omega) t2 m3 (by rw [m4]; exact g4)
  rw [Int.mul_add, Int.mul_one] at g5
  refine ⟨r0, z, r1, r2, r3, t1, g1, m1, m2, s1, s2, ?_, ⟨g2, g3⟩, ?_⟩
  · rw [s3, m4]; omega
  · rw [s3, m4, t3]; omega
theorem rdiv_b {a b : SL Int} {n : Nat} (hn : n = a.xs.length) (hnl : n < 100000000000) (ha : limbs a.xs) (hb : b.xs.length < 100000000000) (nb : isNum b.xs) : ∀ (k : Nat) (q : List Int) (rest : SL Int), k ≤ n → q.length = n → limbs q → isNum rest.xs → val rest.xs < val b.xs → val (a.xs.drop k) = val b.xs * val (q.drop k) + val rest.xs →
    ∃ (z : List Int) (r : SL Int), ref02_div_l1_b q a b true n rest ((k : Int) - 1) (ref02_div_l1_x1 z a b true n r (-1)) ∧ z.length = n ∧ limbs z ∧ isNum r.xs ∧ val r.xs < val b.xs ∧ val a.xs = val b.xs * val z + val r.xs
  | 0, q, rest, hk, hq, lq, nr, lr, e => by
    have h := ref02_div_l1_b_e3 (q := q) (a := a) (b := b) (qt := true) (qn := n) (rest := rest) (i := -1) (by omega)
    exact ⟨q, rest, h, hq, lq, nr, lr, by simpa using e⟩
  | k + 1, q, rest, hk, hq, lq, nr, lr, e => by
    have hka : k < a.xs.length := by omega
    have hkq : k < q.length := by omega
    have gy : a.xs[k]? = some a.xs[k] := List.getElem?_eq_getElem hka
    have gq : q[k]? = some q[k] := List.getElem?_eq_getElem hkq
    have by_ := limbs_get ha gy
    obtain ⟨r0, z, r1, r2, r3, t1, t2, t3, t4, t5, t6, t7, t8, t9⟩ := rdiv_step (a := a) (b := b) (rest := rest.xs) (y := a.xs[k]) (i := (k : Int)) (q := q) (qt := true) (qn := n) hb nb by_ nr lr
    have hrl : rest.xs.length ≤ b.xs.length := by
      rcases Nat.lt_or_ge b.xs.length rest.xs.length with h | h
      · have := val_len_lt nb nr h
        omega
      · exact h
    have hd : (q.set k z).drop k = z :: q.drop (k + 1) := by
      rw [List.drop_eq_getElem_cons (by rw [List.length_set]; exact hkq)]
      simp [List.drop_set_of_lt]
    have e2 : val (a.xs.drop k) = val b.xs * val ((q.set k z).drop k) + val r3.xs := by
      rw [val_drop_get gy, e, hd]
      have : val (z :: q.drop (k + 1)) = z + 1000000000 * val (q.drop (k + 1)) := rfl
      rw [this, Int.mul_add, Int.mul_add, Int.mul_left_comm 1000000000]
      omega
    obtain ⟨zz, r, g1, g2⟩ := rdiv_b hn hnl ha hb nb k (q.set k z) r3 (by omega) (by rw [List.length_set]; exact hq) (limbs_set lq t8.1 t8.2) t6 t7 e2
    refine ⟨zz, r, ?_, g2⟩
    have ek : ((k + 1 : Nat) : Int) - 1 = (k : Int) := by omega
    rw [ek]
    exact ref02_div_l1_b_s2 (i := (k : Int)) (by omega) (by omega) gy (by omega) t1 t2 gq (by rw [Int.toNat_natCast]; omega) t3 t4 t5 (in64 (by omega) (by omega)) (by rw [Int.toNat_natCast]; exact g1)
theorem rdiv_run {a b : SL Int} (hfa : a.xs.length < 100000000000) (hb : b.xs.length < 100000000000) (na : isNum a.xs) (nb : isNum b.xs) (hb0 : b.xs ≠ []) :
    ∃ q r : SL Int, ref02_div a b q r ∧ isNum q.xs ∧ isNum r.xs ∧ val a.xs = val b.xs * val q.xs + val r.xs ∧ val r.xs < val b.xs ∧ r.xs.length ≤ b.xs.length := by
  have hbp := val_pos nb hb0
  have hlen : ∀ {r : List Int}, isNum r → val r < val b.xs → r.length ≤ b.xs.length := by
    intro r nr lr
    rcases Nat.lt_or_ge b.xs.length r.length with h | h
    · have := val_len_lt nb nr h
      omega
    · exact h
  have v0 : val ([] : List Int) = 0 := rfl
  by_cases h0 : a.xs.length = 0
  · have ha0 : a.xs = [] := List.length_eq_zero_iff.1 h0
    obtain ⟨r0, t1, t2, t3, t4⟩ := rtrim_limbs (l := ([] : List Int)) (by unfold wide; simp) limbs_nil true
    have h1 := ref02_div_l1_e1 (q := List.replicate a.xs.length 0) (rest := []) (a := a) (b := b) (qt := true) (qn := a.xs.length) (restt := true) (restn := 0) (i := (a.xs.length : Int) - 1) (by omega)
    refine ⟨r0, ⟨1, [], true⟩, ref02_div_r0 (by omega) (in64 (by omega) (by omega)) h1 (by rw [h0]; simp) (by rw [h0]; exact t1) (by simp), t2, isNum_nil, ?_, ?_, by simp⟩
    · rw [t3, ha0, v0]; simp [v0]
    · rw [v0]; exact hbp
  · obtain ⟨n, hn⟩ : ∃ n, a.xs.length = n + 1 := ⟨a.xs.length - 1, by omega⟩
    have hka : n < a.xs.length := by omega
    have gy : a.xs[n]? = some a.xs[n] := List.getElem?_eq_getElem hka
    have hl : limbs (List.replicate a.xs.length 0) := limbs_zeros _
    have gq : (List.replicate a.xs.length (0 : Int))[n]? = some 0 := by rw [List.getElem?_replicate]; simp [hka]
    obtain ⟨r0, z, r1, r2, r3, t1, t2, t3, t4, t5, t6, t7, t8, t9⟩ := rdiv_step (a := a) (b := b) (rest := []) (y := a.xs[n]) (i := (n : Int)) (q := List.replicate a.xs.length 0) (qt := true) (qn := a.xs.length) hb nb (limbs_get na.1 gy) isNum_nil (by rw [v0]; exact hbp)
    have hd : ((List.replicate a.xs.length (0 : Int)).set n z).drop n = [z] := by
      rw [List.drop_eq_getElem_cons (by rw [List.length_set, List.length_replicate]; exact hka)]
      simp [List.drop_set_of_lt]
      omega
    have e2 : val (a.xs.drop n) = val b.xs * val (((List.replicate a.xs.length (0 : Int)).set n z).drop n) + val r3.xs := by
      rw [val_drop_get gy, hd, val_one, List.drop_eq_nil_of_le (by omega), v0]
      rw [v0] at t9
      exact t9
    obtain ⟨zz, r, g1, g2, g3, g4, g5, g6⟩ := rdiv_b (b := b) rfl hfa na.1 hb nb n ((List.replicate a.xs.length 0).set n z) r3 (by omega) (by simp) (limbs_set hl t8.1 t8.2) t6 t7 e2
    obtain ⟨q, k1, k2, k3, k4⟩ := rtrim_limbs (l := zz) (by unfold wide; omega) g3 true
    have en : (a.xs.length : Int) - 1 = (n : Int) := by omega
    refine ⟨q, r, ref02_div_r1 (z0 := zz) (z1 := a) (z2 := b) (z3 := true) (z4 := a.xs.length) (z5 := r) (z6 := -1) (by omega) (in64 (by omega) (by omega)) ?_ (by omega) (by rw [← g2, List.take_length]; exact k1), k2, g4, by rw [k3]; exact g6, g5, hlen g4 g5⟩
    rw [en]
    exact ref02_div_l1_s0 (i := (n : Int)) (by omega) (by omega) gy (by simp) (by simp) (by simpa using t1) t2 gq (by rw [Int.toNat_natCast]; omega) t3 t4 t5 (in64 (by omega) (by omega)) (by rw [Int.toNat_natCast]; exact g1)
theorem rpower_loop {m : SL Int} (hm : m.xs.length < 10000000000) (nm : isNum m.xs) (hm0 : m.xs ≠ []) : ∀ (f n : Nat), n < f → n < 9223372036854775808 → ∀ (out x : SL Int), isNum out.xs → isNum x.xs → out.xs.length ≤ m.xs.length → x.xs.length ≤ m.xs.length → val out.xs < val m.xs →
    ∃ z0 z1 z2, ref02_Power_l0 n m out x (ref02_Power_l0_x0 z0 m z1 z2) ∧ isNum z1.xs ∧ val z1.xs = (val out.xs * val x.xs ^ n) % val m.xs
  | 0, n, hf, _, _, _, _, _, _, _, _ => by omega
  | f + 1, n, hf, hn, out, x, no, nx, lo, lx, ho => by
    have fo : few out.xs := by unfold few; omega
    have fx : few x.xs := by unfold few; omega
    by_cases h0 : n = 0
    · subst h0
      refine ⟨_, out, x, ref02_Power_l0_e2 (by omega), no, ?_⟩
      rw [Int.pow_zero, Int.mul_one, Int.emod_eq_of_lt (val_nonneg no.1) ho]
    have e2 : ((n : Int)) / 2 = ((n / 2 : Nat) : Int) := by omega
    have w2 : w64 ((n : Int) / 2) := in64 (by omega) (by omega)
    obtain ⟨xx, s1, s2, s3, s4⟩ := rmul_run fx fx nx.1 nx.1
    obtain ⟨qx, rx, b1, b2, b3, b4, b5, b6⟩ := rdiv_run (a := xx) (b := m) (by omega) (by omega) s2 nm hm0
    have b7 : val rx.xs = val xx.xs % val m.xs := mod_of (by rw [b4, Int.mul_comm]) (val_nonneg b3.1) b5
    have hx2 : val xx.xs = val x.xs ^ 2 := by rw [s3, Int.pow_succ, Int.pow_one]
    by_cases hp : (n : Int) % 2 = 1
    · obtain ⟨oo, t1, t2, t3, t4⟩ := rmul_run fo fx no.1 nx.1
      obtain ⟨qo, ro, a1, a2, a3, a4, a5, a6⟩ := rdiv_run (a := oo) (b := m) (by omega) (by omega) t2 nm hm0
      have a7 : val ro.xs = val oo.xs % val m.xs := mod_of (by rw [a4, Int.mul_comm]) (val_nonneg a3.1) a5
      obtain ⟨z0, z1, z2, g1, g2, g3⟩ := rpower_loop hm nm hm0 f (n / 2) (by omega) (by omega) ro rx a3 b3 a6 b6 a5
      refine ⟨z0, z1, z2, ref02_Power_l0_s0 (by omega) (by omega) hp t1 a1 s1 b1 w2 (by rw [e2]; exact g1), g2, ?_⟩
      rw [g3, a7, b7, hx2, mul_pow_emod, t3, ← Int.pow_mul, Int.mul_assoc]
      congr 2
      have : n = 2 * (n / 2) + 1 := by omega
      conv => rhs; rw [this]
      rw [Int.pow_succ, Int.mul_comm]
    · obtain ⟨z0, z1, z2, g1, g2, g3⟩ := rpower_loop hm nm hm0 f (n / 2) (by omega) (by omega) out rx no b3 lo b6 ho
      refine ⟨z0, z1, z2, ref02_Power_l0_s1 (by omega) (by omega) hp s1 b1 w2 (by rw [e2]; exact g1), g2, ?_⟩
      rw [g3, b7, hx2, Int.mul_emod, pow_emod, ← Int.mul_emod, ← Int.pow_mul, show 2 * (n / 2) = n by omega]
theorem rpower_run {a m : SL Int} {n : Nat} (ha : a.xs.length < 10000000000) (hm : m.xs.length < 10000000000) (na : isNum a.xs) (nm : isNum m.xs) (hm0 : m.xs ≠ []) (hn : n < 9223372036854775808) (ca : ref02_Check a 0) (cm : ref02_Check m 0) : ∃ z : SL Int, ref02_Power a n m z 0 ∧ isNum z.xs ∧ val z.xs = val a.xs ^ n % val m.xs := by
  have hml := List.length_pos_iff.2 hm0
  obtain ⟨qo, o, o1, o2, o3, o4, o5, o6⟩ := rdiv_run (a := ⟨1, [1], true⟩) (b := m) (by simp) (by omega) isNum_one nm hm0
  obtain ⟨qx, x, x1, x2, x3, x4, x5, x6⟩ := rdiv_run (a := a) (b := m) (by omega) (by omega) na nm hm0
  have o7 : val o.xs = val [1] % val m.xs := mod_of (by rw [Int.mul_comm]; exact o4) (val_nonneg o3.1) o5
  have x7 : val x.xs = val a.xs % val m.xs := mod_of (by rw [x4, Int.mul_comm]) (val_nonneg x3.1) x5
  obtain ⟨z0, z1, z2, g1, g2, g3⟩ := rpower_loop hm nm hm0 (n + 1) n (by omega) hn o x o3 x3 o6 x6 o5
  refine ⟨z1, ref02_Power_r4 ca rfl cm rfl (by omega) (by omega) o1 x1 g1, g2, ?_⟩
  rw [g3, o7, x7, mul_pow_emod]
  have : val [(1 : Int)] = 1 := rfl
  rw [this, Int.one_mul]
theorem quot_of {q q' m r r' : Int} (h : q * m + r = m * q' + r') (hr : r = r') (hm : 0 < m) : q = q' := by
  subst hr
  have : q * m = q' * m := by rw [Int.mul_comm q' m]; omega
  exact Int.eq_of_mul_eq_mul_right (by omega) this
def bothSides (a b a' b' : SL Int) : Prop :=
  (isNum a.xs ∧ isNum b.xs ∧ nat_both a' b' 0 ∧ ref02_Check a 0 ∧ ref02_Check b 0) ∨ (nat_both a' b' 2 ∧ (ref02_Check a 2 ∨ (ref02_Check a 0 ∧ ref02_Check b 2)))
theorem both_sides {a b a' b' : SL Int} (ea : a'.xs = a.xs) (eb : b'.xs = b.xs) (hfa : huge a.xs) (hfb : huge b.xs) (hua : u32s a.xs) (hub : u32s b.xs) : bothSides a b a' b' := by
  have fa := fits_run (a := a') (by rw [ea]; exact hfa) (by rw [ea]; exact hua)
  have fb := fits_run (a := b') (by rw [eb]; exact hfb) (by rw [eb]; exact hub)
  rw [ea] at fa
  rw [eb] at fb
  rcases rcheck_run hfa hua with ⟨ha, ca⟩ | ⟨ha, ca⟩
  · rcases fa with ⟨_, fa⟩ | ⟨na, _⟩
    rotate_left
    · exact absurd ha na
    rcases rcheck_run hfb hub with ⟨hb, cb⟩ | ⟨hb, cb⟩
    · rcases fb with ⟨_, fb⟩ | ⟨nb, _⟩
      rotate_left
      · exact absurd hb nb
      exact .inl ⟨ha, hb, nat_both_r0 fa fb, ca, cb⟩
    · rcases fb with ⟨nb, _⟩ | ⟨_, fb⟩
      · exact absurd nb hb
      exact .inr ⟨nat_both_r1 fa fb, .inr ⟨ca, cb⟩⟩
  · rcases fa with ⟨na, _⟩ | ⟨_, fa⟩
    · exact absurd na ha
    exact .inr ⟨nat_both_r2 fa, .inl ca⟩
theorem d2 : (2 : Int) ≠ 0 := by decide
section
variable {a b a' b' : SL Int} {n_ : Int} (ea : a'.xs = a.xs) (eb : b'.xs = b.xs) (la : a.xs.length ≤ 60) (lb : b.xs.length ≤ 60) (H : bothSides a b a' b')
include ea eb la lb H
theorem k_mul : ∃ q q' e, nat_Mul a' b' q e ∧ ref02_Mul a b q' e ∧ few q.xs ∧ q.xs = q'.xs := by
  have fa : few a.xs := by unfold few; omega
  have fb : few b.xs := by unfold few; omega
  rcases H with ⟨na, nb, hb, ca, cb⟩ | ⟨hb, ca | ⟨ca, cb⟩⟩
  · obtain ⟨q, q1, q2, q3, q4⟩ := mul_run (a := a') (b := b') (by rw [ea]; exact fa) (by rw [eb]; exact fb) (by rw [ea]; exact na) (by rw [eb]; exact nb)
    rw [ea, eb] at q3 q4
    obtain ⟨r, r1, r2, r3, r4⟩ := rmul_run fa fb na.1 nb.1
    exact ⟨q, r, 0, q1, ref02_Mul_r2 ca rfl cb rfl r1, by unfold few; omega, val_inj q2 r2 (by rw [q3, r3])⟩
  · exact ⟨_, _, 2, nat_Mul_r0 hb d2, ref02_Mul_r0 ca d2, by unfold few; simp, rfl⟩
  · exact ⟨_, _, 2, nat_Mul_r0 hb d2, ref02_Mul_r1 ca rfl cb d2, by unfold few; simp, rfl⟩
theorem k_div : ∃ q r q' r' e, nat_Div a' b' q r e ∧ ref02_Div a b q' r' e ∧ few q.xs ∧ q.xs = q'.xs ∧ few r.xs ∧ r.xs = r'.xs := by
  have fa : few a.xs := by unfold few; omega
  have fb : few b.xs := by unfold few; omega
  have f0 : few ([] : List Int) := by unfold few; simp
  rcases H with ⟨na, nb, hb, ca, cb⟩ | ⟨hb, ca | ⟨ca, cb⟩⟩
  · by_cases hb0 : b.xs = []
    · exact ⟨_, _, _, _, 20, nat_Div_r1 hb rfl (by rw [eb, hb0]; simp), ref02_Div_r2 ca rfl cb rfl (by rw [hb0]; simp), f0, rfl, f0, rfl⟩
    · have hl := List.length_pos_iff.2 hb0
      have hp := val_pos nb hb0
      obtain ⟨q, r, q1, q2, q3, q4, q5, q6, q7⟩ := div_run (a := a') (b := b') (by rw [ea]; exact fa) (by rw [eb]; exact fb) (by rw [ea]; exact na) (by rw [eb]; exact nb) (by rw [eb]; exact hb0)
      rw [ea] at q4 q6
      rw [eb] at q4 q5 q7
      obtain ⟨s, t, s1, s2, s3, s4, s5, s6⟩ := rdiv_run (a := a) (b := b) (by omega) (by omega) na nb hb0
      have e1 := mod_of q4 (val_nonneg q3.1) q5
      have e2 : val t.xs = val a.xs % val b.xs := mod_of (by rw [s4, Int.mul_comm]) (val_nonneg s3.1) s5
      have e3 : val r.xs = val t.xs := by rw [e1, e2]
      exact ⟨q, r, s, t, 0, q1, ref02_Div_r3 ca rfl cb rfl (by omega) s1, by unfold few; omega, val_inj q2 s2 (quot_of (q4.symm.trans s4) e3 hp), by unfold few; omega, val_inj q3 s3 e3⟩
  · exact ⟨_, _, _, _, 2, nat_Div_r0 hb d2, ref02_Div_r0 ca d2, f0, rfl, f0, rfl⟩
  · exact ⟨_, _, _, _, 2, nat_Div_r0 hb d2, ref02_Div_r1 ca rfl cb d2, f0, rfl, f0, rfl⟩
theorem k_power (hn : n_ < 9223372036854775808) : ∃ q q' e, nat_Power a' n_ b' q e ∧ ref02_Power a n_ b q' e ∧ few q.xs ∧ q.xs = q'.xs := by
  have fa : few a.xs := by unfold few; omega
  have fb : few b.xs := by unfold few; omega
  have f0 : few ([] : List Int) := by unfold few; simp
  rcases H with ⟨na, nb, hb, ca, cb⟩ | ⟨hb, ca | ⟨ca, cb⟩⟩
  · by_cases hb0 : b.xs = []
    · exact ⟨_, _, 20, nat_Power_r1 hb rfl (by rw [eb, hb0]; simp), ref02_Power_r2 ca rfl cb rfl (by rw [hb0]; simp), f0, rfl⟩
    · have hl := List.length_pos_iff.2 hb0
      by_cases h0 : n_ < 0
      · exact ⟨_, _, 2, nat_Power_r2 hb rfl (by rw [eb]; omega) h0, ref02_Power_r3 ca rfl cb rfl (by omega) h0, f0, rfl⟩
      obtain ⟨n, rfl⟩ := Int.eq_ofNat_of_zero_le (show 0 ≤ n_ by omega)
      obtain ⟨q, q1, q2, q3, q4⟩ := power_run (a := a') (m := b') (n := n) (by rw [ea]; exact fa) (by rw [eb]; omega) (by rw [ea]; exact na) (by rw [eb]; exact nb) (by rw [eb]; exact hb0) (by omega)
      rw [ea, eb] at q3
      rw [eb] at q4
      obtain ⟨r, r1, r2, r3⟩ := rpower_run (a := a) (m := b) (n := n) (by omega) (by omega) na nb hb0 (by omega) ca cb
      exact ⟨q, r, 0, q1, r1, by unfold few; omega, val_inj q2 r2 (by rw [q3, r3])⟩
  · exact ⟨_, _, 2, nat_Power_r0 hb d2, ref02_Power_r0 ca d2, f0, rfl⟩
  · exact ⟨_, _, 2, nat_Power_r0 hb d2, ref02_Power_r1 ca rfl cb d2, f0, rfl⟩
end
theorem inK_lt {n : Int} (h : inK .i64 n) : n < 9223372036854775808 := by
  unfold inK Lit.wf at h
  simp [IntKind.min, IntKind.max, IntKind.signed, IntKind.bits] at h
  omega
end
section
open Go
set_option linter.unusedVariables false
set_option linter.unnecessarySimpa false
set_option linter.unusedSimpArgs false
set_option linter.unusedSectionVars false
/-- What figures say, the first being the greatest. -/
def hv : Int → List Int → Int
  | x, [] => x
  | x, d :: r => hv (x * 10 + (d - 48)) r
def figs (l : List Int) : Prop := ∀ d ∈ l, 48 ≤ d ∧ d ≤ 57
theorem figs_cons {d : Int} {r : List Int} : figs (d :: r) ↔ (48 ≤ d ∧ d ≤ 57) ∧ figs r := by
  constructor
  · intro h; exact ⟨h d (by simp), fun x hx => h x (by simp [hx])⟩
  · rintro ⟨h1, h2⟩ x hx
    rcases List.mem_cons.1 hx with rfl | hx
    · exact h1
    · exact h2 x hx
theorem figs_nil : figs [] := by intro x h; cases h
theorem figs_take {l : List Int} (h : figs l) (i : Nat) : figs (l.take i) := fun x hx => h x (List.mem_of_mem_take hx)
theorem figs_drop {l : List Int} (h : figs l) (i : Nat) : figs (l.drop i) := fun x hx => h x (List.mem_of_mem_drop hx)
theorem hv_add : ∀ (l : List Int) (x : Int), hv x l = x * 10 ^ l.length + hv 0 l
  | [], x => by simp [hv]
  | d :: r, x => by
    rw [hv, hv, hv_add r (x * 10 + (d - 48)), hv_add r (0 * 10 + (d - 48)), List.length_cons, Int.pow_succ]
    have e1 : (x * 10 + (d - 48)) * 10 ^ r.length = x * (10 ^ r.length * 10) + (d - 48) * 10 ^ r.length := by
      rw [Int.add_mul, Int.mul_assoc, Int.mul_comm 10]
    have e2 : (0 * 10 + (d - 48)) * 10 ^ r.length = (d - 48) * 10 ^ r.length := by
      rw [Int.zero_mul, Int.zero_add]
    rw [e1, e2]
    omega
theorem hv_seq : ∀ (a b : List Int) (x : Int), hv x (a ++ b) = hv (hv x a) b
  | [], b, x => rfl
  | d :: r, b, x => hv_seq r b _
theorem hv_app (a b : List Int) : hv 0 (a ++ b) = hv 0 a * 10 ^ b.length + hv 0 b := by rw [hv_seq, hv_add]
theorem ten_pos (n : Nat) : 0 < (10 : Int) ^ n := Int.pow_pos (by decide)
theorem hv_bound : ∀ {l : List Int}, figs l → 0 ≤ hv 0 l ∧ hv 0 l < 10 ^ l.length
  | [], _ => by simp [hv]
  | d :: r, h => by
    rw [figs_cons] at h
    have ih := hv_bound h.2
    rw [hv, hv_add, List.length_cons, Int.pow_succ, Int.zero_mul, Int.zero_add]
    have hp := ten_pos r.length
    have h1 : 0 ≤ (d - 48) * 10 ^ r.length := Int.mul_nonneg (by omega) (by omega)
    have h2 : (d - 48) * 10 ^ r.length ≤ 9 * 10 ^ r.length := Int.mul_le_mul_of_nonneg_right (by omega) (by omega)
    omega
theorem hv_ge {l : List Int} (h : figs l) {x : Int} (hx : 0 ≤ x) : x ≤ hv x l := by
  rw [hv_add]
  have h1 := (hv_bound h).1
  have hp := ten_pos l.length
  have h2 : x * 1 ≤ x * 10 ^ l.length := Int.mul_le_mul_of_nonneg_left (by omega) hx
  omega
def digs : Nat → Int → List Int → List Int
  | 0, _, T => T
  | j + 1, x, T => digs j (x / 10) ((48 + x % 10) :: T)
theorem digs_len : ∀ (j : Nat) (x : Int) (T : List Int), (digs j x T).length = j + T.length
  | 0, _, _ => by simp [digs]
  | j + 1, x, T => by rw [digs, digs_len]; simp; omega
theorem digs_figs : ∀ (j : Nat) (x : Int) (T : List Int), figs T → figs (digs j x T)
  | 0, _, _, h => h
  | j + 1, x, T, h => digs_figs j _ _ (figs_cons.2 ⟨by omega, h⟩)
theorem digs_hv : ∀ (j : Nat) (x : Int) (T : List Int), 0 ≤ x → x < 10 ^ j → hv 0 (digs j x T) = x * 10 ^ T.length + hv 0 T
  | 0, x, T, h0, h1 => by
    have : x = 0 := by simp at h1; omega
    subst this
    simp [digs]
  | j + 1, x, T, h0, h1 => by
    rw [Int.pow_succ] at h1
    rw [digs, digs_hv j (x / 10) _ (by omega) (by omega), List.length_cons, Int.pow_succ, hv, hv_add, Int.zero_mul, Int.zero_add]
    have e : 48 + x % 10 - 48 = x % 10 := by omega
    rw [e]
    have hx : x * 10 ^ T.length = (10 * (x / 10) + x % 10) * 10 ^ T.length := by congr 1; omega
    have e2 : x / 10 * (10 ^ T.length * 10) = 10 * (x / 10) * 10 ^ T.length := by
      rw [Int.mul_comm (10 ^ T.length) 10, ← Int.mul_assoc, Int.mul_comm (x / 10) 10]
    rw [hx, Int.add_mul, e2]
    omega
def pushAll : List Int → List Int → List Int
  | [], T => T
  | x :: r, T => pushAll r (digs 9 x T)
theorem pushAll_len : ∀ (a T : List Int), (pushAll a T).length = 9 * a.length + T.length
  | [], T => by simp [pushAll]
  | x :: r, T => by rw [pushAll, pushAll_len, digs_len, List.length_cons]; omega
theorem pushAll_figs : ∀ (a T : List Int), figs T → figs (pushAll a T)
  | [], T, h => h
  | x :: r, T, h => pushAll_figs r _ (digs_figs _ _ _ h)
theorem pushAll_hv : ∀ (a T : List Int), limbs a → hv 0 (pushAll a T) = val a * 10 ^ T.length + hv 0 T
  | [], T, _ => by simp [pushAll, val]
  | x :: r, T, h => by
    rw [limbs_cons] at h
    rw [pushAll, pushAll_hv r _ h.2, digs_hv 9 x T h.1.1 (by simpa using h.1.2), digs_len, Int.pow_add]
    have e : val (x :: r) = x + 1000000000 * val r := rfl
    have e1 : (10 : Int) ^ 9 = 1000000000 := by decide
    rw [e, e1, Int.add_mul, ← Int.mul_assoc, Int.mul_comm (val r)]
    omega
theorem set_rep (n : Nat) (T : List Int) (v : Int) : (List.replicate (n + 1) (0 : Int) ++ T).set n v = List.replicate n 0 ++ v :: T := by
  rw [List.replicate_succ', List.append_assoc, List.set_append_right n v (by simp)]
  simp
theorem get_rep (n : Nat) (T : List Int) : (List.replicate (n + 1) (0 : Int) ++ T)[n]? = some 0 := by
  rw [List.getElem?_append_left (by simp), List.getElem?_replicate]; simp
theorem text_in {bt : Bool} {bn i : Nat} {t16 : SL Int} {t17 t18 : Int} (hb : bn < 281474976710656) : ∀ (j m : Nat) (x : Int) (T : List Int), j ≤ 9 → 0 ≤ x → x < 4294967296 → T.length = i * 9 + (9 - j) → bn = m + j + T.length →
    ∃ x', nat_Text_l0 (List.replicate (m + j) 0 ++ T) bt bn i x t16 t17 t18 (9 - (j : Int)) (nat_Text_l0_x0 (List.replicate m 0 ++ digs j x T) bt bn i x' t16 t17 t18 9)
  | 0, m, x, T, hj, h0, h1, hT, hbn => ⟨x, nat_Text_l0_e1 (by omega)⟩
  | j + 1, m, x, T, hj, h0, h1, hT, hbn => by
    obtain ⟨x', g⟩ := text_in (i := i) (t16 := t16) (t17 := t17) (t18 := t18) (bt := bt) hb j m (x / 10) ((48 + x % 10) :: T) (by omega) (by omega) (by omega) (by rw [List.length_cons]; omega) (by rw [List.length_cons]; omega)
    refine ⟨x', ?_⟩
    have ei : ((((bn : Int) - 1) - ((i : Int) * 9)) - (9 - ((j + 1 : Nat) : Int))).toNat = m + j := by omega
    have et : (9 - ((j + 1 : Nat) : Int)) + 1 = 9 - (j : Int) := by omega
    refine nat_Text_l0_s0 (y0 := 0) (by omega) (in64 (by omega) (by omega)) (in64 (by omega) (by omega)) (in64 (by omega) (by omega)) (in64 (by omega) (by omega)) h0 (inU8 (by omega) (by omega)) (inU8 (by omega) (by omega)) (by omega) (by rw [ei]; exact get_rep _ _) (by rw [ei]; omega) (inU32 (by omega) (by omega)) (in64 (by omega) (by omega)) ?_
    rw [ei, et, ← Nat.add_assoc, set_rep]
    exact g
theorem text_out {a : SL Int} {bt : Bool} {bn : Nat} (ha : limbs a.xs) (hbn : bn = a.xs.length * 9) (hb : bn < 281474976710656) : ∀ (rest : List Int) (i : Nat) (T : List Int), a.xs.drop i = rest → T.length = i * 9 →
    ∃ z, nat_Text_l1 (List.replicate (rest.length * 9) 0 ++ T) bt bn a (a.xs.length : Int) i (nat_Text_l1_x0 (pushAll rest T) bt bn a (a.xs.length : Int) z)
  | [], i, T, hd, hT => by
    have := drop_nil_le hd
    exact ⟨i, by simpa [pushAll] using nat_Text_l1_e1 (b := T) (bt := bt) (bn := bn) (t16 := a) (t17 := (a.xs.length : Int)) (t18 := (i : Int)) (by omega)⟩
  | x :: r, i, T, hd, hT => by
    obtain ⟨k1, k2, k3⟩ := at_drop hd
    have hr : r.length = a.xs.length - (i + 1) := by rw [← k2, List.length_drop]
    have hx := limbs_get ha (i := i) (x := x) (by simpa using k1)
    obtain ⟨x', g⟩ := text_in (bt := bt) (bn := bn) (i := i) (t16 := a) (t17 := (a.xs.length : Int)) (t18 := (i : Int)) hb 9 (r.length * 9) x T (by omega) hx.1 (by omega) (by omega) (by omega)
    obtain ⟨z, g2⟩ := text_out (bt := bt) ha hbn hb r (i + 1) (digs 9 x T) k2 (by rw [digs_len]; omega)
    refine ⟨z, nat_Text_l1_s0 (by omega) (by omega) k1 (z0 := List.replicate (r.length * 9) 0 ++ digs 9 x T) (z1 := x') (z2 := 9) ?_ (in64 (by omega) (by omega)) (by exact_mod_cast g2)⟩
    rw [List.length_cons, Nat.add_mul]
    exact g
/-- Zeros ahead. -/
abbrev cutZ (l : List Int) : List Int := l.dropWhile (fun d => decide (d = 48))
theorem cutZ_hv : ∀ l : List Int, hv 0 (cutZ l) = hv 0 l
  | [] => rfl
  | d :: r => by
    unfold cutZ
    rw [List.dropWhile_cons]
    by_cases h : d = 48
    · subst h
      simpa [hv] using cutZ_hv r
    · simp [h]
theorem cutZ_mem {l : List Int} {d : Int} (h : d ∈ cutZ l) : d ∈ l := (List.dropWhile_sublist _).subset h
theorem cutZ_len (l : List Int) : (cutZ l).length ≤ l.length := (List.dropWhile_sublist _).length_le
theorem ofNat_fig {d : Int} (h : 48 ≤ d ∧ d ≤ 57) : (decide (d = 48)) = [(48 : UInt8)].contains (UInt8.ofNat d.toNat) := by
  have : d = 48 ∨ d = 49 ∨ d = 50 ∨ d = 51 ∨ d = 52 ∨ d = 53 ∨ d = 54 ∨ d = 55 ∨ d = 56 ∨ d = 57 := by omega
  rcases this with rfl | rfl | rfl | rfl | rfl | rfl | rfl | rfl | rfl | rfl <;> decide
theorem trimLeft_figs : ∀ {l : List Int}, figs l → Lib.trimLeftS (bytesOf l) [48] = bytesOf (cutZ l)
  | [], _ => rfl
  | d :: r, h => by
    rw [figs_cons] at h
    have ih := trimLeft_figs h.2
    have e := ofNat_fig h.1
    unfold Lib.trimLeftS cutZ at *
    simp only [bytesOf, List.map_cons, List.dropWhile_cons]
    rw [← e]
    by_cases h0 : d = 48
    · simpa [h0, bytesOf] using ih
    · simp [h0]
def bText (l : List Int) : ByteArray := ⟨(bytesOf l).toArray⟩
theorem bText_nil {l : List Int} (h : bText l = (⟨#[]⟩ : ByteArray)) : l = [] := by
  have := congrArg (fun s : ByteArray => s.data.toList.length) h
  simp [bText, bytesOf] at this
  exact this
theorem strInts_len (s : ByteArray) : (strInts s).length = s.size := by
  simp only [strInts, List.length_map, Array.length_toList]; rfl
theorem strInts_extract (s : ByteArray) (a b : Nat) : strInts (s.extract a b) = ((strInts s).take b).drop a := by
  simp only [strInts, ByteArray.data_extract, Array.toList_extract, List.extract_eq_take_drop, List.map_drop, List.map_take, List.drop_take]
theorem str_get {s : ByteArray} {i : Nat} {d : Int} (h : (strInts s)[i]? = some d) : ∃ b : UInt8, s[i]? = some b ∧ (b.toNat : Int) = d := by
  simp only [strInts, List.getElem?_map, Option.map_eq_some_iff, Array.getElem?_toList] at h
  obtain ⟨b, h1, h2⟩ := h
  refine ⟨b, ?_, h2⟩
  obtain ⟨h3, h4⟩ := Array.getElem?_eq_some_iff.1 h1
  exact (getElem?_pos s i h3).trans (congrArg some h4)
theorem empty_str {s : ByteArray} : s = (⟨#[]⟩ : ByteArray) ↔ s.size = 0 := by
  constructor
  · intro h; subst h; rfl
  · intro h
    cases s with | mk d =>
    have : d.size = 0 := h
    rw [Array.eq_empty_of_size_eq_zero this]
theorem of_in {out : List Int} {s : ByteArray} {outt : Bool} {at_ : Int} {t30 : SL Int} (hl : t30.xs.length < 1000) : ∀ (rest : List Int) (k : Nat) (x : Int), t30.xs.drop k = rest → figs rest → 0 ≤ x → hv x rest < 1000000000 →
    ∃ z, nat_Of_l0 out s outt at_ x t30 (t30.xs.length : Int) k (nat_Of_l0_x0 out s outt at_ (hv x rest) t30 (t30.xs.length : Int) z)
  | [], k, x, hd, hf, h0, h1 => by
    have := drop_nil_le hd
    exact ⟨k, nat_Of_l0_e1 (by omega)⟩
  | d :: r, k, x, hd, hf, h0, h1 => by
    obtain ⟨k1, k2, k3⟩ := at_drop hd
    rw [figs_cons] at hf
    have hg := hv_ge hf.2 (x := x * 10 + (d - 48)) (by omega)
    rw [hv] at h1
    obtain ⟨z, g⟩ := of_in (out := out) (s := s) (outt := outt) (at_ := at_) hl r (k + 1) (x * 10 + (d - 48)) k2 hf.2 (by omega) h1
    exact ⟨z, nat_Of_l0_s0 (by omega) (by omega) k1 (inU32 (by omega) (by omega)) (inU8 (by omega) (by omega)) (inU32 (by omega) (by omega)) (inU32 (by omega) (by omega)) (in64 (by omega) (by omega)) (by exact_mod_cast g)⟩
theorem ten9 : (10 : Int) ^ 9 = 1000000000 := by decide
theorem ten_le9 {n : Nat} (h : n ≤ 9) : (10 : Int) ^ n ≤ 1000000000 := by
  have : n = 0 ∨ n = 1 ∨ n = 2 ∨ n = 3 ∨ n = 4 ∨ n = 5 ∨ n = 6 ∨ n = 7 ∨ n = 8 ∨ n = 9 := by omega
  rcases this with rfl | rfl | rfl | rfl | rfl | rfl | rfl | rfl | rfl | rfl <;> decide
/-- The last nine figures, and what is ahead of them. -/
theorem last_nine {l : List Int} (hf : figs l) (hne : l ≠ []) : (0 ≤ hv 0 (l.drop (l.length - 9)) ∧ hv 0 (l.drop (l.length - 9)) < 1000000000) ∧ hv 0 l = hv 0 (l.drop (l.length - 9)) + 1000000000 * hv 0 (l.take (l.length - 9)) := by
  have hb := hv_bound (figs_drop hf (l.length - 9))
  rw [List.length_drop] at hb
  have hle := ten_le9 (n := l.length - (l.length - 9)) (by omega)
  refine ⟨⟨hb.1, by omega⟩, ?_⟩
  have h := hv_app (l.take (l.length - 9)) (l.drop (l.length - 9))
  rw [List.take_append_drop, List.length_drop] at h
  by_cases h9 : l.length ≤ 9
  · have h0 : l.length - 9 = 0 := by omega
    have t0 : hv 0 (l.take (l.length - 9)) = 0 := by rw [h0, List.take_zero]; rfl
    rw [t0, Int.zero_mul] at h
    rw [t0]
    omega
  · have : l.length - (l.length - 9) = 9 := by omega
    rw [this, ten9] at h
    rw [h]
    omega
theorem of_out : ∀ (n : Nat) (s : ByteArray) (out : List Int) (outt : Bool), s.size ≤ n → out.length + s.size ≤ 2000000 → figs (strInts s) → limbs out →
    ∃ z0 z1 z2, nat_Of_l1 out s outt (nat_Of_l1_x0 z0 z1 z2) ∧ limbs z0 ∧ val z0 = val out + 1000000000 ^ out.length * hv 0 (strInts s) ∧ z0.length ≤ out.length + s.size := by
  intro n
  induction n with
  | zero =>
    intro s out outt hs hb hf hl
    have h0 : s = (⟨#[]⟩ : ByteArray) := empty_str.2 (by omega)
    refine ⟨out, s, outt, nat_Of_l1_e0 h0, hl, ?_, by omega⟩
    subst h0
    show val out = val out + 1000000000 ^ out.length * 0
    rw [Int.mul_zero, Int.add_zero]
  | succ n ih =>
    intro s out outt hs hb hf hl
    by_cases h0 : s = (⟨#[]⟩ : ByteArray)
    · refine ⟨out, s, outt, nat_Of_l1_e0 h0, hl, ?_, by omega⟩
      subst h0
      show val out = val out + 1000000000 ^ out.length * 0
      rw [Int.mul_zero, Int.add_zero]
    have hz : s.size ≠ 0 := fun h => h0 (empty_str.2 h)
    have hlen := strInts_len s
    have hne : strInts s ≠ [] := by
      intro h
      rw [h] at hlen
      exact hz hlen.symm
    have e1 : (max 0 ((s.size : Int) - 9)).toNat = s.size - 9 := by omega
    have e2 : strInts (s.extract (s.size - 9) s.size) = (strInts s).drop ((strInts s).length - 9) := by
      rw [strInts_extract, hlen, List.take_of_length_le (by omega)]
    have e3 : strInts (s.extract 0 (s.size - 9)) = (strInts s).take ((strInts s).length - 9) := by
      rw [strInts_extract, hlen, List.drop_zero]
    have e4 : (s.extract 0 (s.size - 9)).size = s.size - 9 := by
      rw [← strInts_len, e3, List.length_take]; omega
    obtain ⟨⟨v1, v2⟩, v3⟩ := last_nine hf hne
    obtain ⟨z, g⟩ := of_in (out := out) (s := s) (outt := outt) (at_ := max 0 ((s.size : Int) - 9)) (t30 := ⟨1, strInts (s.extract (s.size - 9) s.size), false⟩) (by
      dsimp only; rw [e2, List.length_drop]; omega) _ 0 0 rfl (by rw [List.drop_zero]; dsimp only; rw [e2]; exact figs_drop hf _) (by omega) (by rw [List.drop_zero]; dsimp only; rw [e2]; exact v2)
    rw [List.drop_zero] at g
    dsimp only at g
    obtain ⟨z0, z1, z2, k1, k2, k3, k4⟩ := ih (s.extract 0 (s.size - 9)) (out ++ [hv 0 (strInts (s.extract (s.size - 9) s.size))]) false (by omega) (by rw [List.length_append, List.length_singleton, e4]; omega) (by rw [e3]; exact figs_take hf _) (limbs_snoc hl (by rw [e2]; exact ⟨v1, v2⟩))
    refine ⟨z0, z1, z2, nat_Of_l1_s1 (z0 := hv 0 (strInts (s.extract (s.size - 9) s.size))) (z1 := z) h0 (in64 (by omega) (by omega)) (by omega) (by omega) (by rw [e1]; exact g) (by omega) (by rw [e1]; exact k1), k2, ?_, by rw [List.length_append, List.length_singleton, e4] at k4; omega⟩
    rw [k3, val_snoc, List.length_append, List.length_singleton, e2, e3, v3, Int.pow_succ, Int.mul_add, Int.mul_assoc]
    omega
theorem rof_check {s : ByteArray} (hl : s.size < 281474976710656) : ∀ (rest : List Int) (i : Nat), (strInts s).drop i = rest → (figs rest ∧ ∃ z, ref02_Of_l0 s i (ref02_Of_l0_x1 s z)) ∨ (¬ figs rest ∧ ref02_Of_l0 s i (ref02_Of_l0_x0 []))
  | [], i, hd => by
    have := drop_nil_le hd
    rw [strInts_len] at this
    exact .inl ⟨figs_nil, _, ref02_Of_l0_e3 (by omega)⟩
  | d :: r, i, hd => by
    obtain ⟨k1, k2, k3⟩ := at_drop hd
    rw [strInts_len] at k3
    rw [Int.toNat_natCast] at k1
    obtain ⟨b, b1, b2⟩ := str_get k1
    rw [figs_cons]
    by_cases c1 : d < 48
    · exact .inr ⟨fun h => by omega, ref02_Of_l0_e0 (by omega) (by omega) (by rw [Int.toNat_natCast]; exact b1) (by omega)⟩
    by_cases c2 : d > 57
    · exact .inr ⟨fun h => by omega, ref02_Of_l0_e1 (by omega) (by omega) (by rw [Int.toNat_natCast]; exact b1) (by omega) (by omega)⟩
    rcases rof_check hl r (i + 1) k2 with ⟨h1, z, h2⟩ | ⟨h1, h2⟩
    · exact .inl ⟨⟨by omega, h1⟩, z, ref02_Of_l0_s2 (by omega) (by omega) (by rw [Int.toNat_natCast]; exact b1) (by omega) (by omega) (in64 (by omega) (by omega)) (by exact_mod_cast h2)⟩
    · exact .inr ⟨fun h => h1 h.2, ref02_Of_l0_s2 (by omega) (by omega) (by rw [Int.toNat_natCast]; exact b1) (by omega) (by omega) (in64 (by omega) (by omega)) (by exact_mod_cast h2)⟩
theorem rof_in {out : List Int} {s : ByteArray} {outt : Bool} {e : Nat} (he : e ≤ s.size) (hl : s.size < 281474976710656) : ∀ (rest : List Int) (i : Nat) (x : Int), ((strInts s).take e).drop i = rest → figs rest → 0 ≤ x → hv x rest < 1000000000 →
    ∃ z, ref02_Of_l1 out s outt e x i (ref02_Of_l1_x0 out s outt e (hv x rest) z)
  | [], i, x, hd, hf, h0, h1 => by
    have := drop_nil_le hd
    rw [List.length_take, strInts_len] at this
    exact ⟨_, ref02_Of_l1_e1 (by omega)⟩
  | d :: r, i, x, hd, hf, h0, h1 => by
    obtain ⟨k1, k2, k3⟩ := at_drop hd
    rw [List.length_take, strInts_len] at k3
    rw [Int.toNat_natCast, List.getElem?_take, if_pos (by omega)] at k1
    obtain ⟨b, b1, b2⟩ := str_get k1
    rw [figs_cons] at hf
    rw [hv] at h1
    have hc : 10 * x + ((b.toNat : Int) - 48) = x * 10 + (d - 48) := by omega
    have hg := hv_ge hf.2 (x := x * 10 + (d - 48)) (by omega)
    obtain ⟨z, g⟩ := rof_in (out := out) (outt := outt) he hl r (i + 1) (x * 10 + (d - 48)) k2 hf.2 (by omega) h1
    refine ⟨z, ref02_Of_l1_s0 (b0 := b) (by omega) (inU32 (by omega) (by omega)) (by omega) (by rw [Int.toNat_natCast]; exact b1) (inU8 (by omega) (by omega)) (inU32 (by omega) (by omega)) (inU32 (by omega) (by omega)) (in64 (by omega) (by omega)) ?_⟩
    rw [hc]
    exact_mod_cast g
theorem rof_out {s : ByteArray} (hl : s.size ≤ 2000000) (hf : figs (strInts s)) : ∀ (n e : Nat) (out : List Int) (outt : Bool), e ≤ n → e ≤ s.size → out.length + e ≤ 2000000 → limbs out →
    ∃ z0 z2 z3, ref02_Of_l2 out s outt e (ref02_Of_l2_x0 z0 s z2 z3) ∧ limbs z0 ∧ val z0 = val out + 1000000000 ^ out.length * hv 0 ((strInts s).take e) ∧ z0.length ≤ out.length + e := by
  intro n
  induction n with
  | zero =>
    intro e out outt hn he hb ho
    have : e = 0 := by omega
    subst this
    refine ⟨out, outt, _, ref02_Of_l2_e1 (by omega), ho, ?_, by omega⟩
    show val out = val out + 1000000000 ^ out.length * 0
    rw [Int.mul_zero, Int.add_zero]
  | succ n ih =>
    intro e out outt hn he hb ho
    by_cases h0 : e = 0
    · subst h0
      refine ⟨out, outt, _, ref02_Of_l2_e1 (by omega), ho, ?_, by omega⟩
      show val out = val out + 1000000000 ^ out.length * 0
      rw [Int.mul_zero, Int.add_zero]
    have hlen := strInts_len s
    have hfe := figs_take hf e
    have hle : ((strInts s).take e).length = e := by rw [List.length_take]; omega
    have hne : (strInts s).take e ≠ [] := by
      intro h
      rw [h] at hle
      exact h0 hle.symm
    obtain ⟨⟨v1, v2⟩, v3⟩ := last_nine hfe hne
    rw [hle] at v1 v2 v3
    have e1 : (max 0 ((e : Int) - 9)) = ((e - 9 : Nat) : Int) := by omega
    obtain ⟨z, g⟩ := rof_in (out := out) (outt := outt) he (by omega) _ (e - 9) 0 rfl (figs_drop hfe _) (by omega) v2
    have hlo : limbs (out ++ [hv 0 (((strInts s).take e).drop (e - 9))]) := limbs_snoc ho ⟨v1, v2⟩
    by_cases h9 : e ≤ 9
    · refine ⟨_, false, _, ref02_Of_l2_s0 (z0 := hv 0 (((strInts s).take e).drop (e - 9))) (z1 := z) (by omega) (in64 (by omega) (by omega)) (by rw [e1]; exact g) (by omega) (ref02_Of_l2_e1 (by omega)), hlo, ?_, by rw [List.length_append, List.length_singleton]; omega⟩
      rw [val_snoc, v3]
      have : e - 9 = 0 := by omega
      rw [this, List.take_zero]
      show _ = val out + 1000000000 ^ out.length * (_ + 1000000000 * 0)
      rw [Int.mul_zero, Int.add_zero]
    · obtain ⟨z0, z2, z3, k1, k2, k3, k4⟩ := ih (e - 9) (out ++ [hv 0 (((strInts s).take e).drop (e - 9))]) false (by omega) (by omega) (by rw [List.length_append, List.length_singleton]; omega) hlo
      have e2 : (e : Int) - 9 = ((e - 9 : Nat) : Int) := by omega
      refine ⟨z0, z2, z3, ref02_Of_l2_s0 (z0 := hv 0 (((strInts s).take e).drop (e - 9))) (z1 := z) (by omega) (in64 (by omega) (by omega)) (by rw [e1]; exact g) (by omega) (by rw [e2]; exact k1), k2, ?_, by rw [List.length_append, List.length_singleton] at k4; omega⟩
      rw [k3, val_snoc, List.length_append, List.length_singleton, v3, Int.pow_succ, Int.mul_add, Int.mul_assoc, List.take_take, Nat.min_eq_left (by omega)]
      omega
def cut10 : List UInt8 := [48, 49, 50, 51, 52, 53, 54, 55, 56, 57]
theorem cut10_fig (b : UInt8) : cut10.contains b = true ↔ (48 ≤ (b.toNat : Int) ∧ (b.toNat : Int) ≤ 57) := by
  have h : ∀ n : Fin 256, (cut10.contains (UInt8.ofNat n.val) = true ↔ (48 ≤ ((UInt8.ofNat n.val).toNat : Int) ∧ ((UInt8.ofNat n.val).toNat : Int) ≤ 57)) := by decide +kernel
  have := h ⟨b.toNat, b.toNat_lt⟩
  simpa using this
theorem mem_dropWhile {α : Type} {p : α → Bool} {b : α} (hp : p b = false) : ∀ {l : List α}, b ∈ l → b ∈ l.dropWhile p
  | x :: r, h => by
    rw [List.dropWhile_cons]
    split
    · rename_i hx
      rcases List.mem_cons.1 h with rfl | h
      · rw [hp] at hx; cases hx
      · exact mem_dropWhile hp h
    · exact h
theorem dropWhile_none {α : Type} {p : α → Bool} : ∀ {l : List α}, (∀ b ∈ l, p b = true) → l.dropWhile p = []
  | [], _ => rfl
  | x :: r, h => by
    rw [List.dropWhile_cons, if_pos (h x (by simp))]
    exact dropWhile_none fun b hb => h b (by simp [hb])
theorem trim_figs {s : ByteArray} : Lib.trimS s.data.toList cut10 = [] ↔ figs (strInts s) := by
  constructor
  · intro h d hd
    simp only [strInts, List.mem_map] at hd
    obtain ⟨b, hb, rfl⟩ := hd
    refine (cut10_fig b).1 ?_
    by_cases hc : cut10.contains b = true
    · exact hc
    · have hc : cut10.contains b = false := by simpa using hc
      have h1 : b ∈ Lib.trimS s.data.toList cut10 := mem_dropWhile hc (List.mem_reverse.2 (mem_dropWhile hc (List.mem_reverse.2 hb)))
      rw [h] at h1
      cases h1
  · intro h
    have : s.data.toList.reverse.dropWhile (cut10.contains ·) = [] := by
      refine dropWhile_none fun b hb => ?_
      refine (cut10_fig b).2 (h _ ?_)
      exact List.mem_map.2 ⟨b, List.mem_reverse.1 hb, rfl⟩
    unfold Lib.trimS Lib.trimRightS
    rw [this]
    rfl
/-- How a text is read, by either. -/
theorem of_run (s : ByteArray) (hs : s.size ≤ 9223372036854775807) : (s.size ≤ 1048576 ∧ figs (strInts s) ∧ ∃ q q' : SL Int, nat_Of s q 0 ∧ ref02_Of s q' 0 ∧ isNum q.xs ∧ q.xs = q'.xs ∧ val q.xs = hv 0 (strInts s) ∧ q.xs.length ≤ 1048576) ∨
    ((s.size = 0 ∨ s.size > 1048576 ∨ ¬ figs (strInts s)) ∧ nat_Of s ⟨1, [], true⟩ 2 ∧ ref02_Of s ⟨1, [], true⟩ 2) := by
  by_cases h0 : s = (⟨#[]⟩ : ByteArray)
  · have := empty_str.1 h0
    exact .inr ⟨.inl this, nat_Of_r0 h0, ref02_Of_r0 (by omega)⟩
  have hz : s.size ≠ 0 := fun h => h0 (empty_str.2 h)
  by_cases h1 : (s.size : Int) > 1048576
  · exact .inr ⟨.inr (.inl (by omega)), nat_Of_r1 h0 h1, ref02_Of_r1 (by omega) h1⟩
  have hT : strings_Trim s (⟨#[48, 49, 50, 51, 52, 53, 54, 55, 56, 57]⟩ : ByteArray) ⟨(Lib.trimS s.data.toList cut10).toArray⟩ := R_trim (s := s) (c := (⟨#[48, 49, 50, 51, 52, 53, 54, 55, 56, 57]⟩ : ByteArray)) (by decide) hs
  rcases rof_check (s := s) (by omega) (strInts s) 0 rfl with ⟨hf, z, c1⟩ | ⟨hf, c1⟩
  · obtain ⟨z0, z1, z2, g1, g2, g3, g4⟩ := of_out s.size s [] true (Nat.le_refl _) (by simp; omega) hf limbs_nil
    obtain ⟨w0, w2, w3, k1, k2, k3, k4⟩ := rof_out (s := s) (by omega) hf s.size s.size [] true (Nat.le_refl _) (Nat.le_refl _) (by simp; omega) limbs_nil
    simp only [List.length_nil, Nat.zero_add] at g4 k4
    obtain ⟨q, q1, q2, q3, q4⟩ := trim_limbs (l := z0) (by unfold wide; omega) g2 z2
    obtain ⟨r, r1, r2, r3, r4⟩ := rtrim_limbs (l := w0) (by unfold wide; omega) k2 w2
    rw [List.take_of_length_le (by rw [strInts_len]; omega)] at k3
    simp only [List.length_nil, Int.pow_zero, Int.one_mul, val, Int.zero_add] at g3 k3
    refine .inl ⟨by omega, hf, q, r, ?_, ref02_Of_r3 (by omega) h1 c1 k1 r1, q2, val_inj q2 r2 (by rw [q3, r3, g3, k3]), by rw [q3, g3], by omega⟩
    exact nat_Of_r2 h0 h1 hT (by rw [trim_figs.2 hf]) g1 q1
  · refine .inr ⟨.inr (.inr hf), nat_Of_r3 h0 h1 hT (fun h => hf (trim_figs.1 ?_)), ref02_Of_r2 (by omega) h1 c1⟩
    have := congrArg (fun s : ByteArray => s.data.toList) h
    simpa using this
theorem strInts_text : ∀ {t : List Int}, figs t → strInts (bText t) = t
  | [], _ => rfl
  | d :: r, h => by
    rw [figs_cons] at h
    have ih := strInts_text h.2
    simp only [strInts, bText, bytesOf, List.map_cons] at ih ⊢
    rw [ih]
    congr 1
    rw [UInt8.toNat_ofNat']
    omega
theorem strInts_app (a b : ByteArray) : strInts (a ++ b) = strInts a ++ strInts b := by
  simp only [strInts, ByteArray.data_append, Array.toList_append, List.map_append]
open Go.ChangeShapes Go.WideShapes Go.Deep
theorem bulk_pos {H : Type} (d : DataW H) : 1 ≤ Rows.uptoBulk d := by
  cases d with
  | lit l => cases l <;> simp [Rows.uptoBulk]
  | _ => simp [Rows.uptoBulk]
theorem bulk_len {H : Type} : ∀ l : List (DataW H), l.length ≤ Rows.uptoBulkAll l
  | [] => by simp [Rows.uptoBulkAll]
  | d :: r => by
    have h1 := bulk_pos d
    have h2 := bulk_len r
    simp only [Rows.uptoBulkAll, List.length_cons]
    omega
theorem bulk_first {H : Type} {d : DataW H} {n : Nat} (h : Rows.uptoBulkAll [d] ≤ n) : Rows.uptoBulk d ≤ n := by
  simp only [Rows.uptoBulkAll] at h
  omega
theorem bulk_second {H : Type} {c d : DataW H} {n : Nat} (h : Rows.uptoBulkAll [c, d] ≤ n) : Rows.uptoBulk d ≤ n := by
  simp only [Rows.uptoBulkAll] at h
  omega
theorem slice_bulk {H : Type} {enc : TypeId × Value → H} {P : Program} {w : World} {spare : Nat → Bool} {F : Nat → Prop} {α : Type} {es : Nat} {e0 : α → D} {s : SL α} {v : Value} {t e : TypeId} {d : DataW H} {p : List MemPlace}
    (hd : DRel w F (slD es e0 s) v) (h : DataW.Trod enc P w 0 spare true t v d p) (ht : P.underlying t = some (.slice e)) : s.xs.length ≤ Rows.uptoBulk d := by
  have hv : ∃ a c, v = .slice a s.xs.length c := by
    have hl := len_dl e0 s.xs
    generalize hx : slD es e0 s = x at hd
    cases hd with
    | sl es' xs t' a cap b off cell hlc ht' ha hF hes hc h1 hr =>
      unfold slD at hx
      injection hx with h1 h2 h3
      subst h2
      exact ⟨a, cap, by rw [hl]⟩
    | _ => unfold slD at hx; cases hx
  obtain ⟨a, c, rfl⟩ := hv
  obtain ⟨m, hm⟩ := h
  rcases open_slice ht hm with ⟨h1, h2⟩ | ⟨a', len, cap, m', n', D', Pl, h1, _, _, _, _, h2, _⟩
  · have : (Value.slice a s.xs.length c) = .slice none 0 0 := by
      have := congrArg List.head? h1
      simpa [Value.cells] using this
    injection this with _ h3 _
    omega
  · have : (Value.slice a s.xs.length c) = .slice (some a') len cap := by
      have := congrArg List.head? h1
      simpa [Value.cells] using this
    injection this with _ h3 _
    have h4 : d = (.slice ((List.range len).map D') ((List.range (m' - len)).map fun j => D' (len + j))) := congrArg Prod.fst h2
    rw [h4]
    simp only [Rows.uptoBulk]
    have := bulk_len ((List.range len).map D')
    rw [List.length_map, List.length_range] at this
    omega
end
end Go.Proofs.YtkkekfehjbbhoaaGreatDoor.V

/- Contracts: merging, turning round, what is in ranges; the laws RxSets and RxIn. -/
import Derived.Test.YtpghocjfmddpkaaN2
namespace Go.Proofs.Ytpghocjfmddpkaa.V
open Go
set_option linter.unusedVariables false
set_option linter.unusedSimpArgs false
set_option linter.unusedSectionVars false
theorem heads_ok : law_heads true := R_heads
theorem clip_filter (r : Range) (rest : List Range) : clipped (r :: rest) = (if (clip r).From ≤ (clip r).To then [clip r] else []) ++ clipped rest := by
  unfold clipped
  rw [List.map_cons, List.filter_cons]
  by_cases h : (clip r).From ≤ (clip r).To
  · rw [if_pos (by simpa using h), if_pos h]; rfl
  · rw [if_neg (by simpa using h), if_neg h]; rfl
theorem clipped_length (l : List Range) : (clipped l).length ≤ l.length := by
  unfold clipped
  have := List.length_filter_le (fun r : Range => decide (r.From ≤ r.To)) (l.map clip)
  simpa using this
theorem rx_merge_l0 {l : SL Range} (hs : small (l.xs.length + 1)) : ∀ (rest : List Range) (k : Nat) (all : List Range) (t : Bool), l.xs.drop k = rest → all.length ≤ k → ∃ t' z, rx_Merge_l0 all t l (l.xs.length : Int) k (rx_Merge_l0_x0 (all ++ clipped rest) t' l (l.xs.length : Int) z)
  | [], k, all, t, hd, hk => ⟨t, k, by rw [show all ++ clipped [] = all by simp [clipped]]; exact rx_Merge_l0_e2 (by have := drop_nil_le hd; omega)⟩
  | r :: rest, k, all, t, hd, hk => by
    obtain ⟨h1, h2, h3⟩ := at_drop hd
    have hsm := small_lt hs
    have w3 : w64 ((k : Int) + 1) := w64k (by omega)
    have lk : (k : Int) < (l.xs.length : Int) := by omega
    rw [clip_filter]
    by_cases c : (clip r).From ≤ (clip r).To
    · rw [if_pos c, ← List.append_assoc]
      obtain ⟨t', z, h⟩ := rx_merge_l0 hs rest (k + 1) (all ++ [clip r]) false h2 (by simp only [List.length_append, List.length_singleton]; omega)
      exact ⟨t', z, rx_Merge_l0_s0 lk (by omega) h1 c (by unfold small at hs; omega) w3 h⟩
    · rw [if_neg c, List.nil_append]
      obtain ⟨t', z, h⟩ := rx_merge_l0 hs rest (k + 1) all t h2 (by omega)
      exact ⟨t', z, rx_Merge_l0_s1 lk (by omega) h1 c w3 h⟩
theorem rx_merge_l1 {t36 : List Range} {t : Bool} (hs : small (t36.length + 1)) (ho : ∀ r ∈ t36, okR r) : ∀ (rest : List Range) (k : Nat) (out : List Range) (outt : Bool), t36.drop k = rest → (∀ r ∈ out, okR r) → out.length ≤ k → ∃ z4 z6, rx_Merge_l1 out t36 outt out.length t t36.length (t36.length : Int) k (rx_Merge_l1_x0 (rest.foldl stepS out) t36 z4 (rest.foldl stepS out).length t t36.length (t36.length : Int) z6)
  | [], k, out, outt, hd, hout, hk => ⟨outt, k, rx_Merge_l1_e3 (by have := drop_nil_le hd; omega)⟩
  | r :: rest, k, out, outt, hd, hout, hk => by
    obtain ⟨h1, h2, h3⟩ := at_drop hd
    have hr : okR r := ho r (List.mem_of_mem_drop (by rw [hd]; exact List.mem_cons_self ..))
    have hsm := small_lt hs
    have w3 : w64 ((k : Int) + 1) := w64k (by omega)
    have lk : (k : Int) < (t36.length : Int) := by omega
    rw [List.foldl_cons]
    cases hl : out.getLast? with
    | none =>
      have e0 : out = [] := by simpa using hl
      have e : stepS out r = out ++ [r] := by unfold stepS; rw [hl]
      obtain ⟨z4, z6, h⟩ := rx_merge_l1 hs ho rest (k + 1) (stepS out r) false h2 (by rw [e, e0]; simpa using hr) (by rw [e, e0]; simp)
      rw [e] at h ⊢
      refine ⟨z4, z6, rx_Merge_l1_s2 lk (by omega) h1 (by omega) (by rw [e0]; simp) (by unfold small at hs; omega) (Nat.le_refl _) w3 ?_⟩
      rw [List.take_length]
      exact h
    | some a =>
      have hne : out ≠ [] := by intro e; rw [e] at hl; simp at hl
      have hpos : 0 < out.length := List.length_pos_iff.2 hne
      have ha : okR a := hout a (List.mem_of_getLast? hl)
      have hget : out[((out.length : Int) - 1).toNat]? = some a := by
        rw [show ((out.length : Int) - 1).toNat = out.length - 1 by omega, ← List.getLast?_eq_getElem?]
        exact hl
      have w1 : w64 ((out.length : Int) - 1) := in64 (by omega) (by omega)
      have w2 : w64 (a.To + 1) := in64 (by unfold okR at ha; omega) (by unfold okR top at ha; omega)
      by_cases c : r.From ≤ a.To + 1
      · have e : stepS out r = out.dropLast ++ [⟨a.From, max a.To r.To⟩] := by unfold stepS; rw [hl]; dsimp only; rw [if_pos c]
        have e2 : out.set ((out.length : Int) - 1).toNat (Range.mk a.From (max a.To r.To)) = stepS out r := by
          rw [e, show ((out.length : Int) - 1).toNat = out.length - 1 by omega]
          have h9 : out = out.dropLast ++ [a] := by
            have e9 := List.dropLast_concat_getLast hne
            rw [List.getLast?_eq_some_getLast hne] at hl
            rw [Option.some.inj hl] at e9
            exact e9.symm
          conv => lhs; rw [h9]
          have hdl : out.dropLast.length = out.length - 1 := by simp
          rw [List.set_append_right _ _ (by rw [← h9, hdl]; omega)]
          rw [← h9, hdl]
          simp
        have elen : (stepS out r).length = out.length := by rw [← e2]; simp
        obtain ⟨z4, z6, h⟩ := rx_merge_l1 hs ho rest (k + 1) (stepS out r) outt h2 (by
          rw [e]
          intro s hs'
          rcases List.mem_append.1 hs' with h | h
          · exact hout s ((List.dropLast_sublist out).subset h)
          · simp at h; subst h; unfold okR at ha hr ⊢; dsimp only; omega) (by omega)
        rw [elen] at h
        refine ⟨z4, z6, rx_Merge_l1_s0 lk (by omega) h1 (by omega) (by omega) w1 (by omega) hget (by omega) w2 c w3 ?_⟩
        rw [e2]
        exact h
      · have e : stepS out r = out ++ [r] := by unfold stepS; rw [hl]; dsimp only; rw [if_neg c]
        obtain ⟨z4, z6, h⟩ := rx_merge_l1 hs ho rest (k + 1) (stepS out r) false h2 (by
          rw [e]
          intro s hs'
          rcases List.mem_append.1 hs' with h | h
          · exact hout s h
          · simp at h; subst h; exact hr) (by rw [e]; simp; omega)
        rw [e] at h ⊢
        refine ⟨z4, z6, rx_Merge_l1_s1 lk (by omega) h1 (by omega) (by omega) w1 (by omega) hget (by omega) w2 c (by unfold small at hs; omega) (Nat.le_refl _) w3 ?_⟩
        rw [List.take_length]
        exact h
theorem xsOf_dl (l : List Range) : xsOf cells_R l = (dl e_Range l).map .d := rfl
theorem sort_none_t : callF tab XX 12 16 [.row 0 2 0 0 true, .d (.func (.func 17) [] [])] [.row 2 [] false] = some (.ret (.tup []), [.row 2 [] false]) := by kernel_rfl
theorem sort_none_f : callF tab XX 12 16 [.row 0 2 0 0 false, .d (.func (.func 17) [] [])] [.row 2 [] false] = some (.ret (.tup []), [.row 2 [] false]) := by kernel_rfl
theorem cmpR_le {a b : Range} (h : 0 ≤ cmpR b a) : a.From ≤ b.From := by
  unfold cmpR cmpI at h
  split at h
  · omega
  · omega
theorem sort_run {l : List Range} (t : Bool) (h : l.length < 4611686018427387904) : ∃ s, sl_SortFunc_Range l t l.length s ∧ s.Perm l ∧ s.Pairwise (fun a b => a.From ≤ b.From) := by
  cases l with
  | nil =>
    refine ⟨[], ?_, .nil, .nil⟩
    cases t with
    | true => exact lim_of sort_none_t
    | false => exact lim_of sort_none_f
  | cons x r =>
    obtain ⟨h1, h2, h3⟩ := sortT_spec cmpR swo_R (x :: r)
    refine ⟨sortT cmpR (x :: r), R_sort (by simp) h, h1, ?_⟩
    rw [List.pairwise_iff_getElem]
    intro i j hi hj hij
    have := h3 i j _ _ hij (List.getElem?_eq_getElem hi) (List.getElem?_eq_getElem hj)
    exact cmpR_le this
theorem mergeR_length (l : List Range) : (mergeR l).length ≤ l.length := by
  have := foldM_length l []
  simpa [mergeR] using this
theorem rx_merge {l : SL Range} (hs : small (l.xs.length + 1)) : ∃ t, rx_Merge l (mergeR l.xs) (mergeR l.xs).length t := by
  obtain ⟨t', z, h0⟩ := rx_merge_l0 hs l.xs 0 [] true (by simp) (by simp)
  rw [List.nil_append] at h0
  have hcl := clipped_length l.xs
  have hsm := small_lt hs
  obtain ⟨s, h1, h2, h3⟩ := sort_run (l := clipped l.xs) t' (by omega)
  have hsl : s.length = (clipped l.xs).length := h2.length_eq
  obtain ⟨z4, z6, h4⟩ := rx_merge_l1 (t36 := s) (t := t') (by unfold small at hs ⊢; omega) (fun r hr => clipped_ok l.xs r (h2.mem_iff.1 hr)) s 0 [] true (by simp) (by simp) (by simp)
  rw [sorted_merge h2 h3] at h4
  rw [hsl] at h4
  exact ⟨z4, rx_Merge_r0 h0 h1 h4⟩
/-! ### Turning round -/
def holes : Int → List Range → List Range
  | _, [] => []
  | f, r :: l => (if r.From > f then [⟨f, r.From - 1⟩] else []) ++ holes (r.To + 1) l
def endOf : Int → List Range → Int
  | f, [] => f
  | _, r :: l => endOf (r.To + 1) l
theorem holes_append : ∀ (f : Int) (a b : List Range), holes f (a ++ b) = holes f a ++ holes (endOf f a) b
  | f, [], b => by simp [holes, endOf]
  | f, r :: a, b => by simp only [List.cons_append, holes, endOf, holes_append (r.To + 1) a b, List.append_assoc]
theorem holes_length : ∀ (f : Int) (a : List Range), (holes f a).length ≤ a.length
  | f, [] => by simp [holes]
  | f, r :: a => by
    have := holes_length (r.To + 1) a
    simp only [holes, List.length_append, List.length_cons]
    split <;> simp <;> omega
def lastR : Range := ⟨1114112, 1114112⟩
def turnR (l : List Range) : List Range := holes 0 (mergeR l ++ [lastR])
theorem holes_spec : ∀ (m : List Range) (f : Int), Canon m → 0 ≤ f → (∀ r ∈ m, f ≤ r.From) →
    Canon (holes f (m ++ [lastR])) ∧ (∀ p, In p (holes f (m ++ [lastR])) ↔ (f ≤ p ∧ p ≤ top) ∧ ¬ In p m) ∧ ∀ r ∈ holes f (m ++ [lastR]), f ≤ r.From
  | [], f, _, h0, _ => by
    simp only [List.nil_append, holes, lastR, List.append_nil]
    split
    · rename_i c
      refine ⟨.one ⟨h0, by dsimp only; omega, by unfold top; dsimp only; omega⟩, fun p => ?_, fun r hr => by simp at hr; subst hr; exact Int.le_refl _⟩
      rw [In_cons]
      have := In_nil p
      unfold inR top
      dsimp only
      constructor
      · rintro (h | h)
        · exact ⟨by omega, this⟩
        · exact absurd h this
      · rintro ⟨h, _⟩; exact .inl (by omega)
    · rename_i c
      refine ⟨.nil, fun p => ?_, fun r hr => by simp at hr⟩
      have := In_nil p
      unfold top
      constructor
      · intro h; exact absurd h this
      · rintro ⟨h, _⟩; omega
  | r :: m, f, hc, h0, hf => by
    have hr := hc.head
    have hr' := hr
    unfold okR at hr'
    have hb := hc.beyond
    have hfr := hf r (List.mem_cons_self ..)
    obtain ⟨i1, i2, i3⟩ := holes_spec m (r.To + 1) hc.tail (by omega) (fun s hs => by have := hb s hs; omega)
    have hin : ∀ p, In p m → r.To + 1 < p := by
      rintro p ⟨s, hs, h1, h2⟩
      have := hb s hs
      omega
    rw [List.cons_append]
    simp only [holes]
    by_cases c : r.From > f
    · rw [if_pos c]
      refine ⟨Canon.cons' ⟨h0, by dsimp only; omega, by dsimp only; omega⟩ i1 (fun s hs => by have := i3 s hs; dsimp only; omega), fun p => ?_, fun s hs => ?_⟩
      · rw [List.singleton_append, In_cons, In_cons, i2]
        unfold inR
        dsimp only
        have := hin p
        constructor
        · rintro (h | ⟨h1, h2⟩)
          · refine ⟨by omega, ?_⟩
            rintro (h' | h')
            · omega
            · have := hin p h'; omega
          · refine ⟨by omega, ?_⟩
            rintro (h' | h')
            · omega
            · exact h2 h'
        · rintro ⟨h1, h2⟩
          by_cases c2 : p < r.From
          · exact .inl (by omega)
          · by_cases c3 : p ≤ r.To
            · exact absurd (.inl ⟨by omega, c3⟩) h2
            · exact .inr ⟨by omega, fun h => h2 (.inr h)⟩
      · rw [List.singleton_append] at hs
        rcases List.mem_cons.1 hs with rfl | hs
        · exact Int.le_refl _
        · have := i3 s hs; omega
    · rw [if_neg c, List.nil_append]
      refine ⟨i1, fun p => ?_, fun s hs => by have := i3 s hs; omega⟩
      rw [In_cons, i2]
      unfold inR
      constructor
      · rintro ⟨h1, h2⟩
        refine ⟨by omega, ?_⟩
        rintro (h' | h')
        · omega
        · exact h2 h'
      · rintro ⟨h1, h2⟩
        refine ⟨?_, fun h => h2 (.inr h)⟩
        by_cases c3 : p ≤ r.To
        · exact absurd (.inl ⟨by omega, c3⟩) h2
        · omega
theorem turnR_spec (l : List Range) : Canon (turnR l) ∧ ∀ p, In p (turnR l) ↔ (0 ≤ p ∧ p ≤ top) ∧ ¬ In p l := by
  have hc := mergeR_canon l
  obtain ⟨h1, h2, _⟩ := holes_spec (mergeR l) 0 hc (by omega) (fun r hr => (hc.all r hr).1)
  refine ⟨h1, fun p => ?_⟩
  unfold turnR
  rw [h2, mergeR_in]
  constructor
  · rintro ⟨a, b⟩; exact ⟨a, fun h => b ⟨a, h⟩⟩
  · rintro ⟨a, b⟩; exact ⟨a, fun h => b h.2⟩
theorem turn_turn (l : List Range) : turnR (turnR l) = mergeR l := by
  refine Canon.ext (turnR_spec _).1 (mergeR_canon l) fun p => ?_
  rw [(turnR_spec _).2, (turnR_spec l).2, mergeR_in]
  constructor
  · rintro ⟨a, b⟩
    refine ⟨a, Classical.byContradiction fun h => b ⟨a, h⟩⟩
  · rintro ⟨a, b⟩; exact ⟨a, fun h => h.2 b⟩
theorem rx_turn_loop {t11 : List Range} {tt : Bool} (hs : small (t11.length + 1)) (ho : ∀ r ∈ t11, 0 ≤ r.From ∧ r.From ≤ 1114112 ∧ 0 ≤ r.To ∧ r.To ≤ 1114112) : ∀ (rest : List Range) (k : Nat) (out : List Range) (outt : Bool) (f : Int), t11.drop k = rest → out.length ≤ k →
    ∃ z1 z2 z3, rx_Turn_l0 out t11 outt f tt (t11.length : Int) k (rx_Turn_l0_x0 (out ++ holes f rest) t11 z1 z2 tt (t11.length : Int) z3)
  | [], k, out, outt, f, hd, hk => ⟨outt, f, k, by simp only [holes, List.append_nil]; exact rx_Turn_l0_e2 (by have := drop_nil_le hd; omega)⟩
  | r :: rest, k, out, outt, f, hd, hk => by
    obtain ⟨h1, h2, h3⟩ := at_drop hd
    have hr := ho r (List.mem_of_mem_drop (i := k) (by rw [hd]; exact List.mem_cons_self ..))
    have hsm := small_lt hs
    have w3 : w64 ((k : Int) + 1) := w64k (by omega)
    have w1 : w64 (r.From - 1) := in64 (by omega) (by omega)
    have w2 : w64 (r.To + 1) := in64 (by omega) (by omega)
    simp only [holes]
    by_cases c : r.From > f
    · rw [if_pos c, ← List.append_assoc]
      obtain ⟨z1, z2, z3, h⟩ := rx_turn_loop hs ho rest (k + 1) (out ++ [⟨f, r.From - 1⟩]) false (r.To + 1) h2 (by simp; omega)
      exact ⟨z1, z2, z3, rx_Turn_l0_s0 (by omega) (by omega) h1 c w1 (by unfold small at hs; omega) w2 w3 h⟩
    · rw [if_neg c, List.nil_append]
      obtain ⟨z1, z2, z3, h⟩ := rx_turn_loop hs ho rest (k + 1) out outt (r.To + 1) h2 (by omega)
      exact ⟨z1, z2, z3, rx_Turn_l0_s1 (by omega) (by omega) h1 c w2 w3 h⟩
theorem rx_turn {l : SL Range} (hs : small (l.xs.length + 3)) : ∃ t, rx_Turn l ⟨2, turnR l.xs, t⟩ := by
  obtain ⟨t, h⟩ := rx_merge (l := l) (by unfold small at hs ⊢; omega)
  have hl := mergeR_length l.xs
  have ho : ∀ r ∈ mergeR l.xs ++ [lastR], 0 ≤ r.From ∧ r.From ≤ 1114112 ∧ 0 ≤ r.To ∧ r.To ≤ 1114112 := by
    intro r hr
    rcases List.mem_append.1 hr with h | h
    · have := (mergeR_canon l.xs).all r h
      unfold okR top at this
      omega
    · rw [List.mem_singleton] at h
      rw [h]
      exact ⟨by decide, by decide, by decide, by decide⟩
  have hs' : small ((mergeR l.xs ++ [lastR]).length + 1) := by
    rw [List.length_append, List.length_singleton]
    have key : ∀ n m : Nat, small (n + 3) → m ≤ n → small (m + 1 + 1) := by intro n m; unfold small; omega
    exact key _ _ hs hl
  obtain ⟨z1, z2, z3, h3⟩ := rx_turn_loop (t11 := mergeR l.xs ++ [lastR]) (tt := false) hs' ho (mergeR l.xs ++ [lastR]) 0 [] true 0 List.drop_zero (Nat.le_refl _)
  rw [List.nil_append] at h3
  have key2 : ∀ n m : Nat, small (n + 3) → m ≤ n → (m + 1) * 16 ≤ 140737488355328 := by intro n m; unfold small; omega
  refine ⟨z1, rx_Turn_r0 (z2 := z2) (z3 := z3) h (key2 _ _ hs hl) (Nat.le_refl _) ?_⟩
  rw [List.take_length]
  exact h3
theorem ref_turn_loop {m : SL Range} (hs : small (m.xs.length + 1)) (ho : ∀ r ∈ m.xs, okR r) : ∀ (rest : List Range) (k : Nat) (out : List Range) (outt : Bool) (f : Int), m.xs.drop k = rest → out.length ≤ k →
    ∃ z1 z3, ref09_Turn_l0 out outt m f k (ref09_Turn_l0_x0 (out ++ holes f rest) z1 m (endOf f rest) z3)
  | [], k, out, outt, f, hd, hk => ⟨outt, k, by simp only [holes, endOf, List.append_nil]; exact ref09_Turn_l0_e2 (by have := drop_nil_le hd; omega)⟩
  | r :: rest, k, out, outt, f, hd, hk => by
    obtain ⟨h1, h2, h3⟩ := at_drop hd
    have hr := ho r (List.mem_of_mem_drop (i := k) (by rw [hd]; exact List.mem_cons_self ..))
    unfold okR top at hr
    have hsm := small_lt hs
    have w3 : w64 ((k : Int) + 1) := w64k (by omega)
    have w1 : w64 (r.From - 1) := in64 (by omega) (by omega)
    have w2 : w64 (r.To + 1) := in64 (by omega) (by omega)
    simp only [holes, endOf]
    by_cases c : r.From > f
    · rw [if_pos c, ← List.append_assoc]
      obtain ⟨z1, z3, h⟩ := ref_turn_loop hs ho rest (k + 1) (out ++ [⟨f, r.From - 1⟩]) false (r.To + 1) h2 (by simp; omega)
      exact ⟨z1, z3, ref09_Turn_l0_s0 (by omega) (by omega) h1 c w1 (by unfold small at hs; omega) w2 w3 h⟩
    · rw [if_neg c, List.nil_append]
      obtain ⟨z1, z3, h⟩ := ref_turn_loop hs ho rest (k + 1) out outt (r.To + 1) h2 (by omega)
      exact ⟨z1, z3, ref09_Turn_l0_s1 (by omega) (by omega) h1 c w2 w3 h⟩
theorem ref_turn {l : SL Range} (hs : small (l.xs.length + 3)) : ∃ t, ref09_Turn l ⟨2, turnR l.xs, t⟩ := by
  obtain ⟨t, h⟩ := ref_merge (l := l) (by unfold small at hs ⊢; omega)
  have hl := mergeR_length l.xs
  obtain ⟨z1, z3, h3⟩ := ref_turn_loop (m := ⟨2, mergeR l.xs, t⟩) (by unfold small at hs ⊢; dsimp only; omega) (mergeR_canon l.xs).all _ 0 [] true 0 (List.drop_zero ..) (by simp)
  rw [List.nil_append] at h3
  have hh := holes_length 0 (mergeR l.xs)
  have e : turnR l.xs = holes 0 (mergeR l.xs) ++ (if endOf 0 (mergeR l.xs) ≤ 1114111 then [⟨endOf 0 (mergeR l.xs), 1114111⟩] else []) := by
    unfold turnR
    rw [holes_append]
    congr 1
    show (if lastR.From > endOf 0 (mergeR l.xs) then [(⟨endOf 0 (mergeR l.xs), lastR.From - 1⟩ : Range)] else []) ++ [] = _
    rw [List.append_nil]
    by_cases c : endOf 0 (mergeR l.xs) ≤ 1114111
    · rw [if_pos c, if_pos (show lastR.From > _ by unfold lastR; dsimp only; omega)]; rfl
    · rw [if_neg c, if_neg (show ¬ lastR.From > _ by unfold lastR; dsimp only; omega)]
  rw [e]
  by_cases c : endOf 0 (mergeR l.xs) ≤ 1114111
  · rw [if_pos c]
    exact ⟨false, ref09_Turn_r0 h h3 c (by unfold small at hs; omega)⟩
  · rw [if_neg c, List.append_nil]
    exact ⟨z1, ref09_Turn_r1 h h3 c⟩
theorem in_loop {p : Int} {l : SL Range} (hs : small l.xs.length) : ∀ (rest : List Range) (k : Nat), l.xs.drop k = rest → (In p rest ∧ law_in_l0 p l k law_in_l0_x0) ∨ (¬ In p rest ∧ ∃ z, law_in_l0 p l k (law_in_l0_x1 p l z))
  | [], k, hd => .inr ⟨In_nil p, k, law_in_l0_e3 (by have := drop_nil_le hd; omega)⟩
  | r :: rest, k, hd => by
    obtain ⟨h1, h2, h3⟩ := at_drop hd
    have hsm := small_lt hs
    have w3 : w64 ((k : Int) + 1) := w64k (by omega)
    rw [In_cons]
    unfold inR
    by_cases c1 : p ≥ r.From
    · by_cases c2 : p ≤ r.To
      · exact .inl ⟨.inl ⟨c1, c2⟩, law_in_l0_e0 (by omega) (by omega) h1 c1 c2⟩
      · rcases in_loop hs rest (k + 1) h2 with ⟨a, h⟩ | ⟨a, z, h⟩
        · exact .inl ⟨.inr a, law_in_l0_s1 (by omega) (by omega) h1 c1 c2 w3 h⟩
        · exact .inr ⟨by rintro (h | h); omega; exact a h, z, law_in_l0_s1 (by omega) (by omega) h1 c1 c2 w3 h⟩
    · rcases in_loop hs rest (k + 1) h2 with ⟨a, h⟩ | ⟨a, z, h⟩
      · exact .inl ⟨.inr a, law_in_l0_s2 (by omega) (by omega) h1 c1 w3 h⟩
      · exact .inr ⟨by rintro (h | h); omega; exact a h, z, law_in_l0_s2 (by omega) (by omega) h1 c1 w3 h⟩
theorem in_run {p : Int} {l : SL Range} (hs : small l.xs.length) : (In p l.xs ∧ law_in p l true) ∨ (¬ In p l.xs ∧ law_in p l false) := by
  rcases in_loop hs l.xs 0 (List.drop_zero ..) with ⟨a, h⟩ | ⟨a, z, h⟩
  · exact .inl ⟨a, law_in_r0 h⟩
  · exact .inr ⟨a, law_in_r1 h⟩
theorem ranges_same {a b : SL Range} (hs : small a.xs.length) (h : a.xs = b.xs) : ref09_Ranges a b true := by
  have := ref_ranges (a := a) (b := b) hs
  rwa [decide_eq_true h] at this
theorem sets_run {l : SL Range} (hs : small (l.xs.length + 3)) : law_RxSets l true := by
  have hl := mergeR_length l.xs
  obtain ⟨t1, h1⟩ := rx_merge (l := l) (by unfold small at hs ⊢; omega)
  obtain ⟨t2, h2⟩ := ref_merge (l := l) (by unfold small at hs ⊢; omega)
  obtain ⟨t3, h3⟩ := rx_turn hs
  obtain ⟨t4, h4⟩ := ref_turn hs
  have ht : (turnR l.xs).length ≤ l.xs.length + 1 := by
    have := holes_length 0 (mergeR l.xs ++ [lastR])
    rw [List.length_append, List.length_singleton] at this
    unfold turnR; omega
  exact law_RxSets_r0 h1 h2 (Nat.le_refl _) (ranges_same (by simp only [List.take_length]; unfold small at hs ⊢; omega) (by simp only [List.take_length])) h3 h4 (ranges_same (by unfold small at hs ⊢; dsimp only; omega) rfl) heads_ok
theorem rxin_run {l : SL Range} {p : Int} (hs : small (l.xs.length + 6)) : law_RxIn l p true := by
  have hl := mergeR_length l.xs
  have ht : (turnR l.xs).length ≤ l.xs.length + 1 := by
    have := holes_length 0 (mergeR l.xs ++ [lastR])
    rw [List.length_append, List.length_singleton] at this
    unfold turnR; omega
  obtain ⟨t1, h1⟩ := rx_merge (l := l) (by unfold small at hs ⊢; omega)
  obtain ⟨t3, h3⟩ := rx_turn (l := l) (by unfold small at hs ⊢; omega)
  obtain ⟨t4, h4⟩ := rx_turn (l := ⟨2, turnR l.xs, t3⟩) (by unfold small at hs ⊢; dsimp only; omega)
  obtain ⟨t5, h5⟩ := rx_merge (l := ⟨2, (mergeR l.xs).take (mergeR l.xs).length, t1⟩) (by simp only [List.take_length]; unfold small at hs ⊢; omega)
  have e5 : mergeR ((mergeR l.xs).take (mergeR l.xs).length) = mergeR l.xs := by rw [List.take_length]; exact mergeR_self (mergeR_canon _)
  dsimp only at h5
  rw [e5] at h5
  have g1 : ref09_Ranges ⟨2, turnR (turnR l.xs), t4⟩ ⟨2, (mergeR l.xs).take (mergeR l.xs).length, t1⟩ true := ranges_same (by rw [turn_turn]; unfold small at hs ⊢; dsimp only; omega) (by simp only [List.take_length]; exact turn_turn _)
  have g2 : ref09_Ranges ⟨2, (mergeR l.xs).take (mergeR l.xs).length, t5⟩ ⟨2, (mergeR l.xs).take (mergeR l.xs).length, t1⟩ true := ranges_same (by simp only [List.take_length]; unfold small at hs ⊢; omega) rfl
  have im := in_run (p := p) (l := ⟨2, (mergeR l.xs).take (mergeR l.xs).length, t1⟩) (by simp only [List.take_length]; unfold small at hs ⊢; omega)
  have il := in_run (p := p) (l := l) (by unfold small at hs ⊢; omega)
  have it := in_run (p := p) (l := ⟨2, turnR l.xs, t3⟩) (by unfold small at hs ⊢; dsimp only; omega)
  simp only [List.take_length] at im
  have s1 := mergeR_in l.xs p
  have s2 := (turnR_spec l.xs).2 p
  dsimp only at it
  unfold top at s1 s2
  by_cases c1 : p ≥ 0
  · by_cases c2 : p ≤ 1114111
    · rcases il with ⟨a, i1⟩ | ⟨a, i1⟩
      · have m1 : In p (mergeR l.xs) := s1.2 ⟨⟨c1, c2⟩, a⟩
        have m2 : ¬ In p (turnR l.xs) := fun h => (s2.1 h).2 a
        rcases im with ⟨b, i2⟩ | ⟨b, i2⟩
        · rcases it with ⟨d, i3⟩ | ⟨d, i3⟩
          · exact absurd d m2
          · exact law_RxIn_r1 h1 h3 c1 c2 (Nat.le_refl _) (by simpa only [List.take_length] using i2) i1 i3 h4 g1 h5 (Nat.le_refl _) g2 heads_ok
        · exact absurd m1 b
      · have m1 : ¬ In p (mergeR l.xs) := fun h => a (s1.1 h).2
        have m2 : In p (turnR l.xs) := s2.2 ⟨⟨c1, c2⟩, a⟩
        rcases im with ⟨b, i2⟩ | ⟨b, i2⟩
        · exact absurd b m1
        · rcases it with ⟨d, i3⟩ | ⟨d, i3⟩
          · exact law_RxIn_r2 h1 h3 c1 c2 (Nat.le_refl _) (by simpa only [List.take_length] using i2) i1 i3 h4 g1 h5 (Nat.le_refl _) g2 heads_ok
          · exact absurd m2 d
    · have m1 : ¬ In p (mergeR l.xs) := fun h => by have := (s1.1 h).1; omega
      have m2 : ¬ In p (turnR l.xs) := fun h => by have := (s2.1 h).1; omega
      rcases im with ⟨b, i2⟩ | ⟨b, i2⟩
      · exact absurd b m1
      · rcases it with ⟨d, i3⟩ | ⟨d, i3⟩
        · exact absurd d m2
        · exact law_RxIn_r4 h1 h3 c1 c2 (Nat.le_refl _) (by simpa only [List.take_length] using i2) i3 h4 g1 h5 (Nat.le_refl _) g2 heads_ok
  · have m1 : ¬ In p (mergeR l.xs) := fun h => by have := (s1.1 h).1; omega
    have m2 : ¬ In p (turnR l.xs) := fun h => by have := (s2.1 h).1; omega
    rcases im with ⟨b, i2⟩ | ⟨b, i2⟩
    · exact absurd b m1
    · rcases it with ⟨d, i3⟩ | ⟨d, i3⟩
      · exact absurd d m2
      · exact law_RxIn_r5 h1 h3 c1 (Nat.le_refl _) (by simpa only [List.take_length] using i2) i3 h4 g1 h5 (Nat.le_refl _) g2 heads_ok
end Go.Proofs.Ytpghocjfmddpkaa.V

/- Contracts: merging as the program does it; states checked, by both; the law NfaChecks. -/
import Derived.Test.YtgoalemieifcdaaN2
namespace Go.Proofs.Ytgoalemieifcdaa.V
open Go
set_option linter.unusedVariables false
/-! ### rx.Merge -/
theorem clip_filter (r : Range) (rest : List Range) : clipped (r :: rest) = (if (clip r).From ≤ (clip r).To then [clip r] else []) ++ clipped rest := by
  unfold clipped
  rw [List.map_cons, List.filter_cons]
  by_cases h : (clip r).From ≤ (clip r).To
  · rw [if_pos (by simpa using h), if_pos h]; rfl
  · rw [if_neg (by simpa using h), if_neg h]; rfl
theorem clipped_length (l : List Range) : (clipped l).length ≤ l.length := by
  unfold clipped
  have := List.length_filter_le (fun r : Range => decide (r.From ≤ r.To)) (l.map clip)
  simpa using this
theorem rx_merge_l0 {l : SL Range} (hs : small (l.xs.length + 1)) : ∀ (rest : List Range) (k : Nat) (all : List Range) (t : Bool), l.xs.drop k = rest → all.length ≤ k → ∃ t' z, rx_Merge_l0 all t l (l.xs.length : Int) k (rx_Merge_l0_x0 (all ++ clipped rest) t' l (l.xs.length : Int) z)
  | [], k, all, t, hd, hk => ⟨t, k, by rw [show all ++ clipped [] = all by simp [clipped]]; exact rx_Merge_l0_e2 (by have := drop_nil_le hd; omega)⟩
  | r :: rest, k, all, t, hd, hk => by
    obtain ⟨h1, h2, h3⟩ := at_drop hd
    have hsm := small_lt hs
    have w3 : w64 ((k : Int) + 1) := w64k (by omega)
    have lk : (k : Int) < (l.xs.length : Int) := by omega
    rw [clip_filter]
    by_cases c : (clip r).From ≤ (clip r).To
    · rw [if_pos c, ← List.append_assoc]
      obtain ⟨t', z, h⟩ := rx_merge_l0 hs rest (k + 1) (all ++ [clip r]) false h2 (by simp only [List.length_append, List.length_singleton]; omega)
      exact ⟨t', z, rx_Merge_l0_s0 lk (by omega) h1 c (by unfold small at hs; omega) w3 h⟩
    · rw [if_neg c, List.nil_append]
      obtain ⟨t', z, h⟩ := rx_merge_l0 hs rest (k + 1) all t h2 (by omega)
      exact ⟨t', z, rx_Merge_l0_s1 lk (by omega) h1 c w3 h⟩
theorem rx_merge_l1 {t36 : List Range} {t : Bool} (hs : small (t36.length + 1)) (ho : ∀ r ∈ t36, okR r) : ∀ (rest : List Range) (k : Nat) (out : List Range) (outt : Bool), t36.drop k = rest → (∀ r ∈ out, okR r) → out.length ≤ k → ∃ z4 z6, rx_Merge_l1 out t36 outt out.length t t36.length (t36.length : Int) k (rx_Merge_l1_x0 (rest.foldl stepS out) t36 z4 (rest.foldl stepS out).length t t36.length (t36.length : Int) z6)
  | [], k, out, outt, hd, hout, hk => ⟨outt, k, rx_Merge_l1_e3 (by have := drop_nil_le hd; omega)⟩
  | r :: rest, k, out, outt, hd, hout, hk => by
    obtain ⟨h1, h2, h3⟩ := at_drop hd
    have hr : okR r := ho r (List.mem_of_mem_drop (by rw [hd]; exact List.mem_cons_self ..))
    have hsm := small_lt hs
    have w3 : w64 ((k : Int) + 1) := w64k (by omega)
    have lk : (k : Int) < (t36.length : Int) := by omega
    rw [List.foldl_cons]
    cases hl : out.getLast? with
    | none =>
      have e0 : out = [] := by simpa using hl
      have e : stepS out r = out ++ [r] := by unfold stepS; rw [hl]
      obtain ⟨z4, z6, h⟩ := rx_merge_l1 hs ho rest (k + 1) (stepS out r) false h2 (by rw [e, e0]; simpa using hr) (by rw [e, e0]; simp)
      rw [e] at h ⊢
      refine ⟨z4, z6, rx_Merge_l1_s2 lk (by omega) h1 (by omega) (by rw [e0]; simp) (by unfold small at hs; omega) (Nat.le_refl _) w3 ?_⟩
      rw [List.take_length]
      exact h
    | some a =>
      have hne : out ≠ [] := by intro e; rw [e] at hl; simp at hl
      have hpos : 0 < out.length := List.length_pos_iff.2 hne
      have ha : okR a := hout a (List.mem_of_getLast? hl)
      have hget : out[((out.length : Int) - 1).toNat]? = some a := by
        rw [show ((out.length : Int) - 1).toNat = out.length - 1 by omega, ← List.getLast?_eq_getElem?]
        exact hl
      have w1 : w64 ((out.length : Int) - 1) := in64 (by omega) (by omega)
      have w2 : w64 (a.To + 1) := in64 (by unfold okR at ha; omega) (by unfold okR top at ha; omega)
      by_cases c : r.From ≤ a.To + 1
      · have e : stepS out r = out.dropLast ++ [⟨a.From, max a.To r.To⟩] := by unfold stepS; rw [hl]; dsimp only; rw [if_pos c]
        have e2 : out.set ((out.length : Int) - 1).toNat (Range.mk a.From (max a.To r.To)) = stepS out r := by
          rw [e, show ((out.length : Int) - 1).toNat = out.length - 1 by omega]
          have h9 : out = out.dropLast ++ [a] := by
            have e9 := List.dropLast_concat_getLast hne
            rw [List.getLast?_eq_some_getLast hne] at hl
            rw [Option.some.inj hl] at e9
            exact e9.symm
          conv => lhs; rw [h9]
          have hdl : out.dropLast.length = out.length - 1 := by simp
          rw [List.set_append_right _ _ (by rw [← h9, hdl]; omega)]
          rw [← h9, hdl]
          simp
        have elen : (stepS out r).length = out.length := by rw [← e2]; simp
        obtain ⟨z4, z6, h⟩ := rx_merge_l1 hs ho rest (k + 1) (stepS out r) outt h2 (by
          rw [e]
          intro s hs'
          rcases List.mem_append.1 hs' with h | h
          · exact hout s ((List.dropLast_sublist out).subset h)
          · simp at h; subst h; unfold okR at ha hr ⊢; dsimp only; omega) (by omega)
        rw [elen] at h
        refine ⟨z4, z6, rx_Merge_l1_s0 lk (by omega) h1 (by omega) (by omega) w1 (by omega) hget (by omega) w2 c w3 ?_⟩
        rw [e2]
        exact h
      · have e : stepS out r = out ++ [r] := by unfold stepS; rw [hl]; dsimp only; rw [if_neg c]
        obtain ⟨z4, z6, h⟩ := rx_merge_l1 hs ho rest (k + 1) (stepS out r) false h2 (by
          rw [e]
          intro s hs'
          rcases List.mem_append.1 hs' with h | h
          · exact hout s h
          · simp at h; subst h; exact hr) (by rw [e]; simp; omega)
        rw [e] at h ⊢
        refine ⟨z4, z6, rx_Merge_l1_s1 lk (by omega) h1 (by omega) (by omega) w1 (by omega) hget (by omega) w2 c (by unfold small at hs; omega) (Nat.le_refl _) w3 ?_⟩
        rw [List.take_length]
        exact h
theorem xsOf_dl (l : List Range) : xsOf cells_R l = (dl e_Range l).map .d := rfl
theorem sort_none_t : callF tab XX 12 36 [.row 0 2 0 0 true, .d (.func (.func 37) [] [])] [.row 2 [] false] = some (.ret (.tup []), [.row 2 [] false]) := by kernel_rfl
theorem sort_none_f : callF tab XX 12 36 [.row 0 2 0 0 false, .d (.func (.func 37) [] [])] [.row 2 [] false] = some (.ret (.tup []), [.row 2 [] false]) := by kernel_rfl
theorem cmpR_le {a b : Range} (h : 0 ≤ cmpR b a) : a.From ≤ b.From := by
  unfold cmpR cmpI at h
  split at h
  · omega
  · omega
theorem sort_run {l : List Range} (t : Bool) (h : l.length < 4611686018427387904) : ∃ s, sl_SortFunc_Range l t l.length s ∧ s.Perm l ∧ s.Pairwise (fun a b => a.From ≤ b.From) := by
  cases l with
  | nil =>
    refine ⟨[], ?_, .nil, .nil⟩
    cases t with
    | true => exact lim_of sort_none_t
    | false => exact lim_of sort_none_f
  | cons x r =>
    obtain ⟨h1, h2, h3⟩ := sortT_spec cmpR swo_R (x :: r)
    refine ⟨sortT cmpR (x :: r), R_sort (by simp) h, h1, ?_⟩
    rw [List.pairwise_iff_getElem]
    intro i j hi hj hij
    have := h3 i j _ _ hij (List.getElem?_eq_getElem hi) (List.getElem?_eq_getElem hj)
    exact cmpR_le this
theorem rx_merge {l : SL Range} (hs : small (l.xs.length + 1)) : ∃ t, rx_Merge l ⟨2, mergeR l.xs, t⟩ := by
  obtain ⟨t', z, h0⟩ := rx_merge_l0 hs l.xs 0 [] true (by simp) (by simp)
  rw [List.nil_append] at h0
  have hcl := clipped_length l.xs
  have hsm := small_lt hs
  obtain ⟨s, h1, h2, h3⟩ := sort_run (l := clipped l.xs) t' (by omega)
  have hsl : s.length = (clipped l.xs).length := h2.length_eq
  obtain ⟨z4, z6, h4⟩ := rx_merge_l1 (t36 := s) (t := t') (by unfold small at hs ⊢; omega) (fun r hr => clipped_ok l.xs r (h2.mem_iff.1 hr)) s 0 [] true (by simp) (by simp) (by simp)
  rw [sorted_merge h2 h3] at h4
  rw [hsl] at h4
  refine ⟨z4, ?_⟩
  have := rx_Merge_r0 h0 h1 h4 (Nat.le_refl _)
  rwa [List.take_length] at this
theorem rx_merge_same {l : SL Range} (hs : small (l.xs.length + 1)) : ∃ m : SL Range, rx_Merge l m ∧ m.xs = mergeR l.xs := by
  obtain ⟨t, h⟩ := rx_merge hs
  exact ⟨_, h, rfl⟩
theorem mergeR_length (l : List Range) : (mergeR l).length ≤ l.length := by
  have := foldM_length l []
  simpa [mergeR] using this

/-! ### A state, by the program -/
def okS (n : Nat) (s : State) : Prop := 1 ≤ s.Kind ∧ s.Kind ≤ 7 ∧ (s.Kind ≠ 7 → 0 ≤ s.A ∧ s.A < n) ∧ (s.Kind = 7 → s.A = 0) ∧ (s.Kind = 2 → 0 ≤ s.B ∧ s.B < n) ∧ (s.Kind ≠ 2 → s.B = 0) ∧ (s.Kind ≠ 1 → s.Ranges.xs = []) ∧ mergeR s.Ranges.xs = s.Ranges.xs
instance (n : Nat) (s : State) : Decidable (okS n s) := by unfold okS; infer_instance
theorem number_run (x : Int) (used : Bool) (n : Int) : nfa_state_f1 x used n (if used = true then decide (0 ≤ x ∧ x < n) else decide (x = 0)) := by
  cases used with
  | true =>
    simp only [if_true]
    by_cases h1 : x ≥ 0
    · by_cases h2 : x < n
      · rw [decide_eq_true ⟨h1, h2⟩]; exact nfa_state_f1_r0 h1 h2
      · rw [decide_eq_false (fun h => h2 h.2)]; exact nfa_state_f1_r1 h1 h2
    · rw [decide_eq_false (fun h => h1 h.1)]; exact nfa_state_f1_r2 h1
  | false =>
    by_cases h : x = 0
    · rw [if_neg (by simp), decide_eq_true h]; exact nfa_state_f1_r3 h
    · rw [if_neg (by simp), decide_eq_false h]; exact nfa_state_f1_r4 h
theorem num_t {x n : Int} (h : 0 ≤ x ∧ x < n) : nfa_state_f1 x true n true := by have := number_run x true n; rwa [if_pos rfl, decide_eq_true h] at this
theorem num_tf {x n : Int} (h : ¬ (0 ≤ x ∧ x < n)) : nfa_state_f1 x true n false := by have := number_run x true n; rwa [if_pos rfl, decide_eq_false h] at this
theorem num_f {x n : Int} (h : x = 0) : nfa_state_f1 x false n true := nfa_state_f1_r3 h
theorem num_ff {x n : Int} (h : ¬ x = 0) : nfa_state_f1 x false n false := nfa_state_f1_r4 h
theorem len0 {l : List Range} : (l.length : Int) = 0 ↔ l = [] := by
  constructor
  · intro h; exact List.length_eq_zero_iff.1 (by omega)
  · intro h; rw [h]; rfl
theorem state_run {s : State} {n : Nat} (hs : small (s.Ranges.xs.length + 1)) : nfa_state s n (decide (okS n s)) := by
  obtain ⟨m, hm, em⟩ := rx_merge_same hs
  have hml : small m.xs.length := by
    have := mergeR_length s.Ranges.xs
    rw [em]; unfold small at hs ⊢; omega
  have hq := equal_ranges (a := m) (b := s.Ranges) hml
  rw [em] at hq
  by_cases k1 : s.Kind ≥ 1
  case neg => rw [decide_eq_false (by unfold okS; omega)]; exact nfa_state_r17 k1
  by_cases k7 : s.Kind ≤ 7
  case neg => rw [decide_eq_false (by unfold okS; omega)]; exact nfa_state_r16 k1 k7
  by_cases d : s.Kind = 7
  · by_cases a : s.A = 0
    case neg => rw [decide_eq_false (by unfold okS; omega)]; exact nfa_state_r15 k1 k7 d (num_ff a)
    by_cases b : s.B = 0
    case neg => rw [decide_eq_false (by unfold okS; omega)]; exact nfa_state_r14 k1 k7 d (num_f a) (num_ff b)
    by_cases r : s.Ranges.xs = []
    case neg => rw [decide_eq_false (by unfold okS; intro h; exact r (h.2.2.2.2.2.2.1 (by omega)))]; exact nfa_state_r13 k1 k7 d (num_f a) (num_f b) (fun h => r (len0.1 h))
    by_cases e : mergeR s.Ranges.xs = s.Ranges.xs
    · rw [decide_eq_true e] at hq
      rw [decide_eq_true (by unfold okS; exact ⟨k1, k7, fun h => absurd d h, fun _ => a, fun h => by omega, fun _ => b, fun _ => r, e⟩)]
      exact nfa_state_r11 k1 k7 d (num_f a) (num_f b) (len0.2 r) hm hq
    · rw [decide_eq_false e] at hq
      rw [decide_eq_false (by unfold okS; intro h; exact e h.2.2.2.2.2.2.2)]
      exact nfa_state_r12 k1 k7 d (num_f a) (num_f b) (len0.2 r) hm hq
  · by_cases a : 0 ≤ s.A ∧ s.A < (n : Int)
    case neg => rw [decide_eq_false (by unfold okS; intro h; exact a (h.2.2.1 d))]; exact nfa_state_r10 k1 k7 d (num_tf a)
    by_cases f : s.Kind = 2
    · by_cases b : 0 ≤ s.B ∧ s.B < (n : Int)
      case neg => rw [decide_eq_false (by unfold okS; intro h; exact b (h.2.2.2.2.1 f))]; exact nfa_state_r3 k1 k7 d (num_t a) f (num_tf b)
      by_cases r : s.Ranges.xs = []
      case neg => rw [decide_eq_false (by unfold okS; intro h; exact r (h.2.2.2.2.2.2.1 (by omega)))]; exact nfa_state_r2 k1 k7 d (num_t a) f (num_t b) (fun h => r (len0.1 h))
      by_cases e : mergeR s.Ranges.xs = s.Ranges.xs
      · rw [decide_eq_true e] at hq
        rw [decide_eq_true (by unfold okS; exact ⟨k1, k7, fun _ => a, fun h => absurd h d, fun _ => b, fun h => absurd f h, fun _ => r, e⟩)]
        exact nfa_state_r0 k1 k7 d (num_t a) f (num_t b) (len0.2 r) hm hq
      · rw [decide_eq_false e] at hq
        rw [decide_eq_false (by unfold okS; intro h; exact e h.2.2.2.2.2.2.2)]
        exact nfa_state_r1 k1 k7 d (num_t a) f (num_t b) (len0.2 r) hm hq
    · by_cases b : s.B = 0
      case neg => rw [decide_eq_false (by unfold okS; intro h; exact b (h.2.2.2.2.2.1 f))]; exact nfa_state_r9 k1 k7 d (num_t a) f (num_ff b)
      by_cases o : s.Kind = 1
      · by_cases e : mergeR s.Ranges.xs = s.Ranges.xs
        · rw [decide_eq_true e] at hq
          rw [decide_eq_true (by unfold okS; exact ⟨k1, k7, fun _ => a, fun h => absurd h d, fun h => absurd h f, fun _ => b, fun h => absurd o h, e⟩)]
          exact nfa_state_r4 k1 k7 d (num_t a) f (num_f b) o hm hq
        · rw [decide_eq_false e] at hq
          rw [decide_eq_false (by unfold okS; intro h; exact e h.2.2.2.2.2.2.2)]
          exact nfa_state_r5 k1 k7 d (num_t a) f (num_f b) o hm hq
      · by_cases r : s.Ranges.xs = []
        case neg => rw [decide_eq_false (by unfold okS; intro h; exact r (h.2.2.2.2.2.2.1 o))]; exact nfa_state_r8 k1 k7 d (num_t a) f (num_f b) o (fun h => r (len0.1 h))
        by_cases e : mergeR s.Ranges.xs = s.Ranges.xs
        · rw [decide_eq_true e] at hq
          rw [decide_eq_true (by unfold okS; exact ⟨k1, k7, fun _ => a, fun h => absurd h d, fun h => absurd h f, fun _ => b, fun _ => r, e⟩)]
          exact nfa_state_r6 k1 k7 d (num_t a) f (num_f b) o (len0.2 r) hm hq
        · rw [decide_eq_false e] at hq
          rw [decide_eq_false (by unfold okS; intro h; exact e h.2.2.2.2.2.2.2)]
          exact nfa_state_r7 k1 k7 d (num_t a) f (num_f b) o (len0.2 r) hm hq
/-- States that may be handed in. -/
def wfStates (l : SL State) : Prop := small l.xs.length ∧ ∀ s ∈ l.xs, small (s.Ranges.xs.length + 1)
theorem index_run {l : SL State} (hw : wfStates l) : ∀ (rest : List State) (k : Nat), l.xs.drop k = rest → ((∀ s ∈ rest, okS l.xs.length s) ∧ ∃ z, sl_IndexFunc_State_l0 l l (l.xs.length : Int) k (sl_IndexFunc_State_l0_x1 l l (l.xs.length : Int) z)) ∨ ((∃ s ∈ rest, ¬ okS l.xs.length s) ∧ ∃ z : Nat, sl_IndexFunc_State_l0 l l (l.xs.length : Int) k (sl_IndexFunc_State_l0_x0 l z))
  | [], k, hd => .inl ⟨fun s hs => (by cases hs), k, sl_IndexFunc_State_l0_e2 (by have := drop_nil_le hd; omega)⟩
  | s :: rest, k, hd => by
    obtain ⟨h1, h2, h3⟩ := at_drop hd
    have hsm := small_lt hw.1
    have w3 : w64 ((k : Int) + 1) := w64k (by omega)
    have lk : (k : Int) < (l.xs.length : Int) := by omega
    have hst := state_run (s := s) (n := l.xs.length) (hw.2 s (List.mem_of_mem_drop (by rw [hd]; exact List.mem_cons_self ..)))
    by_cases o : okS l.xs.length s
    · rw [decide_eq_true o] at hst
      rcases index_run hw rest (k + 1) h2 with ⟨g1, z, g2⟩ | ⟨⟨s', hs', hn⟩, z, g2⟩
      · exact .inl ⟨fun s' hs' => (List.mem_cons.1 hs').elim (fun h => h ▸ o) (g1 s'), z, sl_IndexFunc_State_l0_s1 lk (by omega) h1 (nfa_Check_f1_r0 hst) w3 g2⟩
      · exact .inr ⟨⟨s', List.mem_cons_of_mem _ hs', hn⟩, z, sl_IndexFunc_State_l0_s1 lk (by omega) h1 (nfa_Check_f1_r0 hst) w3 g2⟩
    · rw [decide_eq_false o] at hst
      exact .inr ⟨⟨s, List.mem_cons_self .., o⟩, k, sl_IndexFunc_State_l0_e0 lk (by omega) h1 (nfa_Check_f1_r1 hst)⟩
def okL (l : SL State) : Prop := l.xs ≠ [] ∧ ∀ s ∈ l.xs, okS l.xs.length s
theorem check_run {l : SL State} (hw : wfStates l) : (okL l ∧ nfa_Check l 0) ∨ (¬ okL l ∧ nfa_Check l 101) := by
  by_cases h0 : l.xs = []
  · exact .inr ⟨fun h => h.1 h0, nfa_Check_r0 (by rw [h0]; rfl)⟩
  have h0' : ¬ (l.xs.length : Int) = 0 := fun h => h0 (List.length_eq_zero_iff.1 (by omega))
  rcases index_run hw l.xs 0 (by simp) with ⟨g1, z, g2⟩ | ⟨⟨s, hs, hn⟩, z, g2⟩
  · exact .inl ⟨⟨h0, g1⟩, nfa_Check_r2 h0' (sl_ContainsFunc_State_r1 (sl_IndexFunc_State_r1 g2) (by decide))⟩
  · exact .inr ⟨fun h => hn (h.2 s hs), nfa_Check_r1 h0' (sl_ContainsFunc_State_r0 (sl_IndexFunc_State_r0 g2) (by omega))⟩

/-! ### .. and by the reference -/
theorem heads_ok : law_heads true := R_heads
end Go.Proofs.Ytgoalemieifcdaa.V

/- Trees that may be: the program's check and the reference's. -/
import Derived.Test.YtgoalemieifcdaaN3
namespace Go.Proofs.Ytgoalemieifcdaa.V
open Go
set_option linter.unusedVariables false
set_option linter.unusedSimpArgs false
set_option linter.unusedSectionVars false
theorem b_em (b : Bool) : b = true ∨ b = false := by cases b <;> simp
theorem mergeR_small {l : List Range} (hs : small (l.length + 1)) : small (mergeR l).length := by
  have := mergeR_length l
  unfold small at hs ⊢; omega
theorem rx_ranges_run {l : SL Range} (hs : small (l.xs.length + 1)) : (Canon l.xs ∧ rx_ranges l true) ∨ (¬ Canon l.xs ∧ rx_ranges l false) := by
  obtain ⟨t, h⟩ := rx_merge hs
  have e := equal_ranges (a := ⟨2, mergeR l.xs, t⟩) (b := l) (mergeR_small hs)
  by_cases c : mergeR l.xs = l.xs
  · rw [decide_eq_true c] at e
    exact .inl ⟨(mergeR_iff _).1 c, rx_ranges_r0 h e⟩
  · rw [decide_eq_false c] at e
    exact .inr ⟨fun hc => c ((mergeR_iff _).2 hc), rx_ranges_r1 h e⟩
theorem ref_ok_loop {l : SL Range} (hs : small (l.xs.length + 1)) : ∀ (rest : List Range) (k : Nat), l.xs.drop k = rest → (∀ p, 0 < k → l.xs[k - 1]? = some p → okR p) →
    ((Canon rest ∧ ∀ p r, 0 < k → l.xs[k - 1]? = some p → rest.head? = some r → gap p r) ∧ ∃ z, ref09_ranges_l0 l k (ref09_ranges_l0_x1 l z)) ∨ (¬ (Canon rest ∧ ∀ p r, 0 < k → l.xs[k - 1]? = some p → rest.head? = some r → gap p r) ∧ ref09_ranges_l0 l k ref09_ranges_l0_x0)
  | [], k, hd, hp => .inl ⟨⟨.nil, fun p r _ _ h => by cases h⟩, k, ref09_ranges_l0_e6 (by have := drop_nil_le hd; omega)⟩
  | r :: rest, k, hd, hp => by
    obtain ⟨h1, h2, h3⟩ := at_drop hd
    have hsm := small_lt hs
    have w3 : w64 ((k : Int) + 1) := w64k (by omega)
    have lk : (k : Int) < (l.xs.length : Int) := by omega
    have hh := fun (h : Canon (r :: rest)) => h.head
    unfold okR top at hh
    by_cases c1 : r.From < 0
    · exact .inr ⟨fun h => by have := hh h.1; omega, ref09_ranges_l0_e0 lk (by omega) h1 c1⟩
    by_cases c2 : r.From > r.To
    · exact .inr ⟨fun h => by have := hh h.1; omega, ref09_ranges_l0_e1 lk (by omega) h1 c1 c2⟩
    by_cases c3 : r.To > 1114111
    · exact .inr ⟨fun h => by have := hh h.1; omega, ref09_ranges_l0_e2 lk (by omega) h1 c1 c2 c3⟩
    have hr : okR r := by unfold okR top; omega
    have hk1 : l.xs[k + 1 - 1]? = some r := by rw [Nat.add_sub_cancel]; simpa using h1
    have ih := ref_ok_loop hs rest (k + 1) h2 (fun p _ h => by rw [hk1] at h; cases h; exact hr)
    have key : (Canon rest ∧ ∀ p q, 0 < k + 1 → l.xs[k + 1 - 1]? = some p → rest.head? = some q → gap p q) ↔ Canon (r :: rest) := by
      constructor
      · rintro ⟨a, b⟩
        cases rest with
        | nil => exact .one hr
        | cons q rest => exact .cons hr (b r q (by omega) hk1 rfl) a
      · intro h
        refine ⟨h.tail, fun p q _ hp hq => ?_⟩
        rw [hk1] at hp; cases hp
        cases rest with
        | nil => cases hq
        | cons q' rest => cases hq; cases h with | cons _ g _ => exact g
    rw [key] at ih
    by_cases c4 : (k : Int) > 0
    · have hk0 : k - 1 < l.xs.length := by omega
      have hprev : l.xs[((k : Int) - 1).toNat]? = some (l.xs[k - 1]) := by
        rw [show ((k : Int) - 1).toNat = k - 1 by omega]; simp [hk0]
      have hprev' : l.xs[k - 1]? = some (l.xs[k - 1]) := by simp [hk0]
      have ho := hp _ (by omega) hprev'
      have ho' := ho
      unfold okR top at ho'
      have w5 : w64 ((k : Int) - 1) := in64 (by omega) (by omega)
      have w6 : w64 ((l.xs[k - 1]).To + 1) := in64 (by omega) (by omega)
      by_cases c5 : (l.xs[k - 1]).To + 1 ≥ r.From
      · exact .inr ⟨fun h => by have := h.2 _ _ (by omega) hprev' rfl; unfold gap at this; omega, ref09_ranges_l0_e3 lk (by omega) h1 c1 c2 c3 c4 w5 (by omega) hprev w6 c5⟩
      · have hg : ∀ p q, 0 < k → l.xs[k - 1]? = some p → (r :: rest).head? = some q → gap p q := by
          intro p q _ a b
          rw [hprev'] at a; cases a; cases b
          unfold gap; omega
        rcases ih with ⟨a, z, h⟩ | ⟨a, h⟩
        · exact .inl ⟨⟨a, hg⟩, z, ref09_ranges_l0_s4 lk (by omega) h1 c1 c2 c3 c4 w5 (by omega) hprev w6 c5 w3 h⟩
        · exact .inr ⟨fun h => a h.1, ref09_ranges_l0_s4 lk (by omega) h1 c1 c2 c3 c4 w5 (by omega) hprev w6 c5 w3 h⟩
    · have hg : ∀ p q, 0 < k → l.xs[k - 1]? = some p → (r :: rest).head? = some q → gap p q := by intro p q h; omega
      rcases ih with ⟨a, z, h⟩ | ⟨a, h⟩
      · exact .inl ⟨⟨a, hg⟩, z, ref09_ranges_l0_s5 lk (by omega) h1 c1 c2 c3 c4 w3 h⟩
      · exact .inr ⟨fun h => a h.1, ref09_ranges_l0_s5 lk (by omega) h1 c1 c2 c3 c4 w3 h⟩
theorem ref_okranges {l : SL Range} (hs : small (l.xs.length + 1)) : (Canon l.xs ∧ ref09_ranges l true) ∨ (¬ Canon l.xs ∧ ref09_ranges l false) := by
  rcases ref_ok_loop hs l.xs 0 (by simp) (fun p h => by omega) with ⟨a, z, h⟩ | ⟨a, h⟩
  · exact .inl ⟨a.1, ref09_ranges_r1 h⟩
  · exact .inr ⟨fun hc => a ⟨hc, fun p r h => by omega⟩, ref09_ranges_r0 h⟩
/-- What one node of a tree must be. -/
def nodeOK (x : Rx) : Prop :=
  (x.Kind = 2 ∨ x.Ranges.xs.length = 0) ∧ (x.Kind = 5 ∨ (x.Min = 0 ∧ x.Max = 0 ∧ x.Lazy = false)) ∧ Canon x.Ranges.xs ∧
  (((x.Kind = 1 ∨ x.Kind = 2 ∨ x.Kind = 6 ∨ x.Kind = 7 ∨ x.Kind = 8 ∨ x.Kind = 9) ∧ x.Sub.xs.length = 0) ∨ ((x.Kind = 3 ∨ x.Kind = 4) ∧ 2 ≤ x.Sub.xs.length) ∨
    (x.Kind = 5 ∧ x.Sub.xs.length = 1 ∧ 0 ≤ x.Min ∧ x.Min ≤ 1000 ∧ -1 ≤ x.Max ∧ x.Max ≤ 1000 ∧ (x.Max < 0 ∨ x.Min ≤ x.Max)))
/-- A tree that may be, of at most so many levels. -/
def rightR : Nat → Rx → Prop
  | 0, _ => False
  | n + 1, x => nodeOK x ∧ ∀ y ∈ x.Sub.xs, rightR n y
theorem canon0 {l : List Range} (h : l.length = 0) : Canon l := by
  have : l = [] := List.eq_nil_of_length_eq_zero h
  subst this; exact .nil
set_option maxHeartbeats 4000000 in
theorem fits_node {x : Rx} {levels : Int} {A : Prop} (hl : ¬ levels = 0) (hr : small (x.Ranges.xs.length + 1)) (hsub : (A ∧ sl_ContainsFunc_Rx levels x.Sub false levels) ∨ (¬ A ∧ sl_ContainsFunc_Rx levels x.Sub true levels)) :
    ∃ b, rx_fits x levels b ∧ (b = true ↔ nodeOK x ∧ A) := by
  rcases Classical.em (levels = 0) with h0 | h0
  · skip
    exact ⟨_, (rx_fits_r0 h0), by unfold nodeOK; grind [canon0]⟩
  · skip
    rcases Classical.em (x.Kind = 1) with h1 | h1
    · skip
      rcases Classical.em ((x.Sub.xs.length : Int) > 0) with h2 | h2
      · skip
        exact ⟨_, (rx_fits_r1 h0 h1 h2), by unfold nodeOK; grind [canon0]⟩
      · skip
        rcases Classical.em ((x.Ranges.xs.length : Int) > 0) with h3 | h3
        · skip
          exact ⟨_, (rx_fits_r2 h0 h1 h2 h3), by unfold nodeOK; grind [canon0]⟩
        · skip
          rcases Classical.em (x.Min = 0) with h4 | h4
          · skip
            rcases Classical.em (x.Max = 0) with h5 | h5
            · skip
              rcases b_em (x.Lazy) with h6 | h6
              · skip
                exact ⟨_, (rx_fits_r5 h0 h1 h2 h3 h4 h5 h6), by unfold nodeOK; grind [canon0]⟩
              · skip
                rcases hsub with ⟨ha, h7⟩ | ⟨ha, h7⟩
                · skip
                  exact ⟨_, (rx_fits_r7 h0 h1 h2 h3 h4 h5 h6 h7), by unfold nodeOK; grind [canon0]⟩
                · skip
                  exact ⟨_, (rx_fits_r6 h0 h1 h2 h3 h4 h5 h6 h7), by unfold nodeOK; grind [canon0]⟩
            · skip
              exact ⟨_, (rx_fits_r4 h0 h1 h2 h3 h4 h5), by unfold nodeOK; grind [canon0]⟩
          · skip
            exact ⟨_, (rx_fits_r3 h0 h1 h2 h3 h4), by unfold nodeOK; grind [canon0]⟩
    · skip
      rcases Classical.em (x.Kind = 6) with h2 | h2
      · skip
        rcases Classical.em ((x.Sub.xs.length : Int) > 0) with h3 | h3
        · skip
          exact ⟨_, (rx_fits_r8 h0 h1 h2 h3), by unfold nodeOK; grind [canon0]⟩
        · skip
          rcases Classical.em ((x.Ranges.xs.length : Int) > 0) with h4 | h4
          · skip
            exact ⟨_, (rx_fits_r9 h0 h1 h2 h3 h4), by unfold nodeOK; grind [canon0]⟩
          · skip
            rcases Classical.em (x.Min = 0) with h5 | h5
            · skip
              rcases Classical.em (x.Max = 0) with h6 | h6
              · skip
                rcases b_em (x.Lazy) with h7 | h7
                · skip
                  exact ⟨_, (rx_fits_r12 h0 h1 h2 h3 h4 h5 h6 h7), by unfold nodeOK; grind [canon0]⟩
                · skip
                  rcases hsub with ⟨ha, h8⟩ | ⟨ha, h8⟩
                  · skip
                    exact ⟨_, (rx_fits_r14 h0 h1 h2 h3 h4 h5 h6 h7 h8), by unfold nodeOK; grind [canon0]⟩
                  · skip
                    exact ⟨_, (rx_fits_r13 h0 h1 h2 h3 h4 h5 h6 h7 h8), by unfold nodeOK; grind [canon0]⟩
              · skip
                exact ⟨_, (rx_fits_r11 h0 h1 h2 h3 h4 h5 h6), by unfold nodeOK; grind [canon0]⟩
            · skip
              exact ⟨_, (rx_fits_r10 h0 h1 h2 h3 h4 h5), by unfold nodeOK; grind [canon0]⟩
      · skip
        rcases Classical.em (x.Kind = 7) with h3 | h3
        · skip
          rcases Classical.em ((x.Sub.xs.length : Int) > 0) with h4 | h4
          · skip
            exact ⟨_, (rx_fits_r15 h0 h1 h2 h3 h4), by unfold nodeOK; grind [canon0]⟩
          · skip
            rcases Classical.em ((x.Ranges.xs.length : Int) > 0) with h5 | h5
            · skip
              exact ⟨_, (rx_fits_r16 h0 h1 h2 h3 h4 h5), by unfold nodeOK; grind [canon0]⟩
            · skip
              rcases Classical.em (x.Min = 0) with h6 | h6
              · skip
                rcases Classical.em (x.Max = 0) with h7 | h7
                · skip
                  rcases b_em (x.Lazy) with h8 | h8
                  · skip
                    exact ⟨_, (rx_fits_r19 h0 h1 h2 h3 h4 h5 h6 h7 h8), by unfold nodeOK; grind [canon0]⟩
                  · skip
                    rcases hsub with ⟨ha, h9⟩ | ⟨ha, h9⟩
                    · skip
                      exact ⟨_, (rx_fits_r21 h0 h1 h2 h3 h4 h5 h6 h7 h8 h9), by unfold nodeOK; grind [canon0]⟩
                    · skip
                      exact ⟨_, (rx_fits_r20 h0 h1 h2 h3 h4 h5 h6 h7 h8 h9), by unfold nodeOK; grind [canon0]⟩
                · skip
                  exact ⟨_, (rx_fits_r18 h0 h1 h2 h3 h4 h5 h6 h7), by unfold nodeOK; grind [canon0]⟩
              · skip
                exact ⟨_, (rx_fits_r17 h0 h1 h2 h3 h4 h5 h6), by unfold nodeOK; grind [canon0]⟩
        · skip
          rcases Classical.em (x.Kind = 8) with h4 | h4
          · skip
            rcases Classical.em ((x.Sub.xs.length : Int) > 0) with h5 | h5
            · skip
              exact ⟨_, (rx_fits_r22 h0 h1 h2 h3 h4 h5), by unfold nodeOK; grind [canon0]⟩
            · skip
              rcases Classical.em ((x.Ranges.xs.length : Int) > 0) with h6 | h6
              · skip
                exact ⟨_, (rx_fits_r23 h0 h1 h2 h3 h4 h5 h6), by unfold nodeOK; grind [canon0]⟩
              · skip
                rcases Classical.em (x.Min = 0) with h7 | h7
                · skip
                  rcases Classical.em (x.Max = 0) with h8 | h8
                  · skip
                    rcases b_em (x.Lazy) with h9 | h9
                    · skip
                      exact ⟨_, (rx_fits_r26 h0 h1 h2 h3 h4 h5 h6 h7 h8 h9), by unfold nodeOK; grind [canon0]⟩
                    · skip
                      rcases hsub with ⟨ha, h10⟩ | ⟨ha, h10⟩
                      · skip
                        exact ⟨_, (rx_fits_r28 h0 h1 h2 h3 h4 h5 h6 h7 h8 h9 h10), by unfold nodeOK; grind [canon0]⟩
                      · skip
                        exact ⟨_, (rx_fits_r27 h0 h1 h2 h3 h4 h5 h6 h7 h8 h9 h10), by unfold nodeOK; grind [canon0]⟩
                  · skip
                    exact ⟨_, (rx_fits_r25 h0 h1 h2 h3 h4 h5 h6 h7 h8), by unfold nodeOK; grind [canon0]⟩
                · skip
                  exact ⟨_, (rx_fits_r24 h0 h1 h2 h3 h4 h5 h6 h7), by unfold nodeOK; grind [canon0]⟩
          · skip
            rcases Classical.em (x.Kind = 9) with h5 | h5
            · skip
              rcases Classical.em ((x.Sub.xs.length : Int) > 0) with h6 | h6
              · skip
                exact ⟨_, (rx_fits_r29 h0 h1 h2 h3 h4 h5 h6), by unfold nodeOK; grind [canon0]⟩
              · skip
                rcases Classical.em ((x.Ranges.xs.length : Int) > 0) with h7 | h7
                · skip
                  exact ⟨_, (rx_fits_r30 h0 h1 h2 h3 h4 h5 h6 h7), by unfold nodeOK; grind [canon0]⟩
                · skip
                  rcases Classical.em (x.Min = 0) with h8 | h8
                  · skip
                    rcases Classical.em (x.Max = 0) with h9 | h9
                    · skip
                      rcases b_em (x.Lazy) with h10 | h10
                      · skip
                        exact ⟨_, (rx_fits_r33 h0 h1 h2 h3 h4 h5 h6 h7 h8 h9 h10), by unfold nodeOK; grind [canon0]⟩
                      · skip
                        rcases hsub with ⟨ha, h11⟩ | ⟨ha, h11⟩
                        · skip
                          exact ⟨_, (rx_fits_r35 h0 h1 h2 h3 h4 h5 h6 h7 h8 h9 h10 h11), by unfold nodeOK; grind [canon0]⟩
                        · skip
                          exact ⟨_, (rx_fits_r34 h0 h1 h2 h3 h4 h5 h6 h7 h8 h9 h10 h11), by unfold nodeOK; grind [canon0]⟩
                    · skip
                      exact ⟨_, (rx_fits_r32 h0 h1 h2 h3 h4 h5 h6 h7 h8 h9), by unfold nodeOK; grind [canon0]⟩
                  · skip
                    exact ⟨_, (rx_fits_r31 h0 h1 h2 h3 h4 h5 h6 h7 h8), by unfold nodeOK; grind [canon0]⟩
            · skip
              rcases Classical.em (x.Kind = 2) with h6 | h6
              · skip
                rcases Classical.em ((x.Sub.xs.length : Int) > 0) with h7 | h7
                · skip
                  exact ⟨_, (rx_fits_r36 h0 h1 h2 h3 h4 h5 h6 h7), by unfold nodeOK; grind [canon0]⟩
                · skip
                  rcases rx_ranges_run hr with ⟨hc, h8⟩ | ⟨hc, h8⟩
                  · skip
                    rcases Classical.em (x.Min = 0) with h9 | h9
                    · skip
                      rcases Classical.em (x.Max = 0) with h10 | h10
                      · skip
                        rcases b_em (x.Lazy) with h11 | h11
                        · skip
                          exact ⟨_, (rx_fits_r39 h0 h1 h2 h3 h4 h5 h6 h7 h8 h9 h10 h11), by unfold nodeOK; grind [canon0]⟩
                        · skip
                          rcases hsub with ⟨ha, h12⟩ | ⟨ha, h12⟩
                          · skip
                            exact ⟨_, (rx_fits_r41 h0 h1 h2 h3 h4 h5 h6 h7 h8 h9 h10 h11 h12), by unfold nodeOK; grind [canon0]⟩
                          · skip
                            exact ⟨_, (rx_fits_r40 h0 h1 h2 h3 h4 h5 h6 h7 h8 h9 h10 h11 h12), by unfold nodeOK; grind [canon0]⟩
                      · skip
                        exact ⟨_, (rx_fits_r38 h0 h1 h2 h3 h4 h5 h6 h7 h8 h9 h10), by unfold nodeOK; grind [canon0]⟩
                    · skip
                      exact ⟨_, (rx_fits_r37 h0 h1 h2 h3 h4 h5 h6 h7 h8 h9), by unfold nodeOK; grind [canon0]⟩
                  · skip
                    exact ⟨_, (rx_fits_r42 h0 h1 h2 h3 h4 h5 h6 h7 h8), by unfold nodeOK; grind [canon0]⟩
              · skip
                rcases Classical.em (x.Kind = 3) with h7 | h7
                · skip
                  rcases Classical.em ((x.Sub.xs.length : Int) < 2) with h8 | h8
                  · skip
                    exact ⟨_, (rx_fits_r43 h0 h1 h2 h3 h4 h5 h6 h7 h8), by unfold nodeOK; grind [canon0]⟩
                  · skip
                    rcases Classical.em ((x.Ranges.xs.length : Int) > 0) with h9 | h9
                    · skip
                      exact ⟨_, (rx_fits_r44 h0 h1 h2 h3 h4 h5 h6 h7 h8 h9), by unfold nodeOK; grind [canon0]⟩
                    · skip
                      rcases Classical.em (x.Min = 0) with h10 | h10
                      · skip
                        rcases Classical.em (x.Max = 0) with h11 | h11
                        · skip
                          rcases b_em (x.Lazy) with h12 | h12
                          · skip
                            exact ⟨_, (rx_fits_r47 h0 h1 h2 h3 h4 h5 h6 h7 h8 h9 h10 h11 h12), by unfold nodeOK; grind [canon0]⟩
                          · skip
                            rcases hsub with ⟨ha, h13⟩ | ⟨ha, h13⟩
                            · skip
                              exact ⟨_, (rx_fits_r49 h0 h1 h2 h3 h4 h5 h6 h7 h8 h9 h10 h11 h12 h13), by unfold nodeOK; grind [canon0]⟩
                            · skip
                              exact ⟨_, (rx_fits_r48 h0 h1 h2 h3 h4 h5 h6 h7 h8 h9 h10 h11 h12 h13), by unfold nodeOK; grind [canon0]⟩
                        · skip
                          exact ⟨_, (rx_fits_r46 h0 h1 h2 h3 h4 h5 h6 h7 h8 h9 h10 h11), by unfold nodeOK; grind [canon0]⟩
                      · skip
                        exact ⟨_, (rx_fits_r45 h0 h1 h2 h3 h4 h5 h6 h7 h8 h9 h10), by unfold nodeOK; grind [canon0]⟩
                · skip
                  rcases Classical.em (x.Kind = 4) with h8 | h8
                  · skip
                    rcases Classical.em ((x.Sub.xs.length : Int) < 2) with h9 | h9
                    · skip
                      exact ⟨_, (rx_fits_r50 h0 h1 h2 h3 h4 h5 h6 h7 h8 h9), by unfold nodeOK; grind [canon0]⟩
                    · skip
                      rcases Classical.em ((x.Ranges.xs.length : Int) > 0) with h10 | h10
                      · skip
                        exact ⟨_, (rx_fits_r51 h0 h1 h2 h3 h4 h5 h6 h7 h8 h9 h10), by unfold nodeOK; grind [canon0]⟩
                      · skip
                        rcases Classical.em (x.Min = 0) with h11 | h11
                        · skip
                          rcases Classical.em (x.Max = 0) with h12 | h12
                          · skip
                            rcases b_em (x.Lazy) with h13 | h13
                            · skip
                              exact ⟨_, (rx_fits_r54 h0 h1 h2 h3 h4 h5 h6 h7 h8 h9 h10 h11 h12 h13), by unfold nodeOK; grind [canon0]⟩
                            · skip
                              rcases hsub with ⟨ha, h14⟩ | ⟨ha, h14⟩
                              · skip
                                exact ⟨_, (rx_fits_r56 h0 h1 h2 h3 h4 h5 h6 h7 h8 h9 h10 h11 h12 h13 h14), by unfold nodeOK; grind [canon0]⟩
                              · skip
                                exact ⟨_, (rx_fits_r55 h0 h1 h2 h3 h4 h5 h6 h7 h8 h9 h10 h11 h12 h13 h14), by unfold nodeOK; grind [canon0]⟩
                          · skip
                            exact ⟨_, (rx_fits_r53 h0 h1 h2 h3 h4 h5 h6 h7 h8 h9 h10 h11 h12), by unfold nodeOK; grind [canon0]⟩
                        · skip
                          exact ⟨_, (rx_fits_r52 h0 h1 h2 h3 h4 h5 h6 h7 h8 h9 h10 h11), by unfold nodeOK; grind [canon0]⟩
                  · skip
                    rcases Classical.em (x.Kind = 5) with h9 | h9
                    · skip
                      rcases Classical.em ((x.Sub.xs.length : Int) = 1) with h10 | h10
                      · skip
                        rcases Classical.em (x.Min < 0) with h11 | h11
                        · skip
                          exact ⟨_, (rx_fits_r58 h0 h1 h2 h3 h4 h5 h6 h7 h8 h9 h10 h11), by unfold nodeOK; grind [canon0]⟩
                        · skip
                          rcases Classical.em (x.Min > 1000) with h12 | h12
                          · skip
                            exact ⟨_, (rx_fits_r59 h0 h1 h2 h3 h4 h5 h6 h7 h8 h9 h10 h11 h12), by unfold nodeOK; grind [canon0]⟩
                          · skip
                            rcases Classical.em (x.Max < (-1)) with h13 | h13
                            · skip
                              exact ⟨_, (rx_fits_r60 h0 h1 h2 h3 h4 h5 h6 h7 h8 h9 h10 h11 h12 h13), by unfold nodeOK; grind [canon0]⟩
                            · skip
                              rcases Classical.em (x.Max > 1000) with h14 | h14
                              · skip
                                exact ⟨_, (rx_fits_r61 h0 h1 h2 h3 h4 h5 h6 h7 h8 h9 h10 h11 h12 h13 h14), by unfold nodeOK; grind [canon0]⟩
                              · skip
                                rcases Classical.em (x.Max ≥ 0) with h15 | h15
                                · skip
                                  rcases Classical.em (x.Max < x.Min) with h16 | h16
                                  · skip
                                    exact ⟨_, (rx_fits_r62 h0 h1 h2 h3 h4 h5 h6 h7 h8 h9 h10 h11 h12 h13 h14 h15 h16), by unfold nodeOK; grind [canon0]⟩
                                  · skip
                                    rcases Classical.em ((x.Ranges.xs.length : Int) > 0) with h17 | h17
                                    · skip
                                      exact ⟨_, (rx_fits_r63 h0 h1 h2 h3 h4 h5 h6 h7 h8 h9 h10 h11 h12 h13 h14 h15 h16 h17), by unfold nodeOK; grind [canon0]⟩
                                    · skip
                                      rcases hsub with ⟨ha, h18⟩ | ⟨ha, h18⟩
                                      · skip
                                        exact ⟨_, (rx_fits_r65 h0 h1 h2 h3 h4 h5 h6 h7 h8 h9 h10 h11 h12 h13 h14 h15 h16 h17 h18), by unfold nodeOK; grind [canon0]⟩
                                      · skip
                                        exact ⟨_, (rx_fits_r64 h0 h1 h2 h3 h4 h5 h6 h7 h8 h9 h10 h11 h12 h13 h14 h15 h16 h17 h18), by unfold nodeOK; grind [canon0]⟩
                                · skip
                                  rcases Classical.em ((x.Ranges.xs.length : Int) > 0) with h16 | h16
                                  · skip
                                    exact ⟨_, (rx_fits_r66 h0 h1 h2 h3 h4 h5 h6 h7 h8 h9 h10 h11 h12 h13 h14 h15 h16), by unfold nodeOK; grind [canon0]⟩
                                  · skip
                                    rcases hsub with ⟨ha, h17⟩ | ⟨ha, h17⟩
                                    · skip
                                      exact ⟨_, (rx_fits_r68 h0 h1 h2 h3 h4 h5 h6 h7 h8 h9 h10 h11 h12 h13 h14 h15 h16 h17), by unfold nodeOK; grind [canon0]⟩
                                    · skip
                                      exact ⟨_, (rx_fits_r67 h0 h1 h2 h3 h4 h5 h6 h7 h8 h9 h10 h11 h12 h13 h14 h15 h16 h17), by unfold nodeOK; grind [canon0]⟩
                      · skip
                        exact ⟨_, (rx_fits_r57 h0 h1 h2 h3 h4 h5 h6 h7 h8 h9 h10), by unfold nodeOK; grind [canon0]⟩
                    · skip
                      exact ⟨_, (rx_fits_r69 h0 h1 h2 h3 h4 h5 h6 h7 h8 h9), by unfold nodeOK; grind [canon0]⟩
set_option maxHeartbeats 4000000 in
theorem right_node {x : Rx} {levels : Int} {A : Prop} (hl : ¬ levels = 0) (hr : small (x.Ranges.xs.length + 1)) (hsub : (A ∧ ∃ z, ref09_right_l0 x levels (x.Sub.xs.length : Int) 0 (ref09_right_l0_x1 x levels (x.Sub.xs.length : Int) z)) ∨ (¬ A ∧ ref09_right_l0 x levels (x.Sub.xs.length : Int) 0 (ref09_right_l0_x0 x))) :
    ∃ b, ref09_right x levels b ∧ (b = true ↔ nodeOK x ∧ A) := by
  rcases Classical.em (levels = 0) with h0 | h0
  · skip
    exact ⟨_, (ref09_right_r0 h0), by unfold nodeOK; grind [canon0]⟩
  · skip
    rcases Classical.em (x.Kind = 2) with h1 | h1
    · skip
      rcases Classical.em (x.Min = 0) with h2 | h2
      · skip
        rcases Classical.em (x.Max = 0) with h3 | h3
        · skip
          rcases b_em (x.Lazy) with h4 | h4
          · skip
            exact ⟨_, (ref09_right_r41 h0 h1 h2 h3 h4), by unfold nodeOK; grind [canon0]⟩
          · skip
            rcases ref_okranges hr with ⟨hc, h5⟩ | ⟨hc, h5⟩
            · skip
              rcases Classical.em ((x.Sub.xs.length : Int) > 0) with h6 | h6
              · skip
                exact ⟨_, (ref09_right_r42 h0 h1 h2 h3 h4 h5 h6), by unfold nodeOK; grind [canon0]⟩
              · skip
                rcases hsub with ⟨ha, _, h7⟩ | ⟨ha, h7⟩
                · skip
                  exact ⟨_, (ref09_right_r44 h0 h1 h2 h3 h4 h5 h6 h7), by unfold nodeOK; grind [canon0]⟩
                · skip
                  exact ⟨_, (ref09_right_r43 h0 h1 h2 h3 h4 h5 h6 h7), by unfold nodeOK; grind [canon0]⟩
            · skip
              exact ⟨_, (ref09_right_r45 h0 h1 h2 h3 h4 h5), by unfold nodeOK; grind [canon0]⟩
        · skip
          exact ⟨_, (ref09_right_r40 h0 h1 h2 h3), by unfold nodeOK; grind [canon0]⟩
      · skip
        exact ⟨_, (ref09_right_r39 h0 h1 h2), by unfold nodeOK; grind [canon0]⟩
    · skip
      rcases Classical.em ((x.Ranges.xs.length : Int) > 0) with h2 | h2
      · skip
        exact ⟨_, (ref09_right_r1 h0 h1 h2), by unfold nodeOK; grind [canon0]⟩
      · skip
        rcases Classical.em (x.Kind = 5) with h3 | h3
        · skip
          rcases ref_okranges hr with ⟨hc, h4⟩ | ⟨hc, h4⟩
          · skip
            rcases Classical.em ((x.Sub.xs.length : Int) = 1) with h5 | h5
            · skip
              rcases Classical.em (x.Min < 0) with h6 | h6
              · skip
                exact ⟨_, (ref09_right_r29 h0 h1 h2 h3 h4 h5 h6), by unfold nodeOK; grind [canon0]⟩
              · skip
                rcases Classical.em (x.Min > 1000) with h7 | h7
                · skip
                  exact ⟨_, (ref09_right_r30 h0 h1 h2 h3 h4 h5 h6 h7), by unfold nodeOK; grind [canon0]⟩
                · skip
                  rcases Classical.em (x.Max < (-1)) with h8 | h8
                  · skip
                    exact ⟨_, (ref09_right_r31 h0 h1 h2 h3 h4 h5 h6 h7 h8), by unfold nodeOK; grind [canon0]⟩
                  · skip
                    rcases Classical.em (x.Max > 1000) with h9 | h9
                    · skip
                      exact ⟨_, (ref09_right_r32 h0 h1 h2 h3 h4 h5 h6 h7 h8 h9), by unfold nodeOK; grind [canon0]⟩
                    · skip
                      rcases Classical.em (x.Max ≥ 0) with h10 | h10
                      · skip
                        rcases Classical.em (x.Max < x.Min) with h11 | h11
                        · skip
                          exact ⟨_, (ref09_right_r33 h0 h1 h2 h3 h4 h5 h6 h7 h8 h9 h10 h11), by unfold nodeOK; grind [canon0]⟩
                        · skip
                          rcases hsub with ⟨ha, _, h12⟩ | ⟨ha, h12⟩
                          · skip
                            exact ⟨_, (ref09_right_r35 h0 h1 h2 h3 h4 h5 h6 h7 h8 h9 h10 h11 h12), by unfold nodeOK; grind [canon0]⟩
                          · skip
                            exact ⟨_, (ref09_right_r34 h0 h1 h2 h3 h4 h5 h6 h7 h8 h9 h10 h11 h12), by unfold nodeOK; grind [canon0]⟩
                      · skip
                        rcases hsub with ⟨ha, _, h11⟩ | ⟨ha, h11⟩
                        · skip
                          exact ⟨_, (ref09_right_r37 h0 h1 h2 h3 h4 h5 h6 h7 h8 h9 h10 h11), by unfold nodeOK; grind [canon0]⟩
                        · skip
                          exact ⟨_, (ref09_right_r36 h0 h1 h2 h3 h4 h5 h6 h7 h8 h9 h10 h11), by unfold nodeOK; grind [canon0]⟩
            · skip
              exact ⟨_, (ref09_right_r28 h0 h1 h2 h3 h4 h5), by unfold nodeOK; grind [canon0]⟩
          · skip
            exact ⟨_, (ref09_right_r38 h0 h1 h2 h3 h4), by unfold nodeOK; grind [canon0]⟩
        · skip
          rcases Classical.em (x.Min = 0) with h4 | h4
          · skip
            rcases Classical.em (x.Max = 0) with h5 | h5
            · skip
              rcases b_em (x.Lazy) with h6 | h6
              · skip
                exact ⟨_, (ref09_right_r4 h0 h1 h2 h3 h4 h5 h6), by unfold nodeOK; grind [canon0]⟩
              · skip
                rcases ref_okranges hr with ⟨hc, h7⟩ | ⟨hc, h7⟩
                · skip
                  rcases Classical.em (x.Kind = 3) with h8 | h8
                  · skip
                    rcases Classical.em ((x.Sub.xs.length : Int) < 2) with h9 | h9
                    · skip
                      exact ⟨_, (ref09_right_r5 h0 h1 h2 h3 h4 h5 h6 h7 h8 h9), by unfold nodeOK; grind [canon0]⟩
                    · skip
                      rcases hsub with ⟨ha, _, h10⟩ | ⟨ha, h10⟩
                      · skip
                        exact ⟨_, (ref09_right_r7 h0 h1 h2 h3 h4 h5 h6 h7 h8 h9 h10), by unfold nodeOK; grind [canon0]⟩
                      · skip
                        exact ⟨_, (ref09_right_r6 h0 h1 h2 h3 h4 h5 h6 h7 h8 h9 h10), by unfold nodeOK; grind [canon0]⟩
                  · skip
                    rcases Classical.em (x.Kind = 4) with h9 | h9
                    · skip
                      rcases Classical.em ((x.Sub.xs.length : Int) < 2) with h10 | h10
                      · skip
                        exact ⟨_, (ref09_right_r8 h0 h1 h2 h3 h4 h5 h6 h7 h8 h9 h10), by unfold nodeOK; grind [canon0]⟩
                      · skip
                        rcases hsub with ⟨ha, _, h11⟩ | ⟨ha, h11⟩
                        · skip
                          exact ⟨_, (ref09_right_r10 h0 h1 h2 h3 h4 h5 h6 h7 h8 h9 h10 h11), by unfold nodeOK; grind [canon0]⟩
                        · skip
                          exact ⟨_, (ref09_right_r9 h0 h1 h2 h3 h4 h5 h6 h7 h8 h9 h10 h11), by unfold nodeOK; grind [canon0]⟩
                    · skip
                      rcases Classical.em (x.Kind = 1) with h10 | h10
                      · skip
                        rcases Classical.em ((x.Sub.xs.length : Int) > 0) with h11 | h11
                        · skip
                          exact ⟨_, (ref09_right_r11 h0 h1 h2 h3 h4 h5 h6 h7 h8 h9 h10 h11), by unfold nodeOK; grind [canon0]⟩
                        · skip
                          rcases hsub with ⟨ha, _, h12⟩ | ⟨ha, h12⟩
                          · skip
                            exact ⟨_, (ref09_right_r13 h0 h1 h2 h3 h4 h5 h6 h7 h8 h9 h10 h11 h12), by unfold nodeOK; grind [canon0]⟩
                          · skip
                            exact ⟨_, (ref09_right_r12 h0 h1 h2 h3 h4 h5 h6 h7 h8 h9 h10 h11 h12), by unfold nodeOK; grind [canon0]⟩
                      · skip
                        rcases Classical.em (x.Kind = 6) with h11 | h11
                        · skip
                          rcases Classical.em ((x.Sub.xs.length : Int) > 0) with h12 | h12
                          · skip
                            exact ⟨_, (ref09_right_r14 h0 h1 h2 h3 h4 h5 h6 h7 h8 h9 h10 h11 h12), by unfold nodeOK; grind [canon0]⟩
                          · skip
                            rcases hsub with ⟨ha, _, h13⟩ | ⟨ha, h13⟩
                            · skip
                              exact ⟨_, (ref09_right_r16 h0 h1 h2 h3 h4 h5 h6 h7 h8 h9 h10 h11 h12 h13), by unfold nodeOK; grind [canon0]⟩
                            · skip
                              exact ⟨_, (ref09_right_r15 h0 h1 h2 h3 h4 h5 h6 h7 h8 h9 h10 h11 h12 h13), by unfold nodeOK; grind [canon0]⟩
                        · skip
                          rcases Classical.em (x.Kind = 7) with h12 | h12
                          · skip
                            rcases Classical.em ((x.Sub.xs.length : Int) > 0) with h13 | h13
                            · skip
                              exact ⟨_, (ref09_right_r17 h0 h1 h2 h3 h4 h5 h6 h7 h8 h9 h10 h11 h12 h13), by unfold nodeOK; grind [canon0]⟩
                            · skip
                              rcases hsub with ⟨ha, _, h14⟩ | ⟨ha, h14⟩
                              · skip
                                exact ⟨_, (ref09_right_r19 h0 h1 h2 h3 h4 h5 h6 h7 h8 h9 h10 h11 h12 h13 h14), by unfold nodeOK; grind [canon0]⟩
                              · skip
                                exact ⟨_, (ref09_right_r18 h0 h1 h2 h3 h4 h5 h6 h7 h8 h9 h10 h11 h12 h13 h14), by unfold nodeOK; grind [canon0]⟩
                          · skip
                            rcases Classical.em (x.Kind = 8) with h13 | h13
                            · skip
                              rcases Classical.em ((x.Sub.xs.length : Int) > 0) with h14 | h14
                              · skip
                                exact ⟨_, (ref09_right_r20 h0 h1 h2 h3 h4 h5 h6 h7 h8 h9 h10 h11 h12 h13 h14), by unfold nodeOK; grind [canon0]⟩
                              · skip
                                rcases hsub with ⟨ha, _, h15⟩ | ⟨ha, h15⟩
                                · skip
                                  exact ⟨_, (ref09_right_r22 h0 h1 h2 h3 h4 h5 h6 h7 h8 h9 h10 h11 h12 h13 h14 h15), by unfold nodeOK; grind [canon0]⟩
                                · skip
                                  exact ⟨_, (ref09_right_r21 h0 h1 h2 h3 h4 h5 h6 h7 h8 h9 h10 h11 h12 h13 h14 h15), by unfold nodeOK; grind [canon0]⟩
                            · skip
                              rcases Classical.em (x.Kind = 9) with h14 | h14
                              · skip
                                rcases Classical.em ((x.Sub.xs.length : Int) > 0) with h15 | h15
                                · skip
                                  exact ⟨_, (ref09_right_r23 h0 h1 h2 h3 h4 h5 h6 h7 h8 h9 h10 h11 h12 h13 h14 h15), by unfold nodeOK; grind [canon0]⟩
                                · skip
                                  rcases hsub with ⟨ha, _, h16⟩ | ⟨ha, h16⟩
                                  · skip
                                    exact ⟨_, (ref09_right_r25 h0 h1 h2 h3 h4 h5 h6 h7 h8 h9 h10 h11 h12 h13 h14 h15 h16), by unfold nodeOK; grind [canon0]⟩
                                  · skip
                                    exact ⟨_, (ref09_right_r24 h0 h1 h2 h3 h4 h5 h6 h7 h8 h9 h10 h11 h12 h13 h14 h15 h16), by unfold nodeOK; grind [canon0]⟩
                              · skip
                                exact ⟨_, (ref09_right_r26 h0 h1 h2 h3 h4 h5 h6 h7 h8 h9 h10 h11 h12 h13 h14), by unfold nodeOK; grind [canon0]⟩
                · skip
                  exact ⟨_, (ref09_right_r27 h0 h1 h2 h3 h4 h5 h6 h7), by unfold nodeOK; grind [canon0]⟩
            · skip
              exact ⟨_, (ref09_right_r3 h0 h1 h2 h3 h4 h5), by unfold nodeOK; grind [canon0]⟩
          · skip
            exact ⟨_, (ref09_right_r2 h0 h1 h2 h3 h4), by unfold nodeOK; grind [canon0]⟩
end Go.Proofs.Ytgoalemieifcdaa.V

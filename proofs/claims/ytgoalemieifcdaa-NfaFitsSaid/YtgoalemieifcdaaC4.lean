/- What is compiled; the law NfaFits. -/
import Derived.Test.YtgoalemieifcdaaC3
namespace Go.Proofs.Ytgoalemieifcdaa.V
open Go
set_option linter.unusedVariables false
set_option linter.unusedSimpArgs false
set_option linter.unusedSectionVars false
set_option linter.unnecessarySimpa false
def doneS : State := State.mk 7 ⟨0, [], true⟩ 0 0
theorem compile_run {x : Rx} {most : Int} (hx : wf_Rx x) (h : rightR 1000 x) (hc : rx_Check x 0) :
    (totR 1000 x + 1 ≤ 65536 ∧ totR 1000 x + 1 ≤ most ∧ ∃ l : List State, nfa_Compile x most ⟨4, l ++ [doneS], false⟩ 0 ∧ l.map ps = comp 1000 0 x) ∨
      ((65536 < totR 1000 x + 1 ∨ most < totR 1000 x + 1) ∧ nfa_Compile x most ⟨4, [], true⟩ 100) := by
  have t0 := totR_nonneg 1000 h
  have hs := Size_run hx h hc (m := 65536) (by omega) (by omega)
  by_cases c1 : min (totR 1000 x + 1) (65536 + 1) > most
  · exact .inr ⟨by omega, nfa_Compile_r1 hs rfl c1⟩
  by_cases c2 : min (totR 1000 x + 1) (65536 + 1) > 65536
  · exact .inr ⟨by omega, nfa_Compile_r2 hs rfl c1 c2⟩
  refine .inl ⟨by omega, by omega, ?_⟩
  obtain ⟨m, l, t', g1, g2⟩ := (build_run 1000 hx h).2 [] true (by simp; omega)
  have hl := len_ps g2
  rw [List.length_nil] at hl
  have hcl := comp_len 1000 0 h
  rw [List.length_nil, List.map_nil, List.nil_append] at g2
  refine ⟨l, ?_, g2⟩
  cases m with
  | false =>
    have e : l = [] := List.eq_nil_of_length_eq_zero (by have := g1.2.2; simpa using this)
    have := nfa_Compile_r3 hs rfl c1 c2 g1.1 (Nat.zero_le _)
    rw [List.take_zero] at this
    rw [e]
    exact this
  | true =>
    have := nfa_Compile_r4 hs rfl c1 c2 g1 (by rw [Int.toNat_natCast]; exact Nat.le_refl _) (by rw [Int.toNat_natCast]; omega) (by rw [Int.toNat_natCast]; exact Nat.le_refl _)
    rw [Int.toNat_natCast, List.take_length] at this
    exact this
theorem Canon.len {l : List Range} (h : Canon l) : l.length ≤ 1114112 ∧ ∀ r, l.head? = some r → (l.length : Int) + r.From ≤ 1114112 := by
  induction h with
  | nil => exact ⟨by simp, fun r hr => by simp at hr⟩
  | one h =>
    refine ⟨by simp, fun r hr => ?_⟩
    simp at hr
    subst hr
    unfold okR top at h
    simp only [List.length_singleton]
    omega
  | @cons a b l h g t ih =>
    have h1 := ih.2 b rfl
    unfold gap at g
    unfold okR at h
    have h2 := ih.1
    simp only [List.length_cons] at h1 h2 ⊢
    exact ⟨by omega, fun r hr => by simp at hr; subst hr; omega⟩
theorem comp_fits {x : Rx} (h : rightR 1000 x) (hb : totR 1000 x + 1 ≤ 65536) {l : List State} (hl : l.map ps = comp 1000 0 x) : (l.length : Int) = totR 1000 x ∧ (∀ s ∈ l, okP l.length (ps s)) := by
  have h1 := comp_len 1000 0 h
  have h2 := congrArg List.length hl
  rw [List.length_map] at h2
  refine ⟨by omega, fun s hs => ?_⟩
  have h3 := comp_ok 1000 0 h (ps s) (by rw [← hl]; exact List.mem_map_of_mem hs)
  rw [Nat.zero_add, ← h2] at h3
  exact h3
theorem fits_okL {l : List State} (h : ∀ s ∈ l, okP l.length (ps s)) (hn : l.length < 65536) : wfStates ⟨4, l ++ [doneS], false⟩ ∧ okL ⟨4, l ++ [doneS], false⟩ := by
  have hc : ∀ s ∈ l ++ [doneS], Canon s.Ranges.xs := fun s hs => by
    rcases List.mem_append.1 hs with hs | hs
    · exact (h s hs).2.2.2.2.2.2
    · rw [List.mem_singleton.1 hs]; exact .nil
  refine ⟨⟨?_, fun s hs => ?_⟩, ?_, fun s hs => ?_⟩
  · unfold small
    simp only [List.length_append, List.length_singleton]
    omega
  · have := (hc s hs).len.1
    unfold small
    omega
  · simp
  · have hcs := hc s hs
    rcases List.mem_append.1 hs with hs | hs
    · obtain ⟨a1, a2, a3, a4, a5, a6, a7⟩ := h s hs
      have e : ((⟨4, l ++ [doneS], false⟩ : SL State).xs.length : Int) = (l.length : Int) + 1 := by simp
      unfold okS
      unfold ps at *
      dsimp only at *
      refine ⟨a1, by omega, fun _ => ⟨a3.1, by simp; omega⟩, fun k => by omega, fun k => ?_, a5, a6, mergeR_self hcs⟩
      have := a4 k
      exact ⟨this.1, by simp; omega⟩
    · rw [List.mem_singleton.1 hs]
      exact ⟨by decide, by decide, fun h => absurd rfl h, fun _ => rfl, fun h => absurd (show (7 : Int) = 2 from h) (by decide), fun _ => rfl, fun _ => rfl, mergeR_self .nil⟩
theorem fits_loop {l : SL State} {n : Int} (hn : (l.xs.length : Int) = n) (hn2 : n < 100000) (h7 : ∀ (i : Nat) (s : State), l.xs[i]? = some s → (s.Kind = 7 ↔ (i : Int) = n - 1)) : ∀ (rest : List State) (k : Nat), l.xs.drop k = rest → ∃ z, law_NfaFits_l0 l n k (law_NfaFits_l0_x1 l n z)
  | [], k, hd => by
    have := drop_nil_le hd
    exact ⟨k, law_NfaFits_l0_e4 (by omega)⟩
  | s :: rest, k, hd => by
    obtain ⟨h1, h2, h3⟩ := at_drop hd
    obtain ⟨z, hz⟩ := fits_loop hn hn2 h7 rest (k + 1) h2
    have h8 := h7 k s (by rw [Int.toNat_natCast] at h1; exact h1)
    refine ⟨z, ?_⟩
    by_cases c : s.Kind = 7
    · exact law_NfaFits_l0_s0 (by omega) (by omega) h1 c (in64 (by omega) (by omega)) (h8.1 c) (in64 (by omega) (by omega)) hz
    · exact law_NfaFits_l0_s3 (by omega) (by omega) h1 c (in64 (by omega) (by omega)) (fun e => c (h8.2 e)) (in64 (by omega) (by omega)) hz
theorem fits_true {x : Rx} {most : Int} (hx : wf_Rx x) : law_NfaFits x most true := by
  rcases checks_rx hx with ⟨h, h1, h2⟩ | ⟨h, h1, h2⟩
  · have hs := Size_run hx h h1 (m := 65536) (by omega) (by omega)
    have t0 := totR_nonneg 1000 h
    rcases compile_run (most := most) hx h h1 with ⟨b1, b2, l, hc, hl⟩ | ⟨b, hc⟩
    · obtain ⟨f1, f2⟩ := comp_fits h b1 hl
      obtain ⟨f3, f4⟩ := fits_okL f2 (by omega)
      have e : min (totR 1000 x + 1) (65536 + 1) = totR 1000 x + 1 := by omega
      rw [e] at hs
      have el : (((⟨4, l ++ [doneS], false⟩ : SL State).xs.length : Nat) : Int) = totR 1000 x + 1 := by simp; omega
      rcases check_run f3 with ⟨_, g⟩ | ⟨g, _⟩
      · obtain ⟨z, hz⟩ := fits_loop (l := ⟨4, l ++ [doneS], false⟩) (n := totR 1000 x + 1) el (by omega) (fun i s hi => by
          have hi' : (l ++ [doneS])[i]? = some s := hi
          rcases Nat.lt_or_ge i l.length with hlt | hge
          · rw [List.getElem?_append_left hlt] at hi'
            have := f2 s (List.mem_of_getElem? hi')
            unfold okP ps at this
            dsimp only at this
            constructor
            · intro k; omega
            · intro k; omega
          · have hlt := (List.getElem?_eq_some_iff.1 hi').1
            simp at hlt
            have : i = l.length := by omega
            subst this
            simp at hi'
            subst hi'
            constructor
            · intro _; omega
            · intro _; rfl) _ 0 rfl
        exact law_NfaFits_r3 hc hs h2 rfl (by omega) (by omega) rfl rfl el g rfl hz heads_ok
      · exact absurd f4 g
    · by_cases c : min (totR 1000 x + 1) (65536 + 1) > most
      · exact law_NfaFits_r1 hc hs h2 rfl c rfl rfl heads_ok
      · exact law_NfaFits_r2 hc hs h2 rfl c (by omega) rfl rfl heads_ok
  · exact law_NfaFits_r0 (nfa_Compile_r0 (nfa_Size_r0 h1 (by decide)) (by decide)) (nfa_Size_r0 h1 (by decide)) h2 (by decide) rfl rfl heads_ok
end Go.Proofs.Ytgoalemieifcdaa.V

/- Numbers: limbs, what is reckoned, texts (several texts together). -/
import Derived.Test.YtkkekfehjbbhoaaGreatDoorVB
import Derived.Test.YtkkekfehjbbhoaaGreatDoorD2
import Derived.Lib.ItoaNum
namespace Go.Proofs.YtkkekfehjbbhoaaGreatDoor.V
section
open Go
set_option linter.unusedVariables false
set_option linter.unnecessarySimpa false
set_option linter.unusedSimpArgs false
set_option linter.unusedSectionVars false
abbrev E30 : D := .iface 95 (.ptr [(di 30)])
theorem nil_true : isNil .iface (.d D.nili) = some true := rfl
abbrev none_ : ByteArray := ⟨#[]⟩
/-- How many figures stand ahead. -/
def lead : List Int → Nat
  | [] => 0
  | d :: r => if 48 ≤ d ∧ d ≤ 57 then lead r + 1 else 0
theorem lead_le : ∀ l, lead l ≤ l.length
  | [] => by simp [lead]
  | d :: r => by
    unfold lead
    have := lead_le r
    split <;> simp <;> omega
theorem lead_figs : ∀ l : List Int, figs (l.take (lead l))
  | [] => by simpa [lead] using figs_nil
  | d :: r => by
    unfold lead
    split
    · rename_i h
      rw [List.take_succ_cons]
      exact figs_cons.2 ⟨h, lead_figs r⟩
    · simpa using figs_nil
theorem lead_all : ∀ {l : List Int}, figs l → ∀ (m : List Int), (∀ d, m.head? = some d → ¬ (48 ≤ d ∧ d ≤ 57)) → lead (l ++ m) = l.length
  | [], _, m, hm => by
    cases m with
    | nil => rfl
    | cons d r =>
      simp only [List.nil_append, lead]
      rw [if_neg (hm d rfl)]
      rfl
  | d :: r, h, m, hm => by
    rw [figs_cons] at h
    simp only [List.cons_append, lead, List.length_cons]
    rw [if_pos h.1, lead_all h.2 m hm]
theorem digits_loop {s : ByteArray} (hl : s.size < 281474976710656) : ∀ (rest : List Int) (i : Nat), (strInts s).drop i = rest → dec_digits_l0 s i (dec_digits_l0_x0 s ((i + lead rest : Nat) : Int))
  | [], i, hd => by
    have := drop_nil_le hd
    rw [strInts_len] at this
    exact dec_digits_l0_e3 (by omega)
  | d :: r, i, hd => by
    obtain ⟨k1, k2, k3⟩ := at_drop hd
    rw [strInts_len] at k3
    rw [Int.toNat_natCast] at k1
    obtain ⟨b, b1, b2⟩ := str_get k1
    unfold lead
    by_cases h1 : (b.toNat : Int) ≥ 48
    · by_cases h2 : (b.toNat : Int) ≤ 57
      · rw [if_pos (by omega)]
        have ih := digits_loop hl r (i + 1) k2
        rw [show i + (lead r + 1) = i + 1 + lead r by omega]
        exact dec_digits_l0_s0 (by omega) (by omega) (by rw [Int.toNat_natCast]; exact b1) h1 h2 (in64 (by omega) (by omega)) (by exact_mod_cast ih)
      · rw [if_neg (by omega)]
        exact dec_digits_l0_e1 (by omega) (by omega) (by rw [Int.toNat_natCast]; exact b1) h1 h2
    · rw [if_neg (by omega)]
      exact dec_digits_l0_e2 (by omega) (by omega) (by rw [Int.toNat_natCast]; exact b1) h1
theorem digits_run {s : ByteArray} (hl : s.size < 281474976710656) : (lead (strInts s) = 0 ∧ dec_digits s none_ none_ E30) ∨ (lead (strInts s) ≠ 0 ∧ dec_digits s (s.extract 0 (lead (strInts s))) (s.extract (lead (strInts s)) s.size) D.nili) := by
  have h := digits_loop hl (strInts s) 0 rfl
  have hle := lead_le (strInts s)
  rw [strInts_len] at hle
  rw [Nat.zero_add] at h
  by_cases h0 : lead (strInts s) = 0
  · exact .inl ⟨h0, dec_digits_r0 h (by omega)⟩
  · refine .inr ⟨h0, ?_⟩
    have := dec_digits_r1 h (by omega) (by omega) (by omega)
    rw [Int.toNat_natCast] at this
    exact this
theorem ext_size (s : ByteArray) (a b : Nat) : (s.extract a b).size ≤ s.size := by
  rw [← strInts_len, strInts_extract, List.length_drop, List.length_take, strInts_len]
  omega
theorem ext_lt {s : ByteArray} {a b N : Nat} (h : s.size < N) : (s.extract a b).size < N := Nat.lt_of_le_of_lt (ext_size s a b) h
/-- What digits cuts off, of any text. -/
theorem digits_cases {s : ByteArray} (hl : s.size < 281474976710656) : ∃ (a b : ByteArray) (e : D), dec_digits s a b e ∧ ((isNil .iface (.d e) = some true ∧ figs (strInts a) ∧ a.size ≠ 0 ∧ a.size ≤ s.size ∧ b.size ≤ s.size ∧ a.size + b.size = s.size) ∨ (isNil .iface (.d e) = some false ∧ e = E30)) := by
  rcases digits_run hl with ⟨h0, h⟩ | ⟨h0, h⟩
  · exact ⟨_, _, _, h, .inr ⟨rfl, rfl⟩⟩
  · have hle := lead_le (strInts s)
    rw [strInts_len] at hle
    have e1 : strInts (s.extract 0 (lead (strInts s))) = (strInts s).take (lead (strInts s)) := by rw [strInts_extract, List.drop_zero]
    have z1 : (s.extract 0 (lead (strInts s))).size = lead (strInts s) := by rw [← strInts_len, e1, List.length_take, strInts_len]; omega
    have z2 : (s.extract (lead (strInts s)) s.size).size = s.size - lead (strInts s) := by rw [← strInts_len, strInts_extract, List.length_drop, List.length_take, strInts_len]; omega
    exact ⟨_, _, _, h, .inl ⟨rfl, by rw [e1]; exact lead_figs _, by omega, by omega, by omega, by omega⟩⟩
theorem first_byte {s : ByteArray} (h : ¬ s = none_) : ∃ b : UInt8, s[Int.toNat 0]? = some b := by
  have hz : s.size ≠ 0 := fun e => h (empty_str.2 e)
  have : 0 < (strInts s).length := by rw [strInts_len]; omega
  obtain ⟨b, h1, _⟩ := str_get (List.getElem?_eq_getElem this)
  exact ⟨b, h1⟩
theorem pos_size {s : ByteArray} (h : ¬ s = none_) : 1 ≤ s.size := by
  have hz : s.size ≠ 0 := fun e => h (empty_str.2 e)
  omega
/-- An exponent's figures, as far as they count. -/
theorem expo_loop {sign : Int} {t : SL Int} (hl : t.xs.length < 281474976710656) : ∀ (rest : List Int) (k : Nat) (n : Int), t.xs.drop k = rest → figs rest → 0 ≤ n → n ≤ 99999999 →
    ∃ z0 z1, dec_exponent_l0 sign n t (t.xs.length : Int) k (dec_exponent_l0_x0 sign z0 t (t.xs.length : Int) z1) ∧ (0 ≤ z0 ∧ z0 ≤ 99999999) ∧ (hv n rest ≤ 99999999 → z0 = hv n rest)
  | [], k, n, hd, hf, h0, h1 => by
    have := drop_nil_le hd
    exact ⟨n, k, dec_exponent_l0_e1 (by omega), ⟨h0, h1⟩, fun _ => rfl⟩
  | d :: r, k, n, hd, hf, h0, h1 => by
    obtain ⟨k1, k2, k3⟩ := at_drop hd
    rw [figs_cons] at hf
    obtain ⟨z0, z1, g1, g2, g3⟩ := expo_loop (sign := sign) hl r (k + 1) (min (n * 10 + (d - 48)) 99999999) k2 hf.2 (by omega) (by omega)
    refine ⟨z0, z1, dec_exponent_l0_s0 (by omega) (by omega) k1 (in64 (by omega) (by omega)) (inU8 (by omega) (by omega)) (in64 (by omega) (by omega)) (in64 (by omega) (by omega)) (in64 (by omega) (by omega)) (by rw [show (k : Int) + 1 = ((k + 1 : Nat) : Int) by omega]; exact g1), g2, fun h => ?_⟩
    rw [hv] at h ⊢
    have hg := hv_ge hf.2 (x := n * 10 + (d - 48)) (by omega)
    have e : min (n * 10 + (d - 48)) 99999999 = n * 10 + (d - 48) := by omega
    rw [e] at g3
    exact g3 h
theorem expo_any {sign : Int} {r : ByteArray} (hl : r.size < 281474976710656) (hf : figs (strInts r)) : ∃ z0 z1, dec_exponent_l0 sign 0 ⟨1, strInts r, false⟩ ((strInts r).length : Int) 0 (dec_exponent_l0_x0 sign z0 ⟨1, strInts r, false⟩ ((strInts r).length : Int) z1) ∧ (0 ≤ z0 ∧ z0 ≤ 99999999) ∧ (hv 0 (strInts r) ≤ 99999999 → z0 = hv 0 (strInts r)) :=
  expo_loop (sign := sign) (t := ⟨1, strInts r, false⟩) (by rw [strInts_len]; exact hl) (strInts r) 0 0 rfl hf (by omega) (by omega)
set_option maxHeartbeats 4000000 in
/-- What an exponent is read as, of any text. -/
theorem exp_cases {s : ByteArray} (hl : s.size < 281474976710656) : ∃ (v : Int) (e : D), dec_exponent s v e ∧ ((isNil .iface (.d e) = some true ∧ -99999999 ≤ v ∧ v ≤ 99999999) ∨ (isNil .iface (.d e) = some false ∧ e = E30)) := by
  have q1 := ext_size s 1 s.size
  have q2 := ext_size (s.extract 1 s.size) 1 (s.extract 1 s.size).size
  rcases Classical.em (s = (⟨#[]⟩ : ByteArray)) with h0 | h0
  · skip
    exact ⟨_, _, (dec_exponent_r0 h0), by first | exact .inr ⟨rfl, rfl⟩ | exact .inl ⟨rfl, by omega, by omega⟩⟩
  · skip
    obtain ⟨b0, h1⟩ := first_byte (s := s) (by assumption)
    · skip
      rcases Classical.em ((b0.toNat : Int) = 101) with h2 | h2
      · skip
        have h3 : 1 ≤ s.size := pos_size (by assumption)
        rcases Classical.em ((s.extract 1 s.size) = (⟨#[]⟩ : ByteArray)) with h4 | h4
        · skip
          obtain ⟨r0, r1, r2, h5, hd⟩ := digits_cases (s := (s.extract 1 s.size)) (ext_lt hl)
          · skip
            rcases hd with ⟨h6, hf, _, hz1, _, _⟩ | ⟨h6, _⟩
            · skip
              rcases Classical.em (r1 = (⟨#[]⟩ : ByteArray)) with h7 | h7
              · skip
                obtain ⟨z0, z1, h8, hz, _⟩ := expo_any (sign := 1) (r := r0) (by omega) hf
                · skip
                  have h9 : w64 (1 * z0) := in64 (by omega) (by omega)
                  exact ⟨_, _, (dec_exponent_r14 h0 h1 h2 h3 h4 h5 h6 h7 h8 h9), by first | exact .inr ⟨rfl, rfl⟩ | exact .inl ⟨rfl, by omega, by omega⟩⟩
              · skip
                exact ⟨_, _, (dec_exponent_r15 h0 h1 h2 h3 h4 h5 h6 h7), by first | exact .inr ⟨rfl, rfl⟩ | exact .inl ⟨rfl, by omega, by omega⟩⟩
            · skip
              exact ⟨_, _, (dec_exponent_r16 h0 h1 h2 h3 h4 h5 h6), by first | exact .inr ⟨rfl, rfl⟩ | exact .inl ⟨rfl, by omega, by omega⟩⟩
        · skip
          obtain ⟨b1, h5⟩ := first_byte (s := s.extract 1 s.size) (by assumption)
          · skip
            rcases Classical.em ((b1.toNat : Int) = 43) with h6 | h6
            · skip
              have h7 : 1 ≤ (s.extract 1 s.size).size := pos_size (by assumption)
              obtain ⟨r0, r1, r2, h8, hd⟩ := digits_cases (s := ((s.extract 1 s.size).extract 1 ((s.extract 1 s.size).size))) (ext_lt (ext_lt hl))
              · skip
                rcases hd with ⟨h9, hf, _, hz1, _, _⟩ | ⟨h9, _⟩
                · skip
                  rcases Classical.em (r1 = (⟨#[]⟩ : ByteArray)) with h10 | h10
                  · skip
                    obtain ⟨z0, z1, h11, hz, _⟩ := expo_any (sign := 1) (r := r0) (by omega) hf
                    · skip
                      have h12 : w64 (1 * z0) := in64 (by omega) (by omega)
                      exact ⟨_, _, (dec_exponent_r17 h0 h1 h2 h3 h4 h5 h6 h7 h8 h9 h10 h11 h12), by first | exact .inr ⟨rfl, rfl⟩ | exact .inl ⟨rfl, by omega, by omega⟩⟩
                  · skip
                    exact ⟨_, _, (dec_exponent_r18 h0 h1 h2 h3 h4 h5 h6 h7 h8 h9 h10), by first | exact .inr ⟨rfl, rfl⟩ | exact .inl ⟨rfl, by omega, by omega⟩⟩
                · skip
                  exact ⟨_, _, (dec_exponent_r19 h0 h1 h2 h3 h4 h5 h6 h7 h8 h9), by first | exact .inr ⟨rfl, rfl⟩ | exact .inl ⟨rfl, by omega, by omega⟩⟩
            · skip
              rcases Classical.em ((b1.toNat : Int) = 45) with h7 | h7
              · skip
                have h8 : 1 ≤ (s.extract 1 s.size).size := pos_size (by assumption)
                obtain ⟨r0, r1, r2, h9, hd⟩ := digits_cases (s := ((s.extract 1 s.size).extract 1 ((s.extract 1 s.size).size))) (ext_lt (ext_lt hl))
                · skip
                  rcases hd with ⟨h10, hf, _, hz1, _, _⟩ | ⟨h10, _⟩
                  · skip
                    rcases Classical.em (r1 = (⟨#[]⟩ : ByteArray)) with h11 | h11
                    · skip
                      obtain ⟨z0, z1, h12, hz, _⟩ := expo_any (sign := (-1)) (r := r0) (by omega) hf
                      · skip
                        have h13 : w64 ((-1) * z0) := in64 (by omega) (by omega)
                        exact ⟨_, _, (dec_exponent_r20 h0 h1 h2 h3 h4 h5 h6 h7 h8 h9 h10 h11 h12 h13), by first | exact .inr ⟨rfl, rfl⟩ | exact .inl ⟨rfl, by omega, by omega⟩⟩
                    · skip
                      exact ⟨_, _, (dec_exponent_r21 h0 h1 h2 h3 h4 h5 h6 h7 h8 h9 h10 h11), by first | exact .inr ⟨rfl, rfl⟩ | exact .inl ⟨rfl, by omega, by omega⟩⟩
                  · skip
                    exact ⟨_, _, (dec_exponent_r22 h0 h1 h2 h3 h4 h5 h6 h7 h8 h9 h10), by first | exact .inr ⟨rfl, rfl⟩ | exact .inl ⟨rfl, by omega, by omega⟩⟩
              · skip
                obtain ⟨r0, r1, r2, h8, hd⟩ := digits_cases (s := (s.extract 1 s.size)) (ext_lt hl)
                · skip
                  rcases hd with ⟨h9, hf, _, hz1, _, _⟩ | ⟨h9, _⟩
                  · skip
                    rcases Classical.em (r1 = (⟨#[]⟩ : ByteArray)) with h10 | h10
                    · skip
                      obtain ⟨z0, z1, h11, hz, _⟩ := expo_any (sign := 1) (r := r0) (by omega) hf
                      · skip
                        have h12 : w64 (1 * z0) := in64 (by omega) (by omega)
                        exact ⟨_, _, (dec_exponent_r23 h0 h1 h2 h3 h4 h5 h6 h7 h8 h9 h10 h11 h12), by first | exact .inr ⟨rfl, rfl⟩ | exact .inl ⟨rfl, by omega, by omega⟩⟩
                    · skip
                      exact ⟨_, _, (dec_exponent_r24 h0 h1 h2 h3 h4 h5 h6 h7 h8 h9 h10), by first | exact .inr ⟨rfl, rfl⟩ | exact .inl ⟨rfl, by omega, by omega⟩⟩
                  · skip
                    exact ⟨_, _, (dec_exponent_r25 h0 h1 h2 h3 h4 h5 h6 h7 h8 h9), by first | exact .inr ⟨rfl, rfl⟩ | exact .inl ⟨rfl, by omega, by omega⟩⟩
      · skip
        rcases Classical.em ((b0.toNat : Int) = 69) with h3 | h3
        · skip
          have h4 : 1 ≤ s.size := pos_size (by assumption)
          rcases Classical.em ((s.extract 1 s.size) = (⟨#[]⟩ : ByteArray)) with h5 | h5
          · skip
            obtain ⟨r0, r1, r2, h6, hd⟩ := digits_cases (s := (s.extract 1 s.size)) (ext_lt hl)
            · skip
              rcases hd with ⟨h7, hf, _, hz1, _, _⟩ | ⟨h7, _⟩
              · skip
                rcases Classical.em (r1 = (⟨#[]⟩ : ByteArray)) with h8 | h8
                · skip
                  obtain ⟨z0, z1, h9, hz, _⟩ := expo_any (sign := 1) (r := r0) (by omega) hf
                  · skip
                    have h10 : w64 (1 * z0) := in64 (by omega) (by omega)
                    exact ⟨_, _, (dec_exponent_r2 h0 h1 h2 h3 h4 h5 h6 h7 h8 h9 h10), by first | exact .inr ⟨rfl, rfl⟩ | exact .inl ⟨rfl, by omega, by omega⟩⟩
                · skip
                  exact ⟨_, _, (dec_exponent_r3 h0 h1 h2 h3 h4 h5 h6 h7 h8), by first | exact .inr ⟨rfl, rfl⟩ | exact .inl ⟨rfl, by omega, by omega⟩⟩
              · skip
                exact ⟨_, _, (dec_exponent_r4 h0 h1 h2 h3 h4 h5 h6 h7), by first | exact .inr ⟨rfl, rfl⟩ | exact .inl ⟨rfl, by omega, by omega⟩⟩
          · skip
            obtain ⟨b1, h6⟩ := first_byte (s := s.extract 1 s.size) (by assumption)
            · skip
              rcases Classical.em ((b1.toNat : Int) = 43) with h7 | h7
              · skip
                have h8 : 1 ≤ (s.extract 1 s.size).size := pos_size (by assumption)
                obtain ⟨r0, r1, r2, h9, hd⟩ := digits_cases (s := ((s.extract 1 s.size).extract 1 ((s.extract 1 s.size).size))) (ext_lt (ext_lt hl))
                · skip
                  rcases hd with ⟨h10, hf, _, hz1, _, _⟩ | ⟨h10, _⟩
                  · skip
                    rcases Classical.em (r1 = (⟨#[]⟩ : ByteArray)) with h11 | h11
                    · skip
                      obtain ⟨z0, z1, h12, hz, _⟩ := expo_any (sign := 1) (r := r0) (by omega) hf
                      · skip
                        have h13 : w64 (1 * z0) := in64 (by omega) (by omega)
                        exact ⟨_, _, (dec_exponent_r5 h0 h1 h2 h3 h4 h5 h6 h7 h8 h9 h10 h11 h12 h13), by first | exact .inr ⟨rfl, rfl⟩ | exact .inl ⟨rfl, by omega, by omega⟩⟩
                    · skip
                      exact ⟨_, _, (dec_exponent_r6 h0 h1 h2 h3 h4 h5 h6 h7 h8 h9 h10 h11), by first | exact .inr ⟨rfl, rfl⟩ | exact .inl ⟨rfl, by omega, by omega⟩⟩
                  · skip
                    exact ⟨_, _, (dec_exponent_r7 h0 h1 h2 h3 h4 h5 h6 h7 h8 h9 h10), by first | exact .inr ⟨rfl, rfl⟩ | exact .inl ⟨rfl, by omega, by omega⟩⟩
              · skip
                rcases Classical.em ((b1.toNat : Int) = 45) with h8 | h8
                · skip
                  have h9 : 1 ≤ (s.extract 1 s.size).size := pos_size (by assumption)
                  obtain ⟨r0, r1, r2, h10, hd⟩ := digits_cases (s := ((s.extract 1 s.size).extract 1 ((s.extract 1 s.size).size))) (ext_lt (ext_lt hl))
                  · skip
                    rcases hd with ⟨h11, hf, _, hz1, _, _⟩ | ⟨h11, _⟩
                    · skip
                      rcases Classical.em (r1 = (⟨#[]⟩ : ByteArray)) with h12 | h12
                      · skip
                        obtain ⟨z0, z1, h13, hz, _⟩ := expo_any (sign := (-1)) (r := r0) (by omega) hf
                        · skip
                          have h14 : w64 ((-1) * z0) := in64 (by omega) (by omega)
                          exact ⟨_, _, (dec_exponent_r8 h0 h1 h2 h3 h4 h5 h6 h7 h8 h9 h10 h11 h12 h13 h14), by first | exact .inr ⟨rfl, rfl⟩ | exact .inl ⟨rfl, by omega, by omega⟩⟩
                      · skip
                        exact ⟨_, _, (dec_exponent_r9 h0 h1 h2 h3 h4 h5 h6 h7 h8 h9 h10 h11 h12), by first | exact .inr ⟨rfl, rfl⟩ | exact .inl ⟨rfl, by omega, by omega⟩⟩
                    · skip
                      exact ⟨_, _, (dec_exponent_r10 h0 h1 h2 h3 h4 h5 h6 h7 h8 h9 h10 h11), by first | exact .inr ⟨rfl, rfl⟩ | exact .inl ⟨rfl, by omega, by omega⟩⟩
                · skip
                  obtain ⟨r0, r1, r2, h9, hd⟩ := digits_cases (s := (s.extract 1 s.size)) (ext_lt hl)
                  · skip
                    rcases hd with ⟨h10, hf, _, hz1, _, _⟩ | ⟨h10, _⟩
                    · skip
                      rcases Classical.em (r1 = (⟨#[]⟩ : ByteArray)) with h11 | h11
                      · skip
                        obtain ⟨z0, z1, h12, hz, _⟩ := expo_any (sign := 1) (r := r0) (by omega) hf
                        · skip
                          have h13 : w64 (1 * z0) := in64 (by omega) (by omega)
                          exact ⟨_, _, (dec_exponent_r11 h0 h1 h2 h3 h4 h5 h6 h7 h8 h9 h10 h11 h12 h13), by first | exact .inr ⟨rfl, rfl⟩ | exact .inl ⟨rfl, by omega, by omega⟩⟩
                      · skip
                        exact ⟨_, _, (dec_exponent_r12 h0 h1 h2 h3 h4 h5 h6 h7 h8 h9 h10 h11), by first | exact .inr ⟨rfl, rfl⟩ | exact .inl ⟨rfl, by omega, by omega⟩⟩
                    · skip
                      exact ⟨_, _, (dec_exponent_r13 h0 h1 h2 h3 h4 h5 h6 h7 h8 h9 h10), by first | exact .inr ⟨rfl, rfl⟩ | exact .inl ⟨rfl, by omega, by omega⟩⟩
        · skip
          exact ⟨_, _, (dec_exponent_r1 h0 h1 h2 h3), by first | exact .inr ⟨rfl, rfl⟩ | exact .inl ⟨rfl, by omega, by omega⟩⟩
end
section
open Go
set_option linter.unusedVariables false
set_option linter.unnecessarySimpa false
set_option linter.unusedSimpArgs false
set_option linter.unusedSectionVars false
theorem prefix_cases {s p : ByteArray} (hp : p.size = 1) : (internal_stringslite_HasPrefix s p true ∧ 1 ≤ s.size) ∨ internal_stringslite_HasPrefix s p false := by
  by_cases h : (s.size : Int) ≥ (p.size : Int)
  · by_cases h2 : s.extract 0 ((p.size : Int)).toNat = p
    · exact .inl ⟨internal_stringslite_HasPrefix_r0 h (by omega) h2, by omega⟩
    · exact .inr (internal_stringslite_HasPrefix_r1 h (by omega) h2)
  · exact .inr (internal_stringslite_HasPrefix_r2 h)
theorem hasP_cases {s : ByteArray} : (strings_HasPrefix s (⟨#[46]⟩ : ByteArray) true ∧ 1 ≤ s.size) ∨ strings_HasPrefix s (⟨#[46]⟩ : ByteArray) false := by
  rcases prefix_cases (s := s) (p := ⟨#[46]⟩) rfl with ⟨h, h2⟩ | h
  · exact .inl ⟨strings_HasPrefix_r0 h, h2⟩
  · exact .inr (strings_HasPrefix_r1 h)
theorem cut_cases {s : ByteArray} : (∃ r, strings_CutPrefix s (⟨#[45]⟩ : ByteArray) r true ∧ r.size ≤ s.size) ∨ (∃ r, strings_CutPrefix s (⟨#[45]⟩ : ByteArray) r false ∧ r.size ≤ s.size) := by
  rcases prefix_cases (s := s) (p := ⟨#[45]⟩) rfl with ⟨h, h2⟩ | h
  · exact .inl ⟨_, strings_CutPrefix_r0 (internal_stringslite_CutPrefix_r0 h (by show (1 : Int).toNat ≤ _; omega)), ext_size _ _ _⟩
  · exact .inr ⟨_, strings_CutPrefix_r1 (internal_stringslite_CutPrefix_r1 h), Nat.le_refl _⟩
def trimR (s : ByteArray) : ByteArray := ⟨(Lib.trimRightS s.data.toList [48]).toArray⟩
def trimLe (s : ByteArray) : ByteArray := ⟨(Lib.trimLeftS s.data.toList [48]).toArray⟩
theorem ints_of (l : List UInt8) : strInts ⟨l.toArray⟩ = l.map fun b => (b.toNat : Int) := by simp [strInts]
theorem size_of (l : List UInt8) : (⟨l.toArray⟩ : ByteArray).size = l.length := by rw [← strInts_len, ints_of, List.length_map]
theorem size_data (s : ByteArray) : s.data.toList.length = s.size := by rw [Array.length_toList]; rfl
theorem dropWhile_len {α : Type} (p : α → Bool) (l : List α) : (l.dropWhile p).length ≤ l.length := (List.dropWhile_sublist _).length_le
theorem trimR_size (s : ByteArray) : (trimR s).size ≤ s.size := by
  unfold trimR Lib.trimRightS
  rw [size_of, List.length_reverse, ← size_data]
  have := dropWhile_len (([48] : List UInt8).contains ·) s.data.toList.reverse
  simpa using this
theorem trimLe_size (s : ByteArray) : (trimLe s).size ≤ s.size := by
  unfold trimLe Lib.trimLeftS
  rw [size_of, ← size_data]
  exact dropWhile_len _ _
theorem trimR_cases (s : ByteArray) (hs : s.size ≤ 9223372036854775807) : ∃ r, strings_TrimRight s (⟨#[48]⟩ : ByteArray) r ∧ r = trimR s ∧ r.size ≤ s.size :=
  ⟨trimR s, R_trimRight (s := s) (c := (⟨#[48]⟩ : ByteArray)) (by decide) hs, rfl, trimR_size s⟩
theorem trimL_cases (s : ByteArray) : ∃ r, strings_TrimLeft s (⟨#[48]⟩ : ByteArray) r ∧ r = trimLe s ∧ r.size ≤ s.size :=
  ⟨trimLe s, R_trimLeft (s := s) (c := (⟨#[48]⟩ : ByteArray)) (by decide), rfl, trimLe_size s⟩
theorem head_dropWhile {α : Type} {p : α → Bool} : ∀ {l : List α} {x : α}, (l.dropWhile p).head? = some x → p x = false
  | [], x, h => by simp at h
  | y :: r, x, h => by
    rw [List.dropWhile_cons] at h
    split at h
    · exact head_dropWhile h
    · rename_i hp
      simp at h
      subst h
      simpa using hp
theorem last_dropWhile {α : Type} {p : α → Bool} : ∀ {l : List α}, l.dropWhile p ≠ [] → (l.dropWhile p).getLast? = l.getLast?
  | [], h => absurd rfl h
  | y :: r, h => by
    rw [List.dropWhile_cons] at h ⊢
    split at h
    · rename_i hp
      rw [if_pos hp, last_dropWhile h]
      cases r with
      | nil => exact absurd rfl h
      | cons z r => rw [List.getLast?_cons_cons]
    · rename_i hp
      rw [if_neg hp]
theorem not48 {b : UInt8} (h : (([48] : List UInt8).contains b) = false) : (b.toNat : Int) ≠ 48 := by
  intro e
  have : b = 48 := UInt8.toNat_inj.1 (by show b.toNat = 48; omega)
  subst this
  simp at h
/-- What is left of figures without noughts at the ends. -/
theorem trimmed_ok {all r9 r10 : ByteArray} {neg : Bool} {e : Int} (hf : figs (strInts all)) (h9 : r9 = trimR all) (h10 : r10 = trimLe r9) (hne : ¬ r10 = none_) (hn : all.size ≤ 65536) (he : -1000000 ≤ e) (he2 : e ≤ 1000000) : okD ⟨neg, r10, e⟩ := by
  subst h9
  have hz : r10.size ≠ 0 := fun h => hne (empty_str.2 h)
  have s1 := trimR_size all
  have s2 := trimLe_size (trimR all)
  rw [← h10] at s2
  have eT : strInts r10 = ((Lib.trimRightS all.data.toList [48]).dropWhile (([48] : List UInt8).contains ·)).map fun b => (b.toNat : Int) := by
    rw [h10]
    unfold trimLe Lib.trimLeftS trimR
    rw [ints_of]
  have hTne : (Lib.trimRightS all.data.toList [48]).dropWhile (([48] : List UInt8).contains ·) ≠ [] := fun h => by
    rw [h] at eT
    have := congrArg List.length eT
    rw [strInts_len] at this
    exact hz this
  refine .inr ⟨hz, by dsimp only; omega, ?_, ?_, ?_, he, he2⟩
  · show (strInts r10).head? ≠ some 48
    rw [eT, List.head?_map]
    intro h
    rw [Option.map_eq_some_iff] at h
    obtain ⟨b, h1, h2⟩ := h
    exact not48 (head_dropWhile h1) h2
  · show (strInts r10).getLast? ≠ some 48
    rw [eT, List.getLast?_map, last_dropWhile hTne]
    unfold Lib.trimRightS
    rw [List.getLast?_reverse]
    intro h
    rw [Option.map_eq_some_iff] at h
    obtain ⟨b, h1, h2⟩ := h
    exact not48 (head_dropWhile h1) h2
  · show figs (strInts r10)
    rw [eT]
    intro d hd
    obtain ⟨b, hb, rfl⟩ := List.mem_map.1 hd
    have h1 := (List.dropWhile_sublist _).subset hb
    unfold Lib.trimRightS at h1
    have h2 := (List.dropWhile_sublist _).subset (List.mem_reverse.1 h1)
    exact hf _ (List.mem_map.2 ⟨b, List.mem_reverse.1 h2, rfl⟩)
theorem figs_both {a b : ByteArray} (ha : figs (strInts a)) (hb : figs (strInts b)) : figs (strInts (a ++ b)) := by
  rw [strInts_app]
  intro d hd
  rcases List.mem_append.1 hd with h | h
  · exact ha d h
  · exact hb d h
theorem figs_none : figs (strInts none_) := figs_nil
theorem ok_none : okD ⟨false, none_, 0⟩ := .inl ⟨rfl, rfl, rfl⟩
set_option maxHeartbeats 4000000 in
/-- What a text is read as: a number that may be, if it is not too large; or it is none. -/
theorem parsed_cases {s : ByteArray} (hl : s.size < 281474976710656) : ∃ (d : Dec) (n : Int) (e : D), dec_parsed s d n e ∧ ((isNil .iface (.d e) = some true ∧ (n ≤ 65536 → -1000000 ≤ d.Exp → d.Exp ≤ 1000000 → okD d)) ∨ (isNil .iface (.d e) = some false ∧ e = E30)) := by
  have hz0 : (⟨#[]⟩ : ByteArray).size = 0 := rfl
  rcases cut_cases (s := s) with ⟨r0, h0, hcut⟩ | ⟨r0, h0, hcut⟩
  · skip
    obtain ⟨r1, r2, r3, h1, hd_r3⟩ := digits_cases (s := r0) (by omega)
    · skip
      rcases hd_r3 with ⟨h2, hf_r3, hn_r3, hs_r3, ht_r3, hu_r3⟩ | ⟨h2, he_r3⟩
      · skip
        rcases Classical.em ((r1.size : Int) > 1) with h3 | h3
        · skip
          obtain ⟨b0, h4⟩ := first_byte (s := r1) (fun e => by have := empty_str.1 e; omega)
          · skip
            rcases Classical.em ((b0.toNat : Int) = 48) with h5 | h5
            · skip
              exact ⟨_, _, _, (dec_parsed_r0 h0 h1 h2 h3 h4 h5), by first | exact .inr ⟨rfl, rfl⟩ | exact .inr ⟨by assumption, by assumption⟩ | exact .inl ⟨rfl, fun _ _ _ => ok_none⟩ | exact .inl ⟨rfl, fun a b c => trimmed_ok (by first | exact figs_both (by assumption) (by assumption) | exact figs_both (by assumption) figs_none) hR hL (by assumption) (by omega) b c⟩⟩
            · skip
              rcases hasP_cases (s := r2) with ⟨h6, hp⟩ | h6
              · skip
                have h7 : 1 ≤ r2.size := hp
                have hE := ext_size r2 1 r2.size; obtain ⟨r4, r5, r6, h8, hd_r6⟩ := digits_cases (s := (r2.extract 1 r2.size)) (ext_lt (by omega))
                · skip
                  rcases hd_r6 with ⟨h9, hf_r6, hn_r6, hs_r6, ht_r6, hu_r6⟩ | ⟨h9, he_r6⟩
                  · skip
                    obtain ⟨r7, r8, h10, hd_r8⟩ := exp_cases (s := r5) (by omega)
                    · skip
                      rcases hd_r8 with ⟨h11, hb_r8, hc_r8⟩ | ⟨h11, he_r8⟩
                      · skip
                        have h12 : r1.size + r4.size ≤ 9223372036854775807 := by omega
                        have hA := @ByteArray.size_append r1 r4; obtain ⟨r9, h13, hR, hRz⟩ := trimR_cases (r1 ++ r4) (by omega)
                        · skip
                          obtain ⟨r10, h14, hL, _⟩ := trimL_cases r9
                          · skip
                            have h15 : w64 (r7 - (r4.size : Int)) := in64 (by omega) (by omega)
                            have h16 : w64 ((r7 - (r4.size : Int)) + ((r1 ++ r4).size : Int)) := in64 (by omega) (by omega)
                            have h17 : w64 (((r7 - (r4.size : Int)) + ((r1 ++ r4).size : Int)) - (r9.size : Int)) := in64 (by omega) (by omega)
                            rcases Classical.em (r10 = (⟨#[]⟩ : ByteArray)) with h18 | h18
                            · skip
                              exact ⟨_, _, _, (dec_parsed_r1 h0 h1 h2 h3 h4 h5 h6 h7 h8 h9 h10 h11 h12 h13 h14 h15 h16 h17 h18), by first | exact .inr ⟨rfl, rfl⟩ | exact .inr ⟨by assumption, by assumption⟩ | exact .inl ⟨rfl, fun _ _ _ => ok_none⟩ | exact .inl ⟨rfl, fun a b c => trimmed_ok (by first | exact figs_both (by assumption) (by assumption) | exact figs_both (by assumption) figs_none) hR hL (by assumption) (by omega) b c⟩⟩
                            · skip
                              exact ⟨_, _, _, (dec_parsed_r2 h0 h1 h2 h3 h4 h5 h6 h7 h8 h9 h10 h11 h12 h13 h14 h15 h16 h17 h18), by first | exact .inr ⟨rfl, rfl⟩ | exact .inr ⟨by assumption, by assumption⟩ | exact .inl ⟨rfl, fun _ _ _ => ok_none⟩ | exact .inl ⟨rfl, fun a b c => trimmed_ok (by first | exact figs_both (by assumption) (by assumption) | exact figs_both (by assumption) figs_none) hR hL (by assumption) (by omega) b c⟩⟩
                      · skip
                        exact ⟨_, _, _, (dec_parsed_r3 h0 h1 h2 h3 h4 h5 h6 h7 h8 h9 h10 h11), by first | exact .inr ⟨rfl, rfl⟩ | exact .inr ⟨by assumption, by assumption⟩ | exact .inl ⟨rfl, fun _ _ _ => ok_none⟩ | exact .inl ⟨rfl, fun a b c => trimmed_ok (by first | exact figs_both (by assumption) (by assumption) | exact figs_both (by assumption) figs_none) hR hL (by assumption) (by omega) b c⟩⟩
                  · skip
                    exact ⟨_, _, _, (dec_parsed_r4 h0 h1 h2 h3 h4 h5 h6 h7 h8 h9), by first | exact .inr ⟨rfl, rfl⟩ | exact .inr ⟨by assumption, by assumption⟩ | exact .inl ⟨rfl, fun _ _ _ => ok_none⟩ | exact .inl ⟨rfl, fun a b c => trimmed_ok (by first | exact figs_both (by assumption) (by assumption) | exact figs_both (by assumption) figs_none) hR hL (by assumption) (by omega) b c⟩⟩
              · skip
                obtain ⟨r4, r5, h7, hd_r5⟩ := exp_cases (s := r2) (by omega)
                · skip
                  rcases hd_r5 with ⟨h8, hb_r5, hc_r5⟩ | ⟨h8, he_r5⟩
                  · skip
                    have h9 : r1.size + (⟨#[]⟩ : ByteArray).size ≤ 9223372036854775807 := by omega
                    have hA := @ByteArray.size_append r1 (⟨#[]⟩ : ByteArray); obtain ⟨r6, h10, hR, hRz⟩ := trimR_cases (r1 ++ (⟨#[]⟩ : ByteArray)) (by omega)
                    · skip
                      obtain ⟨r7, h11, hL, _⟩ := trimL_cases r6
                      · skip
                        have h12 : w64 (r4 - ((⟨#[]⟩ : ByteArray).size : Int)) := in64 (by omega) (by omega)
                        have h13 : w64 ((r4 - ((⟨#[]⟩ : ByteArray).size : Int)) + ((r1 ++ (⟨#[]⟩ : ByteArray)).size : Int)) := in64 (by omega) (by omega)
                        have h14 : w64 (((r4 - ((⟨#[]⟩ : ByteArray).size : Int)) + ((r1 ++ (⟨#[]⟩ : ByteArray)).size : Int)) - (r6.size : Int)) := in64 (by omega) (by omega)
                        rcases Classical.em (r7 = (⟨#[]⟩ : ByteArray)) with h15 | h15
                        · skip
                          exact ⟨_, _, _, (dec_parsed_r5 h0 h1 h2 h3 h4 h5 h6 h7 h8 h9 h10 h11 h12 h13 h14 h15), by first | exact .inr ⟨rfl, rfl⟩ | exact .inr ⟨by assumption, by assumption⟩ | exact .inl ⟨rfl, fun _ _ _ => ok_none⟩ | exact .inl ⟨rfl, fun a b c => trimmed_ok (by first | exact figs_both (by assumption) (by assumption) | exact figs_both (by assumption) figs_none) hR hL (by assumption) (by omega) b c⟩⟩
                        · skip
                          exact ⟨_, _, _, (dec_parsed_r6 h0 h1 h2 h3 h4 h5 h6 h7 h8 h9 h10 h11 h12 h13 h14 h15), by first | exact .inr ⟨rfl, rfl⟩ | exact .inr ⟨by assumption, by assumption⟩ | exact .inl ⟨rfl, fun _ _ _ => ok_none⟩ | exact .inl ⟨rfl, fun a b c => trimmed_ok (by first | exact figs_both (by assumption) (by assumption) | exact figs_both (by assumption) figs_none) hR hL (by assumption) (by omega) b c⟩⟩
                  · skip
                    exact ⟨_, _, _, (dec_parsed_r7 h0 h1 h2 h3 h4 h5 h6 h7 h8), by first | exact .inr ⟨rfl, rfl⟩ | exact .inr ⟨by assumption, by assumption⟩ | exact .inl ⟨rfl, fun _ _ _ => ok_none⟩ | exact .inl ⟨rfl, fun a b c => trimmed_ok (by first | exact figs_both (by assumption) (by assumption) | exact figs_both (by assumption) figs_none) hR hL (by assumption) (by omega) b c⟩⟩
        · skip
          rcases hasP_cases (s := r2) with ⟨h4, hp⟩ | h4
          · skip
            have h5 : 1 ≤ r2.size := hp
            have hE := ext_size r2 1 r2.size; obtain ⟨r4, r5, r6, h6, hd_r6⟩ := digits_cases (s := (r2.extract 1 r2.size)) (ext_lt (by omega))
            · skip
              rcases hd_r6 with ⟨h7, hf_r6, hn_r6, hs_r6, ht_r6, hu_r6⟩ | ⟨h7, he_r6⟩
              · skip
                obtain ⟨r7, r8, h8, hd_r8⟩ := exp_cases (s := r5) (by omega)
                · skip
                  rcases hd_r8 with ⟨h9, hb_r8, hc_r8⟩ | ⟨h9, he_r8⟩
                  · skip
                    have h10 : r1.size + r4.size ≤ 9223372036854775807 := by omega
                    have hA := @ByteArray.size_append r1 r4; obtain ⟨r9, h11, hR, hRz⟩ := trimR_cases (r1 ++ r4) (by omega)
                    · skip
                      obtain ⟨r10, h12, hL, _⟩ := trimL_cases r9
                      · skip
                        have h13 : w64 (r7 - (r4.size : Int)) := in64 (by omega) (by omega)
                        have h14 : w64 ((r7 - (r4.size : Int)) + ((r1 ++ r4).size : Int)) := in64 (by omega) (by omega)
                        have h15 : w64 (((r7 - (r4.size : Int)) + ((r1 ++ r4).size : Int)) - (r9.size : Int)) := in64 (by omega) (by omega)
                        rcases Classical.em (r10 = (⟨#[]⟩ : ByteArray)) with h16 | h16
                        · skip
                          exact ⟨_, _, _, (dec_parsed_r8 h0 h1 h2 h3 h4 h5 h6 h7 h8 h9 h10 h11 h12 h13 h14 h15 h16), by first | exact .inr ⟨rfl, rfl⟩ | exact .inr ⟨by assumption, by assumption⟩ | exact .inl ⟨rfl, fun _ _ _ => ok_none⟩ | exact .inl ⟨rfl, fun a b c => trimmed_ok (by first | exact figs_both (by assumption) (by assumption) | exact figs_both (by assumption) figs_none) hR hL (by assumption) (by omega) b c⟩⟩
                        · skip
                          exact ⟨_, _, _, (dec_parsed_r9 h0 h1 h2 h3 h4 h5 h6 h7 h8 h9 h10 h11 h12 h13 h14 h15 h16), by first | exact .inr ⟨rfl, rfl⟩ | exact .inr ⟨by assumption, by assumption⟩ | exact .inl ⟨rfl, fun _ _ _ => ok_none⟩ | exact .inl ⟨rfl, fun a b c => trimmed_ok (by first | exact figs_both (by assumption) (by assumption) | exact figs_both (by assumption) figs_none) hR hL (by assumption) (by omega) b c⟩⟩
                  · skip
                    exact ⟨_, _, _, (dec_parsed_r10 h0 h1 h2 h3 h4 h5 h6 h7 h8 h9), by first | exact .inr ⟨rfl, rfl⟩ | exact .inr ⟨by assumption, by assumption⟩ | exact .inl ⟨rfl, fun _ _ _ => ok_none⟩ | exact .inl ⟨rfl, fun a b c => trimmed_ok (by first | exact figs_both (by assumption) (by assumption) | exact figs_both (by assumption) figs_none) hR hL (by assumption) (by omega) b c⟩⟩
              · skip
                exact ⟨_, _, _, (dec_parsed_r11 h0 h1 h2 h3 h4 h5 h6 h7), by first | exact .inr ⟨rfl, rfl⟩ | exact .inr ⟨by assumption, by assumption⟩ | exact .inl ⟨rfl, fun _ _ _ => ok_none⟩ | exact .inl ⟨rfl, fun a b c => trimmed_ok (by first | exact figs_both (by assumption) (by assumption) | exact figs_both (by assumption) figs_none) hR hL (by assumption) (by omega) b c⟩⟩
          · skip
            obtain ⟨r4, r5, h5, hd_r5⟩ := exp_cases (s := r2) (by omega)
            · skip
              rcases hd_r5 with ⟨h6, hb_r5, hc_r5⟩ | ⟨h6, he_r5⟩
              · skip
                have h7 : r1.size + (⟨#[]⟩ : ByteArray).size ≤ 9223372036854775807 := by omega
                have hA := @ByteArray.size_append r1 (⟨#[]⟩ : ByteArray); obtain ⟨r6, h8, hR, hRz⟩ := trimR_cases (r1 ++ (⟨#[]⟩ : ByteArray)) (by omega)
                · skip
                  obtain ⟨r7, h9, hL, _⟩ := trimL_cases r6
                  · skip
                    have h10 : w64 (r4 - ((⟨#[]⟩ : ByteArray).size : Int)) := in64 (by omega) (by omega)
                    have h11 : w64 ((r4 - ((⟨#[]⟩ : ByteArray).size : Int)) + ((r1 ++ (⟨#[]⟩ : ByteArray)).size : Int)) := in64 (by omega) (by omega)
                    have h12 : w64 (((r4 - ((⟨#[]⟩ : ByteArray).size : Int)) + ((r1 ++ (⟨#[]⟩ : ByteArray)).size : Int)) - (r6.size : Int)) := in64 (by omega) (by omega)
                    rcases Classical.em (r7 = (⟨#[]⟩ : ByteArray)) with h13 | h13
                    · skip
                      exact ⟨_, _, _, (dec_parsed_r12 h0 h1 h2 h3 h4 h5 h6 h7 h8 h9 h10 h11 h12 h13), by first | exact .inr ⟨rfl, rfl⟩ | exact .inr ⟨by assumption, by assumption⟩ | exact .inl ⟨rfl, fun _ _ _ => ok_none⟩ | exact .inl ⟨rfl, fun a b c => trimmed_ok (by first | exact figs_both (by assumption) (by assumption) | exact figs_both (by assumption) figs_none) hR hL (by assumption) (by omega) b c⟩⟩
                    · skip
                      exact ⟨_, _, _, (dec_parsed_r13 h0 h1 h2 h3 h4 h5 h6 h7 h8 h9 h10 h11 h12 h13), by first | exact .inr ⟨rfl, rfl⟩ | exact .inr ⟨by assumption, by assumption⟩ | exact .inl ⟨rfl, fun _ _ _ => ok_none⟩ | exact .inl ⟨rfl, fun a b c => trimmed_ok (by first | exact figs_both (by assumption) (by assumption) | exact figs_both (by assumption) figs_none) hR hL (by assumption) (by omega) b c⟩⟩
              · skip
                exact ⟨_, _, _, (dec_parsed_r14 h0 h1 h2 h3 h4 h5 h6), by first | exact .inr ⟨rfl, rfl⟩ | exact .inr ⟨by assumption, by assumption⟩ | exact .inl ⟨rfl, fun _ _ _ => ok_none⟩ | exact .inl ⟨rfl, fun a b c => trimmed_ok (by first | exact figs_both (by assumption) (by assumption) | exact figs_both (by assumption) figs_none) hR hL (by assumption) (by omega) b c⟩⟩
      · skip
        exact ⟨_, _, _, (dec_parsed_r15 h0 h1 h2), by first | exact .inr ⟨rfl, rfl⟩ | exact .inr ⟨by assumption, by assumption⟩ | exact .inl ⟨rfl, fun _ _ _ => ok_none⟩ | exact .inl ⟨rfl, fun a b c => trimmed_ok (by first | exact figs_both (by assumption) (by assumption) | exact figs_both (by assumption) figs_none) hR hL (by assumption) (by omega) b c⟩⟩
  · skip
    obtain ⟨r1, r2, r3, h1, hd_r3⟩ := digits_cases (s := r0) (by omega)
    · skip
      rcases hd_r3 with ⟨h2, hf_r3, hn_r3, hs_r3, ht_r3, hu_r3⟩ | ⟨h2, he_r3⟩
      · skip
        rcases Classical.em ((r1.size : Int) > 1) with h3 | h3
        · skip
          obtain ⟨b0, h4⟩ := first_byte (s := r1) (fun e => by have := empty_str.1 e; omega)
          · skip
            rcases Classical.em ((b0.toNat : Int) = 48) with h5 | h5
            · skip
              exact ⟨_, _, _, (dec_parsed_r16 h0 h1 h2 h3 h4 h5), by first | exact .inr ⟨rfl, rfl⟩ | exact .inr ⟨by assumption, by assumption⟩ | exact .inl ⟨rfl, fun _ _ _ => ok_none⟩ | exact .inl ⟨rfl, fun a b c => trimmed_ok (by first | exact figs_both (by assumption) (by assumption) | exact figs_both (by assumption) figs_none) hR hL (by assumption) (by omega) b c⟩⟩
            · skip
              rcases hasP_cases (s := r2) with ⟨h6, hp⟩ | h6
              · skip
                have h7 : 1 ≤ r2.size := hp
                have hE := ext_size r2 1 r2.size; obtain ⟨r4, r5, r6, h8, hd_r6⟩ := digits_cases (s := (r2.extract 1 r2.size)) (ext_lt (by omega))
                · skip
                  rcases hd_r6 with ⟨h9, hf_r6, hn_r6, hs_r6, ht_r6, hu_r6⟩ | ⟨h9, he_r6⟩
                  · skip
                    obtain ⟨r7, r8, h10, hd_r8⟩ := exp_cases (s := r5) (by omega)
                    · skip
                      rcases hd_r8 with ⟨h11, hb_r8, hc_r8⟩ | ⟨h11, he_r8⟩
                      · skip
                        have h12 : r1.size + r4.size ≤ 9223372036854775807 := by omega
                        have hA := @ByteArray.size_append r1 r4; obtain ⟨r9, h13, hR, hRz⟩ := trimR_cases (r1 ++ r4) (by omega)
                        · skip
                          obtain ⟨r10, h14, hL, _⟩ := trimL_cases r9
                          · skip
                            have h15 : w64 (r7 - (r4.size : Int)) := in64 (by omega) (by omega)
                            have h16 : w64 ((r7 - (r4.size : Int)) + ((r1 ++ r4).size : Int)) := in64 (by omega) (by omega)
                            have h17 : w64 (((r7 - (r4.size : Int)) + ((r1 ++ r4).size : Int)) - (r9.size : Int)) := in64 (by omega) (by omega)
                            rcases Classical.em (r10 = (⟨#[]⟩ : ByteArray)) with h18 | h18
                            · skip
                              exact ⟨_, _, _, (dec_parsed_r17 h0 h1 h2 h3 h4 h5 h6 h7 h8 h9 h10 h11 h12 h13 h14 h15 h16 h17 h18), by first | exact .inr ⟨rfl, rfl⟩ | exact .inr ⟨by assumption, by assumption⟩ | exact .inl ⟨rfl, fun _ _ _ => ok_none⟩ | exact .inl ⟨rfl, fun a b c => trimmed_ok (by first | exact figs_both (by assumption) (by assumption) | exact figs_both (by assumption) figs_none) hR hL (by assumption) (by omega) b c⟩⟩
                            · skip
                              exact ⟨_, _, _, (dec_parsed_r18 h0 h1 h2 h3 h4 h5 h6 h7 h8 h9 h10 h11 h12 h13 h14 h15 h16 h17 h18), by first | exact .inr ⟨rfl, rfl⟩ | exact .inr ⟨by assumption, by assumption⟩ | exact .inl ⟨rfl, fun _ _ _ => ok_none⟩ | exact .inl ⟨rfl, fun a b c => trimmed_ok (by first | exact figs_both (by assumption) (by assumption) | exact figs_both (by assumption) figs_none) hR hL (by assumption) (by omega) b c⟩⟩
                      · skip
                        exact ⟨_, _, _, (dec_parsed_r19 h0 h1 h2 h3 h4 h5 h6 h7 h8 h9 h10 h11), by first | exact .inr ⟨rfl, rfl⟩ | exact .inr ⟨by assumption, by assumption⟩ | exact .inl ⟨rfl, fun _ _ _ => ok_none⟩ | exact .inl ⟨rfl, fun a b c => trimmed_ok (by first | exact figs_both (by assumption) (by assumption) | exact figs_both (by assumption) figs_none) hR hL (by assumption) (by omega) b c⟩⟩
                  · skip
                    exact ⟨_, _, _, (dec_parsed_r20 h0 h1 h2 h3 h4 h5 h6 h7 h8 h9), by first | exact .inr ⟨rfl, rfl⟩ | exact .inr ⟨by assumption, by assumption⟩ | exact .inl ⟨rfl, fun _ _ _ => ok_none⟩ | exact .inl ⟨rfl, fun a b c => trimmed_ok (by first | exact figs_both (by assumption) (by assumption) | exact figs_both (by assumption) figs_none) hR hL (by assumption) (by omega) b c⟩⟩
              · skip
                obtain ⟨r4, r5, h7, hd_r5⟩ := exp_cases (s := r2) (by omega)
                · skip
                  rcases hd_r5 with ⟨h8, hb_r5, hc_r5⟩ | ⟨h8, he_r5⟩
                  · skip
                    have h9 : r1.size + (⟨#[]⟩ : ByteArray).size ≤ 9223372036854775807 := by omega
                    have hA := @ByteArray.size_append r1 (⟨#[]⟩ : ByteArray); obtain ⟨r6, h10, hR, hRz⟩ := trimR_cases (r1 ++ (⟨#[]⟩ : ByteArray)) (by omega)
                    · skip
                      obtain ⟨r7, h11, hL, _⟩ := trimL_cases r6
                      · skip
                        have h12 : w64 (r4 - ((⟨#[]⟩ : ByteArray).size : Int)) := in64 (by omega) (by omega)
                        have h13 : w64 ((r4 - ((⟨#[]⟩ : ByteArray).size : Int)) + ((r1 ++ (⟨#[]⟩ : ByteArray)).size : Int)) := in64 (by omega) (by omega)
                        have h14 : w64 (((r4 - ((⟨#[]⟩ : ByteArray).size : Int)) + ((r1 ++ (⟨#[]⟩ : ByteArray)).size : Int)) - (r6.size : Int)) := in64 (by omega) (by omega)
                        rcases Classical.em (r7 = (⟨#[]⟩ : ByteArray)) with h15 | h15
                        · skip
                          exact ⟨_, _, _, (dec_parsed_r21 h0 h1 h2 h3 h4 h5 h6 h7 h8 h9 h10 h11 h12 h13 h14 h15), by first | exact .inr ⟨rfl, rfl⟩ | exact .inr ⟨by assumption, by assumption⟩ | exact .inl ⟨rfl, fun _ _ _ => ok_none⟩ | exact .inl ⟨rfl, fun a b c => trimmed_ok (by first | exact figs_both (by assumption) (by assumption) | exact figs_both (by assumption) figs_none) hR hL (by assumption) (by omega) b c⟩⟩
                        · skip
                          exact ⟨_, _, _, (dec_parsed_r22 h0 h1 h2 h3 h4 h5 h6 h7 h8 h9 h10 h11 h12 h13 h14 h15), by first | exact .inr ⟨rfl, rfl⟩ | exact .inr ⟨by assumption, by assumption⟩ | exact .inl ⟨rfl, fun _ _ _ => ok_none⟩ | exact .inl ⟨rfl, fun a b c => trimmed_ok (by first | exact figs_both (by assumption) (by assumption) | exact figs_both (by assumption) figs_none) hR hL (by assumption) (by omega) b c⟩⟩
                  · skip
                    exact ⟨_, _, _, (dec_parsed_r23 h0 h1 h2 h3 h4 h5 h6 h7 h8), by first | exact .inr ⟨rfl, rfl⟩ | exact .inr ⟨by assumption, by assumption⟩ | exact .inl ⟨rfl, fun _ _ _ => ok_none⟩ | exact .inl ⟨rfl, fun a b c => trimmed_ok (by first | exact figs_both (by assumption) (by assumption) | exact figs_both (by assumption) figs_none) hR hL (by assumption) (by omega) b c⟩⟩
        · skip
          rcases hasP_cases (s := r2) with ⟨h4, hp⟩ | h4
          · skip
            have h5 : 1 ≤ r2.size := hp
            have hE := ext_size r2 1 r2.size; obtain ⟨r4, r5, r6, h6, hd_r6⟩ := digits_cases (s := (r2.extract 1 r2.size)) (ext_lt (by omega))
            · skip
              rcases hd_r6 with ⟨h7, hf_r6, hn_r6, hs_r6, ht_r6, hu_r6⟩ | ⟨h7, he_r6⟩
              · skip
                obtain ⟨r7, r8, h8, hd_r8⟩ := exp_cases (s := r5) (by omega)
                · skip
                  rcases hd_r8 with ⟨h9, hb_r8, hc_r8⟩ | ⟨h9, he_r8⟩
                  · skip
                    have h10 : r1.size + r4.size ≤ 9223372036854775807 := by omega
                    have hA := @ByteArray.size_append r1 r4; obtain ⟨r9, h11, hR, hRz⟩ := trimR_cases (r1 ++ r4) (by omega)
                    · skip
                      obtain ⟨r10, h12, hL, _⟩ := trimL_cases r9
                      · skip
                        have h13 : w64 (r7 - (r4.size : Int)) := in64 (by omega) (by omega)
                        have h14 : w64 ((r7 - (r4.size : Int)) + ((r1 ++ r4).size : Int)) := in64 (by omega) (by omega)
                        have h15 : w64 (((r7 - (r4.size : Int)) + ((r1 ++ r4).size : Int)) - (r9.size : Int)) := in64 (by omega) (by omega)
                        rcases Classical.em (r10 = (⟨#[]⟩ : ByteArray)) with h16 | h16
                        · skip
                          exact ⟨_, _, _, (dec_parsed_r24 h0 h1 h2 h3 h4 h5 h6 h7 h8 h9 h10 h11 h12 h13 h14 h15 h16), by first | exact .inr ⟨rfl, rfl⟩ | exact .inr ⟨by assumption, by assumption⟩ | exact .inl ⟨rfl, fun _ _ _ => ok_none⟩ | exact .inl ⟨rfl, fun a b c => trimmed_ok (by first | exact figs_both (by assumption) (by assumption) | exact figs_both (by assumption) figs_none) hR hL (by assumption) (by omega) b c⟩⟩
                        · skip
                          exact ⟨_, _, _, (dec_parsed_r25 h0 h1 h2 h3 h4 h5 h6 h7 h8 h9 h10 h11 h12 h13 h14 h15 h16), by first | exact .inr ⟨rfl, rfl⟩ | exact .inr ⟨by assumption, by assumption⟩ | exact .inl ⟨rfl, fun _ _ _ => ok_none⟩ | exact .inl ⟨rfl, fun a b c => trimmed_ok (by first | exact figs_both (by assumption) (by assumption) | exact figs_both (by assumption) figs_none) hR hL (by assumption) (by omega) b c⟩⟩
                  · skip
                    exact ⟨_, _, _, (dec_parsed_r26 h0 h1 h2 h3 h4 h5 h6 h7 h8 h9), by first | exact .inr ⟨rfl, rfl⟩ | exact .inr ⟨by assumption, by assumption⟩ | exact .inl ⟨rfl, fun _ _ _ => ok_none⟩ | exact .inl ⟨rfl, fun a b c => trimmed_ok (by first | exact figs_both (by assumption) (by assumption) | exact figs_both (by assumption) figs_none) hR hL (by assumption) (by omega) b c⟩⟩
              · skip
                exact ⟨_, _, _, (dec_parsed_r27 h0 h1 h2 h3 h4 h5 h6 h7), by first | exact .inr ⟨rfl, rfl⟩ | exact .inr ⟨by assumption, by assumption⟩ | exact .inl ⟨rfl, fun _ _ _ => ok_none⟩ | exact .inl ⟨rfl, fun a b c => trimmed_ok (by first | exact figs_both (by assumption) (by assumption) | exact figs_both (by assumption) figs_none) hR hL (by assumption) (by omega) b c⟩⟩
          · skip
            obtain ⟨r4, r5, h5, hd_r5⟩ := exp_cases (s := r2) (by omega)
            · skip
              rcases hd_r5 with ⟨h6, hb_r5, hc_r5⟩ | ⟨h6, he_r5⟩
              · skip
                have h7 : r1.size + (⟨#[]⟩ : ByteArray).size ≤ 9223372036854775807 := by omega
                have hA := @ByteArray.size_append r1 (⟨#[]⟩ : ByteArray); obtain ⟨r6, h8, hR, hRz⟩ := trimR_cases (r1 ++ (⟨#[]⟩ : ByteArray)) (by omega)
                · skip
                  obtain ⟨r7, h9, hL, _⟩ := trimL_cases r6
                  · skip
                    have h10 : w64 (r4 - ((⟨#[]⟩ : ByteArray).size : Int)) := in64 (by omega) (by omega)
                    have h11 : w64 ((r4 - ((⟨#[]⟩ : ByteArray).size : Int)) + ((r1 ++ (⟨#[]⟩ : ByteArray)).size : Int)) := in64 (by omega) (by omega)
                    have h12 : w64 (((r4 - ((⟨#[]⟩ : ByteArray).size : Int)) + ((r1 ++ (⟨#[]⟩ : ByteArray)).size : Int)) - (r6.size : Int)) := in64 (by omega) (by omega)
                    rcases Classical.em (r7 = (⟨#[]⟩ : ByteArray)) with h13 | h13
                    · skip
                      exact ⟨_, _, _, (dec_parsed_r28 h0 h1 h2 h3 h4 h5 h6 h7 h8 h9 h10 h11 h12 h13), by first | exact .inr ⟨rfl, rfl⟩ | exact .inr ⟨by assumption, by assumption⟩ | exact .inl ⟨rfl, fun _ _ _ => ok_none⟩ | exact .inl ⟨rfl, fun a b c => trimmed_ok (by first | exact figs_both (by assumption) (by assumption) | exact figs_both (by assumption) figs_none) hR hL (by assumption) (by omega) b c⟩⟩
                    · skip
                      exact ⟨_, _, _, (dec_parsed_r29 h0 h1 h2 h3 h4 h5 h6 h7 h8 h9 h10 h11 h12 h13), by first | exact .inr ⟨rfl, rfl⟩ | exact .inr ⟨by assumption, by assumption⟩ | exact .inl ⟨rfl, fun _ _ _ => ok_none⟩ | exact .inl ⟨rfl, fun a b c => trimmed_ok (by first | exact figs_both (by assumption) (by assumption) | exact figs_both (by assumption) figs_none) hR hL (by assumption) (by omega) b c⟩⟩
              · skip
                exact ⟨_, _, _, (dec_parsed_r30 h0 h1 h2 h3 h4 h5 h6), by first | exact .inr ⟨rfl, rfl⟩ | exact .inr ⟨by assumption, by assumption⟩ | exact .inl ⟨rfl, fun _ _ _ => ok_none⟩ | exact .inl ⟨rfl, fun a b c => trimmed_ok (by first | exact figs_both (by assumption) (by assumption) | exact figs_both (by assumption) figs_none) hR hL (by assumption) (by omega) b c⟩⟩
      · skip
        exact ⟨_, _, _, (dec_parsed_r31 h0 h1 h2), by first | exact .inr ⟨rfl, rfl⟩ | exact .inr ⟨by assumption, by assumption⟩ | exact .inl ⟨rfl, fun _ _ _ => ok_none⟩ | exact .inl ⟨rfl, fun a b c => trimmed_ok (by first | exact figs_both (by assumption) (by assumption) | exact figs_both (by assumption) figs_none) hR hL (by assumption) (by omega) b c⟩⟩
end
section
open Go
set_option linter.unusedVariables false
set_option linter.unnecessarySimpa false
set_option linter.unusedSimpArgs false
set_option linter.unusedSectionVars false
theorem strInts_inj {a b : ByteArray} (h : strInts a = strInts b) : a = b := by
  unfold strInts at h
  have h1 : a.data.toList = b.data.toList := List.map_inj_right (fun x y e => UInt8.toNat_inj.1 (by omega)) |>.1 h
  have h2 : a.data = b.data := Array.toList_inj.1 h1
  cases a; cases b
  simp only at h2
  rw [h2]
theorem dec_ints : ∀ (n u : Nat), u ≤ n → figs ((Lib.decDigits u).map fun b => (b.toNat : Int)) ∧ hv 0 ((Lib.decDigits u).map fun b => (b.toNat : Int)) = u ∧ Lib.decDigits u ≠ [] := by
  have one : ∀ k : Nat, k < 10 → ((UInt8.ofNat (48 + k)).toNat : Int) = 48 + k := fun k hk => by
    rw [UInt8.toNat_ofNat']
    omega
  intro n
  induction n with
  | zero =>
    intro u hu
    have : u = 0 := by omega
    subst this
    rw [Lib.decDigits_one (by omega)]
    refine ⟨?_, ?_, by simp⟩
    · simp only [List.map_cons, List.map_nil]
      rw [one 0 (by omega)]
      exact figs_cons.2 ⟨by omega, figs_nil⟩
    · simp only [List.map_cons, List.map_nil, hv]
      rw [one 0 (by omega)]
      omega
  | succ n ih =>
    intro u hu
    by_cases h : u < 10
    · rw [Lib.decDigits_one h]
      refine ⟨?_, ?_, by simp⟩
      · simp only [List.map_cons, List.map_nil]
        rw [one u h]
        exact figs_cons.2 ⟨by omega, figs_nil⟩
      · simp only [List.map_cons, List.map_nil, hv]
        rw [one u h]
        omega
    · rw [Lib.decDigits, dif_neg h]
      obtain ⟨h1, h2, h3⟩ := ih (u / 10) (by omega)
      refine ⟨?_, ?_, by simp⟩
      · rw [List.map_append]
        intro d hd
        rcases List.mem_append.1 hd with hd | hd
        · exact h1 d hd
        · simp only [List.map_cons, List.map_nil, List.mem_singleton] at hd
          rw [hd, one _ (by omega)]
          omega
      · rw [List.map_append, hv_app, h2]
        simp only [List.map_cons, List.map_nil, hv, List.length_singleton]
        rw [one _ (by omega)]
        omega
theorem ext_ints {s : ByteArray} {a : Nat} : strInts (s.extract a s.size) = (strInts s).drop a := by
  rw [strInts_extract, List.take_of_length_le (by rw [strInts_len]; omega)]
theorem ext_head {s : ByteArray} {a : Nat} : strInts (s.extract 0 a) = (strInts s).take a := by
  rw [strInts_extract, List.drop_zero]
/-- Figures alone: all of them, and nothing behind. -/
theorem digits_all {s : ByteArray} (hl : s.size < 281474976710656) {L E : List Int} (hs : strInts s = L ++ E) (hL : figs L) (hne : L ≠ []) (hE : ∀ d, E.head? = some d → ¬ (48 ≤ d ∧ d ≤ 57)) :
    ∃ a b, dec_digits s a b D.nili ∧ strInts a = L ∧ strInts b = E := by
  have e := lead_all hL E hE
  rw [← hs] at e
  have hlp := List.length_pos_iff.2 hne
  rcases digits_run hl with ⟨h0, _⟩ | ⟨_, h⟩
  · omega
  · rw [e] at h
    exact ⟨_, _, h, by rw [ext_head, hs, List.take_left], by rw [ext_ints, hs, List.drop_left]⟩
/-- What Itoa writes is read as the number that it was. -/
theorem exp_back {e : ByteArray} {n : Int} (hn : -1000000 ≤ n ∧ n ≤ 1000000) (hl : e.size < 281474976710656) (he : strInts e = if n = 0 then [] else 101 :: (Lib.itoa n).map fun b => (b.toNat : Int)) : dec_exponent e n D.nili := by
  by_cases h0 : n = 0
  · rw [if_pos h0] at he
    have : e = none_ := strInts_inj he
    rw [h0]
    exact dec_exponent_r0 this
  rw [if_neg h0] at he
  have ene : ¬ e = none_ := fun h => by
    have := congrArg strInts h
    rw [he] at this
    cases this
  obtain ⟨b0, hb0⟩ := first_byte ene
  have v0 : (b0.toNat : Int) = 101 := by
    have hp : 0 < (strInts e).length := by rw [he]; simp
    obtain ⟨c, c1, c2⟩ := str_get (List.getElem?_eq_getElem hp)
    have : b0 = c := Option.some.inj (hb0.symm.trans c1)
    rw [this, c2]
    simp [he]
  have h1 : strInts (e.extract 1 e.size) = (Lib.itoa n).map fun b => (b.toNat : Int) := by
    rw [ext_ints, he]; rfl
  have h1z := ext_size e 1 e.size
  unfold Lib.itoa at h1
  by_cases hneg : n < 0
  · rw [if_pos hneg] at h1
    obtain ⟨g1, g2, g3⟩ := dec_ints n.natAbs n.natAbs (Nat.le_refl _)
    have e1 : ¬ (e.extract 1 e.size) = none_ := fun h => by
      have := congrArg strInts h
      rw [h1] at this
      cases this
    obtain ⟨b1, hb1⟩ := first_byte e1
    have v1 : (b1.toNat : Int) = 45 := by
      have hp : 0 < (strInts (e.extract 1 e.size)).length := by rw [h1]; simp
      obtain ⟨c, c1, c2⟩ := str_get (List.getElem?_eq_getElem hp)
      have : b1 = c := Option.some.inj (hb1.symm.trans c1)
      rw [this, c2]
      simp [h1]
    have h2 : strInts ((e.extract 1 e.size).extract 1 (e.extract 1 e.size).size) = ((Lib.decDigits n.natAbs).map fun b => (b.toNat : Int)) ++ [] := by
      rw [ext_ints, h1, List.append_nil]; rfl
    have h2z := ext_size (e.extract 1 e.size) 1 (e.extract 1 e.size).size
    obtain ⟨a, b, d1, d2, d3⟩ := digits_all (ext_lt (ext_lt hl)) h2 g1 (by simpa using g3) (by simp)
    have hb : b = none_ := strInts_inj d3
    have haz : a.size ≤ e.size := by
      have p1 := congrArg List.length d2
      have p2 := congrArg List.length h2
      rw [List.append_nil, ← p1, strInts_len, strInts_len] at p2
      omega
    obtain ⟨z0, z1, l1, l2, l3⟩ := expo_any (sign := -1) (r := a) (by omega) (by rw [d2]; exact g1)
    have hz : z0 = n.natAbs := by
      rw [d2] at l3
      rw [l3 (by rw [g2]; omega), g2]
    have := dec_exponent_r20 ene hb0 v0 (pos_size ene) e1 hb1 (by omega) v1 (pos_size e1) d1 nil_true hb l1 (in64 (by omega) (by omega))
    rw [show (-1) * z0 = n by omega] at this
    exact this
  · rw [if_neg hneg] at h1
    obtain ⟨g1, g2, g3⟩ := dec_ints n.toNat n.toNat (Nat.le_refl _)
    have e1 : ¬ (e.extract 1 e.size) = none_ := fun h => by
      have := congrArg strInts h
      rw [h1] at this
      have h5 : (Lib.decDigits n.toNat).map (fun b => (b.toNat : Int)) = [] := this
      exact g3 (by simpa using h5)
    obtain ⟨b1, hb1⟩ := first_byte e1
    have v1 : 48 ≤ (b1.toNat : Int) := by
      have hp : 0 < (strInts (e.extract 1 e.size)).length := by
        rw [h1, List.length_map]
        exact List.length_pos_iff.2 g3
      obtain ⟨c, c1, c2⟩ := str_get (List.getElem?_eq_getElem hp)
      have : b1 = c := Option.some.inj (hb1.symm.trans c1)
      rw [this, c2]
      exact (g1 _ (by rw [← h1]; exact List.getElem_mem _)).1
    obtain ⟨a, b, d1, d2, d3⟩ := digits_all (ext_lt hl) (h1.trans (List.append_nil _).symm) g1 (by simpa using g3) (by simp)
    have hb : b = none_ := strInts_inj d3
    have haz : a.size ≤ e.size := by
      have p1 := congrArg List.length d2
      have p2 := congrArg List.length h1
      rw [← p1, strInts_len, strInts_len] at p2
      omega
    obtain ⟨z0, z1, l1, l2, l3⟩ := expo_any (sign := 1) (r := a) (by omega) (by rw [d2]; exact g1)
    have hz : z0 = n.toNat := by
      rw [d2] at l3
      rw [l3 (by rw [g2]; omega), g2]
    have := dec_exponent_r23 ene hb0 v0 (pos_size ene) e1 hb1 (by omega) (by omega) d1 nil_true hb l1 (in64 (by omega) (by omega))
    rw [show 1 * z0 = n by omega] at this
    exact this
theorem dropWhile_head {α : Type} {p : α → Bool} {l : List α} (h : ∀ x, l.head? = some x → p x = false) : l.dropWhile p = l := by
  cases l with
  | nil => rfl
  | cons x r => rw [List.dropWhile_cons, if_neg (by rw [h x rfl]; simp)]
theorem is48 {b : UInt8} (h : (b.toNat : Int) ≠ 48) : (([48] : List UInt8).contains b) = false := by
  cases hc : (([48] : List UInt8).contains b) with
  | false => rfl
  | true =>
    have : b = 48 := by simpa using hc
    subst this
    exact absurd rfl h
theorem trimR_same {s : ByteArray} (h : (strInts s).getLast? ≠ some 48) : trimR s = s := by
  refine strInts_inj ?_
  unfold trimR Lib.trimRightS
  rw [ints_of, dropWhile_head, List.reverse_reverse]
  · rfl
  · intro x hx
    rw [List.head?_reverse] at hx
    refine is48 fun e => h ?_
    unfold strInts
    rw [List.getLast?_map, hx]
    exact congrArg some e
theorem trimLe_same {s : ByteArray} (h : (strInts s).head? ≠ some 48) : trimLe s = s := by
  refine strInts_inj ?_
  unfold trimLe Lib.trimLeftS
  rw [ints_of, dropWhile_head]
  · rfl
  · intro x hx
    refine is48 fun e => h ?_
    unfold strInts
    rw [List.head?_map, hx]
    exact congrArg some e
/-- Without its minus: what stands behind it is read. -/
theorem parse_core {d : Dec} (ok : okD d) (hz : d.Digits.size ≠ 0) {s u : ByteArray} {neg : Bool} (hl : u.size < 281474976710656) (hu : strInts u = d.ds ++ if d.Exp = 0 then [] else 101 :: (Lib.itoa d.Exp).map fun b => (b.toNat : Int)) (hc : strings_CutPrefix s (⟨#[45]⟩ : ByteArray) u neg) :
    dec_Parse s ⟨neg, d.Digits, d.Exp⟩ 0 := by
  rcases ok with h | ⟨_, hsz, hh, hla, hf, he1, he2⟩
  · exact absurd h.1 hz
  have hne : d.ds ≠ [] := fun e => hz (by have := congrArg List.length e; rw [strInts_len] at this; simpa using this)
  obtain ⟨a, b, d1, d2, d3⟩ := digits_all hl hu hf hne (by
    intro c hc
    split at hc
    · simp at hc
    · simp at hc; omega)
  have ha : a = d.Digits := strInts_inj d2
  subst ha
  have hbz : b.size ≤ u.size := by
    have p1 := congrArg List.length hu
    rw [List.length_append, ← d3] at p1
    have q1 := strInts_len u
    have q2 := strInts_len b
    omega
  have hx := exp_back (e := b) ⟨he1, he2⟩ (by omega) d3
  have hp : strings_HasPrefix b (⟨#[46]⟩ : ByteArray) false := by
    rcases hasP_cases (s := b) with ⟨_, h1⟩ | h
    · refine strings_HasPrefix_r1 (internal_stringslite_HasPrefix_r1 (by show (b.size : Int) ≥ 1; omega) (by show (1 : Int).toNat ≤ _; omega) fun h => ?_)
      have h2 : strInts (b.extract 0 1) = [46] := by
        have : b.extract 0 1 = (⟨#[46]⟩ : ByteArray) := h
        rw [this]; rfl
      rw [ext_head, d3] at h2
      split at h2
      · cases h2
      · simp at h2
    · exact h
  have hall : strInts (d.Digits ++ none_) = d.ds := by rw [strInts_app]; exact List.append_nil _
  have hA : (d.Digits ++ none_).size = d.Digits.size := by rw [← strInts_len, hall, strInts_len]
  have eA : d.Digits ++ none_ = d.Digits := strInts_inj hall
  have tR : trimR (d.Digits ++ none_) = d.Digits := by rw [eA]; exact trimR_same hla
  have tL : trimLe d.Digits = d.Digits := trimLe_same hh
  have hR := R_trimRight (s := d.Digits ++ none_) (c := (⟨#[48]⟩ : ByteArray)) (by decide) (by omega)
  have hR' : strings_TrimRight (d.Digits ++ (⟨#[]⟩ : ByteArray)) (⟨#[48]⟩ : ByteArray) d.Digits := by
    have h : strings_TrimRight (d.Digits ++ (⟨#[]⟩ : ByteArray)) (⟨#[48]⟩ : ByteArray) (trimR (d.Digits ++ none_)) := hR
    rw [tR] at h
    exact h
  have hL' : strings_TrimLeft d.Digits (⟨#[48]⟩ : ByteArray) d.Digits := by
    have h : strings_TrimLeft d.Digits (⟨#[48]⟩ : ByteArray) (trimLe d.Digits) := R_trimLeft (s := d.Digits) (c := (⟨#[48]⟩ : ByteArray)) (by decide)
    rw [tL] at h
    exact h
  have dne : ¬ d.Digits = (⟨#[]⟩ : ByteArray) := fun e => hz (empty_str.1 e)
  have hz0 : (⟨#[]⟩ : ByteArray).size = 0 := rfl
  have hA' : (d.Digits ++ (⟨#[]⟩ : ByteArray)).size = d.Digits.size := hA
  have hb0 : (d.Digits.size : Int) > 1 → ∃ c : UInt8, d.Digits[Int.toNat 0]? = some c ∧ ¬ (c.toNat : Int) = 48 := fun _ => by
    obtain ⟨c, hc⟩ := first_byte dne
    refine ⟨c, hc, fun e => hh ?_⟩
    have hp : 0 < (strInts d.Digits).length := by rw [strInts_len]; omega
    obtain ⟨c', c1, c2⟩ := str_get (List.getElem?_eq_getElem hp)
    have : c = c' := Option.some.inj (hc.symm.trans c1)
    rw [List.head?_eq_getElem?, List.getElem?_eq_getElem hp, ← c2, ← this, e]
  have hP : ∃ n : Int, n ≤ 65536 ∧ dec_parsed s ⟨neg, d.Digits, d.Exp⟩ n D.nili := by
    refine ⟨((d.Digits ++ (⟨#[]⟩ : ByteArray)).size : Int), by omega, ?_⟩
    have ee : ((d.Exp - ((⟨#[]⟩ : ByteArray).size : Int)) + ((d.Digits ++ (⟨#[]⟩ : ByteArray)).size : Int)) - (d.Digits.size : Int) = d.Exp := by omega
    have w1 : w64 (d.Exp - ((⟨#[]⟩ : ByteArray).size : Int)) := in64 (by omega) (by omega)
    have w2 : w64 ((d.Exp - ((⟨#[]⟩ : ByteArray).size : Int)) + ((d.Digits ++ (⟨#[]⟩ : ByteArray)).size : Int)) := in64 (by omega) (by omega)
    have w3 : w64 (((d.Exp - ((⟨#[]⟩ : ByteArray).size : Int)) + ((d.Digits ++ (⟨#[]⟩ : ByteArray)).size : Int)) - (d.Digits.size : Int)) := in64 (by omega) (by omega)
    have ws : d.Digits.size + (⟨#[]⟩ : ByteArray).size ≤ 9223372036854775807 := by omega
    by_cases h1 : (d.Digits.size : Int) > 1
    · obtain ⟨c, c1, c2⟩ := hb0 h1
      cases neg
      · have := dec_parsed_r22 hc d1 nil_true h1 c1 c2 hp hx nil_true ws hR' hL' w1 w2 w3 dne
        rw [ee] at this
        exact this
      · have := dec_parsed_r6 hc d1 nil_true h1 c1 c2 hp hx nil_true ws hR' hL' w1 w2 w3 dne
        rw [ee] at this
        exact this
    · cases neg
      · have := dec_parsed_r29 hc d1 nil_true h1 hp hx nil_true ws hR' hL' w1 w2 w3 dne
        rw [ee] at this
        exact this
      · have := dec_parsed_r13 hc d1 nil_true h1 hp hx nil_true ws hR' hL' w1 w2 w3 dne
        rw [ee] at this
        exact this
  obtain ⟨n, hn, hP⟩ := hP
  exact dec_Parse_r3 hP nil_true (by omega) (by dsimp only; omega) (by dsimp only; omega)
theorem cut_neg {t : ByteArray} {X : List Int} (h : strInts t = 45 :: X) : strings_CutPrefix t (⟨#[45]⟩ : ByteArray) (t.extract 1 t.size) true := by
  have hz : 1 ≤ t.size := by rw [← strInts_len, h]; simp
  have he : t.extract 0 1 = (⟨#[45]⟩ : ByteArray) := strInts_inj (by rw [ext_head, h]; rfl)
  exact strings_CutPrefix_r0 (internal_stringslite_CutPrefix_r0 (internal_stringslite_HasPrefix_r0 (by show (t.size : Int) ≥ 1; omega) (by show (1 : Int).toNat ≤ _; omega) he) (by show (1 : Int).toNat ≤ _; omega))
theorem cut_pos {t : ByteArray} (h : (strInts t).head? ≠ some 45) : strings_CutPrefix t (⟨#[45]⟩ : ByteArray) t false := by
  refine strings_CutPrefix_r1 (internal_stringslite_CutPrefix_r1 ?_)
  by_cases hz : t.size = 0
  · exact internal_stringslite_HasPrefix_r2 (by show ¬ (t.size : Int) ≥ 1; omega)
  · refine internal_stringslite_HasPrefix_r1 (by show (t.size : Int) ≥ 1; omega) (by show (1 : Int).toNat ≤ _; omega) fun e => ?_
    have e' : t.extract 0 1 = (⟨#[45]⟩ : ByteArray) := e
    have h2 := congrArg strInts e'
    rw [ext_head] at h2
    cases hq : strInts t with
    | nil => rw [hq] at h2; cases h2
    | cons c r =>
      rw [hq] at h2 h
      have h3 : c = 45 := by
        have h4 : [c] = [(45 : Int)] := h2
        simpa using h4
      exact h (by rw [h3]; rfl)
theorem dec_len : ∀ (n u : Nat), u ≤ n → (Lib.decDigits u).length ≤ u + 1 := by
  intro n
  induction n with
  | zero =>
    intro u hu
    rw [Lib.decDigits_one (by omega)]
    simp
  | succ n ih =>
    intro u hu
    by_cases h : u < 10
    · rw [Lib.decDigits_one h]; simp
    · rw [Lib.decDigits, dif_neg h, List.length_append, List.length_singleton]
      have := ih (u / 10) (by omega)
      omega
theorem itoa_len {n : Int} (h : -1000000 ≤ n ∧ n ≤ 1000000) : (Lib.itoa n).length ≤ 1000010 := by
  unfold Lib.itoa
  split
  · have := dec_len n.natAbs n.natAbs (Nat.le_refl _)
    rw [List.length_cons]
    omega
  · have := dec_len n.toNat n.toNat (Nat.le_refl _)
    omega
theorem chk {d : Dec} (h : okD d) : dec_Check d 0 ∧ ref03_Check d 0 := by
  rcases check_dec (d := d) (by have := (ok_figs h).2.2.1; omega) with ⟨_, c⟩ | ⟨n, _⟩
  · exact c
  · exact absurd h n
/-- A number's text is read as it. -/
theorem text_back {d : Dec} (ok : okD d) : ∃ t, dec_Text d t 0 ∧ dec_Parse t d 0 := by
  have cd := (chk ok).1
  have hz0 : (⟨#[]⟩ : ByteArray).size = 0 := rfl
  by_cases hz : d.Digits.size = 0
  · have hd : d.Digits = (⟨#[]⟩ : ByteArray) := empty_str.2 hz
    rcases ok with ⟨_, hn, he⟩ | h
    rotate_left
    · exact absurd hz h.1
    refine ⟨_, dec_Text_r1 cd rfl hd, ?_⟩
    have ed : d = Dec.mk false (⟨#[]⟩ : ByteArray) 0 := by
      cases d with
      | mk a b c =>
        simp only at hn hd he
        rw [hn, hd, he]
    have hc := cut_pos (t := (⟨#[48]⟩ : ByteArray)) (by show (strInts ⟨#[48]⟩).head? ≠ some 45; decide)
    obtain ⟨a, b, d1, d2, d3⟩ := digits_all (s := (⟨#[48]⟩ : ByteArray)) (by show (1 : Nat) < _; omega) (L := [48]) (E := []) rfl (figs_cons.2 ⟨by omega, figs_nil⟩) (by simp) (by simp)
    have ha : a = (⟨#[48]⟩ : ByteArray) := strInts_inj d2
    have hb : b = none_ := strInts_inj d3
    subst ha
    subst hb
    have hp : strings_HasPrefix none_ (⟨#[46]⟩ : ByteArray) false := strings_HasPrefix_r1 (internal_stringslite_HasPrefix_r2 (by show ¬ (0 : Int) ≥ 1; omega))
    have hx : dec_exponent none_ 0 D.nili := dec_exponent_r0 rfl
    have eA : (⟨#[48]⟩ : ByteArray) ++ none_ = (⟨#[48]⟩ : ByteArray) := strInts_inj (by rw [strInts_app]; rfl)
    have hzA : ((⟨#[48]⟩ : ByteArray) ++ none_).size = 1 := by rw [eA]; rfl
    have hR' : strings_TrimRight ((⟨#[48]⟩ : ByteArray) ++ (⟨#[]⟩ : ByteArray)) (⟨#[48]⟩ : ByteArray) (⟨#[]⟩ : ByteArray) := by
      have h : strings_TrimRight ((⟨#[48]⟩ : ByteArray) ++ none_) (⟨#[48]⟩ : ByteArray) (trimR ((⟨#[48]⟩ : ByteArray) ++ none_)) := R_trimRight (s := (⟨#[48]⟩ : ByteArray) ++ none_) (c := (⟨#[48]⟩ : ByteArray)) (by decide) (by omega)
      rw [eA, show trimR (⟨#[48]⟩ : ByteArray) = none_ from rfl, ← eA] at h
      exact h
    have hL' : strings_TrimLeft (⟨#[]⟩ : ByteArray) (⟨#[48]⟩ : ByteArray) (⟨#[]⟩ : ByteArray) := R_trimLeft (s := none_) (c := (⟨#[48]⟩ : ByteArray)) (by decide)
    have hzA' : ((⟨#[48]⟩ : ByteArray) ++ (⟨#[]⟩ : ByteArray)).size = 1 := hzA
    have h48 : (⟨#[48]⟩ : ByteArray).size = 1 := rfl
    have hP := dec_parsed_r28 hc d1 nil_true (by omega) hp hx nil_true (by omega) hR' hL' (in64 (by omega) (by omega)) (in64 (by omega) (by omega)) (in64 (by omega) (by omega)) rfl
    rw [ed]
    exact dec_Parse_r3 hP nil_true (by omega) (by dsimp only; omega) (by dsimp only; omega)
  · obtain ⟨hf, _, hsz, he1, he2⟩ := ok_figs ok
    have dne : ¬ d.Digits = (⟨#[]⟩ : ByteArray) := fun e => hz (empty_str.1 e)
    have hil := itoa_len ⟨he1, he2⟩
    have hI := R_itoa (n := d.Exp) (by omega) (by omega)
    have hI' : strconv_Itoa d.Exp ⟨(Lib.itoa d.Exp).toArray⟩ := hI
    have hIz : (⟨(Lib.itoa d.Exp).toArray⟩ : ByteArray).size = (Lib.itoa d.Exp).length := size_of _
    have h45 : (⟨#[45]⟩ : ByteArray).size = 1 := rfl
    have h101 : (⟨#[101]⟩ : ByteArray).size = 1 := rfl
    have s101 : strInts (⟨#[101]⟩ : ByteArray) = [101] := rfl
    have s45 : strInts (⟨#[45]⟩ : ByteArray) = [45] := rfl
    have fin : ∀ {t u : ByteArray} {neg : Bool}, dec_Text d t 0 → u.size < 281474976710656 → strings_CutPrefix t (⟨#[45]⟩ : ByteArray) u neg → neg = d.Neg → (strInts u = d.ds ++ if d.Exp = 0 then [] else 101 :: (Lib.itoa d.Exp).map fun b => (b.toNat : Int)) → ∃ t, dec_Text d t 0 ∧ dec_Parse t d 0 := by
      intro t u neg h1 h2 h3 h4 h5
      refine ⟨t, h1, ?_⟩
      have h := parse_core ok hz h2 h5 h3
      rw [h4] at h
      exact h
    have hhead : ∀ {X : List Int}, (d.ds ++ X).head? ≠ some 45 := by
      intro X h
      cases hq : d.ds with
      | nil => exact hz (by have := congrArg List.length hq; rw [strInts_len] at this; simpa using this)
      | cons c r =>
        rw [hq] at h hf
        rw [figs_cons] at hf
        have : c = 45 := by simpa using h
        omega
    rcases b_em d.Neg with hn | hn
    · by_cases h0 : d.Exp = 0
      · have hs : strInts ((⟨#[45]⟩ : ByteArray) ++ d.Digits) = 45 :: d.ds := by rw [strInts_app, s45]; rfl
        have hsz' : ((⟨#[45]⟩ : ByteArray) ++ d.Digits).size = 1 + d.Digits.size := by rw [ByteArray.size_append, h45]
        refine fin (dec_Text_r3 cd rfl dne hn (by omega) h0) (ext_lt (by omega)) (cut_neg hs) hn.symm ?_
        rw [ext_ints, hs, if_pos h0, List.append_nil]; rfl
      · have hs : strInts (((⟨#[45]⟩ : ByteArray) ++ d.Digits) ++ ((⟨#[101]⟩ : ByteArray) ++ ⟨(Lib.itoa d.Exp).toArray⟩)) = 45 :: (d.ds ++ 101 :: (Lib.itoa d.Exp).map fun b => (b.toNat : Int)) := by
          rw [strInts_app, strInts_app, strInts_app, s45, s101, ints_of]; rfl
        have z1 : ((⟨#[45]⟩ : ByteArray) ++ d.Digits).size = 1 + d.Digits.size := by rw [ByteArray.size_append, h45]
        have z2 : ((⟨#[101]⟩ : ByteArray) ++ ⟨(Lib.itoa d.Exp).toArray⟩).size = 1 + (Lib.itoa d.Exp).length := by rw [ByteArray.size_append, h101, hIz]
        have z3 : (((⟨#[45]⟩ : ByteArray) ++ d.Digits) ++ ((⟨#[101]⟩ : ByteArray) ++ ⟨(Lib.itoa d.Exp).toArray⟩)).size = 1 + d.Digits.size + (1 + (Lib.itoa d.Exp).length) := by rw [ByteArray.size_append, z1, z2]
        refine fin (dec_Text_r2 cd rfl dne hn (by omega) h0 hI' (by omega) (by omega)) (ext_lt (by omega)) (cut_neg hs) hn.symm ?_
        rw [ext_ints, hs, if_neg h0]; rfl
    · by_cases h0 : d.Exp = 0
      · refine fin (dec_Text_r5 cd rfl dne hn h0) (by omega) (cut_pos (by have := @hhead []; rw [List.append_nil] at this; exact this)) hn.symm ?_
        rw [if_pos h0, List.append_nil]
      · have hs : strInts (d.Digits ++ ((⟨#[101]⟩ : ByteArray) ++ ⟨(Lib.itoa d.Exp).toArray⟩)) = d.ds ++ 101 :: (Lib.itoa d.Exp).map fun b => (b.toNat : Int) := by
          rw [strInts_app, strInts_app, s101, ints_of]; rfl
        have z2 : ((⟨#[101]⟩ : ByteArray) ++ ⟨(Lib.itoa d.Exp).toArray⟩).size = 1 + (Lib.itoa d.Exp).length := by rw [ByteArray.size_append, h101, hIz]
        have z3 : (d.Digits ++ ((⟨#[101]⟩ : ByteArray) ++ ⟨(Lib.itoa d.Exp).toArray⟩)).size = d.Digits.size + (1 + (Lib.itoa d.Exp).length) := by rw [ByteArray.size_append, z2]
        refine fin (dec_Text_r4 cd rfl dne hn h0 hI' (by omega) (by omega)) (by omega) (cut_pos (by rw [hs]; exact hhead)) hn.symm ?_
        rw [hs, if_neg h0]
/-- What any text is read as. -/
theorem parse_any {s : ByteArray} (hl : s.size < 281474976710656) : ∃ (x : Dec) (g : Int), dec_Parse s x g ∧ ((g ≠ 0 ∧ x = Dec.mk false (⟨#[]⟩ : ByteArray) 0) ∨ (g = 0 ∧ okD x)) := by
  obtain ⟨x, n, e, h, ⟨h1, h2⟩ | ⟨h1, h2⟩⟩ := parsed_cases hl
  · by_cases c1 : n > 65536
    · exact ⟨_, 31, dec_Parse_r0 h h1 c1, .inl ⟨by decide, rfl⟩⟩
    by_cases c2 : x.Exp < (-1000000)
    · exact ⟨_, 31, dec_Parse_r1 h h1 c1 c2, .inl ⟨by decide, rfl⟩⟩
    by_cases c3 : x.Exp > 1000000
    · exact ⟨_, 31, dec_Parse_r2 h h1 c1 c2 c3, .inl ⟨by decide, rfl⟩⟩
    exact ⟨x, 0, dec_Parse_r3 h h1 c1 c2 c3, .inr ⟨rfl, h2 (by omega) (by omega) (by omega)⟩⟩
  · subst h2
    exact ⟨_, 30, dec_Parse_r4 h h1 (R_number (c := 30)), .inl ⟨by decide, rfl⟩⟩
theorem cmp_zero {a b : Dec} (oa : okD a) (ob : okD b) : cmpD a b = 0 ↔ (a.Neg = b.Neg ∧ a.Digits = b.Digits ∧ a.Exp = b.Exp) := by
  constructor
  · intro h
    unfold cmpD at h
    split at h
    · cases h
    · split at h
      · cases h
      · have hs : sgn a = sgn b := by omega
        by_cases h0 : sgn a = 0
        · have za : a.Digits.size = 0 := Classical.byContradiction fun hz => by
            unfold sgn at h0
            rw [if_neg hz] at h0
            split at h0 <;> omega
          have zb : b.Digits.size = 0 := Classical.byContradiction fun hz => by
            rw [hs] at h0
            unfold sgn at h0
            rw [if_neg hz] at h0
            split at h0 <;> omega
          rcases oa with ⟨_, n1, e1⟩ | h1
          rotate_left
          · exact absurd za h1.1
          rcases ob with ⟨_, n2, e2⟩ | h1
          rotate_left
          · exact absurd zb h1.1
          exact ⟨by rw [n1, n2], by rw [empty_str.2 za, empty_str.2 zb], by rw [e1, e2]⟩
        · have hz : sizeD a b = 0 := by
            rcases sgn_cases a with e | e | e <;> rw [e] at h <;> omega
          unfold sizeD at hz
          rcases cmpI_cases (high a) (high b) with ⟨q, e⟩ | ⟨q, e⟩ | ⟨q, e⟩ <;> rw [e] at hz
          · simp at hz
          · simp at hz
          · rw [if_neg (by simp)] at hz
            have hd : a.Digits = b.Digits := strInts_inj (cmpL_eq hz)
            unfold high at q
            rw [hd] at q
            have za : a.Digits.size ≠ 0 := fun hz => h0 (by unfold sgn; rw [if_pos hz])
            refine ⟨?_, hd, by omega⟩
            have s1 : sgn a = if a.Neg = true then -1 else 1 := by unfold sgn; rw [if_neg za]
            have s2 : sgn b = if b.Neg = true then -1 else 1 := by unfold sgn; rw [if_neg (by rw [← hd]; exact za)]
            rw [s1, s2] at hs
            cases ha : a.Neg <;> cases hb : b.Neg <;> rw [ha, hb] at hs <;> simp at hs <;> rfl
  · rintro ⟨h1, h2, h3⟩
    have e : a = b := by
      cases a; cases b
      simp only at h1 h2 h3
      rw [h1, h2, h3]
    subst e
    have := cmpD_flip a a
    omega
theorem back_true {d : Dec} {s : ByteArray} (hd : wf_Dec d) (hs : wfStr s) : law_DecBack d s true := by
  have hsl : s.size < 281474976710656 := by
    have : s.size ≤ 140737488351232 := hs
    omega
  obtain ⟨x, g, hp, hx⟩ := parse_any hsl
  have same : ∀ {a b : Dec}, (a.Neg = b.Neg ∧ a.Digits = b.Digits ∧ a.Exp = b.Exp) → eqK [.bool, .str, .int] [(.bool a.Neg), (.str a.Digits), (di a.Exp)] [(.bool b.Neg), (.str b.Digits), (di b.Exp)] = some true := fun h => by rw [eqDec]; simp only [h, and_self, decide_true]
  have other : ∀ {a b : Dec}, ¬ (a.Neg = b.Neg ∧ a.Digits = b.Digits ∧ a.Exp = b.Exp) → eqK [.bool, .str, .int] [(.bool a.Neg), (.str a.Digits), (di a.Exp)] [(.bool b.Neg), (.str b.Digits), (di b.Exp)] = some false := fun h => by rw [eqDec]; simp only [h, decide_false]
  rcases check_dec (wf_size hd) with ⟨od, cd, rd⟩ | ⟨od, cd, rd⟩
  · obtain ⟨t, t1, t2⟩ := text_back od
    rcases hx with ⟨hg, hx⟩ | ⟨hg, ox⟩
    · exact law_DecBack_r0 cd rfl t1 t2 rfl rfl (same ⟨rfl, rfl, rfl⟩) hp hg (by rw [hx]; exact @same ⟨false, ⟨#[]⟩, 0⟩ ⟨false, ⟨#[]⟩, 0⟩ ⟨rfl, rfl, rfl⟩) heads_ok
    · have hc := (compare_dec ox od (chk ox).1 cd (chk ox).2 rd).1
      by_cases h0 : cmpD x d = 0
      · exact law_DecBack_r1 cd rfl t1 t2 rfl rfl (same ⟨rfl, rfl, rfl⟩) hp hg hc (chk ox).1 rfl rfl h0 (same ((cmp_zero ox od).1 h0)) heads_ok
      · exact law_DecBack_r2 cd rfl t1 t2 rfl rfl (same ⟨rfl, rfl, rfl⟩) hp hg hc (chk ox).1 rfl rfl h0 (other fun h => h0 ((cmp_zero ox od).2 h)) heads_ok
  · rcases hx with ⟨hg, hx⟩ | ⟨hg, ox⟩
    · exact law_DecBack_r4 cd (by decide) hp hg (by rw [hx]; exact @same ⟨false, ⟨#[]⟩, 0⟩ ⟨false, ⟨#[]⟩, 0⟩ ⟨rfl, rfl, rfl⟩) heads_ok
    · exact law_DecBack_r7 cd (by decide) hp hg (dec_Compare_r1 (chk ox).1 rfl cd (by decide)) (chk ox).1 rfl (by decide) heads_ok
end
end Go.Proofs.YtkkekfehjbbhoaaGreatDoor.V

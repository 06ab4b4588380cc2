/- The law DecTimes. -/
import Derived.Test.YtkkekfehjbbhoaaGreatDoorD4
namespace Go.Proofs.YtkkekfehjbbhoaaGreatDoor.V
open Go
set_option linter.unusedVariables false
set_option linter.unnecessarySimpa false
set_option linter.unusedSimpArgs false
set_option linter.unusedSectionVars false
theorem cutZ_head : ∀ l : List Int, (cutZ l).head? ≠ some 48
  | [] => by simp [cutZ]
  | d :: r => by
    unfold cutZ
    rw [List.dropWhile_cons]
    by_cases h : d = 48
    · subst h
      simpa using cutZ_head r
    · simp [h]
/-- How a number is written. -/
theorem ntext_run {a : SL Int} (na : isNum a.xs) (hf : few a.xs) : ∃ t : List Int, nat_Text a (bText t) 0 ∧ figs t ∧ t ≠ [] ∧ hv 0 t = val a.xs ∧ (t = [48] ∨ t.head? ≠ some 48) := by
  have hfit := fits_true hf na
  unfold few at hf
  have hlen := pushAll_len a.xs []
  have hfigs := pushAll_figs a.xs [] figs_nil
  have hval : hv 0 (pushAll a.xs []) = val a.xs := by
    rw [pushAll_hv a.xs [] na.1]; simp [hv]
  simp only [List.length_nil, Nat.add_zero] at hlen
  obtain ⟨z, g⟩ := text_out (a := a) (bt := true) (bn := a.xs.length * 9) na.1 rfl (by omega) a.xs 0 [] rfl rfl
  rw [List.append_nil] at g
  have e9 : ((a.xs.length : Int) * 9).toNat = a.xs.length * 9 := by omega
  have htk : (pushAll a.xs []).take (a.xs.length * 9) = pushAll a.xs [] := List.take_of_length_le (by omega)
  have hT := R_trimLeft (s := bText (pushAll a.xs [])) (c := (⟨#[48]⟩ : ByteArray)) (by decide)
  have hTe : Lib.trimLeftS (bText (pushAll a.xs [])).data.toList (⟨#[48]⟩ : ByteArray).data.toList = bytesOf (cutZ (pushAll a.xs [])) := trimLeft_figs hfigs
  rw [hTe] at hT
  have hcv := cutZ_hv (pushAll a.xs [])
  have hcf : figs (cutZ (pushAll a.xs [])) := fun d hd => hfigs d (cutZ_mem hd)
  by_cases h0 : cutZ (pushAll a.xs []) = []
  · have hv0 : val a.xs = 0 := by rw [← hval, ← hcv, h0]; rfl
    refine ⟨[48], ?_, figs_cons.2 ⟨by omega, figs_nil⟩, by simp, by rw [hv0]; rfl, .inl rfl⟩
    refine nat_Text_r0 (z0 := pushAll a.xs []) (z1 := z) (r0 := bText (cutZ (pushAll a.xs []))) hfit (in64 (by omega) (by omega)) (by omega) (by omega) ?_ (by omega) ?_ (by rw [h0]; rfl)
    · rw [e9]; exact g
    · rw [e9, htk]; exact hT
  · refine ⟨cutZ (pushAll a.xs []), ?_, hcf, h0, by rw [hcv, hval], .inr (cutZ_head _)⟩
    refine nat_Text_r1 (z0 := pushAll a.xs []) (z1 := z) (r0 := bText (cutZ (pushAll a.xs []))) hfit (in64 (by omega) (by omega)) (by omega) (by omega) ?_ (by omega) ?_ (fun h => h0 (bText_nil h))
    · rw [e9]; exact g
    · rw [e9, htk]; exact hT
theorem ten_mono {a c : Nat} (h : a ≤ c) : (10 : Int) ^ a ≤ 10 ^ c := by
  obtain ⟨d, rfl⟩ := Nat.exists_eq_add_of_le h
  rw [Int.pow_add]
  have h1 := ten_pos a
  have h2 := ten_pos d
  have : (10 : Int) ^ a * 1 ≤ 10 ^ a * 10 ^ d := Int.mul_le_mul_of_nonneg_left (by omega) (by omega)
  omega
theorem hv_least {t : List Int} (hf : figs t) (hne : t ≠ []) (hh : t.head? ≠ some 48) : (10 : Int) ^ (t.length - 1) ≤ hv 0 t := by
  cases t with
  | nil => exact absurd rfl hne
  | cons d r =>
    rw [figs_cons] at hf
    have hd : d ≠ 48 := fun e => hh (by simp [e])
    rw [hv, hv_add, Int.zero_mul, Int.zero_add]
    have h1 := (hv_bound hf.2).1
    have h2 := ten_pos r.length
    have h3 : 1 * (10 : Int) ^ r.length ≤ (d - 48) * 10 ^ r.length := Int.mul_le_mul_of_nonneg_right (by omega) (by omega)
    simp only [List.length_cons, Nat.add_sub_cancel]
    omega
theorem times_loop {b : Dec} {t : ByteArray} : ∀ (n : Nat) (s : ByteArray) (e : Int), s.size = n → n ≤ 1000000 → -1000000 ≤ e → e ≤ 1000000 →
    ∃ (s' : ByteArray) (m : Nat), law_DecTimes_l0 b ⟨false, s, e⟩ t (law_DecTimes_l0_x0 b ⟨false, s', e + m⟩ t) ∧ strInts s = strInts s' ++ List.replicate m 48 ∧ (strInts s').getLast? ≠ some 48 ∧ m ≤ n := by
  have key : ∀ (n : Nat) (s : ByteArray) (e : Int), s.size = n → n ≤ 1000000 → -1000000 ≤ e → e + n ≤ 3000000 →
    ∃ (s' : ByteArray) (m : Nat), law_DecTimes_l0 b ⟨false, s, e⟩ t (law_DecTimes_l0_x0 b ⟨false, s', e + m⟩ t) ∧ strInts s = strInts s' ++ List.replicate m 48 ∧ (strInts s').getLast? ≠ some 48 ∧ m ≤ n := by
    intro n
    induction n with
    | zero =>
      intro s e hs h1 h2 h3
      have hl : strInts s = [] := List.length_eq_zero_iff.1 (by rw [strInts_len]; exact hs)
      refine ⟨s, 0, ?_, by simp, by rw [hl]; simp, by omega⟩
      rw [show e + ((0 : Nat) : Int) = e by omega]
      exact law_DecTimes_l0_e2 (by dsimp only; omega)
    | succ n ih =>
      intro s e hs h1 h2 h3
      have hlen := strInts_len s
      have hn : n < (strInts s).length := by omega
      have g1 : (strInts s)[n]? = some ((strInts s)[n]) := List.getElem?_eq_getElem hn
      obtain ⟨b0, k0, e0⟩ := str_get g1
      have ei : ((s.size : Int) - 1).toNat = n := by omega
      by_cases h48 : (b0.toNat : Int) = 48
      · have hx : strInts (s.extract 0 n) = (strInts s).take n := by rw [strInts_extract, List.drop_zero]
        have hz : (s.extract 0 n).size = n := by rw [← strInts_len, hx, List.length_take]; omega
        obtain ⟨s', m, k1, k2, k3, k4⟩ := ih (s.extract 0 n) (e + 1) hz (by omega) (by omega) (by omega)
        refine ⟨s', m + 1, ?_, ?_, k3, by omega⟩
        · have := law_DecTimes_l0_s0 (b := b) (a := ⟨false, s, e⟩) (t := t) (b0 := b0) (by dsimp only; omega) (in64 (by dsimp only; omega) (by dsimp only; omega)) (by dsimp only; omega) (by dsimp only; rw [ei]; exact k0) h48 (by dsimp only; omega) (in64 (by dsimp only; omega) (by dsimp only; omega)) (r_ := law_DecTimes_l0_x0 b ⟨false, s', e + 1 + m⟩ t) (by dsimp only; rw [ei]; exact k1)
          rw [show e + ((m + 1 : Nat) : Int) = e + 1 + m by omega]
          exact this
        · have h5 : strInts s = (strInts s).take n ++ [48] := by
            conv => lhs; rw [← List.take_append_drop n (strInts s)]
            rw [List.drop_eq_getElem_cons hn, List.drop_eq_nil_of_le (by omega), ← e0, h48]
          rw [h5, ← hx, k2, List.append_assoc, List.replicate_succ']
      · refine ⟨s, 0, ?_, by simp, ?_, by omega⟩
        · rw [show e + ((0 : Nat) : Int) = e by omega]
          exact law_DecTimes_l0_e1 (by dsimp only; omega) (in64 (by dsimp only; omega) (by dsimp only; omega)) (by dsimp only; omega) (by dsimp only; rw [ei]; exact k0) h48
        · rw [List.getLast?_eq_getElem?, hlen, hs, Nat.add_sub_cancel, g1, ← e0]
          intro h
          exact h48 (Option.some.inj h)
  intro n s e h1 h2 h3 h4
  exact key n s e h1 h2 h3 (by omega)
theorem ok_check {d : Dec} (h : okD d) : dec_Check d 0 := by
  rcases check_dec (d := d) (by have := (ok_figs h).2.2.1; omega) with ⟨_, c, _⟩ | ⟨n, _⟩
  · exact c
  · exact absurd h n
theorem sgn_pos {d : Dec} (h0 : d.Digits.size ≠ 0) (h : d.Neg = false) : sgn d = 1 := by
  unfold sgn
  rw [if_neg h0, h]
  simp
theorem times_true {b : Dec} {k : SL Int} (hb : wf_Dec b) (hk : wfS 4 (inK .u32) k) : law_DecTimes b k true := by
  rcases check_dec (wf_size hb) with ⟨ob, cb, _⟩ | ⟨_, cb, _⟩
  rotate_left
  · exact law_DecTimes_r0 cb (by decide) heads_ok
  rcases b_em b.Neg with hn | hn
  · exact law_DecTimes_r1 cb rfl hn heads_ok
  by_cases h3 : b.Digits = (⟨#[]⟩ : ByteArray)
  · exact law_DecTimes_r2 cb rfl hn h3 heads_ok
  by_cases h4 : (b.Digits.size : Int) > 200
  · exact law_DecTimes_r3 cb rfl hn h3 h4 heads_ok
  by_cases h5 : b.Exp < (-100000)
  · exact law_DecTimes_r4 cb rfl hn h3 h4 h5 heads_ok
  by_cases h6 : b.Exp > 100000
  · exact law_DecTimes_r5 cb rfl hn h3 h4 h5 h6 heads_ok
  rcases check_run (wf_huge hk) (wf_u32 hk) with ⟨nk, ck⟩ | ⟨_, ck⟩
  rotate_left
  · exact law_DecTimes_r6 cb rfl hn h3 h4 h5 h6 ck (by decide) heads_ok
  by_cases h9 : (k.xs.length : Int) > 20
  · exact law_DecTimes_r7 cb rfl hn h3 h4 h5 h6 ck rfl h9 heads_ok
  have zb : b.Digits.size ≠ 0 := fun h => h3 (empty_str.2 h)
  have sb := sgn_pos zb hn
  obtain ⟨fb, lb, _, _, _⟩ := ok_figs ob
  have hB := hv_bound fb
  have lenb : b.ds.length = b.Digits.size := strInts_len _
  rcases of_run b.Digits (by omega) with ⟨_, _, x, x', o1, _, o3, _, o5, o6⟩ | ⟨bad, _⟩
  rotate_left
  · rcases bad with h | h | h
    · exact absurd h zb
    · omega
    · exact absurd fb h
  obtain ⟨p, p1, p2, p3, p4⟩ := mul_run (a := x) (b := k) (by unfold few; omega) (by unfold few; omega) o3 nk
  obtain ⟨t, t1, t2, t3, t4, t5⟩ := ntext_run (a := p) p2 (by unfold few; omega)
  have hts := strInts_text t2
  have htz : (bText t).size = t.length := by rw [← strInts_len, hts]
  have eB : hv 0 (strInts b.Digits) = hv 0 b.ds := rfl
  rw [p3, o5, eB] at t4
  have hK0 := val_nonneg nk.1
  have tlen : t.length ≤ 400 := by
    rcases t5 with rfl | t5
    · simp
    · apply Classical.byContradiction
      intro hc
      have q1 := hv_least t2 t3 t5
      have q2 := ten_mono (a := b.ds.length + 9 * k.xs.length) (c := t.length - 1) (by omega)
      have q3 := val_lt nk.1
      rw [← ten9, ← Int.pow_mul] at q3
      have q4 : hv 0 b.ds * val k.xs ≤ 10 ^ b.ds.length * val k.xs := Int.mul_le_mul_of_nonneg_right (by omega) hK0
      have q5 : (10 : Int) ^ b.ds.length * val k.xs < 10 ^ b.ds.length * 10 ^ (9 * k.xs.length) := Int.mul_lt_mul_of_pos_left q3 (ten_pos _)
      rw [← Int.pow_add] at q5
      omega
  obtain ⟨s', m, l1, l2, l3, l4⟩ := times_loop (b := b) (t := bText t) t.length (bText t) b.Exp htz (by omega) (by omega) (by omega)
  rw [hts] at l2
  have w1 : w64 (b.Exp - 1) := in64 (by omega) (by omega)
  have hadd : (bText t).size + (⟨#[49]⟩ : ByteArray).size ≤ 9223372036854775807 := by
    rw [htz]
    show t.length + 1 ≤ _
    omega
  have lens : (strInts s').length = s'.size := strInts_len _
  have lenm : t.length = s'.size + m := by rw [l2, List.length_append, lens, List.length_replicate]
  have fs : figs (strInts s') := fun d hd => t2 d (by rw [l2]; exact List.mem_append_left _ hd)
  rcases t5 with ht | ht
  · -- nought
    have s0 : s' = (⟨#[]⟩ : ByteArray) := by
      refine empty_str.2 (Classical.byContradiction fun h => ?_)
      rw [ht] at lenm
      simp only [List.length_singleton] at lenm
      have m0 : m = 0 := by omega
      rw [m0, ht] at l2
      simp only [List.replicate_zero, List.append_nil] at l2
      rw [← l2] at l3
      simp at l3
    have oz : okD ⟨false, s', 0⟩ := .inl ⟨empty_str.1 s0, rfl, rfl⟩
    have o1' : okD ⟨false, ⟨#[49]⟩, b.Exp - 1⟩ := by
      have hd : Dec.ds ⟨false, ⟨#[49]⟩, b.Exp - 1⟩ = [49] := rfl
      refine .inr ⟨by show (1 : Nat) ≠ 0; omega, by show (1 : Nat) ≤ 65536; omega, by rw [hd]; simp, by rw [hd]; simp, by rw [hd]; exact figs_cons.2 ⟨by omega, figs_nil⟩, by dsimp only; omega, by dsimp only; omega⟩
    have sz : sgn ⟨false, s', 0⟩ = 0 := by unfold sgn; rw [if_pos (empty_str.1 s0)]
    have s1 : sgn ⟨false, ⟨#[49]⟩, b.Exp - 1⟩ = 1 := sgn_pos (by show (1 : Nat) ≠ 0; omega) rfl
    have eT : bText t = (⟨#[48]⟩ : ByteArray) := by rw [ht]; rfl
    have M1 : dec_Multiple ⟨false, s', 0⟩ b true 0 := dec_Multiple_r3 (ok_check oz) rfl cb rfl (sgn_run b).1 (by omega) (sgn_run _).1 sz
    have M2 : dec_Multiple ⟨false, ⟨#[49]⟩, b.Exp - 1⟩ b false 0 := dec_Multiple_r4 (ok_check o1') rfl cb rfl (sgn_run b).1 (by omega) (sgn_run _).1 (by omega) (by dsimp only; omega)
    exact law_DecTimes_r8 (z0 := ⟨false, s', b.Exp + m⟩) cb rfl hn h3 h4 h5 h6 ck rfl h9 o1 p1 t1 rfl rfl rfl l1 s0 M1 hadd w1 eT M2 rfl rfl heads_ok
  · have hT0 : 0 < hv 0 t := hv_pos t2 t3 ht
    have hvt : hv 0 t = hv 0 (strInts s') * 10 ^ m := by
      have hz : ∀ j, hv 0 (List.replicate j 48) = 0 := by
        intro j
        induction j with
        | zero => rfl
        | succ j ih => rw [List.replicate_succ, hv]; simpa using ih
      conv => lhs; rw [l2]
      rw [hv_app, hz, List.length_replicate, Int.add_zero]
    have sn : s'.size ≠ 0 := fun h => by
      have : strInts s' = [] := List.length_eq_zero_iff.1 (by rw [lens]; exact h)
      rw [this] at hvt
      have h0 : hv 0 ([] : List Int) = 0 := rfl
      rw [h0, Int.zero_mul] at hvt
      omega
    have s0 : ¬ s' = (⟨#[]⟩ : ByteArray) := fun e => sn (empty_str.1 e)
    have eT : ¬ bText t = (⟨#[48]⟩ : ByteArray) := fun e => by
      have := congrArg strInts e
      rw [hts] at this
      exact ht (by rw [this]; rfl)
    have hs : (strInts s').head? ≠ some 48 := fun e => by
      cases hq : strInts s' with
      | nil => rw [hq] at lens; exact sn lens.symm
      | cons d r =>
        rw [hq] at e l2
        exact ht (by rw [l2]; simpa using e)
    have oz : okD ⟨false, s', b.Exp + m⟩ := .inr ⟨sn, by dsimp only; omega, hs, l3, fs, by dsimp only; omega, by dsimp only; omega⟩
    have e1 : strInts (bText t ++ (⟨#[49]⟩ : ByteArray)) = t ++ [49] := by rw [strInts_app, hts]; rfl
    have e1z : (bText t ++ (⟨#[49]⟩ : ByteArray)).size = t.length + 1 := by rw [← strInts_len, e1]; simp
    have o1' : okD ⟨false, bText t ++ ⟨#[49]⟩, b.Exp - 1⟩ := by
      have hd : Dec.ds ⟨false, bText t ++ ⟨#[49]⟩, b.Exp - 1⟩ = t ++ [49] := e1
      refine .inr ⟨by dsimp only; omega, by dsimp only; omega, ?_, by rw [hd]; simp, ?_, by dsimp only; omega, by dsimp only; omega⟩
      · rw [hd]
        intro e
        cases t with
        | nil => exact t3 rfl
        | cons d r => exact ht (by simpa using e)
      · rw [hd]
        intro d hd
        rcases List.mem_append.1 hd with h | h
        · exact t2 d h
        · simp at h; subst h; omega
    have sz : sgn ⟨false, s', b.Exp + m⟩ = 1 := sgn_pos sn rfl
    have s1 : sgn ⟨false, bText t ++ ⟨#[49]⟩, b.Exp - 1⟩ = 1 := sgn_pos (by dsimp only; omega) rfl
    obtain ⟨x2, y2, tn, pp, qq, rr, _, _, _, _, _, _, k1, k2, k3, k4, k5, _, _, _, _, _, _, kn, kv⟩ := multiple_run oz ob (by omega) (by omega) m (by omega)
    have r0 : rr.xs = [] := by
      apply Classical.byContradiction
      intro hne
      have := val_pos kn hne
      have hz : Dec.ds ⟨false, s', b.Exp + m⟩ = strInts s' := rfl
      rw [kv, hz, ← hvt, t4, Int.mul_emod_right] at this
      omega
    have em : b.Exp + (m : Int) - b.Exp = (m : Int) := by omega
    have M1 : dec_Multiple ⟨false, s', b.Exp + m⟩ b true 0 := dec_Multiple_r5 (ok_check oz) rfl cb rfl (sgn_run b).1 (by omega) (sgn_run _).1 (by omega) (by dsimp only; omega) k1 k2 (by dsimp only; rw [em]; exact in64 (by omega) (by omega)) (by dsimp only; rw [em]; exact k3) k4 k5 (by rw [r0]; rfl)
    have M2 : dec_Multiple ⟨false, bText t ++ ⟨#[49]⟩, b.Exp - 1⟩ b false 0 := dec_Multiple_r4 (ok_check o1') rfl cb rfl (sgn_run b).1 (by omega) (sgn_run _).1 (by omega) (by dsimp only; omega)
    exact law_DecTimes_r11 (z0 := ⟨false, s', b.Exp + m⟩) cb rfl hn h3 h4 h5 h6 ck rfl h9 o1 p1 t1 rfl rfl rfl l1 s0 M1 hadd w1 eT M2 rfl rfl heads_ok
end Go.Proofs.YtkkekfehjbbhoaaGreatDoor.V

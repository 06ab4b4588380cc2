/- The law DecOrder (the cases printed). -/
import Derived.Test.YtkkekfehjbbhoaaGreatDoorD2
namespace Go.Proofs.YtkkekfehjbbhoaaGreatDoor.V
open Go
set_option linter.unusedVariables false
set_option linter.unnecessarySimpa false
set_option linter.unusedSimpArgs false
set_option linter.unusedSectionVars false
def minus (d : Dec) : Dec := if d.Digits = (⟨#[]⟩ : ByteArray) then d else ⟨!d.Neg, d.Digits, d.Exp⟩
theorem minus_empty {d : Dec} (h : d.Digits = (⟨#[]⟩ : ByteArray)) : d = minus d := by unfold minus; rw [if_pos h]
theorem minus_true {d : Dec} (h : ¬ d.Digits = (⟨#[]⟩ : ByteArray)) (hn : d.Neg = true) : Dec.mk false d.Digits d.Exp = minus d := by unfold minus; rw [if_neg h, hn]; rfl
theorem minus_false {d : Dec} (h : ¬ d.Digits = (⟨#[]⟩ : ByteArray)) (hn : d.Neg = false) : Dec.mk true d.Digits d.Exp = minus d := by unfold minus; rw [if_neg h, hn]; rfl
theorem minus_same (d : Dec) : (minus d).Digits = d.Digits ∧ (minus d).Exp = d.Exp := by
  unfold minus
  split <;> exact ⟨rfl, rfl⟩
theorem minus_ok {d : Dec} (h : okD d) : okD (minus d) := by
  obtain ⟨e1, e2⟩ := minus_same d
  rcases h with h | h
  · rw [← minus_empty (empty_str.2 h.1)]
    exact .inl h
  · refine .inr ?_
    unfold Dec.ds at h ⊢
    rw [e1, e2]
    exact h
theorem minus_sgn (d : Dec) : sgn (minus d) = - sgn d := by
  unfold sgn
  rw [(minus_same d).1]
  by_cases h0 : d.Digits.size = 0
  · rw [if_pos h0, if_pos h0]; rfl
  · rw [if_neg h0, if_neg h0]
    unfold minus
    rw [if_neg (fun e => h0 (empty_str.1 e))]
    cases d.Neg <;> simp
theorem minus_size (a b : Dec) : sizeD (minus a) (minus b) = sizeD a b := by
  unfold sizeD high Dec.ds
  rw [(minus_same a).1, (minus_same a).2, (minus_same b).1, (minus_same b).2]
theorem minus_cmp (a b : Dec) : cmpD (minus a) (minus b) = - cmpD a b := by
  unfold cmpD
  rw [minus_sgn, minus_sgn, minus_size]
  by_cases h1 : sgn a < sgn b
  · rw [if_neg (by omega), if_pos (by omega), if_pos h1]; rfl
  · by_cases h2 : sgn b < sgn a
    · rw [if_pos (by omega), if_neg h1, if_pos h2]
    · rw [if_neg (by omega), if_neg (by omega), if_neg h1, if_neg h2, Int.neg_mul]
theorem order_true {a b c : Dec} (ha : wf_Dec a) (hb : wf_Dec b) (hc : wf_Dec c) : law_DecOrder a b c true := by
  rcases check_dec (wf_size ha) with ⟨oa, ca, ra⟩ | ⟨oa, ca, ra⟩
  rotate_left
  · exact law_DecOrder_r0 ca (by decide) heads_ok
  rcases check_dec (wf_size hb) with ⟨ob, cb, rb⟩ | ⟨ob, cb, rb⟩
  rotate_left
  · exact law_DecOrder_r1 ca rfl cb (by decide) heads_ok
  rcases check_dec (wf_size hc) with ⟨oc, cc, rc⟩ | ⟨oc, cc, rc⟩
  rotate_left
  · exact law_DecOrder_r2 ca rfl cb rfl cc (by decide) heads_ok
  have kab := (compare_dec oa ob ca cb ra rb).1
  have kba := (compare_dec ob oa cb ca rb ra).1
  have kbc := (compare_dec ob oc cb cc rb rc).1
  have kac := (compare_dec oa oc ca cc ra rc).1
  have ma : dec_Check (minus a) 0 ∧ ref03_Check (minus a) 0 := by
    rcases check_dec (d := minus a) (by rw [(minus_same a).1]; exact wf_size ha) with ⟨_, h1, h2⟩ | ⟨h, _⟩
    · exact ⟨h1, h2⟩
    · exact absurd (minus_ok oa) h
  have mb : dec_Check (minus b) 0 ∧ ref03_Check (minus b) 0 := by
    rcases check_dec (d := minus b) (by rw [(minus_same b).1]; exact wf_size hb) with ⟨_, h1, h2⟩ | ⟨h, _⟩
    · exact ⟨h1, h2⟩
    · exact absurd (minus_ok ob) h
  have kmn := (compare_dec (minus_ok oa) (minus_ok ob) ma.1 mb.1 ma.2 mb.2).1
  rw [minus_cmp] at kmn
  have tr := @cmpD_le a b c
  have fl := cmpD_flip a b
  have bd := cmpD_cases a b
  have kmin : ∀ {a' b' : Dec}, a' = minus a → b' = minus b → dec_Compare a' b' (- cmpD a b) 0 := fun e1 e2 => by rw [e1, e2]; exact kmn
  rw [fl] at kba
  clear fl kmn
  generalize cmpD a b = x at *
  generalize cmpD b c = y at *
  generalize cmpD a c = z at *
  have w1 : x = IntKind.i64.wrap (0 - -x) := by rw [show (0 : Int) - -x = x by omega, show IntKind.i64.wrap x = x from in64 (by omega) (by omega)]
  have w2 : -x = IntKind.i64.wrap (0 - x) := by rw [show (0 : Int) - x = -x by omega, show IntKind.i64.wrap (-x) = -x from in64 (by omega) (by omega)]
  by_cases hx : x ≤ 0
  · by_cases hy : y ≤ 0
    · have tt := tr hx hy
      by_cases hx2 : x < 0
      · by_cases hy2 : y < 0
        · skip
          rcases Classical.em (a.Digits = (⟨#[]⟩ : ByteArray)) with ea | ea
          · skip
            rcases Classical.em (b.Digits = (⟨#[]⟩ : ByteArray)) with eb | eb
            · exact law_DecOrder_r3 ca rfl cb rfl cc rfl kab kba kbc kac (by omega) (by omega) (by omega) (by omega) (by omega) (by omega) ea eb (kmin (minus_empty ea) (minus_empty eb)) w1 w2 heads_ok
            · rcases b_em b.Neg with nb | nb
              · exact law_DecOrder_r4 ca rfl cb rfl cc rfl kab kba kbc kac (by omega) (by omega) (by omega) (by omega) (by omega) (by omega) ea eb nb (kmin (minus_empty ea) (minus_true eb nb)) w1 w2 heads_ok
              · exact law_DecOrder_r5 ca rfl cb rfl cc rfl kab kba kbc kac (by omega) (by omega) (by omega) (by omega) (by omega) (by omega) ea eb nb (kmin (minus_empty ea) (minus_false eb nb)) w1 w2 heads_ok
          · rcases b_em a.Neg with na | na
            · skip
              rcases Classical.em (b.Digits = (⟨#[]⟩ : ByteArray)) with eb | eb
              · exact law_DecOrder_r6 ca rfl cb rfl cc rfl kab kba kbc kac (by omega) (by omega) (by omega) (by omega) (by omega) (by omega) ea na eb (kmin (minus_true ea na) (minus_empty eb)) w1 w2 heads_ok
              · rcases b_em b.Neg with nb | nb
                · exact law_DecOrder_r7 ca rfl cb rfl cc rfl kab kba kbc kac (by omega) (by omega) (by omega) (by omega) (by omega) (by omega) ea na eb nb (kmin (minus_true ea na) (minus_true eb nb)) w1 w2 heads_ok
                · exact law_DecOrder_r8 ca rfl cb rfl cc rfl kab kba kbc kac (by omega) (by omega) (by omega) (by omega) (by omega) (by omega) ea na eb nb (kmin (minus_true ea na) (minus_false eb nb)) w1 w2 heads_ok
            · skip
              rcases Classical.em (b.Digits = (⟨#[]⟩ : ByteArray)) with eb | eb
              · exact law_DecOrder_r9 ca rfl cb rfl cc rfl kab kba kbc kac (by omega) (by omega) (by omega) (by omega) (by omega) (by omega) ea na eb (kmin (minus_false ea na) (minus_empty eb)) w1 w2 heads_ok
              · rcases b_em b.Neg with nb | nb
                · exact law_DecOrder_r10 ca rfl cb rfl cc rfl kab kba kbc kac (by omega) (by omega) (by omega) (by omega) (by omega) (by omega) ea na eb nb (kmin (minus_false ea na) (minus_true eb nb)) w1 w2 heads_ok
                · exact law_DecOrder_r11 ca rfl cb rfl cc rfl kab kba kbc kac (by omega) (by omega) (by omega) (by omega) (by omega) (by omega) ea na eb nb (kmin (minus_false ea na) (minus_false eb nb)) w1 w2 heads_ok
        · skip
          rcases Classical.em (a.Digits = (⟨#[]⟩ : ByteArray)) with ea | ea
          · skip
            rcases Classical.em (b.Digits = (⟨#[]⟩ : ByteArray)) with eb | eb
            · exact law_DecOrder_r12 ca rfl cb rfl cc rfl kab kba kbc kac (by omega) (by omega) (by omega) (by omega) (by omega) ea eb (kmin (minus_empty ea) (minus_empty eb)) w1 w2 heads_ok
            · rcases b_em b.Neg with nb | nb
              · exact law_DecOrder_r13 ca rfl cb rfl cc rfl kab kba kbc kac (by omega) (by omega) (by omega) (by omega) (by omega) ea eb nb (kmin (minus_empty ea) (minus_true eb nb)) w1 w2 heads_ok
              · exact law_DecOrder_r14 ca rfl cb rfl cc rfl kab kba kbc kac (by omega) (by omega) (by omega) (by omega) (by omega) ea eb nb (kmin (minus_empty ea) (minus_false eb nb)) w1 w2 heads_ok
          · rcases b_em a.Neg with na | na
            · skip
              rcases Classical.em (b.Digits = (⟨#[]⟩ : ByteArray)) with eb | eb
              · exact law_DecOrder_r15 ca rfl cb rfl cc rfl kab kba kbc kac (by omega) (by omega) (by omega) (by omega) (by omega) ea na eb (kmin (minus_true ea na) (minus_empty eb)) w1 w2 heads_ok
              · rcases b_em b.Neg with nb | nb
                · exact law_DecOrder_r16 ca rfl cb rfl cc rfl kab kba kbc kac (by omega) (by omega) (by omega) (by omega) (by omega) ea na eb nb (kmin (minus_true ea na) (minus_true eb nb)) w1 w2 heads_ok
                · exact law_DecOrder_r17 ca rfl cb rfl cc rfl kab kba kbc kac (by omega) (by omega) (by omega) (by omega) (by omega) ea na eb nb (kmin (minus_true ea na) (minus_false eb nb)) w1 w2 heads_ok
            · skip
              rcases Classical.em (b.Digits = (⟨#[]⟩ : ByteArray)) with eb | eb
              · exact law_DecOrder_r18 ca rfl cb rfl cc rfl kab kba kbc kac (by omega) (by omega) (by omega) (by omega) (by omega) ea na eb (kmin (minus_false ea na) (minus_empty eb)) w1 w2 heads_ok
              · rcases b_em b.Neg with nb | nb
                · exact law_DecOrder_r19 ca rfl cb rfl cc rfl kab kba kbc kac (by omega) (by omega) (by omega) (by omega) (by omega) ea na eb nb (kmin (minus_false ea na) (minus_true eb nb)) w1 w2 heads_ok
                · exact law_DecOrder_r20 ca rfl cb rfl cc rfl kab kba kbc kac (by omega) (by omega) (by omega) (by omega) (by omega) ea na eb nb (kmin (minus_false ea na) (minus_false eb nb)) w1 w2 heads_ok
      · skip
        rcases Classical.em (a.Digits = (⟨#[]⟩ : ByteArray)) with ea | ea
        · skip
          rcases Classical.em (b.Digits = (⟨#[]⟩ : ByteArray)) with eb | eb
          · exact law_DecOrder_r21 ca rfl cb rfl cc rfl kab kba kbc kac (by omega) (by omega) (by omega) (by omega) ea eb (kmin (minus_empty ea) (minus_empty eb)) w1 w2 heads_ok
          · rcases b_em b.Neg with nb | nb
            · exact law_DecOrder_r22 ca rfl cb rfl cc rfl kab kba kbc kac (by omega) (by omega) (by omega) (by omega) ea eb nb (kmin (minus_empty ea) (minus_true eb nb)) w1 w2 heads_ok
            · exact law_DecOrder_r23 ca rfl cb rfl cc rfl kab kba kbc kac (by omega) (by omega) (by omega) (by omega) ea eb nb (kmin (minus_empty ea) (minus_false eb nb)) w1 w2 heads_ok
        · rcases b_em a.Neg with na | na
          · skip
            rcases Classical.em (b.Digits = (⟨#[]⟩ : ByteArray)) with eb | eb
            · exact law_DecOrder_r24 ca rfl cb rfl cc rfl kab kba kbc kac (by omega) (by omega) (by omega) (by omega) ea na eb (kmin (minus_true ea na) (minus_empty eb)) w1 w2 heads_ok
            · rcases b_em b.Neg with nb | nb
              · exact law_DecOrder_r25 ca rfl cb rfl cc rfl kab kba kbc kac (by omega) (by omega) (by omega) (by omega) ea na eb nb (kmin (minus_true ea na) (minus_true eb nb)) w1 w2 heads_ok
              · exact law_DecOrder_r26 ca rfl cb rfl cc rfl kab kba kbc kac (by omega) (by omega) (by omega) (by omega) ea na eb nb (kmin (minus_true ea na) (minus_false eb nb)) w1 w2 heads_ok
          · skip
            rcases Classical.em (b.Digits = (⟨#[]⟩ : ByteArray)) with eb | eb
            · exact law_DecOrder_r27 ca rfl cb rfl cc rfl kab kba kbc kac (by omega) (by omega) (by omega) (by omega) ea na eb (kmin (minus_false ea na) (minus_empty eb)) w1 w2 heads_ok
            · rcases b_em b.Neg with nb | nb
              · exact law_DecOrder_r28 ca rfl cb rfl cc rfl kab kba kbc kac (by omega) (by omega) (by omega) (by omega) ea na eb nb (kmin (minus_false ea na) (minus_true eb nb)) w1 w2 heads_ok
              · exact law_DecOrder_r29 ca rfl cb rfl cc rfl kab kba kbc kac (by omega) (by omega) (by omega) (by omega) ea na eb nb (kmin (minus_false ea na) (minus_false eb nb)) w1 w2 heads_ok
    · by_cases hx2 : x < 0
      · skip
        rcases Classical.em (a.Digits = (⟨#[]⟩ : ByteArray)) with ea | ea
        · skip
          rcases Classical.em (b.Digits = (⟨#[]⟩ : ByteArray)) with eb | eb
          · exact law_DecOrder_r39 ca rfl cb rfl cc rfl kab kba kbc kac (by omega) (by omega) (by omega) (by omega) ea eb (kmin (minus_empty ea) (minus_empty eb)) w1 w2 heads_ok
          · rcases b_em b.Neg with nb | nb
            · exact law_DecOrder_r40 ca rfl cb rfl cc rfl kab kba kbc kac (by omega) (by omega) (by omega) (by omega) ea eb nb (kmin (minus_empty ea) (minus_true eb nb)) w1 w2 heads_ok
            · exact law_DecOrder_r41 ca rfl cb rfl cc rfl kab kba kbc kac (by omega) (by omega) (by omega) (by omega) ea eb nb (kmin (minus_empty ea) (minus_false eb nb)) w1 w2 heads_ok
        · rcases b_em a.Neg with na | na
          · skip
            rcases Classical.em (b.Digits = (⟨#[]⟩ : ByteArray)) with eb | eb
            · exact law_DecOrder_r42 ca rfl cb rfl cc rfl kab kba kbc kac (by omega) (by omega) (by omega) (by omega) ea na eb (kmin (minus_true ea na) (minus_empty eb)) w1 w2 heads_ok
            · rcases b_em b.Neg with nb | nb
              · exact law_DecOrder_r43 ca rfl cb rfl cc rfl kab kba kbc kac (by omega) (by omega) (by omega) (by omega) ea na eb nb (kmin (minus_true ea na) (minus_true eb nb)) w1 w2 heads_ok
              · exact law_DecOrder_r44 ca rfl cb rfl cc rfl kab kba kbc kac (by omega) (by omega) (by omega) (by omega) ea na eb nb (kmin (minus_true ea na) (minus_false eb nb)) w1 w2 heads_ok
          · skip
            rcases Classical.em (b.Digits = (⟨#[]⟩ : ByteArray)) with eb | eb
            · exact law_DecOrder_r45 ca rfl cb rfl cc rfl kab kba kbc kac (by omega) (by omega) (by omega) (by omega) ea na eb (kmin (minus_false ea na) (minus_empty eb)) w1 w2 heads_ok
            · rcases b_em b.Neg with nb | nb
              · exact law_DecOrder_r46 ca rfl cb rfl cc rfl kab kba kbc kac (by omega) (by omega) (by omega) (by omega) ea na eb nb (kmin (minus_false ea na) (minus_true eb nb)) w1 w2 heads_ok
              · exact law_DecOrder_r47 ca rfl cb rfl cc rfl kab kba kbc kac (by omega) (by omega) (by omega) (by omega) ea na eb nb (kmin (minus_false ea na) (minus_false eb nb)) w1 w2 heads_ok
      · skip
        rcases Classical.em (a.Digits = (⟨#[]⟩ : ByteArray)) with ea | ea
        · skip
          rcases Classical.em (b.Digits = (⟨#[]⟩ : ByteArray)) with eb | eb
          · exact law_DecOrder_r48 ca rfl cb rfl cc rfl kab kba kbc kac (by omega) (by omega) (by omega) ea eb (kmin (minus_empty ea) (minus_empty eb)) w1 w2 heads_ok
          · rcases b_em b.Neg with nb | nb
            · exact law_DecOrder_r49 ca rfl cb rfl cc rfl kab kba kbc kac (by omega) (by omega) (by omega) ea eb nb (kmin (minus_empty ea) (minus_true eb nb)) w1 w2 heads_ok
            · exact law_DecOrder_r50 ca rfl cb rfl cc rfl kab kba kbc kac (by omega) (by omega) (by omega) ea eb nb (kmin (minus_empty ea) (minus_false eb nb)) w1 w2 heads_ok
        · rcases b_em a.Neg with na | na
          · skip
            rcases Classical.em (b.Digits = (⟨#[]⟩ : ByteArray)) with eb | eb
            · exact law_DecOrder_r51 ca rfl cb rfl cc rfl kab kba kbc kac (by omega) (by omega) (by omega) ea na eb (kmin (minus_true ea na) (minus_empty eb)) w1 w2 heads_ok
            · rcases b_em b.Neg with nb | nb
              · exact law_DecOrder_r52 ca rfl cb rfl cc rfl kab kba kbc kac (by omega) (by omega) (by omega) ea na eb nb (kmin (minus_true ea na) (minus_true eb nb)) w1 w2 heads_ok
              · exact law_DecOrder_r53 ca rfl cb rfl cc rfl kab kba kbc kac (by omega) (by omega) (by omega) ea na eb nb (kmin (minus_true ea na) (minus_false eb nb)) w1 w2 heads_ok
          · skip
            rcases Classical.em (b.Digits = (⟨#[]⟩ : ByteArray)) with eb | eb
            · exact law_DecOrder_r54 ca rfl cb rfl cc rfl kab kba kbc kac (by omega) (by omega) (by omega) ea na eb (kmin (minus_false ea na) (minus_empty eb)) w1 w2 heads_ok
            · rcases b_em b.Neg with nb | nb
              · exact law_DecOrder_r55 ca rfl cb rfl cc rfl kab kba kbc kac (by omega) (by omega) (by omega) ea na eb nb (kmin (minus_false ea na) (minus_true eb nb)) w1 w2 heads_ok
              · exact law_DecOrder_r56 ca rfl cb rfl cc rfl kab kba kbc kac (by omega) (by omega) (by omega) ea na eb nb (kmin (minus_false ea na) (minus_false eb nb)) w1 w2 heads_ok
  · skip
    rcases Classical.em (a.Digits = (⟨#[]⟩ : ByteArray)) with ea | ea
    · skip
      rcases Classical.em (b.Digits = (⟨#[]⟩ : ByteArray)) with eb | eb
      · exact law_DecOrder_r75 ca rfl cb rfl cc rfl kab kba kbc kac (by omega) (by omega) ea eb (kmin (minus_empty ea) (minus_empty eb)) w1 w2 heads_ok
      · rcases b_em b.Neg with nb | nb
        · exact law_DecOrder_r76 ca rfl cb rfl cc rfl kab kba kbc kac (by omega) (by omega) ea eb nb (kmin (minus_empty ea) (minus_true eb nb)) w1 w2 heads_ok
        · exact law_DecOrder_r77 ca rfl cb rfl cc rfl kab kba kbc kac (by omega) (by omega) ea eb nb (kmin (minus_empty ea) (minus_false eb nb)) w1 w2 heads_ok
    · rcases b_em a.Neg with na | na
      · skip
        rcases Classical.em (b.Digits = (⟨#[]⟩ : ByteArray)) with eb | eb
        · exact law_DecOrder_r78 ca rfl cb rfl cc rfl kab kba kbc kac (by omega) (by omega) ea na eb (kmin (minus_true ea na) (minus_empty eb)) w1 w2 heads_ok
        · rcases b_em b.Neg with nb | nb
          · exact law_DecOrder_r79 ca rfl cb rfl cc rfl kab kba kbc kac (by omega) (by omega) ea na eb nb (kmin (minus_true ea na) (minus_true eb nb)) w1 w2 heads_ok
          · exact law_DecOrder_r80 ca rfl cb rfl cc rfl kab kba kbc kac (by omega) (by omega) ea na eb nb (kmin (minus_true ea na) (minus_false eb nb)) w1 w2 heads_ok
      · skip
        rcases Classical.em (b.Digits = (⟨#[]⟩ : ByteArray)) with eb | eb
        · exact law_DecOrder_r81 ca rfl cb rfl cc rfl kab kba kbc kac (by omega) (by omega) ea na eb (kmin (minus_false ea na) (minus_empty eb)) w1 w2 heads_ok
        · rcases b_em b.Neg with nb | nb
          · exact law_DecOrder_r82 ca rfl cb rfl cc rfl kab kba kbc kac (by omega) (by omega) ea na eb nb (kmin (minus_false ea na) (minus_true eb nb)) w1 w2 heads_ok
          · exact law_DecOrder_r83 ca rfl cb rfl cc rfl kab kba kbc kac (by omega) (by omega) ea na eb nb (kmin (minus_false ea na) (minus_false eb nb)) w1 w2 heads_ok
end Go.Proofs.YtkkekfehjbbhoaaGreatDoor.V

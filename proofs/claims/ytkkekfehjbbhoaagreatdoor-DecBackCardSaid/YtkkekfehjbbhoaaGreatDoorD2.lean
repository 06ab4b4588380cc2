/- dec.Compare and the document's Compare; the laws DecCompares and DecOrder. -/
import Derived.Test.YtkkekfehjbbhoaaGreatDoorD1
namespace Go.Proofs.YtkkekfehjbbhoaaGreatDoor.V
open Go
set_option linter.unusedVariables false
set_option linter.unnecessarySimpa false
set_option linter.unusedSimpArgs false
set_option linter.unusedSectionVars false
theorem last_tail {x : Int} {r : List Int} (h : (x :: r).getLast? ≠ some 48) : r.getLast? ≠ some 48 := by
  cases r with
  | nil => simp
  | cons y r => rw [List.getLast?_cons_cons] at h; exact h
theorem size_loop {a b : Dec} (hla : a.Digits.size < 281474976710656) (hlb : b.Digits.size < 281474976710656) : ∀ (n : Nat) (X Y : List Int) (i : Nat), X.length + Y.length ≤ n → a.ds.drop i = X → b.ds.drop i = Y → figs X → figs Y → X.getLast? ≠ some 48 → Y.getLast? ≠ some 48 →
    (cmpL X Y = -1 ∧ ref03_size_l0 a b i (ref03_size_l0_x0 a b)) ∨ (cmpL X Y = 1 ∧ ref03_size_l0 a b i (ref03_size_l0_x1 a b)) ∨ (cmpL X Y = 0 ∧ ∃ z, ref03_size_l0 a b i (ref03_size_l0_x2 a b z)) := by
  intro n
  induction n with
  | zero =>
    intro X Y i hn ha hb fX fY lX lY
    have e1 : X = [] := List.length_eq_zero_iff.1 (by omega)
    have e2 : Y = [] := List.length_eq_zero_iff.1 (by omega)
    subst e1; subst e2
    have h1 := drop_nil_le ha
    have h2 := drop_nil_le hb
    rw [strInts_len] at h1 h2
    exact .inr (.inr ⟨rfl, _, ref03_size_l0_e9 (by omega) (by omega)⟩)
  | succ n ih =>
    intro X Y i hn ha hb fX fY lX lY
    cases X with
    | nil =>
      have h1 := drop_nil_le ha
      rw [strInts_len] at h1
      cases Y with
      | nil =>
        have h2 := drop_nil_le hb
        rw [strInts_len] at h2
        exact .inr (.inr ⟨rfl, _, ref03_size_l0_e9 (by omega) (by omega)⟩)
      | cons y ys =>
        obtain ⟨k1, k2, k3⟩ := at_drop hb
        rw [strInts_len] at k3
        rw [Int.toNat_natCast] at k1
        obtain ⟨c, c1, c2⟩ := str_get k1
        rw [figs_cons] at fY
        by_cases hy : y = 48
        · have hys : ys ≠ [] := by
            intro e
            subst e
            exact lY (by simp [hy])
          have hx : a.ds.drop (i + 1) = [] := List.drop_eq_nil_of_le (by rw [strInts_len]; omega)
          have g := ih [] ys (i + 1) (by simp at hn ⊢; omega) hx k2 figs_nil fY.2 (by simp) (last_tail lY)
          have hc : cmpL [] ys = -1 := by
            cases ys with
            | nil => exact absurd rfl hys
            | cons z zs => rfl
          rw [hc] at g
          rcases g with ⟨_, g⟩ | ⟨g, _⟩ | ⟨g, _⟩
          · exact .inl ⟨rfl, ref03_size_l0_s8 (by omega) (by omega) (by omega) (by rw [Int.toNat_natCast]; exact c1) (by omega) (in64 (by omega) (by omega)) (by exact_mod_cast g)⟩
          · cases g
          · cases g
        · exact .inl ⟨rfl, ref03_size_l0_e6 (by omega) (by omega) (by omega) (by rw [Int.toNat_natCast]; exact c1) (by omega) (by omega)⟩
    | cons x xs =>
      obtain ⟨j1, j2, j3⟩ := at_drop ha
      rw [strInts_len] at j3
      rw [Int.toNat_natCast] at j1
      obtain ⟨p, p1, p2⟩ := str_get j1
      rw [figs_cons] at fX
      cases Y with
      | nil =>
        have h2 := drop_nil_le hb
        rw [strInts_len] at h2
        by_cases hx : x = 48
        · have hxs : xs ≠ [] := by
            intro e
            subst e
            exact lX (by simp [hx])
          have hy : b.ds.drop (i + 1) = [] := List.drop_eq_nil_of_le (by rw [strInts_len]; omega)
          have g := ih xs [] (i + 1) (by simp at hn ⊢; omega) j2 hy fX.2 figs_nil (last_tail lX) (by simp)
          have hc : cmpL xs [] = 1 := by
            cases xs with
            | nil => exact absurd rfl hxs
            | cons z zs => rfl
          rw [hc] at g
          rcases g with ⟨g, _⟩ | ⟨_, g⟩ | ⟨g, _⟩
          · cases g
          · exact .inr (.inl ⟨rfl, ref03_size_l0_s5 (by omega) (by omega) (by rw [Int.toNat_natCast]; exact p1) (by omega) (by omega) (in64 (by omega) (by omega)) (by exact_mod_cast g)⟩)
          · cases g
        · exact .inr (.inl ⟨rfl, ref03_size_l0_e4 (by omega) (by omega) (by rw [Int.toNat_natCast]; exact p1) (by omega) (by omega) (by omega)⟩)
      | cons y ys =>
        obtain ⟨k1, k2, k3⟩ := at_drop hb
        rw [strInts_len] at k3
        rw [Int.toNat_natCast] at k1
        obtain ⟨c, c1, c2⟩ := str_get k1
        rw [figs_cons] at fY
        simp only [cmpL]
        by_cases h1 : x < y
        · rw [if_pos h1]
          exact .inl ⟨rfl, ref03_size_l0_e0 (by omega) (by omega) (by rw [Int.toNat_natCast]; exact p1) (by omega) (by rw [Int.toNat_natCast]; exact c1) (by omega) (by omega)⟩
        · by_cases h2 : y < x
          · rw [if_neg h1, if_pos h2]
            exact .inr (.inl ⟨rfl, ref03_size_l0_e1 (by omega) (by omega) (by rw [Int.toNat_natCast]; exact p1) (by omega) (by rw [Int.toNat_natCast]; exact c1) (by omega) (by omega)⟩)
          · rw [if_neg h1, if_neg h2]
            have st : ∀ {r_}, ref03_size_l0 a b ((i + 1 : Nat) : Int) r_ → ref03_size_l0 a b i r_ := fun {r_} g => ref03_size_l0_s2 (by omega) (by omega) (by rw [Int.toNat_natCast]; exact p1) (by omega) (by rw [Int.toNat_natCast]; exact c1) (by omega) (in64 (by omega) (by omega)) (by exact_mod_cast g)
            rcases ih xs ys (i + 1) (by simp at hn ⊢; omega) j2 k2 fX.2 fY.2 (last_tail lX) (last_tail lY) with ⟨g1, g2⟩ | ⟨g1, g2⟩ | ⟨g1, z, g2⟩
            · exact .inl ⟨g1, st g2⟩
            · exact .inr (.inl ⟨g1, st g2⟩)
            · exact .inr (.inr ⟨g1, z, st g2⟩)
def sgn (d : Dec) : Int := if d.Digits.size = 0 then 0 else if d.Neg = true then -1 else 1
theorem sgn_run (d : Dec) : dec_sign d (sgn d) ∧ ref03_sign d (sgn d) := by
  unfold sgn
  by_cases h0 : d.Digits.size = 0
  · rw [if_pos h0]
    exact ⟨dec_sign_r0 (empty_str.2 h0), ref03_sign_r0 (empty_str.2 h0)⟩
  · have h : ¬ d.Digits = (⟨#[]⟩ : ByteArray) := fun e => h0 (empty_str.1 e)
    rw [if_neg h0]
    rcases b_em d.Neg with hn | hn
    · rw [if_pos hn]; exact ⟨dec_sign_r1 h hn, ref03_sign_r1 h hn⟩
    · rw [if_neg (by rw [hn]; simp)]; exact ⟨dec_sign_r2 h hn, ref03_sign_r2 h hn⟩
theorem sgn_cases (d : Dec) : sgn d = -1 ∨ sgn d = 0 ∨ sgn d = 1 := by
  unfold sgn
  split
  · simp
  · split <;> simp
def high (d : Dec) : Int := (d.Digits.size : Int) + d.Exp
def sizeD (a b : Dec) : Int := if cmpI (high a) (high b) ≠ 0 then cmpI (high a) (high b) else cmpL a.ds b.ds
def cmpD (a b : Dec) : Int := if sgn a < sgn b then -1 else if sgn b < sgn a then 1 else sgn a * sizeD a b
theorem cmpI_cases (x y : Int) : (x < y ∧ cmpI x y = -1) ∨ (y < x ∧ cmpI x y = 1) ∨ (x = y ∧ cmpI x y = 0) := by
  unfold cmpI
  split
  · exact .inl ⟨by omega, rfl⟩
  · split
    · exact .inr (.inl ⟨by omega, rfl⟩)
    · exact .inr (.inr ⟨by omega, rfl⟩)
theorem cmpL_cases : ∀ (l m : List Int), cmpL l m = -1 ∨ cmpL l m = 0 ∨ cmpL l m = 1
  | [], [] => by simp [cmpL]
  | [], _ :: _ => by simp [cmpL]
  | _ :: _, [] => by simp [cmpL]
  | a :: x, b :: y => by
    simp only [cmpL]
    split
    · simp
    · split
      · simp
      · exact cmpL_cases x y
theorem sizeD_cases (a b : Dec) : sizeD a b = -1 ∨ sizeD a b = 0 ∨ sizeD a b = 1 := by
  unfold sizeD
  split
  · rcases cmpI_cases (high a) (high b) with h | h | h <;> omega
  · exact cmpL_cases _ _
theorem sizeD_flip (a b : Dec) : sizeD b a = - sizeD a b := by
  unfold sizeD
  rcases cmpI_cases (high a) (high b) with ⟨h, e⟩ | ⟨h, e⟩ | ⟨h, e⟩ <;> rcases cmpI_cases (high b) (high a) with ⟨h', e'⟩ | ⟨h', e'⟩ | ⟨h', e'⟩ <;> rw [e, e'] <;> first | omega | (simp; done) | (simp; exact cmpL_flip _ _)
theorem cmpD_flip (a b : Dec) : cmpD b a = - cmpD a b := by
  unfold cmpD
  by_cases h1 : sgn a < sgn b
  · rw [if_neg (by omega), if_pos h1, if_pos h1]; rfl
  · by_cases h2 : sgn b < sgn a
    · rw [if_pos h2, if_neg h1, if_pos h2]
    · have : sgn a = sgn b := by omega
      rw [if_neg h2, if_neg h1, if_neg h1, if_neg h2, sizeD_flip, this, Int.mul_neg]
theorem or_run (x y : Int) : cmp_Or_int ⟨1, [x, y], true⟩ (if x ≠ 0 then x else y) := by
  by_cases h0 : x = 0
  · rw [if_neg (by omega)]
    by_cases h1 : y = 0
    · subst h1
      have e2 : ∃ z, cmp_Or_int_l0 0 ⟨1, [x, 0], true⟩ 2 2 (cmp_Or_int_l0_x1 0 ⟨1, [x, 0], true⟩ 2 z) := ⟨2, cmp_Or_int_l0_e2 (by omega)⟩
      obtain ⟨z, e2⟩ := e2
      exact cmp_Or_int_r1 (z0 := z) (cmp_Or_int_l0_s1 (y0 := x) (by simp) (by omega) (by rfl) h0 (in64 (by omega) (by omega)) (cmp_Or_int_l0_s1 (y0 := 0) (by simp) (by omega) (by rfl) rfl (in64 (by omega) (by omega)) e2))
    · exact cmp_Or_int_r0 (cmp_Or_int_l0_s1 (y0 := x) (by simp) (by omega) (by rfl) h0 (in64 (by omega) (by omega)) (cmp_Or_int_l0_e0 (y0 := y) (by simp) (by omega) (by rfl) h1))
  · rw [if_pos h0]
    exact cmp_Or_int_r0 (cmp_Or_int_l0_e0 (y0 := x) (by simp) (by omega) (by rfl) h0)
theorem ok_figs {d : Dec} (h : okD d) : figs d.ds ∧ d.ds.getLast? ≠ some 48 ∧ d.Digits.size ≤ 65536 ∧ -1000000 ≤ d.Exp ∧ d.Exp ≤ 1000000 := by
  rcases h with ⟨h1, h2, h3⟩ | h
  · have : d.ds = [] := List.length_eq_zero_iff.1 (by rw [strInts_len]; exact h1)
    rw [this, h3]
    exact ⟨figs_nil, by simp, by omega, by omega, by omega⟩
  · exact ⟨h.2.2.2.2.1, h.2.2.2.1, h.2.1, h.2.2.2.2.2.1, h.2.2.2.2.2.2⟩
theorem compare_dec {a b : Dec} (oa : okD a) (ob : okD b) (ca : dec_Check a 0) (cb : dec_Check b 0) (ra : ref03_Check a 0) (rb : ref03_Check b 0) : dec_Compare a b (cmpD a b) 0 ∧ ref03_Compare a b (cmpD a b) 0 := by
  obtain ⟨fa, la, za, ea1, ea2⟩ := ok_figs oa
  obtain ⟨fb, lb, zb, eb1, eb2⟩ := ok_figs ob
  obtain ⟨sa, ta⟩ := sgn_run a
  obtain ⟨sb, tb⟩ := sgn_run b
  have wa : w64 ((a.Digits.size : Int) + a.Exp) := in64 (by omega) (by omega)
  have wb : w64 ((b.Digits.size : Int) + b.Exp) := in64 (by omega) (by omega)
  have wm : w64 (sgn a * sizeD a b) := by
    rcases sgn_cases a with h | h | h <;> rcases sizeD_cases a b with h' | h' | h' <;> rw [h, h'] <;> exact in64 (by omega) (by omega)
  have hs := cmp_int (sgn a) (sgn b)
  by_cases h1 : sgn a < sgn b
  · have e : cmpD a b = -1 := by unfold cmpD; rw [if_pos h1]
    have e' : cmpI (sgn a) (sgn b) = -1 := by unfold cmpI; rw [if_pos h1]
    rw [e'] at hs
    rw [e]
    exact ⟨dec_Compare_r2 ca rfl cb rfl sa sb hs (by decide), ref03_Compare_r2 ra rfl rb rfl ta tb h1⟩
  by_cases h2 : sgn b < sgn a
  · have e : cmpD a b = 1 := by unfold cmpD; rw [if_neg h1, if_pos h2]
    have e' : cmpI (sgn a) (sgn b) = 1 := by unfold cmpI; rw [if_neg h1, if_pos h2]
    rw [e'] at hs
    rw [e]
    exact ⟨dec_Compare_r2 ca rfl cb rfl sa sb hs (by decide), ref03_Compare_r3 ra rfl rb rfl ta tb h1 h2⟩
  have e : cmpD a b = sgn a * sizeD a b := by unfold cmpD; rw [if_neg h1, if_neg h2]
  have e' : cmpI (sgn a) (sgn b) = 0 := by unfold cmpI; rw [if_neg h1, if_neg h2]
  rw [e'] at hs
  constructor
  · have hk := @eqDec a b
    by_cases heq : a.Neg = b.Neg ∧ a.Digits = b.Digits ∧ a.Exp = b.Exp
    · have z : sizeD a b = 0 := by
        unfold sizeD high Dec.ds
        rw [heq.2.1, heq.2.2, cmpL_self]
        have : ∀ x, cmpI x x = 0 := fun x => by unfold cmpI; simp
        rw [this]
        simp
      rw [e, z, Int.mul_zero]
      exact dec_Compare_r3 ca rfl cb rfl sa sb hs rfl (by rw [hk]; simp [heq])
    · have g := dec_Compare_r4 (r8 := sgn a) ca rfl cb rfl sa sb hs rfl (by rw [hk]; simp only [heq, decide_false]) wa wb (cmp_int _ _) (cmp_string _ _) (or_run _ _) sa (by
        rw [Int.mul_comm]; exact wm)
      rw [e, Int.mul_comm]
      exact g
  · by_cases h0 : sgn a = 0
    · rw [e, h0, Int.zero_mul]
      exact ref03_Compare_r4 ra rfl rb rfl ta tb h1 h2 h0
    · rw [e]
      refine ref03_Compare_r5 ra rfl rb rfl ta tb h1 h2 h0 ?_ wm
      unfold sizeD
      rcases cmpI_cases (high a) (high b) with ⟨h, e⟩ | ⟨h, e⟩ | ⟨h, e⟩ <;> rw [e] <;> unfold high at h
      · exact ref03_size_r0 wa wb (by omega) h
      · exact ref03_size_r1 wa wb (by omega) (by omega)
      · rw [if_neg (by simp)]
        rcases size_loop (a := a) (b := b) (by omega) (by omega) _ a.ds b.ds 0 (Nat.le_refl _) rfl rfl fa fb la lb with ⟨g1, g2⟩ | ⟨g1, g2⟩ | ⟨g1, z, g2⟩ <;> rw [g1]
        · exact ref03_size_r2 wa wb h g2
        · exact ref03_size_r3 wa wb h g2
        · exact ref03_size_r4 wa wb h g2
theorem wf_size {d : Dec} (h : wf_Dec d) : d.Digits.size < 281474976710656 := by
  have : d.Digits.size ≤ 140737488351232 := h.1
  omega
end Go.Proofs.YtkkekfehjbbhoaaGreatDoor.V

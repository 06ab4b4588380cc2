/- Numbers that may be; how they stand to each other. -/
import Derived.Test.YtkkekfehjbbhoaaGreatDoorVQ
import Derived.Test.YtkkekfehjbbhoaaGreatDoorVY
import Derived.Test.YtkkekfehjbbhoaaGreatDoorMB
namespace Go.Proofs.YtkkekfehjbbhoaaGreatDoor.V
open Go
set_option linter.unusedVariables false
set_option linter.unnecessarySimpa false
set_option linter.unusedSimpArgs false
set_option linter.unusedSectionVars false
abbrev Dec.ds (d : Dec) : List Int := strInts d.Digits
/-- A number that may be. -/
def okD (d : Dec) : Prop := (d.Digits.size = 0 ∧ d.Neg = false ∧ d.Exp = 0) ∨
  (d.Digits.size ≠ 0 ∧ d.Digits.size ≤ 65536 ∧ d.ds.head? ≠ some 48 ∧ d.ds.getLast? ≠ some 48 ∧ figs d.ds ∧ -1000000 ≤ d.Exp ∧ d.Exp ≤ 1000000)
theorem digit_run (c : Int) : (48 ≤ c ∧ c ≤ 57 ∧ ref03_digit c true) ∨ (¬ (48 ≤ c ∧ c ≤ 57) ∧ ref03_digit c false) := by
  by_cases h0 : c ≥ 48
  · by_cases h1 : c ≤ 57
    · exact .inl ⟨h0, h1, ref03_digit_r0 h0 h1⟩
    · exact .inr ⟨fun h => h1 h.2, ref03_digit_r1 h0 h1⟩
  · exact .inr ⟨fun h => h0 h.1, ref03_digit_r2 h0⟩
theorem rcheckd_loop {d : Dec} (hl : d.Digits.size < 281474976710656) : ∀ (rest : List Int) (i : Nat), d.ds.drop i = rest → (figs rest ∧ ∃ z, ref03_Check_l0 d (d.Digits.size : Int) i (ref03_Check_l0_x1 d (d.Digits.size : Int) z)) ∨ (¬ figs rest ∧ ref03_Check_l0 d (d.Digits.size : Int) i (ref03_Check_l0_x0 d))
  | [], i, hd => by
    have := drop_nil_le hd
    rw [strInts_len] at this
    exact .inl ⟨figs_nil, _, ref03_Check_l0_e2 (by omega)⟩
  | c :: r, i, hd => by
    obtain ⟨k1, k2, k3⟩ := at_drop hd
    rw [strInts_len] at k3
    rw [Int.toNat_natCast] at k1
    obtain ⟨b, b1, b2⟩ := str_get k1
    rw [figs_cons]
    rcases digit_run (b.toNat : Int) with ⟨h1, h2, h3⟩ | ⟨h1, h3⟩
    · rcases rcheckd_loop hl r (i + 1) k2 with ⟨h4, z, h5⟩ | ⟨h4, h5⟩
      · exact .inl ⟨⟨by omega, h4⟩, z, ref03_Check_l0_s0 (by omega) (by omega) (by rw [Int.toNat_natCast]; exact b1) h3 (in64 (by omega) (by omega)) (by exact_mod_cast h5)⟩
      · exact .inr ⟨fun h => h4 h.2, ref03_Check_l0_s0 (by omega) (by omega) (by rw [Int.toNat_natCast]; exact b1) h3 (in64 (by omega) (by omega)) (by exact_mod_cast h5)⟩
    · exact .inr ⟨fun h => h1 (by omega), ref03_Check_l0_e1 (by omega) (by omega) (by rw [Int.toNat_natCast]; exact b1) h3⟩
theorem eqDec {a b : Dec} : eqK [.bool, .str, .int] [(.bool a.Neg), (.str a.Digits), (di a.Exp)] [(.bool b.Neg), (.str b.Digits), (di b.Exp)] = some (decide (a.Neg = b.Neg ∧ a.Digits = b.Digits ∧ a.Exp = b.Exp)) := by
  unfold eqK
  by_cases h1 : a.Neg = b.Neg
  · rw [if_pos h1]
    unfold eqK
    by_cases h2 : a.Digits = b.Digits
    · rw [if_pos h2]
      unfold eqK
      rw [if_pos rfl]
      by_cases h3 : a.Exp = b.Exp
      · rw [if_pos h3]; simp [h1, h2, h3, eqK]
      · rw [if_neg h3]; simp [h3]
    · rw [if_neg h2]; simp [h2]
  · rw [if_neg h1]; simp [h1]
/-- Whether a number may be, by either. -/
theorem check_dec {d : Dec} (hl : d.Digits.size < 281474976710656) : (okD d ∧ dec_Check d 0 ∧ ref03_Check d 0) ∨ (¬ okD d ∧ dec_Check d 2 ∧ ref03_Check d 2) := by
  have hlen : d.ds.length = d.Digits.size := strInts_len d.Digits
  by_cases h0 : d.Digits.size = 0
  · have he := empty_str.2 h0
    have hk := @eqDec d ⟨false, ⟨#[]⟩, 0⟩
    by_cases h1 : d.Neg = false
    · by_cases h2 : d.Exp = 0
      · exact .inl ⟨.inl ⟨h0, h1, h2⟩, dec_Check_r0 (by omega) (by rw [hk]; simp [h1, h2, he]), ref03_Check_r2 (by omega) h1 h2⟩
      · refine .inr ⟨?_, dec_Check_r1 (by omega) (by rw [hk]; simp [h2]), ref03_Check_r1 (by omega) h1 h2⟩
        rintro (h | h)
        · exact h2 h.2.2
        · exact h.1 h0
    · refine .inr ⟨?_, dec_Check_r1 (by omega) (by rw [hk]; simp [h1]), ref03_Check_r0 (by omega) (by simpa using h1)⟩
      rintro (h | h)
      · exact h1 h.2.1
      · exact h.1 h0
  have hlp : 0 < d.ds.length := by omega
  have g0 : d.ds[0]? = some (d.ds[0]'hlp) := List.getElem?_eq_getElem hlp
  have g1 : d.ds[d.Digits.size - 1]? = some (d.ds[d.Digits.size - 1]'(by omega)) := List.getElem?_eq_getElem _
  obtain ⟨b0, k0, e0⟩ := str_get g0
  obtain ⟨b1, k1, e1⟩ := str_get g1
  have hh : d.ds.head? = some (b0.toNat : Int) := by rw [List.head?_eq_getElem?, g0, e0]
  have hla : d.ds.getLast? = some (b1.toNat : Int) := by rw [List.getLast?_eq_getElem?, hlen, g1, e1]
  have n0 : ¬ (d.Digits.size : Int) = 0 := by omega
  have ei : ((d.Digits.size : Int) - 1).toNat = d.Digits.size - 1 := by omega
  have w1 : w64 ((d.Digits.size : Int) - 1) := in64 (by omega) (by omega)
  have bad : ∀ {P : Prop}, (okD d → P → False) → P → ¬ okD d := fun h p o => h o p
  have hT : strings_Trim d.Digits (⟨#[48, 49, 50, 51, 52, 53, 54, 55, 56, 57]⟩ : ByteArray) ⟨(Lib.trimS d.Digits.data.toList cut10).toArray⟩ := R_trim (s := d.Digits) (c := (⟨#[48, 49, 50, 51, 52, 53, 54, 55, 56, 57]⟩ : ByteArray)) (by decide) (by omega)
  have ko : okD d → d.Digits.size ≤ 65536 ∧ d.ds.head? ≠ some 48 ∧ d.ds.getLast? ≠ some 48 ∧ figs d.ds ∧ -1000000 ≤ d.Exp ∧ d.Exp ≤ 1000000 := by
    rintro (h | h)
    · exact absurd h.1 h0
    · exact h.2
  have tE : figs d.ds → (⟨(Lib.trimS d.Digits.data.toList cut10).toArray⟩ : ByteArray) = ⟨#[]⟩ := fun h => by rw [trim_figs.2 h]
  have tN : ¬ figs d.ds → ¬ (⟨(Lib.trimS d.Digits.data.toList cut10).toArray⟩ : ByteArray) = ⟨#[]⟩ := fun h e => h (trim_figs.1 (by
    have := congrArg (fun s : ByteArray => s.data.toList) e
    simpa using this))
  rcases rcheckd_loop hl d.ds 0 rfl with ⟨hf, z, hz⟩ | ⟨hf, hz⟩
  · by_cases h1 : (d.Digits.size : Int) > 65536
    · exact .inr ⟨fun o => by have := (ko o).1; omega, dec_Check_r2 n0 h1, ref03_Check_r4 n0 hz h1⟩
    by_cases h2 : (b0.toNat : Int) = 48
    · exact .inr ⟨fun o => (ko o).2.1 (by rw [hh, h2]), dec_Check_r3 n0 h1 k0 h2, ref03_Check_r5 n0 hz h1 k0 h2⟩
    by_cases h3 : (b1.toNat : Int) = 48
    · exact .inr ⟨fun o => (ko o).2.2.1 (by rw [hla, h3]), dec_Check_r4 n0 h1 k0 h2 w1 (by omega) (by rw [ei]; exact k1) h3, ref03_Check_r6 n0 hz h1 k0 h2 w1 (by omega) (by rw [ei]; exact k1) h3⟩
    by_cases h4 : d.Exp < (-1000000)
    · exact .inr ⟨fun o => by have := (ko o).2.2.2.2.1; omega, dec_Check_r5 n0 h1 k0 h2 w1 (by omega) (by rw [ei]; exact k1) h3 hT (tE hf) h4, ref03_Check_r7 n0 hz h1 k0 h2 w1 (by omega) (by rw [ei]; exact k1) h3 h4⟩
    by_cases h5 : d.Exp > 1000000
    · exact .inr ⟨fun o => by have := (ko o).2.2.2.2.2; omega, dec_Check_r6 n0 h1 k0 h2 w1 (by omega) (by rw [ei]; exact k1) h3 hT (tE hf) h4 h5, ref03_Check_r8 n0 hz h1 k0 h2 w1 (by omega) (by rw [ei]; exact k1) h3 h4 h5⟩
    refine .inl ⟨.inr ⟨h0, by omega, ?_, ?_, hf, by omega, by omega⟩, dec_Check_r7 n0 h1 k0 h2 w1 (by omega) (by rw [ei]; exact k1) h3 hT (tE hf) h4 h5, ref03_Check_r9 n0 hz h1 k0 h2 w1 (by omega) (by rw [ei]; exact k1) h3 h4 h5⟩
    · rw [hh]; intro h; exact h2 (Option.some.inj h)
    · rw [hla]; intro h; exact h3 (Option.some.inj h)
  · have hno : ¬ okD d := fun o => hf (ko o).2.2.2.1
    refine .inr ⟨hno, ?_, ref03_Check_r3 n0 hz⟩
    by_cases h1 : (d.Digits.size : Int) > 65536
    · exact dec_Check_r2 n0 h1
    by_cases h2 : (b0.toNat : Int) = 48
    · exact dec_Check_r3 n0 h1 k0 h2
    by_cases h3 : (b1.toNat : Int) = 48
    · exact dec_Check_r4 n0 h1 k0 h2 w1 (by omega) (by rw [ei]; exact k1) h3
    exact dec_Check_r8 n0 h1 k0 h2 w1 (by omega) (by rw [ei]; exact k1) h3 hT (tN hf)
/-- How texts stand to each other. -/
def cmpL : List Int → List Int → Int
  | [], [] => 0
  | [], _ :: _ => -1
  | _ :: _, [] => 1
  | a :: x, b :: y => if a < b then -1 else if b < a then 1 else cmpL x y
theorem cmpL_self : ∀ x, cmpL x x = 0
  | [] => rfl
  | a :: x => by simp [cmpL, cmpL_self x]
theorem cmpL_flip : ∀ x y, cmpL y x = - cmpL x y
  | [], [] => rfl
  | [], _ :: _ => rfl
  | _ :: _, [] => rfl
  | a :: x, b :: y => by
    simp only [cmpL]
    by_cases h1 : a < b
    · rw [if_pos h1, if_neg (by omega), if_pos h1]; rfl
    · by_cases h2 : b < a
      · rw [if_pos h2, if_neg h1, if_pos h2]
      · rw [if_neg h2, if_neg h1, if_neg h1, if_neg h2]; exact cmpL_flip x y
theorem cmpL_eq : ∀ {x y}, cmpL x y = 0 → x = y
  | [], [], _ => rfl
  | [], _ :: _, h => by cases h
  | _ :: _, [], h => by cases h
  | a :: x, b :: y, h => by
    simp only [cmpL] at h
    by_cases h1 : a < b
    · rw [if_pos h1] at h; cases h
    · by_cases h2 : b < a
      · rw [if_neg h1, if_pos h2] at h; cases h
      · rw [if_neg h1, if_neg h2] at h
        rw [cmpL_eq h, show a = b by omega]
theorem bytesLess_cmp : ∀ (x y : List UInt8), Op.bytesLess x y = decide (cmpL (x.map fun b => (b.toNat : Int)) (y.map fun b => (b.toNat : Int)) < 0)
  | [], [] => rfl
  | [], _ :: _ => rfl
  | _ :: _, [] => rfl
  | a :: x, b :: y => by
    simp only [Op.bytesLess, List.map_cons, cmpL, bytesLess_cmp x y]
    by_cases h1 : (a.toNat : Int) < (b.toNat : Int)
    · have : a < b := UInt8.lt_iff_toNat_lt.2 (by omega)
      rw [if_pos h1]; simp [this]
    · by_cases h2 : (b.toNat : Int) < (a.toNat : Int)
      · have e1 : ¬ a < b := fun h => h1 (by have := UInt8.lt_iff_toNat_lt.1 h; omega)
        have e2 : ¬ a = b := fun h => by subst h; omega
        rw [if_neg h1, if_pos h2]; simp [e1, e2]
      · have e : a = b := UInt8.toNat_inj.1 (by omega)
        subst e
        rw [if_neg h1, if_neg h2]; simp
theorem bytes_eq_cmp {x y : ByteArray} : (x.toList == y.toList) = decide (cmpL (strInts x) (strInts y) = 0) := by
  rw [ByteArray.toList_eq, ByteArray.toList_eq]
  by_cases h : x.data.toList = y.data.toList
  · have : strInts x = strInts y := by unfold strInts; rw [h]
    rw [this, cmpL_self, h]; simp
  · have h2 : ¬ cmpL (strInts x) (strInts y) = 0 := fun e => h (by
      have := cmpL_eq e
      unfold strInts at this
      exact List.map_inj_right (fun a b h => UInt8.toNat_inj.1 (by omega)) |>.1 this)
    have h3 : ¬ x.data = y.data := fun e => h (by rw [e])
    simp [h2, h3]
theorem cmp_string (x y : ByteArray) : cmp_Compare_string x y (cmpL (strInts x) (strInts y)) := by
  have n1 : cmp_isNaN_string x false := cmp_isNaN_string_r0 rfl
  have n2 : cmp_isNaN_string y false := cmp_isNaN_string_r0 rfl
  have hl : Op.bytesLess x.toList y.toList = decide (cmpL (strInts x) (strInts y) < 0) := by rw [ByteArray.toList_eq, ByteArray.toList_eq]; exact bytesLess_cmp _ _
  have hb : cmpL (strInts x) (strInts y) = -1 ∨ cmpL (strInts x) (strInts y) = 0 ∨ cmpL (strInts x) (strInts y) = 1 := by
    generalize strInts x = l
    generalize strInts y = m
    induction l generalizing m with
    | nil => cases m <;> simp [cmpL]
    | cons a l ih =>
      cases m with
      | nil => simp [cmpL]
      | cons b m =>
        simp only [cmpL]
        split
        · simp
        · split
          · simp
          · exact ih m
  have d1 : binD .lss (.str x) (.str y) = some (.bool (Op.bytesLess x.toList y.toList)) := rfl
  have d2' : binD .gtr (.str x) (.str y) = some (.bool (!(Op.bytesLess x.toList y.toList || x.toList == y.toList))) := rfl
  rw [hl] at d1
  rw [hl, bytes_eq_cmp] at d2'
  rcases hb with h | h | h <;> rw [h] at d1 d2' ⊢
  · exact cmp_Compare_string_r3 n1 n2 d1
  · exact cmp_Compare_string_r5 n1 n2 d1 d2'
  · exact cmp_Compare_string_r4 n1 n2 d1 d2'
end Go.Proofs.YtkkekfehjbbhoaaGreatDoor.V

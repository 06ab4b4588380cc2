/- Texts of figures: what they say; how a number is written, how a text is read; the laws NatReads and NatBack, where what is handed in is not too great. -/
import Derived.Test.YtlijicnknhopkaaDoorRows
import Derived.Test.YtlijicnknhopkaaDoorM8
import Derived.Test.YtlijicnknhopkaaDoorM7
import Derived.Test.YtlijicnknhopkaaDoorV28
import Derived.Deep.Slices
namespace Go.Proofs.YtlijicnknhopkaaDoor.V
open Go
set_option linter.unusedVariables false
set_option linter.unnecessarySimpa false
set_option linter.unusedSimpArgs false
set_option linter.unusedSectionVars false
/-- What figures say, the first being the greatest. -/
def hv : Int → List Int → Int
  | x, [] => x
  | x, d :: r => hv (x * 10 + (d - 48)) r
def figs (l : List Int) : Prop := ∀ d ∈ l, 48 ≤ d ∧ d ≤ 57
theorem figs_cons {d : Int} {r : List Int} : figs (d :: r) ↔ (48 ≤ d ∧ d ≤ 57) ∧ figs r := by
  constructor
  · intro h; exact ⟨h d (by simp), fun x hx => h x (by simp [hx])⟩
  · rintro ⟨h1, h2⟩ x hx
    rcases List.mem_cons.1 hx with rfl | hx
    · exact h1
    · exact h2 x hx
theorem figs_nil : figs [] := by intro x h; cases h
theorem figs_take {l : List Int} (h : figs l) (i : Nat) : figs (l.take i) := fun x hx => h x (List.mem_of_mem_take hx)
theorem figs_drop {l : List Int} (h : figs l) (i : Nat) : figs (l.drop i) := fun x hx => h x (List.mem_of_mem_drop hx)
theorem hv_add : ∀ (l : List Int) (x : Int), hv x l = x * 10 ^ l.length + hv 0 l
  | [], x => by simp [hv]
  | d :: r, x => by
    rw [hv, hv, hv_add r (x * 10 + (d - 48)), hv_add r (0 * 10 + (d - 48)), List.length_cons, Int.pow_succ]
    have e1 : (x * 10 + (d - 48)) * 10 ^ r.length = x * (10 ^ r.length * 10) + (d - 48) * 10 ^ r.length := by
      rw [Int.add_mul, Int.mul_assoc, Int.mul_comm 10]
    have e2 : (0 * 10 + (d - 48)) * 10 ^ r.length = (d - 48) * 10 ^ r.length := by
      rw [Int.zero_mul, Int.zero_add]
    rw [e1, e2]
    omega
theorem hv_seq : ∀ (a b : List Int) (x : Int), hv x (a ++ b) = hv (hv x a) b
  | [], b, x => rfl
  | d :: r, b, x => hv_seq r b _
theorem hv_app (a b : List Int) : hv 0 (a ++ b) = hv 0 a * 10 ^ b.length + hv 0 b := by rw [hv_seq, hv_add]
theorem ten_pos (n : Nat) : 0 < (10 : Int) ^ n := Int.pow_pos (by decide)
theorem hv_bound : ∀ {l : List Int}, figs l → 0 ≤ hv 0 l ∧ hv 0 l < 10 ^ l.length
  | [], _ => by simp [hv]
  | d :: r, h => by
    rw [figs_cons] at h
    have ih := hv_bound h.2
    rw [hv, hv_add, List.length_cons, Int.pow_succ, Int.zero_mul, Int.zero_add]
    have hp := ten_pos r.length
    have h1 : 0 ≤ (d - 48) * 10 ^ r.length := Int.mul_nonneg (by omega) (by omega)
    have h2 : (d - 48) * 10 ^ r.length ≤ 9 * 10 ^ r.length := Int.mul_le_mul_of_nonneg_right (by omega) (by omega)
    omega
theorem hv_ge {l : List Int} (h : figs l) {x : Int} (hx : 0 ≤ x) : x ≤ hv x l := by
  rw [hv_add]
  have h1 := (hv_bound h).1
  have hp := ten_pos l.length
  have h2 : x * 1 ≤ x * 10 ^ l.length := Int.mul_le_mul_of_nonneg_left (by omega) hx
  omega
def digs : Nat → Int → List Int → List Int
  | 0, _, T => T
  | j + 1, x, T => digs j (x / 10) ((48 + x % 10) :: T)
theorem digs_len : ∀ (j : Nat) (x : Int) (T : List Int), (digs j x T).length = j + T.length
  | 0, _, _ => by simp [digs]
  | j + 1, x, T => by rw [digs, digs_len]; simp; omega
theorem digs_figs : ∀ (j : Nat) (x : Int) (T : List Int), figs T → figs (digs j x T)
  | 0, _, _, h => h
  | j + 1, x, T, h => digs_figs j _ _ (figs_cons.2 ⟨by omega, h⟩)
theorem digs_hv : ∀ (j : Nat) (x : Int) (T : List Int), 0 ≤ x → x < 10 ^ j → hv 0 (digs j x T) = x * 10 ^ T.length + hv 0 T
  | 0, x, T, h0, h1 => by
    have : x = 0 := by simp at h1; omega
    subst this
    simp [digs]
  | j + 1, x, T, h0, h1 => by
    rw [Int.pow_succ] at h1
    rw [digs, digs_hv j (x / 10) _ (by omega) (by omega), List.length_cons, Int.pow_succ, hv, hv_add, Int.zero_mul, Int.zero_add]
    have e : 48 + x % 10 - 48 = x % 10 := by omega
    rw [e]
    have hx : x * 10 ^ T.length = (10 * (x / 10) + x % 10) * 10 ^ T.length := by congr 1; omega
    have e2 : x / 10 * (10 ^ T.length * 10) = 10 * (x / 10) * 10 ^ T.length := by
      rw [Int.mul_comm (10 ^ T.length) 10, ← Int.mul_assoc, Int.mul_comm (x / 10) 10]
    rw [hx, Int.add_mul, e2]
    omega
def pushAll : List Int → List Int → List Int
  | [], T => T
  | x :: r, T => pushAll r (digs 9 x T)
theorem pushAll_len : ∀ (a T : List Int), (pushAll a T).length = 9 * a.length + T.length
  | [], T => by simp [pushAll]
  | x :: r, T => by rw [pushAll, pushAll_len, digs_len, List.length_cons]; omega
theorem pushAll_figs : ∀ (a T : List Int), figs T → figs (pushAll a T)
  | [], T, h => h
  | x :: r, T, h => pushAll_figs r _ (digs_figs _ _ _ h)
theorem pushAll_hv : ∀ (a T : List Int), limbs a → hv 0 (pushAll a T) = val a * 10 ^ T.length + hv 0 T
  | [], T, _ => by simp [pushAll, val]
  | x :: r, T, h => by
    rw [limbs_cons] at h
    rw [pushAll, pushAll_hv r _ h.2, digs_hv 9 x T h.1.1 (by simpa using h.1.2), digs_len, Int.pow_add]
    have e : val (x :: r) = x + 1000000000 * val r := rfl
    have e1 : (10 : Int) ^ 9 = 1000000000 := by decide
    rw [e, e1, Int.add_mul, ← Int.mul_assoc, Int.mul_comm (val r)]
    omega
theorem set_rep (n : Nat) (T : List Int) (v : Int) : (List.replicate (n + 1) (0 : Int) ++ T).set n v = List.replicate n 0 ++ v :: T := by
  rw [List.replicate_succ', List.append_assoc, List.set_append_right n v (by simp)]
  simp
theorem get_rep (n : Nat) (T : List Int) : (List.replicate (n + 1) (0 : Int) ++ T)[n]? = some 0 := by
  rw [List.getElem?_append_left (by simp), List.getElem?_replicate]; simp
theorem text_in {bt : Bool} {bn i : Nat} {t16 : SL Int} {t17 t18 : Int} (hb : bn < 281474976710656) : ∀ (j m : Nat) (x : Int) (T : List Int), j ≤ 9 → 0 ≤ x → x < 4294967296 → T.length = i * 9 + (9 - j) → bn = m + j + T.length →
    ∃ x', nat_Text_l0 (List.replicate (m + j) 0 ++ T) bt bn i x t16 t17 t18 (9 - (j : Int)) (nat_Text_l0_x0 (List.replicate m 0 ++ digs j x T) bt bn i x' t16 t17 t18 9)
  | 0, m, x, T, hj, h0, h1, hT, hbn => ⟨x, nat_Text_l0_e1 (by omega)⟩
  | j + 1, m, x, T, hj, h0, h1, hT, hbn => by
    obtain ⟨x', g⟩ := text_in (i := i) (t16 := t16) (t17 := t17) (t18 := t18) (bt := bt) hb j m (x / 10) ((48 + x % 10) :: T) (by omega) (by omega) (by omega) (by rw [List.length_cons]; omega) (by rw [List.length_cons]; omega)
    refine ⟨x', ?_⟩
    have ei : ((((bn : Int) - 1) - ((i : Int) * 9)) - (9 - ((j + 1 : Nat) : Int))).toNat = m + j := by omega
    have et : (9 - ((j + 1 : Nat) : Int)) + 1 = 9 - (j : Int) := by omega
    refine nat_Text_l0_s0 (y0 := 0) (by omega) (in64 (by omega) (by omega)) (in64 (by omega) (by omega)) (in64 (by omega) (by omega)) (in64 (by omega) (by omega)) h0 (inU8 (by omega) (by omega)) (inU8 (by omega) (by omega)) (by omega) (by rw [ei]; exact get_rep _ _) (by rw [ei]; omega) (inU32 (by omega) (by omega)) (in64 (by omega) (by omega)) ?_
    rw [ei, et, ← Nat.add_assoc, set_rep]
    exact g
theorem text_out {a : SL Int} {bt : Bool} {bn : Nat} (ha : limbs a.xs) (hbn : bn = a.xs.length * 9) (hb : bn < 281474976710656) : ∀ (rest : List Int) (i : Nat) (T : List Int), a.xs.drop i = rest → T.length = i * 9 →
    ∃ z, nat_Text_l1 (List.replicate (rest.length * 9) 0 ++ T) bt bn a (a.xs.length : Int) i (nat_Text_l1_x0 (pushAll rest T) bt bn a (a.xs.length : Int) z)
  | [], i, T, hd, hT => by
    have := drop_nil_le hd
    exact ⟨i, by simpa [pushAll] using nat_Text_l1_e1 (b := T) (bt := bt) (bn := bn) (t16 := a) (t17 := (a.xs.length : Int)) (t18 := (i : Int)) (by omega)⟩
  | x :: r, i, T, hd, hT => by
    obtain ⟨k1, k2, k3⟩ := at_drop hd
    have hr : r.length = a.xs.length - (i + 1) := by rw [← k2, List.length_drop]
    have hx := limbs_get ha (i := i) (x := x) (by simpa using k1)
    obtain ⟨x', g⟩ := text_in (bt := bt) (bn := bn) (i := i) (t16 := a) (t17 := (a.xs.length : Int)) (t18 := (i : Int)) hb 9 (r.length * 9) x T (by omega) hx.1 (by omega) (by omega) (by omega)
    obtain ⟨z, g2⟩ := text_out (bt := bt) ha hbn hb r (i + 1) (digs 9 x T) k2 (by rw [digs_len]; omega)
    refine ⟨z, nat_Text_l1_s0 (by omega) (by omega) k1 (z0 := List.replicate (r.length * 9) 0 ++ digs 9 x T) (z1 := x') (z2 := 9) ?_ (in64 (by omega) (by omega)) (by exact_mod_cast g2)⟩
    rw [List.length_cons, Nat.add_mul]
    exact g
theorem rtext_in {a : SL Int} {bt : Bool} {bn i : Nat} (hb : bn < 281474976710656) : ∀ (j m : Nat) (x : Int) (T : List Int), j ≤ 9 → 0 ≤ x → x < 4294967296 → T.length = i * 9 + (9 - j) → bn = m + j + T.length →
    ∃ x', ref02_Text_l0 (List.replicate (m + j) 0 ++ T) a bt bn i x (9 - (j : Int)) (ref02_Text_l0_x0 (List.replicate m 0 ++ digs j x T) a bt bn i x' 9)
  | 0, m, x, T, hj, h0, h1, hT, hbn => ⟨x, ref02_Text_l0_e1 (by omega)⟩
  | j + 1, m, x, T, hj, h0, h1, hT, hbn => by
    obtain ⟨x', g⟩ := rtext_in (i := i) (a := a) (bt := bt) hb j m (x / 10) ((48 + x % 10) :: T) (by omega) (by omega) (by omega) (by rw [List.length_cons]; omega) (by rw [List.length_cons]; omega)
    refine ⟨x', ?_⟩
    have ei : ((((bn : Int) - 1) - (9 * (i : Int))) - (9 - ((j + 1 : Nat) : Int))).toNat = m + j := by omega
    have et : (9 - ((j + 1 : Nat) : Int)) + 1 = 9 - (j : Int) := by omega
    refine ref02_Text_l0_s0 (y0 := 0) (by omega) (in64 (by omega) (by omega)) (in64 (by omega) (by omega)) (in64 (by omega) (by omega)) (in64 (by omega) (by omega)) h0 (inU32 (by omega) (by omega)) (inU8 (by omega) (by omega)) (by omega) (by rw [ei]; exact get_rep _ _) (by rw [ei]; omega) (inU32 (by omega) (by omega)) (in64 (by omega) (by omega)) ?_
    rw [ei, et, ← Nat.add_assoc, set_rep]
    exact g
theorem rtext_out {a : SL Int} {bt : Bool} {bn : Nat} (ha : limbs a.xs) (hbn : bn = a.xs.length * 9) (hb : bn < 281474976710656) : ∀ (rest : List Int) (i : Nat) (T : List Int), a.xs.drop i = rest → T.length = i * 9 →
    ∃ z, ref02_Text_l1 (List.replicate (rest.length * 9) 0 ++ T) a bt bn i (ref02_Text_l1_x0 (pushAll rest T) a bt bn z)
  | [], i, T, hd, hT => by
    have := drop_nil_le hd
    exact ⟨i, by simpa [pushAll] using ref02_Text_l1_e1 (b := T) (a := a) (bt := bt) (bn := bn) (i := (i : Int)) (by omega)⟩
  | x :: r, i, T, hd, hT => by
    obtain ⟨k1, k2, k3⟩ := at_drop hd
    have hr : r.length = a.xs.length - (i + 1) := by rw [← k2, List.length_drop]
    have hx := limbs_get ha (i := i) (x := x) (by simpa using k1)
    obtain ⟨x', g⟩ := rtext_in (a := a) (bt := bt) (bn := bn) (i := i) hb 9 (r.length * 9) x T (by omega) hx.1 (by omega) (by omega) (by omega)
    obtain ⟨z, g2⟩ := rtext_out (bt := bt) ha hbn hb r (i + 1) (digs 9 x T) k2 (by rw [digs_len]; omega)
    refine ⟨z, ref02_Text_l1_s0 (by omega) (by omega) k1 (z0 := List.replicate (r.length * 9) 0 ++ digs 9 x T) (z1 := x') (z2 := 9) ?_ (in64 (by omega) (by omega)) (by exact_mod_cast g2)⟩
    rw [List.length_cons, Nat.add_mul]
    exact g
/-- Zeros ahead. -/
abbrev cutZ (l : List Int) : List Int := l.dropWhile (fun d => decide (d = 48))
theorem cutZ_hv : ∀ l : List Int, hv 0 (cutZ l) = hv 0 l
  | [] => rfl
  | d :: r => by
    unfold cutZ
    rw [List.dropWhile_cons]
    by_cases h : d = 48
    · subst h
      simpa [hv] using cutZ_hv r
    · simp [h]
theorem cutZ_mem {l : List Int} {d : Int} (h : d ∈ cutZ l) : d ∈ l := (List.dropWhile_sublist _).subset h
theorem cutZ_len (l : List Int) : (cutZ l).length ≤ l.length := (List.dropWhile_sublist _).length_le
theorem rskip_loop {b : List Int} {bt : Bool} {bn : Nat} (hb : bn = b.length) (hl : bn < 281474976710656) : ∀ (rest : List Int) (n : Nat), b.drop n = rest → hv 0 rest ≠ 0 → ∃ z : Nat, ref02_Text_l2 b bt bn n (ref02_Text_l2_x0 b bt bn z) ∧ z ≤ b.length ∧ b.drop z = cutZ rest
  | [], n, hd, hne => absurd rfl hne
  | d :: r, n, hd, hne => by
    obtain ⟨k1, k2, k3⟩ := at_drop hd
    by_cases h : d = 48
    · subst h
      obtain ⟨z, g1, g2, g3⟩ := rskip_loop (bt := bt) hb hl r (n + 1) k2 (by simpa [hv] using hne)
      refine ⟨z, ref02_Text_l2_s0 (by omega) k1 (by rw [Int.toNat_natCast]; omega) rfl (in64 (by omega) (by omega)) (by exact_mod_cast g1), g2, ?_⟩
      rw [g3]
      simp [cutZ]
    · refine ⟨n, ref02_Text_l2_e1 (by omega) k1 (by rw [Int.toNat_natCast]; omega) h, by omega, ?_⟩
      rw [hd]
      simp [cutZ, h]
theorem ofNat_fig {d : Int} (h : 48 ≤ d ∧ d ≤ 57) : (decide (d = 48)) = [(48 : UInt8)].contains (UInt8.ofNat d.toNat) := by
  have : d = 48 ∨ d = 49 ∨ d = 50 ∨ d = 51 ∨ d = 52 ∨ d = 53 ∨ d = 54 ∨ d = 55 ∨ d = 56 ∨ d = 57 := by omega
  rcases this with rfl | rfl | rfl | rfl | rfl | rfl | rfl | rfl | rfl | rfl <;> decide
theorem trimLeft_figs : ∀ {l : List Int}, figs l → Lib.trimLeftS (bytesOf l) [48] = bytesOf (cutZ l)
  | [], _ => rfl
  | d :: r, h => by
    rw [figs_cons] at h
    have ih := trimLeft_figs h.2
    have e := ofNat_fig h.1
    unfold Lib.trimLeftS cutZ at *
    simp only [bytesOf, List.map_cons, List.dropWhile_cons]
    rw [← e]
    by_cases h0 : d = 48
    · simpa [h0, bytesOf] using ih
    · simp [h0]
def bText (l : List Int) : ByteArray := ⟨(bytesOf l).toArray⟩
theorem bText_nil {l : List Int} (h : bText l = (⟨#[]⟩ : ByteArray)) : l = [] := by
  have := congrArg (fun s : ByteArray => s.data.toList.length) h
  simp [bText, bytesOf] at this
  exact this
/-- How a number is written, by either. -/
theorem text_run {a : SL Int} (na : isNum a.xs) (hl : a.xs.length < 30000000000000) (hf : few a.xs) (ca : ref02_Check a 0) : ∃ t : List Int, nat_Text a (bText t) 0 ∧ ref02_Text a (bText t) 0 ∧ figs t ∧ t ≠ [] ∧ hv 0 t = val a.xs ∧ t.length ≤ 9 * a.xs.length + 1 := by
  have hfit := fits_true hf na
  unfold few at hf
  have hlen := pushAll_len a.xs []
  have hfigs := pushAll_figs a.xs [] figs_nil
  have hval : hv 0 (pushAll a.xs []) = val a.xs := by
    rw [pushAll_hv a.xs [] na.1]; simp [hv]
  simp only [List.length_nil, Nat.add_zero] at hlen
  obtain ⟨z, g⟩ := text_out (a := a) (bt := true) (bn := a.xs.length * 9) na.1 rfl (by omega) a.xs 0 [] rfl rfl
  rw [List.append_nil] at g
  have e9 : ((a.xs.length : Int) * 9).toNat = a.xs.length * 9 := by omega
  have htk : (pushAll a.xs []).take (a.xs.length * 9) = pushAll a.xs [] := List.take_of_length_le (by omega)
  have hT := R_trimLeft (s := bText (pushAll a.xs [])) (c := (⟨#[48]⟩ : ByteArray)) (by decide)
  have hTe : Lib.trimLeftS (bText (pushAll a.xs [])).data.toList (⟨#[48]⟩ : ByteArray).data.toList = bytesOf (cutZ (pushAll a.xs [])) := trimLeft_figs hfigs
  rw [hTe] at hT
  have hcv := cutZ_hv (pushAll a.xs [])
  have hcf : figs (cutZ (pushAll a.xs [])) := fun d hd => hfigs d (cutZ_mem hd)
  have hcl := cutZ_len (pushAll a.xs [])
  by_cases h0 : cutZ (pushAll a.xs []) = []
  · have hv0 : val a.xs = 0 := by rw [← hval, ← hcv, h0]; rfl
    have ha0 : a.xs = [] := by
      rcases Classical.em (a.xs = []) with h | h
      · exact h
      · have := val_pos na h; omega
    refine ⟨[48], ?_, ref02_Text_r1 ca rfl (by rw [ha0]; simp), figs_cons.2 ⟨by omega, figs_nil⟩, by simp, by rw [hv0]; rfl, by simp⟩
    refine nat_Text_r0 (z0 := pushAll a.xs []) (z1 := z) (r0 := bText (cutZ (pushAll a.xs []))) hfit (in64 (by omega) (by omega)) (by omega) (by omega) ?_ (by omega) ?_ (by rw [h0]; rfl)
    · rw [e9]; exact g
    · rw [e9, htk]; exact hT
  · have ha0 : a.xs ≠ [] := by
      intro h
      rw [h] at h0
      exact h0 rfl
    have hvp := val_pos na ha0
    have hlp := List.length_pos_iff.2 ha0
    obtain ⟨z1, g1⟩ := rtext_out (a := a) (bt := true) (bn := a.xs.length * 9) na.1 rfl (by omega) a.xs 0 [] rfl rfl
    rw [List.append_nil] at g1
    obtain ⟨z2, k1, k2, k3⟩ := rskip_loop (b := pushAll a.xs []) (bt := true) (bn := a.xs.length * 9) (by omega) (by omega) (pushAll a.xs []) 0 rfl (by omega)
    refine ⟨cutZ (pushAll a.xs []), ?_, ?_, hcf, h0, by rw [hcv, hval], by omega⟩
    · refine nat_Text_r1 (z0 := pushAll a.xs []) (z1 := z) (r0 := bText (cutZ (pushAll a.xs []))) hfit (in64 (by omega) (by omega)) (by omega) (by omega) ?_ (by omega) ?_ (fun h => h0 (bText_nil h))
      · rw [e9]; exact g
      · rw [e9, htk]; exact hT
    · have e9' : (9 * (a.xs.length : Int)).toNat = a.xs.length * 9 := by omega
      have hh := ref02_Text_r2 (a := a) (z0 := pushAll a.xs []) (z1 := z1) (z2 := (z2 : Int)) ca rfl (by omega) (in64 (by omega) (by omega)) (by omega) (by omega) (by rw [e9']; exact g1) (by rw [e9']; exact k1) (by omega) (by rw [e9']; omega) (by rw [e9']; omega)
      rw [e9', Int.toNat_natCast, Nat.zero_add, k3, List.take_of_length_le (by rw [← k3, List.length_drop]; omega)] at hh
      exact hh
theorem strInts_len (s : ByteArray) : (strInts s).length = s.size := by
  simp only [strInts, List.length_map, Array.length_toList]; rfl
theorem strInts_extract (s : ByteArray) (a b : Nat) : strInts (s.extract a b) = ((strInts s).take b).drop a := by
  simp only [strInts, ByteArray.data_extract, Array.toList_extract, List.extract_eq_take_drop, List.map_drop, List.map_take, List.drop_take]
theorem str_get {s : ByteArray} {i : Nat} {d : Int} (h : (strInts s)[i]? = some d) : ∃ b : UInt8, s[i]? = some b ∧ (b.toNat : Int) = d := by
  simp only [strInts, List.getElem?_map, Option.map_eq_some_iff, Array.getElem?_toList] at h
  obtain ⟨b, h1, h2⟩ := h
  refine ⟨b, ?_, h2⟩
  obtain ⟨h3, h4⟩ := Array.getElem?_eq_some_iff.1 h1
  exact (getElem?_pos s i h3).trans (congrArg some h4)
theorem empty_str {s : ByteArray} : s = (⟨#[]⟩ : ByteArray) ↔ s.size = 0 := by
  constructor
  · intro h; subst h; rfl
  · intro h
    cases s with | mk d =>
    have : d.size = 0 := h
    rw [Array.eq_empty_of_size_eq_zero this]
theorem of_in {out : List Int} {s : ByteArray} {outt : Bool} {at_ : Int} {t30 : SL Int} (hl : t30.xs.length < 1000) : ∀ (rest : List Int) (k : Nat) (x : Int), t30.xs.drop k = rest → figs rest → 0 ≤ x → hv x rest < 1000000000 →
    ∃ z, nat_Of_l0 out s outt at_ x t30 (t30.xs.length : Int) k (nat_Of_l0_x0 out s outt at_ (hv x rest) t30 (t30.xs.length : Int) z)
  | [], k, x, hd, hf, h0, h1 => by
    have := drop_nil_le hd
    exact ⟨k, nat_Of_l0_e1 (by omega)⟩
  | d :: r, k, x, hd, hf, h0, h1 => by
    obtain ⟨k1, k2, k3⟩ := at_drop hd
    rw [figs_cons] at hf
    have hg := hv_ge hf.2 (x := x * 10 + (d - 48)) (by omega)
    rw [hv] at h1
    obtain ⟨z, g⟩ := of_in (out := out) (s := s) (outt := outt) (at_ := at_) hl r (k + 1) (x * 10 + (d - 48)) k2 hf.2 (by omega) h1
    exact ⟨z, nat_Of_l0_s0 (by omega) (by omega) k1 (inU32 (by omega) (by omega)) (inU8 (by omega) (by omega)) (inU32 (by omega) (by omega)) (inU32 (by omega) (by omega)) (in64 (by omega) (by omega)) (by exact_mod_cast g)⟩
theorem ten9 : (10 : Int) ^ 9 = 1000000000 := by decide
theorem ten_le9 {n : Nat} (h : n ≤ 9) : (10 : Int) ^ n ≤ 1000000000 := by
  have : n = 0 ∨ n = 1 ∨ n = 2 ∨ n = 3 ∨ n = 4 ∨ n = 5 ∨ n = 6 ∨ n = 7 ∨ n = 8 ∨ n = 9 := by omega
  rcases this with rfl | rfl | rfl | rfl | rfl | rfl | rfl | rfl | rfl | rfl <;> decide
/-- The last nine figures, and what is ahead of them. -/
theorem last_nine {l : List Int} (hf : figs l) (hne : l ≠ []) : (0 ≤ hv 0 (l.drop (l.length - 9)) ∧ hv 0 (l.drop (l.length - 9)) < 1000000000) ∧ hv 0 l = hv 0 (l.drop (l.length - 9)) + 1000000000 * hv 0 (l.take (l.length - 9)) := by
  have hb := hv_bound (figs_drop hf (l.length - 9))
  rw [List.length_drop] at hb
  have hle := ten_le9 (n := l.length - (l.length - 9)) (by omega)
  refine ⟨⟨hb.1, by omega⟩, ?_⟩
  have h := hv_app (l.take (l.length - 9)) (l.drop (l.length - 9))
  rw [List.take_append_drop, List.length_drop] at h
  by_cases h9 : l.length ≤ 9
  · have h0 : l.length - 9 = 0 := by omega
    have t0 : hv 0 (l.take (l.length - 9)) = 0 := by rw [h0, List.take_zero]; rfl
    rw [t0, Int.zero_mul] at h
    rw [t0]
    omega
  · have : l.length - (l.length - 9) = 9 := by omega
    rw [this, ten9] at h
    rw [h]
    omega
theorem of_out : ∀ (n : Nat) (s : ByteArray) (out : List Int) (outt : Bool), s.size ≤ n → out.length + s.size ≤ 2000000 → figs (strInts s) → limbs out →
    ∃ z0 z1 z2, nat_Of_l1 out s outt (nat_Of_l1_x0 z0 z1 z2) ∧ limbs z0 ∧ val z0 = val out + 1000000000 ^ out.length * hv 0 (strInts s) ∧ z0.length ≤ out.length + s.size := by
  intro n
  induction n with
  | zero =>
    intro s out outt hs hb hf hl
    have h0 : s = (⟨#[]⟩ : ByteArray) := empty_str.2 (by omega)
    refine ⟨out, s, outt, nat_Of_l1_e0 h0, hl, ?_, by omega⟩
    subst h0
    show val out = val out + 1000000000 ^ out.length * 0
    rw [Int.mul_zero, Int.add_zero]
  | succ n ih =>
    intro s out outt hs hb hf hl
    by_cases h0 : s = (⟨#[]⟩ : ByteArray)
    · refine ⟨out, s, outt, nat_Of_l1_e0 h0, hl, ?_, by omega⟩
      subst h0
      show val out = val out + 1000000000 ^ out.length * 0
      rw [Int.mul_zero, Int.add_zero]
    have hz : s.size ≠ 0 := fun h => h0 (empty_str.2 h)
    have hlen := strInts_len s
    have hne : strInts s ≠ [] := by
      intro h
      rw [h] at hlen
      exact hz hlen.symm
    have e1 : (max 0 ((s.size : Int) - 9)).toNat = s.size - 9 := by omega
    have e2 : strInts (s.extract (s.size - 9) s.size) = (strInts s).drop ((strInts s).length - 9) := by
      rw [strInts_extract, hlen, List.take_of_length_le (by omega)]
    have e3 : strInts (s.extract 0 (s.size - 9)) = (strInts s).take ((strInts s).length - 9) := by
      rw [strInts_extract, hlen, List.drop_zero]
    have e4 : (s.extract 0 (s.size - 9)).size = s.size - 9 := by
      rw [← strInts_len, e3, List.length_take]; omega
    obtain ⟨⟨v1, v2⟩, v3⟩ := last_nine hf hne
    obtain ⟨z, g⟩ := of_in (out := out) (s := s) (outt := outt) (at_ := max 0 ((s.size : Int) - 9)) (t30 := ⟨1, strInts (s.extract (s.size - 9) s.size), false⟩) (by
      dsimp only; rw [e2, List.length_drop]; omega) _ 0 0 rfl (by rw [List.drop_zero]; dsimp only; rw [e2]; exact figs_drop hf _) (by omega) (by rw [List.drop_zero]; dsimp only; rw [e2]; exact v2)
    rw [List.drop_zero] at g
    dsimp only at g
    obtain ⟨z0, z1, z2, k1, k2, k3, k4⟩ := ih (s.extract 0 (s.size - 9)) (out ++ [hv 0 (strInts (s.extract (s.size - 9) s.size))]) false (by omega) (by rw [List.length_append, List.length_singleton, e4]; omega) (by rw [e3]; exact figs_take hf _) (limbs_snoc hl (by rw [e2]; exact ⟨v1, v2⟩))
    refine ⟨z0, z1, z2, nat_Of_l1_s1 (z0 := hv 0 (strInts (s.extract (s.size - 9) s.size))) (z1 := z) h0 (in64 (by omega) (by omega)) (by omega) (by omega) (by rw [e1]; exact g) (by omega) (by rw [e1]; exact k1), k2, ?_, by rw [List.length_append, List.length_singleton, e4] at k4; omega⟩
    rw [k3, val_snoc, List.length_append, List.length_singleton, e2, e3, v3, Int.pow_succ, Int.mul_add, Int.mul_assoc]
    omega
theorem rof_check {s : ByteArray} (hl : s.size < 281474976710656) : ∀ (rest : List Int) (i : Nat), (strInts s).drop i = rest → (figs rest ∧ ∃ z, ref02_Of_l0 s i (ref02_Of_l0_x1 s z)) ∨ (¬ figs rest ∧ ref02_Of_l0 s i (ref02_Of_l0_x0 []))
  | [], i, hd => by
    have := drop_nil_le hd
    rw [strInts_len] at this
    exact .inl ⟨figs_nil, _, ref02_Of_l0_e3 (by omega)⟩
  | d :: r, i, hd => by
    obtain ⟨k1, k2, k3⟩ := at_drop hd
    rw [strInts_len] at k3
    rw [Int.toNat_natCast] at k1
    obtain ⟨b, b1, b2⟩ := str_get k1
    rw [figs_cons]
    by_cases c1 : d < 48
    · exact .inr ⟨fun h => by omega, ref02_Of_l0_e0 (by omega) (by omega) (by rw [Int.toNat_natCast]; exact b1) (by omega)⟩
    by_cases c2 : d > 57
    · exact .inr ⟨fun h => by omega, ref02_Of_l0_e1 (by omega) (by omega) (by rw [Int.toNat_natCast]; exact b1) (by omega) (by omega)⟩
    rcases rof_check hl r (i + 1) k2 with ⟨h1, z, h2⟩ | ⟨h1, h2⟩
    · exact .inl ⟨⟨by omega, h1⟩, z, ref02_Of_l0_s2 (by omega) (by omega) (by rw [Int.toNat_natCast]; exact b1) (by omega) (by omega) (in64 (by omega) (by omega)) (by exact_mod_cast h2)⟩
    · exact .inr ⟨fun h => h1 h.2, ref02_Of_l0_s2 (by omega) (by omega) (by rw [Int.toNat_natCast]; exact b1) (by omega) (by omega) (in64 (by omega) (by omega)) (by exact_mod_cast h2)⟩
theorem rof_in {out : List Int} {s : ByteArray} {outt : Bool} {e : Nat} (he : e ≤ s.size) (hl : s.size < 281474976710656) : ∀ (rest : List Int) (i : Nat) (x : Int), ((strInts s).take e).drop i = rest → figs rest → 0 ≤ x → hv x rest < 1000000000 →
    ∃ z, ref02_Of_l1 out s outt e x i (ref02_Of_l1_x0 out s outt e (hv x rest) z)
  | [], i, x, hd, hf, h0, h1 => by
    have := drop_nil_le hd
    rw [List.length_take, strInts_len] at this
    exact ⟨_, ref02_Of_l1_e1 (by omega)⟩
  | d :: r, i, x, hd, hf, h0, h1 => by
    obtain ⟨k1, k2, k3⟩ := at_drop hd
    rw [List.length_take, strInts_len] at k3
    rw [Int.toNat_natCast, List.getElem?_take, if_pos (by omega)] at k1
    obtain ⟨b, b1, b2⟩ := str_get k1
    rw [figs_cons] at hf
    rw [hv] at h1
    have hc : 10 * x + ((b.toNat : Int) - 48) = x * 10 + (d - 48) := by omega
    have hg := hv_ge hf.2 (x := x * 10 + (d - 48)) (by omega)
    obtain ⟨z, g⟩ := rof_in (out := out) (outt := outt) he hl r (i + 1) (x * 10 + (d - 48)) k2 hf.2 (by omega) h1
    refine ⟨z, ref02_Of_l1_s0 (b0 := b) (by omega) (inU32 (by omega) (by omega)) (by omega) (by rw [Int.toNat_natCast]; exact b1) (inU8 (by omega) (by omega)) (inU32 (by omega) (by omega)) (inU32 (by omega) (by omega)) (in64 (by omega) (by omega)) ?_⟩
    rw [hc]
    exact_mod_cast g
theorem rof_out {s : ByteArray} (hl : s.size ≤ 2000000) (hf : figs (strInts s)) : ∀ (n e : Nat) (out : List Int) (outt : Bool), e ≤ n → e ≤ s.size → out.length + e ≤ 2000000 → limbs out →
    ∃ z0 z2 z3, ref02_Of_l2 out s outt e (ref02_Of_l2_x0 z0 s z2 z3) ∧ limbs z0 ∧ val z0 = val out + 1000000000 ^ out.length * hv 0 ((strInts s).take e) ∧ z0.length ≤ out.length + e := by
  intro n
  induction n with
  | zero =>
    intro e out outt hn he hb ho
    have : e = 0 := by omega
    subst this
    refine ⟨out, outt, _, ref02_Of_l2_e1 (by omega), ho, ?_, by omega⟩
    show val out = val out + 1000000000 ^ out.length * 0
    rw [Int.mul_zero, Int.add_zero]
  | succ n ih =>
    intro e out outt hn he hb ho
    by_cases h0 : e = 0
    · subst h0
      refine ⟨out, outt, _, ref02_Of_l2_e1 (by omega), ho, ?_, by omega⟩
      show val out = val out + 1000000000 ^ out.length * 0
      rw [Int.mul_zero, Int.add_zero]
    have hlen := strInts_len s
    have hfe := figs_take hf e
    have hle : ((strInts s).take e).length = e := by rw [List.length_take]; omega
    have hne : (strInts s).take e ≠ [] := by
      intro h
      rw [h] at hle
      exact h0 hle.symm
    obtain ⟨⟨v1, v2⟩, v3⟩ := last_nine hfe hne
    rw [hle] at v1 v2 v3
    have e1 : (max 0 ((e : Int) - 9)) = ((e - 9 : Nat) : Int) := by omega
    obtain ⟨z, g⟩ := rof_in (out := out) (outt := outt) he (by omega) _ (e - 9) 0 rfl (figs_drop hfe _) (by omega) v2
    have hlo : limbs (out ++ [hv 0 (((strInts s).take e).drop (e - 9))]) := limbs_snoc ho ⟨v1, v2⟩
    by_cases h9 : e ≤ 9
    · refine ⟨_, false, _, ref02_Of_l2_s0 (z0 := hv 0 (((strInts s).take e).drop (e - 9))) (z1 := z) (by omega) (in64 (by omega) (by omega)) (by rw [e1]; exact g) (by omega) (ref02_Of_l2_e1 (by omega)), hlo, ?_, by rw [List.length_append, List.length_singleton]; omega⟩
      rw [val_snoc, v3]
      have : e - 9 = 0 := by omega
      rw [this, List.take_zero]
      show _ = val out + 1000000000 ^ out.length * (_ + 1000000000 * 0)
      rw [Int.mul_zero, Int.add_zero]
    · obtain ⟨z0, z2, z3, k1, k2, k3, k4⟩ := ih (e - 9) (out ++ [hv 0 (((strInts s).take e).drop (e - 9))]) false (by omega) (by omega) (by rw [List.length_append, List.length_singleton]; omega) hlo
      have e2 : (e : Int) - 9 = ((e - 9 : Nat) : Int) := by omega
      refine ⟨z0, z2, z3, ref02_Of_l2_s0 (z0 := hv 0 (((strInts s).take e).drop (e - 9))) (z1 := z) (by omega) (in64 (by omega) (by omega)) (by rw [e1]; exact g) (by omega) (by rw [e2]; exact k1), k2, ?_, by rw [List.length_append, List.length_singleton] at k4; omega⟩
      rw [k3, val_snoc, List.length_append, List.length_singleton, v3, Int.pow_succ, Int.mul_add, Int.mul_assoc, List.take_take, Nat.min_eq_left (by omega)]
      omega
def cut10 : List UInt8 := [48, 49, 50, 51, 52, 53, 54, 55, 56, 57]
theorem cut10_fig (b : UInt8) : cut10.contains b = true ↔ (48 ≤ (b.toNat : Int) ∧ (b.toNat : Int) ≤ 57) := by
  have h : ∀ n : Fin 256, (cut10.contains (UInt8.ofNat n.val) = true ↔ (48 ≤ ((UInt8.ofNat n.val).toNat : Int) ∧ ((UInt8.ofNat n.val).toNat : Int) ≤ 57)) := by decide +kernel
  have := h ⟨b.toNat, b.toNat_lt⟩
  simpa using this
theorem mem_dropWhile {α : Type} {p : α → Bool} {b : α} (hp : p b = false) : ∀ {l : List α}, b ∈ l → b ∈ l.dropWhile p
  | x :: r, h => by
    rw [List.dropWhile_cons]
    split
    · rename_i hx
      rcases List.mem_cons.1 h with rfl | h
      · rw [hp] at hx; cases hx
      · exact mem_dropWhile hp h
    · exact h
theorem dropWhile_none {α : Type} {p : α → Bool} : ∀ {l : List α}, (∀ b ∈ l, p b = true) → l.dropWhile p = []
  | [], _ => rfl
  | x :: r, h => by
    rw [List.dropWhile_cons, if_pos (h x (by simp))]
    exact dropWhile_none fun b hb => h b (by simp [hb])
theorem trim_figs {s : ByteArray} : Lib.trimS s.data.toList cut10 = [] ↔ figs (strInts s) := by
  constructor
  · intro h d hd
    simp only [strInts, List.mem_map] at hd
    obtain ⟨b, hb, rfl⟩ := hd
    refine (cut10_fig b).1 ?_
    by_cases hc : cut10.contains b = true
    · exact hc
    · have hc : cut10.contains b = false := by simpa using hc
      have h1 : b ∈ Lib.trimS s.data.toList cut10 := mem_dropWhile hc (List.mem_reverse.2 (mem_dropWhile hc (List.mem_reverse.2 hb)))
      rw [h] at h1
      cases h1
  · intro h
    have : s.data.toList.reverse.dropWhile (cut10.contains ·) = [] := by
      refine dropWhile_none fun b hb => ?_
      refine (cut10_fig b).2 (h _ ?_)
      exact List.mem_map.2 ⟨b, List.mem_reverse.1 hb, rfl⟩
    unfold Lib.trimS Lib.trimRightS
    rw [this]
    rfl
/-- How a text is read, by either. -/
theorem of_run (s : ByteArray) (hs : s.size ≤ 9223372036854775807) : (s.size ≤ 1048576 ∧ figs (strInts s) ∧ ∃ q q' : SL Int, nat_Of s q 0 ∧ ref02_Of s q' 0 ∧ isNum q.xs ∧ q.xs = q'.xs ∧ val q.xs = hv 0 (strInts s) ∧ few q.xs) ∨
    ((s.size = 0 ∨ s.size > 1048576 ∨ ¬ figs (strInts s)) ∧ nat_Of s ⟨1, [], true⟩ 2 ∧ ref02_Of s ⟨1, [], true⟩ 2) := by
  by_cases h0 : s = (⟨#[]⟩ : ByteArray)
  · have := empty_str.1 h0
    exact .inr ⟨.inl this, nat_Of_r0 h0, ref02_Of_r0 (by omega)⟩
  have hz : s.size ≠ 0 := fun h => h0 (empty_str.2 h)
  by_cases h1 : (s.size : Int) > 1048576
  · exact .inr ⟨.inr (.inl (by omega)), nat_Of_r1 h0 h1, ref02_Of_r1 (by omega) h1⟩
  have hT : strings_Trim s (⟨#[48, 49, 50, 51, 52, 53, 54, 55, 56, 57]⟩ : ByteArray) ⟨(Lib.trimS s.data.toList cut10).toArray⟩ := R_trim (s := s) (c := (⟨#[48, 49, 50, 51, 52, 53, 54, 55, 56, 57]⟩ : ByteArray)) (by decide) hs
  rcases rof_check (s := s) (by omega) (strInts s) 0 rfl with ⟨hf, z, c1⟩ | ⟨hf, c1⟩
  · obtain ⟨z0, z1, z2, g1, g2, g3, g4⟩ := of_out s.size s [] true (Nat.le_refl _) (by simp; omega) hf limbs_nil
    obtain ⟨w0, w2, w3, k1, k2, k3, k4⟩ := rof_out (s := s) (by omega) hf s.size s.size [] true (Nat.le_refl _) (Nat.le_refl _) (by simp; omega) limbs_nil
    simp only [List.length_nil, Nat.zero_add] at g4 k4
    obtain ⟨q, q1, q2, q3, q4⟩ := trim_limbs (l := z0) (by unfold wide; omega) g2 z2
    obtain ⟨r, r1, r2, r3, r4⟩ := rtrim_limbs (l := w0) (by unfold wide; omega) k2 w2
    rw [List.take_of_length_le (by rw [strInts_len]; omega)] at k3
    simp only [List.length_nil, Int.pow_zero, Int.one_mul, val, Int.zero_add] at g3 k3
    refine .inl ⟨by omega, hf, q, r, ?_, ref02_Of_r3 (by omega) h1 c1 k1 r1, q2, val_inj q2 r2 (by rw [q3, r3, g3, k3]), by rw [q3, g3], by unfold few; omega⟩
    exact nat_Of_r2 h0 h1 hT (by rw [trim_figs.2 hf]) g1 q1
  · refine .inr ⟨.inr (.inr hf), nat_Of_r3 h0 h1 hT (fun h => hf (trim_figs.1 ?_)), ref02_Of_r2 (by omega) h1 c1⟩
    have := congrArg (fun s : ByteArray => s.data.toList) h
    simpa using this
theorem reads_run {s : ByteArray} {a : SL Int} (hs : s.size ≤ 9223372036854775807) (hfa : a.xs.length < 30000000000000) (hua : u32s a.xs) (hff : few a.xs) : law_NatReads s a true := by
  have hh : huge a.xs := by unfold huge; omega
  have H : ∃ t e, nat_Text a t e ∧ ref02_Text a t e ∧ nat_Check a e ∧ ref02_Check a e := by
    rcases check_run hh hua with ⟨na, c1⟩ | ⟨na, c1⟩
    · rcases rcheck_run hh hua with ⟨_, c2⟩ | ⟨nb, _⟩
      · obtain ⟨t, t1, t2, _⟩ := text_run na hfa hff c2
        exact ⟨_, 0, t1, t2, c1, c2⟩
      · exact absurd na nb
    · rcases rcheck_run hh hua with ⟨nb, _⟩ | ⟨_, c2⟩
      · exact absurd nb na
      · rcases fits_run hh hua with ⟨nb, _⟩ | ⟨_, f⟩
        · exact absurd nb na
        · exact ⟨_, 2, nat_Text_r2 f, ref02_Text_r0 c2 (by decide), c1, c2⟩
  obtain ⟨t, e, t1, t2, c1, c2⟩ := H
  rcases of_run s hs with ⟨_, _, q, q', o1, o2, o3, o4, o5, o6⟩ | ⟨_, o1, o2⟩
  · exact law_NatReads_r0 o1 o2 t1 t2 (same_true o6 o4) rfl rfl rfl c1 c2 rfl heads_ok
  · exact law_NatReads_r0 o1 o2 t1 t2 (same_true (by unfold few; simp) rfl) rfl rfl rfl c1 c2 rfl heads_ok
theorem strInts_text : ∀ {t : List Int}, figs t → strInts (bText t) = t
  | [], _ => rfl
  | d :: r, h => by
    rw [figs_cons] at h
    have ih := strInts_text h.2
    simp only [strInts, bText, bytesOf, List.map_cons] at ih ⊢
    rw [ih]
    congr 1
    rw [UInt8.toNat_ofNat']
    omega
theorem strInts_app (a b : ByteArray) : strInts (a ++ b) = strInts a ++ strInts b := by
  simp only [strInts, ByteArray.data_append, Array.toList_append, List.map_append]
theorem back_run {a : SL Int} (hfa : a.xs.length < 30000000000000) (hua : u32s a.xs) (hff : few a.xs) : law_NatBack a true := by
  have hh : huge a.xs := by unfold huge; omega
  rcases check_run hh hua with ⟨na, c1⟩ | ⟨na, c1⟩
  rotate_left
  · rcases fits_run hh hua with ⟨nb, _⟩ | ⟨_, f⟩
    · exact absurd nb na
    · exact law_NatBack_r0 (nat_Text_r2 f) c1 (by decide) rfl rfl heads_ok
  rcases rcheck_run hh hua with ⟨_, c2⟩ | ⟨nb, _⟩
  rotate_left
  · exact absurd na nb
  obtain ⟨t, t1, t2, t3, t4, t5, t6⟩ := text_run na hfa hff c2
  have hi := strInts_text t3
  have hsz : (bText t).size = t.length := by rw [← strInts_len, hi]
  have htp := List.length_pos_iff.2 t4
  by_cases h1 : ((bText t).size : Int) > 1048576
  · exact law_NatBack_r1 t1 c1 rfl h1 heads_ok
  have hz : ((⟨#[48, 48, 48]⟩ : ByteArray) ++ bText t).size = 3 + t.length := by rw [← strInts_len, strInts_app, hi]; simp [strInts]; omega
  have hi3 : strInts ((⟨#[48, 48, 48]⟩ : ByteArray) ++ bText t) = 48 :: 48 :: 48 :: t := by rw [strInts_app, hi]; rfl
  rcases of_run (bText t) (by omega) with ⟨_, _, q, q', o1, o2, o3, o4, o5, o6⟩ | ⟨bad, _⟩
  · rw [hi, t5] at o5
    have sq : ref02_Same a q true := same_true hff (val_inj na o3 o5.symm)
    have hadd : (⟨#[48, 48, 48]⟩ : ByteArray).size + (bText t).size ≤ 9223372036854775807 := by
      show 3 + _ ≤ _
      omega
    rcases of_run ((⟨#[48, 48, 48]⟩ : ByteArray) ++ bText t) (by omega) with ⟨_, _, r, r', p1, p2, p3, p4, p5, p6⟩ | ⟨bad, p1, p2⟩
    · rw [hi3] at p5
      have p7 : val r.xs = val a.xs := by rw [p5, ← t5]; simp [hv]
      exact law_NatBack_r2 t1 c1 rfl h1 o1 hadd p1 rfl rfl sq rfl (same_true hff (val_inj na p3 p7.symm)) heads_ok
    · refine law_NatBack_r4 t1 c1 rfl h1 o1 hadd p1 rfl rfl sq (by decide) ?_ heads_ok
      rcases bad with h | h | h
      · omega
      · omega
      · rw [hi3] at h
        exact absurd (figs_cons.2 ⟨by omega, figs_cons.2 ⟨by omega, figs_cons.2 ⟨by omega, t3⟩⟩⟩) h
  · rcases bad with h | h | h
    · omega
    · omega
    · rw [hi] at h
      exact absurd t3 h
open Go.ChangeShapes Go.WideShapes Go.Deep
theorem bulk_pos {H : Type} (d : DataW H) : 1 ≤ Rows.uptoBulk d := by
  cases d with
  | lit l => cases l <;> simp [Rows.uptoBulk]
  | _ => simp [Rows.uptoBulk]
theorem bulk_len {H : Type} : ∀ l : List (DataW H), l.length ≤ Rows.uptoBulkAll l
  | [] => by simp [Rows.uptoBulkAll]
  | d :: r => by
    have h1 := bulk_pos d
    have h2 := bulk_len r
    simp only [Rows.uptoBulkAll, List.length_cons]
    omega
theorem bulk_first {H : Type} {d : DataW H} {n : Nat} (h : Rows.uptoBulkAll [d] ≤ n) : Rows.uptoBulk d ≤ n := by
  simp only [Rows.uptoBulkAll] at h
  omega
theorem bulk_second {H : Type} {c d : DataW H} {n : Nat} (h : Rows.uptoBulkAll [c, d] ≤ n) : Rows.uptoBulk d ≤ n := by
  simp only [Rows.uptoBulkAll] at h
  omega
theorem slice_bulk {H : Type} {enc : TypeId × Value → H} {P : Program} {w : World} {spare : Nat → Bool} {F : Nat → Prop} {α : Type} {es : Nat} {e0 : α → D} {s : SL α} {v : Value} {t e : TypeId} {d : DataW H} {p : List MemPlace}
    (hd : DRel w F (slD es e0 s) v) (h : DataW.Trod enc P w 0 spare true t v d p) (ht : P.underlying t = some (.slice e)) : s.xs.length ≤ Rows.uptoBulk d := by
  have hv : ∃ a c, v = .slice a s.xs.length c := by
    have hl := len_dl e0 s.xs
    generalize hx : slD es e0 s = x at hd
    cases hd with
    | sl es' xs t' a cap b off cell hlc ht' ha hF hes hc h1 hr =>
      unfold slD at hx
      injection hx with h1 h2 h3
      subst h2
      exact ⟨a, cap, by rw [hl]⟩
    | _ => unfold slD at hx; cases hx
  obtain ⟨a, c, rfl⟩ := hv
  obtain ⟨m, hm⟩ := h
  rcases open_slice ht hm with ⟨h1, h2⟩ | ⟨a', len, cap, m', n', D', Pl, h1, _, _, _, _, h2, _⟩
  · have : (Value.slice a s.xs.length c) = .slice none 0 0 := by
      have := congrArg List.head? h1
      simpa [Value.cells] using this
    injection this with _ h3 _
    omega
  · have : (Value.slice a s.xs.length c) = .slice (some a') len cap := by
      have := congrArg List.head? h1
      simpa [Value.cells] using this
    injection this with _ h3 _
    have h4 : d = (.slice ((List.range len).map D') ((List.range (m' - len)).map fun j => D' (len + j))) := congrArg Prod.fst h2
    rw [h4]
    simp only [Rows.uptoBulk]
    have := bulk_len ((List.range len).map D')
    rw [List.length_map, List.length_range] at this
    omega
theorem reads_true {s : ByteArray} {a : SL Int} (hs : wfStr s) (ha : wfS 4 (inK .u32) a) (hb : a.xs.length ≤ 1048576) : law_NatReads s a true :=
  reads_run (by have : s.size ≤ _ := hs; omega) (by omega) (wf_u32 ha) (by unfold few; omega)
theorem back_true {a : SL Int} (ha : wfS 4 (inK .u32) a) (hb : a.xs.length ≤ 1048576) : law_NatBack a true := back_run (by omega) (wf_u32 ha) (by unfold few; omega)
end Go.Proofs.YtlijicnknhopkaaDoor.V

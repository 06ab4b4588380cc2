/- Numbers: limbs, what is reckoned, texts (several texts together). -/
import Derived.Test.YtpghocjfmddpkaaMA
namespace Go.Proofs.Ytpghocjfmddpkaa.V
section
open Go
set_option linter.unusedVariables false
set_option linter.unusedSimpArgs false
set_option linter.unusedSectionVars false
set_option linter.unnecessarySimpa false
theorem strInts_length (s : ByteArray) : (strInts s).length = s.size := by
  unfold strInts
  rw [List.length_map, Array.length_toList]
  rfl
theorem strInts_at {s : ByteArray} {i : Nat} (h : i < s.size) : (strInts s)[i]? = some ((s[i]!).toNat : Int) := by
  unfold strInts
  rw [List.getElem?_map, Array.getElem?_toList, getElem!_pos s i h]
  have : s.data[i]? = some s.data[i] := Array.getElem?_eq_getElem h
  rw [this]
  rfl
theorem idx_mem {s : ByteArray} {c : Int} (h0 : 0 ≤ c) (h1 : c < 256) : (idxB s (UInt8.ofNat c.toNat) ≥ 0) ↔ c ∈ strInts s := by
  have hc : (UInt8.ofNat c.toNat).toNat = c.toNat := by
    rw [UInt8.toNat_ofNat']
    omega
  unfold idxB
  constructor
  · intro h
    split at h
    · rename_i i hi
      have hm := List.mem_of_find?_eq_some hi
      have hp := List.find?_some hi
      have hlt : i < s.size := by simpa using hm
      have he : s[i]! = UInt8.ofNat c.toNat := by simpa using hp
      have := strInts_at hlt
      rw [he, hc] at this
      have e : ((c.toNat : Nat) : Int) = c := by omega
      rw [e] at this
      exact List.mem_of_getElem? this
    · omega
  · intro h
    split
    · omega
    · rename_i hn
      exfalso
      obtain ⟨i, hi⟩ := List.getElem?_of_mem h
      have hlt : i < s.size := by
        rw [← strInts_length]
        exact (List.getElem?_eq_some_iff.1 hi).1
      rw [strInts_at hlt] at hi
      have hz : ((s[i]!).toNat : Int) = c := by simpa using hi
      have := List.find?_eq_none.1 hn i (by simpa using hlt)
      apply this
      have : s[i]! = UInt8.ofNat c.toNat := by
        apply UInt8.toNat_inj.1
        rw [hc]
        omega
      simp [this]
theorem among_run (c : Int) (w : ByteArray) : rx_among c w (inB c (strInts w)) := by
  unfold inB
  by_cases h0 : 0 ≤ c
  · by_cases h1 : c < 128
    · have hw : wk .u8 c := by
        show IntKind.wrap .u8 c = c
        simp only [IntKind.wrap, IntKind.bits, IntKind.signed, Bool.false_and, Bool.false_eq_true, if_false]
        omega
      have hi : internal_bytealg_IndexByteString w c (idxB w (UInt8.ofNat c.toNat)) := by
        refine lim_x ?_
        show xIdx [.d (.str w), .d (.int .u8 c)] [] = _
        simp only [xIdx]
        rw [if_pos ⟨h0, by omega⟩]
        rfl
      have hs := strings_IndexByte_r0 (internal_stringslite_IndexByte_r0 hi)
      by_cases hm : c ∈ strInts w
      · have : (decide (0 ≤ c ∧ c < 128) && (strInts w).contains c) = true := by simp [h0, h1, hm]
        rw [this]
        exact rx_among_r0 h0 h1 hw hs ((idx_mem h0 (by omega)).2 hm)
      · have : (decide (0 ≤ c ∧ c < 128) && (strInts w).contains c) = false := by simp [h0, h1, hm]
        rw [this]
        exact rx_among_r1 h0 h1 hw hs (fun k => hm ((idx_mem h0 (by omega)).1 k))
    · have : (decide (0 ≤ c ∧ c < 128) && (strInts w).contains c) = false := by simp [h1]
      rw [this]
      exact rx_among_r2 h0 h1
  · have : (decide (0 ≤ c ∧ c < 128) && (strInts w).contains c) = false := by simp [h0]
    rw [this]
    exact rx_among_r3 (by omega)
def S (t : Bool) (l : List Int) (d : Int) : rx_reader := ⟨⟨1, l, t⟩, d⟩
section
variable {t : Bool} {d : Int}
theorem take_loop {l : List Int} {w : ByteArray} (hs : l.length ≤ 1000000) (hw : (strInts w).length ≤ l.length) : ∀ (ws rest : List Int) (k : Nat), (strInts w).drop k = ws → l.drop k = rest →
    (takeM ws rest = none ∧ rx_reader_take_l0 (S t l d) w ⟨1, strInts w, false⟩ ((strInts w).length : Int) (k : Int) (rx_reader_take_l0_x0 (S t l d))) ∨
    (∃ r, takeM ws rest = some r ∧ ∃ z, rx_reader_take_l0 (S t l d) w ⟨1, strInts w, false⟩ ((strInts w).length : Int) (k : Int) (rx_reader_take_l0_x1 (S t l d) w ⟨1, strInts w, false⟩ ((strInts w).length : Int) z))
  | [], rest, k, h1, h2 => by
    have := List.drop_eq_nil_iff.1 h1
    exact .inr ⟨rest, rfl, _, rx_reader_take_l0_e2 (by omega)⟩
  | c :: ws, rest, k, h1, h2 => by
    have hk : k < (strInts w).length := by
      rcases Nat.lt_or_ge k (strInts w).length with h | h
      · exact h
      · rw [List.drop_eq_nil_of_le h] at h1; cases h1
    have e1 : (strInts w)[k]? = some c := by
      have : ((strInts w).drop k)[0]? = some c := by rw [h1]; rfl
      simpa using this
    cases rest with
    | nil =>
      have := List.drop_eq_nil_iff.1 h2
      omega
    | cons x rest =>
      have e2 : l[k]? = some x := by
        have : (l.drop k)[0]? = some x := by rw [h2]; rfl
        simpa using this
      have hb : 0 ≤ c ∧ c < 256 := by
        have := List.mem_of_getElem? e1
        unfold strInts at this
        obtain ⟨b, _, rfl⟩ := List.mem_map.1 this
        have := b.toNat_lt
        omega
      simp only [takeM]
      by_cases e : x = c
      · rw [if_pos e]
        rcases take_loop hs hw ws rest (k + 1) (by rw [← List.drop_drop, h1]; rfl) (by rw [← List.drop_drop, h2]; rfl) with ⟨j1, j2⟩ | ⟨r, j1, z, j2⟩
        · exact .inl ⟨j1, rx_reader_take_l0_s1 (t18 := (k : Int)) (by omega) (by omega) (by simpa using e1) (by simpa [S] using e2) (in64 (by omega) (by omega)) e (in64 (by omega) (by omega)) j2⟩
        · exact .inr ⟨r, j1, z, rx_reader_take_l0_s1 (t18 := (k : Int)) (by omega) (by omega) (by simpa using e1) (by simpa [S] using e2) (in64 (by omega) (by omega)) e (in64 (by omega) (by omega)) j2⟩
      · rw [if_neg e]
        exact .inl ⟨rfl, rx_reader_take_l0_e0 (t18 := (k : Int)) (by omega) (by omega) (by simpa using e1) (by simpa [S] using e2) (in64 (by omega) (by omega)) e⟩
theorem takeM_len : ∀ {w l r : List Int}, takeM w l = some r → w.length + r.length = l.length := by
  intro w l r h
  rw [takeM_some h]; simp
/-- What a text's reading gives. -/
theorem take_run {l : List Int} {w : ByteArray} {ws : List Int} (hw : strInts w = ws) (hs : l.length ≤ 1000000) :
    (∃ r, takeM ws l = some r ∧ rx_reader_take (S t l d) w true (S t r d)) ∨ (takeM ws l = none ∧ rx_reader_take (S t l d) w false (S t l d)) := by
  subst hw
  have hl := strInts_length w
  by_cases h : (l.length : Int) < (w.size : Int)
  · right
    refine ⟨?_, rx_reader_take_r0 h⟩
    cases e : takeM (strInts w) l with
    | none => rfl
    | some r => have := takeM_len e; omega
  · rcases take_loop (t := t) (d := d) hs (by omega) (strInts w) l 0 rfl rfl with ⟨j1, j2⟩ | ⟨r, j1, z, j2⟩
    · exact .inr ⟨j1, rx_reader_take_r1 h j2⟩
    · left
      refine ⟨r, j1, ?_⟩
      have e := rx_reader_take_r2 h j2 (by show ((w.size : Int)).toNat ≤ l.length; omega)
      have e2 : l.drop ((w.size : Int)).toNat = r := by
        rw [takeM_some j1]
        have : ((w.size : Int)).toNat = (strInts w).length := by omega
        rw [this, List.drop_left]
      have e3 : (S t l d).s_.xs = l := rfl
      rw [e3, e2] at e
      exact e
theorem next_run {c : Int} {r : List Int} : rx_reader_next (S t (c :: r) d) c (S t r d) :=
  rx_reader_next_r0 (rs := S t (c :: r) d) (by show ((c :: r).length : Int) > 0; rw [List.length_cons]; omega) rx_must_r0 rfl (by show 1 ≤ (c :: r).length; simp)
theorem next_pan : rx_reader_next_pan (S t [] d) (S t [] d) := rx_reader_next_p3 (rs := S t [] d) (by show ¬ (([] : List Int).length : Int) > 0; simp) rx_must_p1
theorem peek_run (l : List Int) : rx_reader_peek (S t l d) (hd l) (S t l d) := by
  cases l with
  | nil => exact rx_reader_peek_r0 (rs := S t [] d) rfl
  | cons c r => exact rx_reader_peek_r1 (rs := S t (c :: r) d) (by show ¬ ((c :: r).length : Int) = 0; rw [List.length_cons]; omega) rfl
end
end
section
open Go
set_option linter.unusedVariables false
set_option linter.unusedSimpArgs false
set_option linter.unusedSectionVars false
set_option linter.unnecessarySimpa false
/-- What is read: few code points. -/
def GL (l : List Int) : Prop := l.length ≤ 100000 ∧ ∀ c ∈ l, 0 ≤ c ∧ c ≤ 1114111
theorem GL.suf {l r : List Int} (h : GL l) (s : r <:+ l) : GL r := ⟨Nat.le_trans s.length_le h.1, fun c hc => h.2 c (s.subset hc)⟩
theorem GL.tail {c : Int} {l : List Int} (h : GL (c :: l)) : GL l := h.suf (List.suffix_cons _ _)
theorem GL.hd {c : Int} {l : List Int} (h : GL (c :: l)) : 0 ≤ c ∧ c ≤ 1114111 := h.2 c (by simp)
section
variable {t : Bool} {d : Int}
/-- A text's reading, as the model has it. -/
theorem opt_run {l : List Int} {w : ByteArray} (ws : List Int) (hw : strInts w = ws) (hs : GL l) :
    (∃ r, opt ws l = .ok (true, r) ∧ GL r ∧ rx_reader_take (S t l d) w true (S t r d)) ∨ (opt ws l = .ok (false, l) ∧ rx_reader_take (S t l d) w false (S t l d)) := by
  rcases take_run (t := t) (d := d) (l := l) hw (by have := hs.1; omega) with ⟨r, h1, h2⟩ | ⟨h1, h2⟩
  · have e : opt ws l = .ok (true, r) := by unfold opt; rw [h1]
    exact .inl ⟨r, e, hs.suf (by rw [takeM_some h1]; exact List.suffix_append _ _), h2⟩
  · exact .inr ⟨by unfold opt; rw [h1], h2⟩
/-- A function of the reader does what the model does. -/
def Con {α : Type} (t : Bool) (d : Int) (f : Pa α) (run : rx_reader → α → rx_reader → Prop) (pan : rx_reader → rx_reader → Prop) : Prop :=
  ∀ l, GL l → (∃ a r, f l = .ok (a, r) ∧ GL r ∧ run (S t l d) a (S t r d)) ∨ (f l = .bad ∧ ∃ s, pan (S t l d) s)
theorem isDig_iff (c : Int) : isDig c = true ↔ 48 ≤ c ∧ c ≤ 57 := by unfold isDig; simp
theorem num_loop : ∀ (l : List Int) (n : Int), GL l → 0 ≤ n → n ≤ 1000 →
    (∃ a r, numL n l = .ok (a, r) ∧ GL r ∧ ∃ c, rx_reader_number_l0 (S t l d) n (hd l) (rx_reader_number_l0_x1 (S t r d) a c)) ∨
    (numL n l = .bad ∧ ∃ z0 z1, rx_reader_number_l0 (S t l d) n (hd l) (rx_reader_number_l0_x0 z0 z1))
  | [], n, hl, h0, h1 => .inl ⟨n, [], rfl, hl, _, rx_reader_number_l0_e7 (by show ¬ ((-1 : Int) ≥ 48); omega)⟩
  | c :: r, n, hl, h0, h1 => by
    have hh : hd (c :: r) = c := rfl
    rw [hh]
    simp only [numL]
    by_cases hc : isDig c = true
    · rw [if_pos hc]
      obtain ⟨c0, c1⟩ := (isDig_iff c).1 hc
      by_cases hn : n * 10 + c - 48 ≤ 1000
      · rw [if_pos hn]
        rcases num_loop r (n * 10 + c - 48) hl.tail (by omega) hn with ⟨a, r', h2, h3, c', h4⟩ | ⟨h2, z0, z1, h4⟩
        · exact .inl ⟨a, r', h2, h3, c', rx_reader_number_l0_s0 c0 c1 (in64 (by omega) (by omega)) (in64 (by omega) (by omega)) (in64 (by omega) (by omega)) hn rx_must_r0 next_run (peek_run r) h4⟩
        · exact .inr ⟨h2, z0, z1, rx_reader_number_l0_s0 c0 c1 (in64 (by omega) (by omega)) (in64 (by omega) (by omega)) (in64 (by omega) (by omega)) hn rx_must_r0 next_run (peek_run r) h4⟩
      · rw [if_neg hn]
        exact .inr ⟨rfl, _, _, rx_reader_number_l0_e5 c0 c1 (in64 (by omega) (by omega)) (in64 (by omega) (by omega)) (in64 (by omega) (by omega)) hn rx_must_p1⟩
    · rw [if_neg hc]
      have hc' : ¬ (48 ≤ c ∧ c ≤ 57) := fun k => hc ((isDig_iff c).2 k)
      refine .inl ⟨n, c :: r, rfl, hl, ?_⟩
      by_cases c0 : c ≥ 48
      · exact ⟨_, rx_reader_number_l0_e6 c0 (by omega)⟩
      · exact ⟨_, rx_reader_number_l0_e7 c0⟩
theorem num_run : Con t d numP (fun s a s' => rx_reader_number s a s') rx_reader_number_pan := by
  intro l hl
  have hp := peek_run (t := t) (d := d) l
  by_cases hc : isDig (hd l) = true
  · obtain ⟨c0, c1⟩ := (isDig_iff _).1 hc
    have e : numP l = numL 0 l := by
      simp only [numP, pb, tst, iff]
      rw [if_pos hc]
    rw [e]
    rcases num_loop (t := t) (d := d) l 0 hl (by decide) (by decide) with ⟨a, r, h1, h2, c, h3⟩ | ⟨h1, z0, z1, h3⟩
    · exact .inl ⟨a, r, h1, h2, rx_reader_number_r3 hp (by omega) (by omega) hp h3⟩
    · exact .inr ⟨h1, _, rx_reader_number_p2 hp (by omega) (by omega) hp h3⟩
  · have hc' : ¬ (48 ≤ hd l ∧ hd l ≤ 57) := fun k => hc ((isDig_iff _).2 k)
    have e : numP l = .ok (-1, l) := by
      simp only [numP, pb, tst, iff]
      rw [if_neg hc]; rfl
    refine .inl ⟨-1, l, e, hl, ?_⟩
    by_cases c0 : hd l < 48
    · exact rx_reader_number_r0 hp c0
    · exact rx_reader_number_r1 hp c0 (by omega)
def countR (s : rx_reader) (a : Option (Int × Int)) (s' : rx_reader) : Prop := match a with
  | none => rx_reader_count s 0 0 false s'
  | some (lo, hi) => rx_reader_count s lo hi true s'
theorem count_run : Con t d countP countR rx_reader_count_pan := by
  intro l hl
  rcases opt_run (t := t) (d := d) (w := ⟨#[42]⟩) [42] rfl hl with ⟨r, e1, g1, h1⟩ | ⟨e1, h1⟩
  · exact .inl ⟨some (0, -1), r, by simp only [countP, pb, e1, iff, if_true]; rfl, g1, rx_reader_count_r0 h1⟩
  rcases opt_run (t := t) (d := d) (w := ⟨#[43]⟩) [43] rfl hl with ⟨r, e2, g2, h2⟩ | ⟨e2, h2⟩
  · exact .inl ⟨some (1, -1), r, by simp [countP, pb, e1, e2, iff, pr], g2, rx_reader_count_r1 h1 h2⟩
  rcases opt_run (t := t) (d := d) (w := ⟨#[63]⟩) [63] rfl hl with ⟨r, e3, g3, h3⟩ | ⟨e3, h3⟩
  · exact .inl ⟨some (0, 1), r, by simp [countP, pb, e1, e2, e3, iff, pr], g3, rx_reader_count_r2 h1 h2 h3⟩
  rcases opt_run (t := t) (d := d) (w := ⟨#[123]⟩) [123] rfl hl with ⟨r, e4, g4, h4⟩ | ⟨e4, h4⟩
  rotate_left
  · exact .inl ⟨none, l, by simp [countP, pb, e1, e2, e3, e4, iff, pr], hl, rx_reader_count_r29 h1 h2 h3 h4⟩
  rcases num_run (t := t) (d := d) r g4 with ⟨low, r1, e5, g5, h5⟩ | ⟨e5, s5, h5⟩
  rotate_left
  · exact .inr ⟨by simp [countP, pb, e1, e2, e3, e4, e5, iff, pr], _, rx_reader_count_p28 h1 h2 h3 h4 h5⟩
  rcases opt_run (t := t) (d := d) (w := ⟨#[44]⟩) [44] rfl g5 with ⟨r2, e6, g6, h6⟩ | ⟨e6, h6⟩
  · rcases num_run (t := t) (d := d) r2 g6 with ⟨high, r3, e7, g7, h7⟩ | ⟨e7, s7, h7⟩
    rotate_left
    · exact .inr ⟨by simp [countP, pb, e1, e2, e3, e4, e5, e6, e7, iff, pr], _, rx_reader_count_p15 h1 h2 h3 h4 h5 h6 h7⟩
    by_cases k0 : low ≥ 0
    rotate_left
    · exact .inr ⟨by simp [countP, pb, e1, e2, e3, e4, e5, e6, e7, iff, pr, grd, fl, k0], _, rx_reader_count_p14 h1 h2 h3 h4 h5 h6 h7 k0 rx_must_p1⟩
    by_cases k1 : high < 0 ∨ low ≤ high
    rotate_left
    · exact .inr ⟨by simp [countP, pb, e1, e2, e3, e4, e5, e6, e7, iff, pr, grd, fl, k0, k1], _, rx_reader_count_p12 h1 h2 h3 h4 h5 h6 h7 k0 (by omega) (by omega) rx_must_p1⟩
    rcases opt_run (t := t) (d := d) (w := ⟨#[125]⟩) [125] rfl g7 with ⟨r4, e8, g8, h8⟩ | ⟨e8, h8⟩
    · refine .inl ⟨some (low, high), r4, by simp [countP, pb, e1, e2, e3, e4, e5, e6, e7, e8, iff, pr, grd, fl, k0, k1], g8, ?_⟩
      by_cases k2 : high < 0
      · exact rx_reader_count_r3 h1 h2 h3 h4 h5 h6 h7 k0 k2 h8 rx_must_r0
      · exact rx_reader_count_r7 h1 h2 h3 h4 h5 h6 h7 k0 k2 (by omega) h8 rx_must_r0
    · refine .inr ⟨by simp [countP, pb, e1, e2, e3, e4, e5, e6, e7, e8, iff, pr, grd, fl, k0, k1], ?_⟩
      by_cases k2 : high < 0
      · exact ⟨_, rx_reader_count_p6 h1 h2 h3 h4 h5 h6 h7 k0 k2 h8 rx_must_p1⟩
      · exact ⟨_, rx_reader_count_p10 h1 h2 h3 h4 h5 h6 h7 k0 k2 (by omega) h8 rx_must_p1⟩
  · by_cases k0 : low ≥ 0
    rotate_left
    · exact .inr ⟨by simp [countP, pb, e1, e2, e3, e4, e5, e6, iff, pr, grd, fl, k0], _, rx_reader_count_p27 h1 h2 h3 h4 h5 h6 k0 rx_must_p1⟩
    rcases opt_run (t := t) (d := d) (w := ⟨#[125]⟩) [125] rfl g5 with ⟨r4, e8, g8, h8⟩ | ⟨e8, h8⟩
    · exact .inl ⟨some (low, low), r4, by simp [countP, pb, e1, e2, e3, e4, e5, e6, e8, iff, pr, grd, fl, k0], g8, rx_reader_count_r20 h1 h2 h3 h4 h5 h6 k0 (by omega) (by omega) h8 rx_must_r0⟩
    · exact .inr ⟨by simp [countP, pb, e1, e2, e3, e4, e5, e6, e8, iff, pr, grd, fl, k0], _, rx_reader_count_p23 h1 h2 h3 h4 h5 h6 k0 (by omega) (by omega) h8 rx_must_p1⟩
end
end
section
open Go
set_option linter.unusedVariables false
set_option linter.unusedSimpArgs false
set_option linter.unusedSectionVars false
set_option linter.unnecessarySimpa false
theorem and_low {x : Int} {k : Nat} (h0 : 0 ≤ x) (h1 : x < 4294967296) (hk : k ≤ 6) : bitAnd .i64 x ((2 ^ k - 1 : Nat) : Int) = x % (2 ^ k : Nat) := by
  obtain ⟨n, rfl⟩ := Int.eq_ofNat_of_zero_le h0
  have hp : 2 ^ k ≤ 2 ^ 6 := Nat.pow_le_pow_right (by decide) hk
  have e : (BitVec.ofInt 64 (n : Int) &&& BitVec.ofInt 64 ((2 ^ k - 1 : Nat) : Int)).toNat = n % 2 ^ k := by
    rw [BitVec.toNat_and, BitVec.toNat_ofInt, BitVec.toNat_ofInt]
    have a1 : ((n : Int) % ((2 ^ 64 : Nat) : Int)).toNat = n := by omega
    have a2 : ((((2 ^ k - 1 : Nat) : Int)) % ((2 ^ 64 : Nat) : Int)).toNat = 2 ^ k - 1 := by omega
    rw [a1, a2, Nat.and_two_pow_sub_one_eq_mod]
  unfold bitAnd
  have e2 : (BitVec.ofInt IntKind.i64.bits (n : Int) &&& BitVec.ofInt IntKind.i64.bits ((2 ^ k - 1 : Nat) : Int)).toNat = n % 2 ^ k := e
  rw [e2]
  have := Nat.mod_lt n (show 0 < 2 ^ k from Nat.pow_pos (by decide))
  exact in64 (by omega) (by omega)
theorem or_low {a r : Int} {k : Nat} (h0 : 0 ≤ a) (h1 : a < 16777216) (hr0 : 0 ≤ r) (hr : r < (2 ^ k : Nat)) (hk : k ≤ 18) : bitOr .i64 (a * 2 ^ k) r = a * (2 ^ k : Nat) + r := by
  obtain ⟨m, rfl⟩ := Int.eq_ofNat_of_zero_le h0
  obtain ⟨n, rfl⟩ := Int.eq_ofNat_of_zero_le hr0
  have hp : 2 ^ k ≤ 2 ^ 18 := Nat.pow_le_pow_right (by decide) hk
  have hn : n < 2 ^ k := by omega
  have hm : m < 16777216 := by omega
  have hml : m * 2 ^ k ≤ 16777215 * 2 ^ 18 := Nat.mul_le_mul (by omega) hp
  have ec : ((m : Int) * 2 ^ k) = ((m * 2 ^ k : Nat) : Int) := by simp
  rw [ec]
  have e : (BitVec.ofInt 64 ((m * 2 ^ k : Nat) : Int) ||| BitVec.ofInt 64 (n : Int)).toNat = m * 2 ^ k + n := by
    rw [BitVec.toNat_or, BitVec.toNat_ofInt, BitVec.toNat_ofInt]
    have a1 : (((m * 2 ^ k : Nat) : Int) % ((2 ^ 64 : Nat) : Int)).toNat = m * 2 ^ k := by omega
    have a2 : ((n : Int) % ((2 ^ 64 : Nat) : Int)).toNat = n := by omega
    rw [a1, a2, Nat.mul_comm m, ← Nat.two_pow_add_eq_or_of_lt hn]
  unfold bitOr
  have e2 : (BitVec.ofInt IntKind.i64.bits ((m * 2 ^ k : Nat) : Int) ||| BitVec.ofInt IntKind.i64.bits (n : Int)).toNat = m * 2 ^ k + n := e
  rw [e2]
  have e3 : ((m * 2 ^ k + n : Nat) : Int) = (m : Int) * (2 ^ k : Nat) + n := by simp
  rw [e3]
  have e4 : (m : Int) * (2 ^ k : Nat) = ((m * 2 ^ k : Nat) : Int) := by simp
  rw [e4]
  exact in64 (by omega) (by omega)
theorem and15 {c : Int} (h0 : 0 ≤ c) (h1 : c ≤ 1114111) : bitAnd .i64 c 15 = c % 16 := and_low (k := 4) h0 (by omega) (by decide)
theorem and31 {c : Int} (h0 : 0 ≤ c) (h1 : c ≤ 1114111) : bitAnd .i64 c 31 = c % 32 := and_low (k := 5) h0 (by omega) (by decide)
theorem and63 {c : Int} (h0 : 0 ≤ c) (h1 : c ≤ 1114111) : bitAnd .i64 c 63 = c % 64 := and_low (k := 6) h0 (by omega) (by decide)
theorem or4 {a r : Int} (h0 : 0 ≤ a) (h1 : a ≤ 1114112) (hr0 : 0 ≤ r) (hr : r < 16) : bitOr .i64 (a * 2 ^ 4) r = a * 16 + r := or_low (k := 4) h0 (by omega) hr0 hr (by decide)
theorem hex_cases {c : Int} (h : inB c hexW = true) : (48 ≤ c ∧ c ≤ 57) ∨ (97 ≤ c ∧ c ≤ 102) ∨ (65 ≤ c ∧ c ≤ 70) := by
  unfold inB hexW at h
  simp at h
  omega
theorem hexD_lt {c : Int} (h : inB c hexW = true) : 0 ≤ hexD c ∧ hexD c < 16 := by
  have := hex_cases h
  unfold hexD
  split <;> omega
section
variable {t : Bool} {d : Int}
theorem pow16 : ∀ (k : Nat), k ≤ 4 → (16 : Int) ^ k ≤ 65536
  | 0, _ => by decide
  | 1, _ => by decide
  | 2, _ => by decide
  | 3, _ => by decide
  | 4, _ => by decide
  | k + 5, h => absurd h (by omega)
theorem hex_loop {n : Nat} (hn : n ≤ 4) : ∀ (m k : Nat) (x : Int) (l : List Int), k + m = n → GL l → 0 ≤ x → x + 1 ≤ 16 ^ k →
    (∃ a r, hexP m x l = .ok (a, r) ∧ GL r ∧ (∃ z, rx_reader_hex_l0 (S t l d) x n k (rx_reader_hex_l0_x2 (S t r d) a n z)) ∧ 0 ≤ a ∧ a + 1 ≤ 16 ^ n) ∨
    (hexP m x l = .bad ∧ ((∃ z0 z1 z2 z3, rx_reader_hex_l0 (S t l d) x n k (rx_reader_hex_l0_x0 z0 z1 z2 n z3)) ∨ ∃ z0 z1 z2, rx_reader_hex_l0 (S t l d) x n k (rx_reader_hex_l0_x1 z0 z1 n z2)))
  | 0, k, x, l, hk, hl, h0, h1 => by
    have e : k = n := by omega
    subst e
    exact .inl ⟨x, l, rfl, hl, ⟨_, rx_reader_hex_l0_e7 (by omega)⟩, h0, h1⟩
  | m + 1, k, x, [], hk, hl, h0, h1 => .inr ⟨rfl, .inr ⟨_, _, _, rx_reader_hex_l0_e6 (t7 := (n : Int)) (t8 := (k : Int)) (by omega) next_pan⟩⟩
  | m + 1, k, x, c :: r, hk, hl, h0, h1 => by
    have ha := among_run c ⟨#[48, 49, 50, 51, 52, 53, 54, 55, 56, 57, 97, 98, 99, 100, 101, 102, 65, 66, 67, 68, 69, 70]⟩
    have hw : strInts ⟨#[48, 49, 50, 51, 52, 53, 54, 55, 56, 57, 97, 98, 99, 100, 101, 102, 65, 66, 67, 68, 69, 70]⟩ = hexW := rfl
    rw [hw] at ha
    have hk4 := pow16 k (by omega)
    by_cases hc : inB c hexW = true
    · rw [hc] at ha
      obtain ⟨d0, d1⟩ := hexD_lt hc
      have hcc := hex_cases hc
      have e : hexP (m + 1) x (c :: r) = hexP m (x * 16 + hexD c) r := by
        simp only [hexP, pb, nxt, grd, hc, if_true, pr]
      rw [e]
      have hx : ∀ {rs_}, rx_reader_hex_l0 (S t r d) (x * 16 + hexD c) n ((k + 1 : Nat) : Int) rs_ → rx_reader_hex_l0 (S t (c :: r) d) x n k rs_ := by
        intro rs_ h
        have a1 := and15 (c := c) (by omega) (by omega)
        have a2 := or4 (a := x) (r := c % 16) h0 (by omega) (by omega) (by omega)
        by_cases hb : c > 57
        · have eD : x * 16 + hexD c = bitOr .i64 (x * 2 ^ 4) (bitAnd .i64 c 15) + 9 := by
            rw [a1, a2]; unfold hexD; rw [if_pos hb]; omega
          rw [eD] at h
          refine rx_reader_hex_l0_s0 (t8 := (k : Int)) (by omega) next_run ha rx_must_r0 (in64 (by omega) (by omega)) hb ?_ (in64 (by omega) (by omega)) h
          rw [a1, a2]
          exact in64 (by omega) (by omega)
        · have eD : x * 16 + hexD c = bitOr .i64 (x * 2 ^ 4) (bitAnd .i64 c 15) := by
            rw [a1, a2]; unfold hexD; rw [if_neg hb]; omega
          rw [eD] at h
          exact rx_reader_hex_l0_s1 (t8 := (k : Int)) (by omega) next_run ha rx_must_r0 (in64 (by omega) (by omega)) hb (in64 (by omega) (by omega)) h
      have hp : (16 : Int) ^ (k + 1) = 16 ^ k * 16 := Int.pow_succ _ _
      rcases hex_loop hn m (k + 1) (x * 16 + hexD c) r (by omega) hl.tail (by omega) (by omega) with ⟨a, r', j1, j2, ⟨z, j3⟩, j4⟩ | ⟨j1, ⟨z0, z1, z2, z3, j2⟩ | ⟨z0, z1, z2, j2⟩⟩
      · exact .inl ⟨a, r', j1, j2, ⟨z, hx j3⟩, j4⟩
      · exact .inr ⟨j1, .inl ⟨z0, z1, z2, z3, hx j2⟩⟩
      · exact .inr ⟨j1, .inr ⟨z0, z1, z2, hx j2⟩⟩
    · have hc' : inB c hexW = false := by simpa using hc
      rw [hc'] at ha
      refine .inr ⟨?_, .inl ⟨_, _, _, _, rx_reader_hex_l0_e5 (t8 := (k : Int)) (by omega) next_run ha rx_must_p1⟩⟩
      simp [hexP, pb, nxt, grd, hc', fl]
theorem hex_run {n : Nat} (hn : n ≤ 4) : Con t d (hexP n 0) (fun s a s' => rx_reader_hex s n a s' ∧ 0 ≤ a ∧ a + 1 ≤ 16 ^ n) (fun s s' => rx_reader_hex_pan s n s') := by
  intro l hl
  rcases hex_loop (t := t) (d := d) hn n 0 0 l (by omega) hl (by decide) (by decide) with ⟨a, r', j1, j2, ⟨z, j3⟩, j4⟩ | ⟨j1, ⟨z0, z1, z2, z3, j2⟩ | ⟨z0, z1, z2, j2⟩⟩
  · exact .inl ⟨a, r', j1, j2, rx_reader_hex_r2 j3, j4⟩
  · exact .inr ⟨j1, _, rx_reader_hex_p0 j2⟩
  · exact .inr ⟨j1, _, rx_reader_hex_p1 j2⟩
theorem uni_loop : ∀ (l : List Int) (x : Int), GL l → 0 ≤ x → x ≤ 1114112 →
    (∃ a r, uniL x l = .ok (a, r) ∧ GL r ∧ rx_reader_unicode_l0 (S t l d) x (rx_reader_unicode_l0_x0 (S t r d) a) ∧ 0 ≤ a ∧ a ≤ 1114112) ∨
    (uniL x l = .bad ∧ ∃ z0 z1, rx_reader_unicode_l0 (S t l d) x (rx_reader_unicode_l0_x1 z0 z1))
  | [], x, hl, h0, h1 => by
    rcases opt_run (t := t) (d := d) (w := ⟨#[125]⟩) [125] rfl hl with ⟨r, e1, g1, k1⟩ | ⟨e1, k1⟩
    · cases e1
    · rcases hex_run (t := t) (d := d) (n := 1) (by decide) [] hl with ⟨a, r, e2, _⟩ | ⟨e2, s, k2⟩
      · cases e2
      · exact .inr ⟨rfl, _, _, rx_reader_unicode_l0_e2 k1 (in64 (by omega) (by omega)) k2⟩
  | c :: r, x, hl, h0, h1 => by
    simp only [uniL]
    rcases opt_run (t := t) (d := d) (w := ⟨#[125]⟩) [125] rfl hl with ⟨r', e1, g1, k1⟩ | ⟨e1, k1⟩
    · have e := opt_true e1
      simp at e
      obtain ⟨rfl, rfl⟩ := e
      rw [if_pos rfl]
      exact .inl ⟨x, r, rfl, g1, rx_reader_unicode_l0_e0 k1, h0, h1⟩
    · have hne : c ≠ 125 := by
        intro e
        subst e
        have := (opt_false e1).2
        simp [takeM] at this
      rw [if_neg hne]
      rcases hex_run (t := t) (d := d) (n := 1) (by decide) (c :: r) hl with ⟨a, r1, e2, g2, ⟨k2, a0, a1⟩⟩ | ⟨e2, s, k2⟩
      · by_cases hc : inB c hexW = true
        · have e3 : hexP 1 0 (c :: r) = .ok (0 * 16 + hexD c, r) := by simp only [hexP, pb, nxt, grd, hc, if_true, pr]
          rw [e3] at e2
          cases e2
          rw [if_pos hc]
          have hd' := hexD_lt hc
          have eq : (0 : Int) * 16 + hexD c = hexD c := by omega
          rw [eq] at k2
          have a2 := or4 (a := x) (r := hexD c) h0 h1 hd'.1 hd'.2
          have hx : ∀ {rs_}, rx_reader_unicode_l0 (S t r d) (min (x * 16 + hexD c) 1114112) rs_ → rx_reader_unicode_l0 (S t (c :: r) d) x rs_ := by
            intro rs_ h
            rw [← a2] at h
            exact rx_reader_unicode_l0_s1 k1 (in64 (by omega) (by omega)) k2 h
          rcases uni_loop r (min (x * 16 + hexD c) 1114112) hl.tail (by omega) (by omega) with ⟨a, r', j1, j2, j3, j4⟩ | ⟨j1, z0, z1, j2⟩
          · exact .inl ⟨a, r', j1, j2, hx j3, j4⟩
          · exact .inr ⟨j1, z0, z1, hx j2⟩
        · have e3 : hexP 1 0 (c :: r) = .bad := by simp [hexP, pb, nxt, grd, hc, fl]
          rw [e3] at e2
          cases e2
      · have hc : ¬ inB c hexW = true := by
          intro hc
          have e3 : hexP 1 0 (c :: r) = .ok (0 * 16 + hexD c, r) := by simp only [hexP, pb, nxt, grd, hc, if_true, pr]
          rw [e3] at e2
          cases e2
        rw [if_neg hc]
        exact .inr ⟨rfl, _, _, rx_reader_unicode_l0_e2 k1 (in64 (by omega) (by omega)) k2⟩
end
end
section
open Go
set_option linter.unusedVariables false
set_option linter.unusedSimpArgs false
set_option linter.unusedSectionVars false
set_option linter.unnecessarySimpa false
theorem scalar_run (p : Int) : utf_scalar p (pointOk p) := by
  unfold pointOk
  by_cases h0 : p ≥ 0
  · by_cases h1 : p ≤ 1114111
    · by_cases h2 : p < 55296
      · rw [decide_eq_true (by omega)]; exact utf_scalar_r0 h0 h1 h2
      · by_cases h3 : p ≥ 57344
        · rw [decide_eq_true (by omega)]; exact utf_scalar_r1 h0 h1 h2 h3
        · rw [decide_eq_false (by omega)]; exact utf_scalar_r2 h0 h1 h2 h3
    · rw [decide_eq_false (by omega)]; exact utf_scalar_r3 h0 h1
  · rw [decide_eq_false (by omega)]; exact utf_scalar_r4 h0
theorem wk8 {x : Int} (h0 : 0 ≤ x) (h1 : x < 256) : wk .u8 x := by
  show IntKind.wrap .u8 x = x
  simp only [IntKind.wrap, IntKind.bits, IntKind.signed, Bool.false_and, Bool.false_eq_true, if_false]
  omega
theorem tail_run {p : Int} {k : Nat} (h0 : 0 ≤ p) (h1 : p ≤ 1114111) (hk : k = 0 ∨ k = 6 ∨ k = 12) : ∃ q, utf_tail p k q := by
  have e : ∃ m : Int, (p).fdiv (2 ^ Nat.min ((k : Int)).toNat 64) = m ∧ 0 ≤ m ∧ m ≤ 1114111 := by
    rcases hk with rfl | rfl | rfl
    · exact ⟨p.fdiv 1, rfl, by simp; omega, by simp; omega⟩
    · refine ⟨p.fdiv 64, rfl, ?_, ?_⟩ <;> rw [Int.fdiv_eq_ediv_of_nonneg _ (by decide)] <;> omega
    · refine ⟨p.fdiv 4096, rfl, ?_, ?_⟩ <;> rw [Int.fdiv_eq_ediv_of_nonneg _ (by decide)] <;> omega
  obtain ⟨m, e1, m0, m1⟩ := e
  refine ⟨_, utf_tail_r0 (by omega) ?_⟩
  rw [e1, and63 m0 m1]
  have := or_low (a := 2) (r := m % 64) (k := 6) (by decide) (by decide) (by omega) (by omega) (by decide)
  have e2 : (2 : Int) * 2 ^ 6 = 128 := rfl
  rw [e2] at this
  rw [this]
  exact wk8 (by omega) (by omega)
theorem joined_run {m : SL Int} (h : m.xs.length ≤ 10) : ∃ q, utf_joined ⟨0, [], true⟩ m q :=
  ⟨_, utf_joined_r0 (in64 (by simp only [List.length_nil]; omega) (by simp only [List.length_nil]; omega)) (by simp only [List.length_nil]; omega) (by simp only [List.length_nil]; omega) (by simp) (by simp) (by simp; omega)⟩
theorem put_ok {p : Int} (h : pointOk p = true) : ∃ q, utf_Put ⟨0, [], true⟩ p q 0 := by
  have hs := scalar_run p
  rw [h] at hs
  have hp : 0 ≤ p ∧ p ≤ 1114111 := by unfold pointOk at h; have := of_decide_eq_true h; omega
  have lead : ∀ (a r : Int), 0 ≤ a → a < 32 → 0 ≤ r → r < 8 → wk .u8 (bitOr .i64 (a * 2 ^ 3) r) := by
    intro a r a0 a1 r0 r1
    rw [or_low (k := 3) a0 (by omega) r0 (by omega) (by decide)]
    exact wk8 (by omega) (by omega)
  by_cases h1 : p < 128
  · obtain ⟨q, hq⟩ := joined_run (m := ⟨1, [p], true⟩) (by simp)
    exact ⟨q, utf_Put_r0 hs h1 (wk8 hp.1 (by omega)) hq⟩
  obtain ⟨t0, ht0⟩ := tail_run (k := 0) hp.1 hp.2 (by simp)
  obtain ⟨t6, ht6⟩ := tail_run (k := 6) hp.1 hp.2 (by simp)
  obtain ⟨t12, ht12⟩ := tail_run (k := 12) hp.1 hp.2 (by simp)
  by_cases h2 : p < 2048
  · obtain ⟨q, hq⟩ := joined_run (m := ⟨1, [bitOr .i64 192 (p / 2 ^ 6), t0], true⟩) (by simp)
    refine ⟨q, utf_Put_r1 hs h1 h2 ?_ ht0 hq⟩
    have e := or_low (a := 6) (r := p / 2 ^ 6) (k := 5) (by decide) (by decide) (by omega) (by omega) (by decide)
    have e2 : (6 : Int) * 2 ^ 5 = 192 := rfl
    rw [e2] at e
    rw [e]
    exact wk8 (by omega) (by omega)
  by_cases h3 : p < 65536
  · obtain ⟨q, hq⟩ := joined_run (m := ⟨1, [bitOr .i64 224 (p / 2 ^ 12), t6, t0], true⟩) (by simp)
    refine ⟨q, utf_Put_r2 hs h1 h2 h3 ?_ ht6 ht0 hq⟩
    have e := or_low (a := 14) (r := p / 2 ^ 12) (k := 4) (by decide) (by decide) (by omega) (by omega) (by decide)
    have e2 : (14 : Int) * 2 ^ 4 = 224 := rfl
    rw [e2] at e
    rw [e]
    exact wk8 (by omega) (by omega)
  · obtain ⟨q, hq⟩ := joined_run (m := ⟨1, [bitOr .i64 240 (p / 2 ^ 18), t12, t6, t0], true⟩) (by simp)
    refine ⟨q, utf_Put_r3 hs h1 h2 h3 ?_ ht12 ht6 ht0 hq⟩
    have e := or_low (a := 30) (r := p / 2 ^ 18) (k := 3) (by decide) (by decide) (by omega) (by omega) (by decide)
    have e2 : (30 : Int) * 2 ^ 3 = 240 := rfl
    rw [e2] at e
    rw [e]
    exact wk8 (by omega) (by omega)
theorem put_no {p : Int} (h : pointOk p = false) : utf_Put ⟨0, [], true⟩ p ⟨1, [], true⟩ 2 := by
  have hs := scalar_run p
  rw [h] at hs
  exact utf_Put_r4 hs
section
variable {t : Bool} {d : Int}
theorem unicode_run : Con t d unicodeP (fun s a s' => rx_reader_unicode s a s' ∧ 0 ≤ a ∧ a ≤ 1114111) rx_reader_unicode_pan := by
  intro l hl
  rcases opt_run (t := t) (d := d) (w := ⟨#[123]⟩) [123] rfl hl with ⟨r, e1, g1, h1⟩ | ⟨e1, h1⟩
  · rcases hex_run (t := t) (d := d) (n := 1) (by decide) r g1 with ⟨x, r2, e2, g2, h2, x0, x1⟩ | ⟨e2, s2, h2⟩
    rotate_left
    · exact .inr ⟨by simp [unicodeP, pb, e1, e2, iff], _, rx_reader_unicode_p5 h1 h2⟩
    have x1' : x + 1 ≤ 16 := x1
    rcases uni_loop (t := t) (d := d) r2 x g2 x0 (by omega) with ⟨y, r3, e3, g3, h3, y0, y1⟩ | ⟨e3, z0, z1, h3⟩
    rotate_left
    · exact .inr ⟨by simp [unicodeP, pb, e1, e2, e3, iff], _, rx_reader_unicode_p4 h1 h2 h3⟩
    by_cases hp : pointOk y = true
    · obtain ⟨q, hq⟩ := put_ok hp
      refine .inl ⟨y, r3, by simp [unicodeP, pb, e1, e2, e3, iff, grd, hp, pr], g3, rx_reader_unicode_r0 h1 h2 h3 hq rfl rx_must_r0, y0, ?_⟩
      unfold pointOk at hp
      have := of_decide_eq_true hp
      omega
    · have hp' : pointOk y = false := by simpa using hp
      exact .inr ⟨by simp [unicodeP, pb, e1, e2, e3, iff, grd, hp', fl], _, rx_reader_unicode_p3 h1 h2 h3 (put_no hp') (by decide) rx_must_p1⟩
  · rcases hex_run (t := t) (d := d) (n := 4) (by decide) l hl with ⟨x, r2, e2, g2, h2, x0, x1⟩ | ⟨e2, s2, h2⟩
    rotate_left
    · exact .inr ⟨by simp [unicodeP, pb, e1, e2, iff], _, rx_reader_unicode_p20 h1 h2⟩
    have x1' : x + 1 ≤ 65536 := x1
    by_cases c1 : x < 55296
    · exact .inl ⟨x, r2, by simp [unicodeP, pb, e1, e2, iff, c1, pr], g2, rx_reader_unicode_r6 h1 h2 c1, x0, by omega⟩
    by_cases c2 : x > 57343
    · exact .inl ⟨x, r2, by simp [unicodeP, pb, e1, e2, iff, c1, c2, pr], g2, rx_reader_unicode_r7 h1 h2 c1 c2, x0, by omega⟩
    rcases opt_run (t := t) (d := d) (w := ⟨#[92, 117]⟩) [92, 117] rfl g2 with ⟨r3, e3, g3, h3⟩ | ⟨e3, h3⟩
    rotate_left
    · exact .inr ⟨by simp [unicodeP, pb, e1, e2, e3, iff, c1, c2, grd, fl], _, rx_reader_unicode_p19 h1 h2 c1 c2 h3 rx_must_p1⟩
    rcases hex_run (t := t) (d := d) (n := 4) (by decide) r3 g3 with ⟨y, r4, e4, g4, h4, y0, y1⟩ | ⟨e4, s4, h4⟩
    rotate_left
    · exact .inr ⟨by simp [unicodeP, pb, e1, e2, e3, e4, iff, c1, c2, grd, pr], _, rx_reader_unicode_p12 h1 h2 c1 c2 h3 rx_must_r0 h4⟩
    have y1' : y + 1 ≤ 65536 := y1
    by_cases c3 : x ≤ 56319 ∧ 56320 ≤ y ∧ y ≤ 57343
    · have eo := or_low (a := x - 55296) (r := y - 55296 - 1024) (k := 10) (by omega) (by omega) (by omega) (by omega) (by decide)
      have en : ((2 ^ 10 : Nat) : Int) = 1024 := rfl
      rw [en] at eo
      have ev : 65536 + (x - 55296) * 1024 + (y - 56320) = 65536 + bitOr .i64 ((x - 55296) * 2 ^ 10) ((y - 55296) - 1024) := by
        rw [eo]; omega
      have hpair := utf_Pair_r4 (high := x) (low := y) (by omega) (by omega) (by omega) (by omega) (in64 (by omega) (by omega)) (in64 (by omega) (by omega)) (in64 (by omega) (by omega)) (in64 (by omega) (by omega)) (by rw [eo]; exact in64 (by omega) (by omega))
      rw [← ev] at hpair
      exact .inl ⟨65536 + (x - 55296) * 1024 + (y - 56320), r4, by simp [unicodeP, pb, e1, e2, e3, e4, iff, c1, c2, c3, grd, pr], g4, rx_reader_unicode_r8 h1 h2 c1 c2 h3 rx_must_r0 h4 hpair rfl, by omega, by omega⟩
    · have hpair : utf_Pair x y 0 11 := by
        by_cases k1 : x ≥ 56320
        · exact utf_Pair_r1 c1 k1
        · by_cases k2 : y < 56320
          · exact utf_Pair_r2 c1 k1 k2
          · exact utf_Pair_r3 c1 k1 k2 (by omega)
      exact .inr ⟨by simp [unicodeP, pb, e1, e2, e3, e4, iff, c1, c2, c3, grd, pr, fl], _, rx_reader_unicode_p11 h1 h2 c1 c2 h3 rx_must_r0 h4 hpair (by decide) rx_must_p1⟩
end
/-- Ranges of pairs. -/
def ofL : List Int → List Range
  | a :: b :: r => ⟨a, b⟩ :: ofL r
  | _ => []
theorem of_loop {p : SL Int} (hs : p.xs.length ≤ 1000) : ∀ (rest : List Int) (k : Nat) (out : List Range) (t : Bool), p.xs.drop k = rest → k ≤ p.xs.length → out.length ≤ k → ∃ t' z, rx_of_l0 out p t k (rx_of_l0_x0 (out ++ ofL rest) p t' z)
  | [], k, out, t, h, hk, ho => by
    have := List.drop_eq_nil_iff.1 h
    refine ⟨t, k, ?_⟩
    rw [show out ++ ofL [] = out from List.append_nil _]
    exact rx_of_l0_e1 (in64 (by omega) (by omega)) (by omega)
  | [a], k, out, t, h, hk, ho => by
    have hl : (p.xs.drop k).length = 1 := by rw [h]; rfl
    rw [List.length_drop] at hl
    refine ⟨t, k, ?_⟩
    rw [show out ++ ofL [a] = out from List.append_nil _]
    exact rx_of_l0_e1 (in64 (by omega) (by omega)) (by omega)
  | a :: b :: r, k, out, t, h, hk, ho => by
    have hl : (p.xs.drop k).length = r.length + 2 := by rw [h]; rfl
    rw [List.length_drop] at hl
    have e1 : p.xs[k]? = some a := by
      have : (p.xs.drop k)[0]? = some a := by rw [h]; rfl
      simpa using this
    have e2 : p.xs[k + 1]? = some b := by
      have : (p.xs.drop k)[1]? = some b := by rw [h]; rfl
      simpa using this
    obtain ⟨t', z, j⟩ := of_loop hs r (k + 2) (out ++ [⟨a, b⟩]) false (by rw [← List.drop_drop, h]; rfl) (by omega) (by simp; omega)
    refine ⟨t', z, ?_⟩
    have e : out ++ ofL (a :: b :: r) = (out ++ [⟨a, b⟩]) ++ ofL r := by simp [ofL]
    rw [e]
    exact rx_of_l0_s0 (i := (k : Int)) (in64 (by omega) (by omega)) (by omega) (by omega) (by simpa using e1) (by omega) (by
      have : ((k : Int) + 1).toNat = k + 1 := by omega
      rw [this]; exact e2) (by omega) (in64 (by omega) (by omega)) j
theorem of_run {p : SL Int} (hs : p.xs.length ≤ 1000) : ∃ t, rx_of p ⟨2, ofL p.xs, t⟩ := by
  obtain ⟨t', z, j⟩ := of_loop hs p.xs 0 [] true rfl (by omega) (by simp)
  exact ⟨t', rx_of_r0 j⟩
end
section
open Go
set_option linter.unusedVariables false
set_option linter.unusedSimpArgs false
set_option linter.unusedSectionVars false
set_option linter.unnecessarySimpa false
theorem turnR_length (l : List Range) : (turnR l).length ≤ l.length + 1 := by
  unfold turnR
  have h1 := holes_length 0 (mergeR l ++ [lastR])
  have h2 := mergeR_length l
  rw [List.length_append, List.length_singleton] at h1
  omega
theorem kindsL_length (c : Int) : (kindsL c).length ≤ 10 := by unfold kindsL; split <;> (try split) <;> simp
theorem kindsM_length (c : Int) : (kindsM c).length ≤ 11 := by
  unfold kindsM
  split
  · have := kindsL_length c; omega
  · have := kindsL_length (c + 32); have := turnR_length (kindsL (c + 32)); omega
theorem of1 (p q : Int) : ∃ t, rx_of ⟨1, [p, q], true⟩ ⟨2, [⟨p, q⟩], t⟩ := of_run (p := ⟨1, [p, q], true⟩) (by simp)
theorem kindsL_run {c : Int} (h : c = 100 ∨ c = 119 ∨ c = 115) : ∃ t, rx_kinds c ⟨2, kindsL c, t⟩ := by
  rcases h with rfl | rfl | rfl
  · obtain ⟨t, h⟩ := of_run (p := ⟨1, [48, 57], true⟩) (by decide)
    exact ⟨t, rx_kinds_r0 rfl h⟩
  · obtain ⟨t, h⟩ := of_run (p := ⟨1, [48, 57, 65, 90, 95, 95, 97, 122], true⟩) (by decide)
    exact ⟨t, rx_kinds_r1 (by decide) rfl h⟩
  · obtain ⟨t, h⟩ := of_run (p := ⟨1, [9, 13, 32, 32, 160, 160, 5760, 5760, 8192, 8202, 8232, 8233, 8239, 8239, 8287, 8287, 12288, 12288, 65279, 65279], true⟩) (by decide)
    exact ⟨t, rx_kinds_r2 (by decide) (by decide) rfl h⟩
theorem kinds_run {c : Int} (h : inB c [100, 119, 115, 68, 87, 83] = true) : ∃ e t, rx_kinds c ⟨e, kindsM c, t⟩ := by
  have hc : c = 100 ∨ c = 119 ∨ c = 115 ∨ c = 68 ∨ c = 87 ∨ c = 83 := by
    unfold inB at h; simp at h; omega
  unfold kindsM
  by_cases h1 : c = 100 ∨ c = 119 ∨ c = 115
  · rw [if_pos h1]
    obtain ⟨t, j⟩ := kindsL_run h1
    exact ⟨2, t, j⟩
  · rw [if_neg h1]
    have h2 : c = 68 ∨ c = 87 ∨ c = 83 := by omega
    have e : bitOr .i64 c 32 = c + 32 := by rcases h2 with rfl | rfl | rfl <;> decide
    obtain ⟨t, j⟩ := kindsL_run (c := c + 32) (by omega)
    have hl := kindsL_length (c + 32)
    obtain ⟨t', j'⟩ := rx_turn (l := ⟨2, kindsL (c + 32), t⟩) (by show small ((kindsL (c + 32)).length + 3); unfold small; omega)
    rw [← e] at j
    exact ⟨2, t', rx_kinds_r3 (by omega) (by omega) (by omega) j (by rw [e] at *; exact j')⟩
theorem dig_in (c : Int) : inB c [48, 49, 50, 51, 52, 53, 54, 55, 56, 57] = isDig c := by
  unfold inB isDig
  by_cases h : 48 ≤ c ∧ c ≤ 57
  · have : c = 48 ∨ c = 49 ∨ c = 50 ∨ c = 51 ∨ c = 52 ∨ c = 53 ∨ c = 54 ∨ c = 55 ∨ c = 56 ∨ c = 57 := by omega
    rcases this with rfl | rfl | rfl | rfl | rfl | rfl | rfl | rfl | rfl | rfl <;> rfl
  · rw [decide_eq_false h]
    simp
    omega
theorem plainE_in (c : Int) : (inB c [116, 110, 118, 102, 114] = true ∧ ∃ p, plainE c = some p ∧ mfind c (mput (114 : Int) (13 : Int) (mput (102 : Int) (12 : Int) (mput (118 : Int) (11 : Int) (mput (110 : Int) (10 : Int) (mput (116 : Int) (9 : Int) []))))) = some p) ∨ (inB c [116, 110, 118, 102, 114] = false ∧ plainE c = none) := by
  by_cases h : c = 116 ∨ c = 110 ∨ c = 118 ∨ c = 102 ∨ c = 114
  · left
    rcases h with rfl | rfl | rfl | rfl | rfl
    · exact ⟨rfl, 9, rfl, by simp [mfind, mput]⟩
    · exact ⟨rfl, 10, rfl, by simp [mfind, mput]⟩
    · exact ⟨rfl, 11, rfl, by simp [mfind, mput]⟩
    · exact ⟨rfl, 12, rfl, by simp [mfind, mput]⟩
    · exact ⟨rfl, 13, rfl, by simp [mfind, mput]⟩
  · right
    refine ⟨?_, ?_⟩
    · unfold inB; simp; omega
    · unfold plainE
      rw [if_neg (by omega), if_neg (by omega), if_neg (by omega), if_neg (by omega), if_neg (by omega)]
theorem let_small : ∀ c : Fin 128, (decide (97 ≤ bitOr .i64 (c.val : Int) 32 ∧ bitOr .i64 (c.val : Int) 32 ≤ 122)) = isLet (c.val : Int) := by decide
theorem let_run {c : Int} (h0 : 0 ≤ c) (h1 : c < 128) : (97 ≤ bitOr .i64 c 32 ∧ bitOr .i64 c 32 ≤ 122) ↔ isLet c = true := by
  have := let_small ⟨c.toNat, by omega⟩
  have e : ((c.toNat : Nat) : Int) = c := by omega
  simp only [e] at this
  rw [← this]
  simp
section
variable {t : Bool} {d : Int}
def escR (s : rx_reader) (a : List Range × Bool) (s' : rx_reader) : Prop := (∃ e u, rx_reader_escape s ⟨e, a.1, u⟩ a.2 s') ∧ a.1.length ≤ 11 ∧ (a.2 = false → ∃ p, a.1 = [⟨p, p⟩])
theorem escR_one {s s' : rx_reader} {p : Int} (h : ∀ u, rx_of ⟨1, [p, p], true⟩ ⟨2, [⟨p, p⟩], u⟩ → rx_reader_escape s ⟨2, oneR p, u⟩ false s') : escR s (oneR p, false) s' := by
  obtain ⟨u, hu⟩ := of1 p p
  exact ⟨⟨2, u, h u hu⟩, by show (oneR p).length ≤ 11; simp [oneR], fun _ => ⟨p, rfl⟩⟩
theorem escape_run : Con t d escapeP escR rx_reader_escape_pan := by
  intro l hl
  cases l with
  | nil => exact .inr ⟨rfl, _, rx_reader_escape_p24 next_pan⟩
  | cons c r =>
    have hn := next_run (t := t) (d := d) (c := c) (r := r)
    have hr := hl.tail
    have hc := hl.hd
    have a1 := among_run c ⟨#[100, 119, 115, 68, 87, 83]⟩
    have a2 := among_run c ⟨#[116, 110, 118, 102, 114]⟩
    have w1 : strInts ⟨#[100, 119, 115, 68, 87, 83]⟩ = [100, 119, 115, 68, 87, 83] := rfl
    have w2 : strInts ⟨#[116, 110, 118, 102, 114]⟩ = [116, 110, 118, 102, 114] := rfl
    rw [w1] at a1
    rw [w2] at a2
    have en : nxt (c :: r) = .ok (c, r) := rfl
    by_cases k1 : inB c [100, 119, 115, 68, 87, 83] = true
    · rw [k1] at a1
      obtain ⟨e, u, hk⟩ := kinds_run k1
      exact .inl ⟨(kindsM c, true), r, by simp only [escapeP, pb, en, iff, k1, pr, if_true, Bool.false_eq_true, if_false, Bool.not_true, Bool.not_false], hr, ⟨e, u, rx_reader_escape_r0 hn a1 hk⟩, kindsM_length c, by simp⟩
    have k1' : inB c [100, 119, 115, 68, 87, 83] = false := by simpa using k1
    rw [k1'] at a1
    rcases plainE_in c with ⟨k2, p, e2, e3⟩ | ⟨k2, e2⟩
    · rw [k2] at a2
      exact .inl ⟨(oneR p, false), r, by simp only [escapeP, pb, en, iff, k1', e2, pr, if_true, Bool.false_eq_true, if_false, Bool.not_true, Bool.not_false], hr, escR_one fun u hu => rx_reader_escape_r1 hn a1 a2 e3 hu⟩
    rw [k2] at a2
    have hp := peek_run (t := t) (d := d) r
    by_cases k3 : c = 48
    · have dk3 := decide_eq_true k3
      have a3 := among_run (hd r) ⟨#[48, 49, 50, 51, 52, 53, 54, 55, 56, 57]⟩
      have w3 : strInts ⟨#[48, 49, 50, 51, 52, 53, 54, 55, 56, 57]⟩ = [48, 49, 50, 51, 52, 53, 54, 55, 56, 57] := rfl
      rw [w3, dig_in] at a3
      by_cases k4 : isDig (hd r) = true
      · rw [k4] at a3
        exact .inr ⟨by simp only [escapeP, pb, en, iff, k1', e2, dk3, tst, k4, grd, fl, if_true, Bool.false_eq_true, if_false, Bool.not_true, Bool.not_false], _, rx_reader_escape_p4 hn a1 a2 k3 hp a3 rx_must_p1⟩
      · have k4' : isDig (hd r) = false := by simpa using k4
        rw [k4'] at a3
        exact .inl ⟨(oneR 0, false), r, by simp only [escapeP, pb, en, iff, k1', e2, dk3, tst, k4', grd, pr, if_true, Bool.false_eq_true, if_false, Bool.not_true, Bool.not_false], hr, escR_one fun u hu => rx_reader_escape_r5 hn a1 a2 k3 hp a3 rx_must_r0 hu⟩
    have dk3 := decide_eq_false k3
    by_cases k4 : c = 99
    · have dk4 := decide_eq_true k4
      cases r with
      | nil => exact .inr ⟨by simp only [escapeP, pb, en, iff, k1', e2, dk3, dk4, nxt, if_true, Bool.false_eq_true, if_false, Bool.not_true, Bool.not_false], _, rx_reader_escape_p15 hn a1 a2 k3 k4 next_pan⟩
      | cons x r =>
        have hx := hr.hd
        have hn2 := next_run (t := t) (d := d) (c := x) (r := r)
        have en2 : nxt (x :: r) = .ok (x, r) := rfl
        by_cases kx : isLet x = true
        · have xs : x < 128 := by unfold isLet at kx; have := of_decide_eq_true kx; omega
          obtain ⟨b1, b2⟩ := (let_run hx.1 xs).2 kx
          have e5 := and31 hx.1 hx.2
          refine .inl ⟨(oneR (x % 32), false), r, by simp only [escapeP, pb, en, iff, k1', e2, dk3, dk4, en2, kx, grd, pr, if_true, Bool.false_eq_true, if_false, Bool.not_true, Bool.not_false], hr.tail, ?_⟩
          refine escR_one fun u hu => ?_
          rw [← e5] at hu ⊢
          exact rx_reader_escape_r7 hn a1 a2 k3 k4 hn2 b1 b2 xs rx_must_r0 hu
        · have kx' : isLet x = false := by simpa using kx
          refine .inr ⟨by simp only [escapeP, pb, en, iff, k1', e2, dk3, dk4, en2, kx', grd, fl, if_true, Bool.false_eq_true, if_false, Bool.not_true, Bool.not_false], ?_⟩
          by_cases b1 : bitOr .i64 x 32 ≥ 97
          · by_cases b2 : bitOr .i64 x 32 ≤ 122
            · by_cases xs : x < 128
              · exact (kx ((let_run hx.1 xs).1 ⟨b1, b2⟩)).elim
              · exact ⟨_, rx_reader_escape_p10 hn a1 a2 k3 k4 hn2 b1 b2 xs rx_must_p1⟩
            · exact ⟨_, rx_reader_escape_p12 hn a1 a2 k3 k4 hn2 b1 b2 rx_must_p1⟩
          · exact ⟨_, rx_reader_escape_p14 hn a1 a2 k3 k4 hn2 b1 rx_must_p1⟩
    have dk4 := decide_eq_false k4
    by_cases k5 : c = 120
    · have dk5 := decide_eq_true k5
      rcases hex_run (t := t) (d := d) (n := 2) (by decide) r hr with ⟨x, r2, j1, j2, j3, _⟩ | ⟨j1, s, j2⟩
      · exact .inl ⟨(oneR x, false), r2, by simp only [escapeP, pb, en, iff, k1', e2, dk3, dk4, dk5, j1, pr, if_true, Bool.false_eq_true, if_false, Bool.not_true, Bool.not_false], j2, escR_one fun u hu => rx_reader_escape_r16 hn a1 a2 k3 k4 k5 j3 hu⟩
      · exact .inr ⟨by simp only [escapeP, pb, en, iff, k1', e2, dk3, dk4, dk5, j1, if_true, Bool.false_eq_true, if_false, Bool.not_true, Bool.not_false], _, rx_reader_escape_p17 hn a1 a2 k3 k4 k5 j2⟩
    have dk5 := decide_eq_false k5
    by_cases k6 : c = 117
    · have dk6 := decide_eq_true k6
      rcases unicode_run (t := t) (d := d) r hr with ⟨x, r2, j1, j2, j3, _⟩ | ⟨j1, s, j2⟩
      · exact .inl ⟨(oneR x, false), r2, by simp only [escapeP, pb, en, iff, k1', e2, dk3, dk4, dk5, dk6, j1, pr, if_true, Bool.false_eq_true, if_false, Bool.not_true, Bool.not_false], j2, escR_one fun u hu => rx_reader_escape_r18 hn a1 a2 k3 k4 k5 k6 j3 hu⟩
      · exact .inr ⟨by simp only [escapeP, pb, en, iff, k1', e2, dk3, dk4, dk5, dk6, j1, if_true, Bool.false_eq_true, if_false, Bool.not_true, Bool.not_false], _, rx_reader_escape_p19 hn a1 a2 k3 k4 k5 k6 j2⟩
    have dk6 := decide_eq_false k6
    have a7 := among_run c ⟨#[94, 36, 92, 46, 42, 43, 63, 40, 41, 91, 93, 123, 125, 124, 47]⟩
    have w7 : strInts ⟨#[94, 36, 92, 46, 42, 43, 63, 40, 41, 91, 93, 123, 125, 124, 47]⟩ = synW ++ [47] := rfl
    rw [w7] at a7
    by_cases k7 : inB c (synW ++ [47]) = true
    · rw [k7] at a7
      exact .inl ⟨(oneR c, false), r, by simp only [escapeP, pb, en, iff, k1', e2, dk3, dk4, dk5, dk6, grd, k7, pr, if_true, Bool.false_eq_true, if_false, Bool.not_true, Bool.not_false], hr, escR_one fun u hu => rx_reader_escape_r20 hn a1 a2 k3 k4 k5 k6 a7 rx_must_r0 hu⟩
    · have k7' : inB c (synW ++ [47]) = false := by simpa using k7
      rw [k7'] at a7
      exact .inr ⟨by simp only [escapeP, pb, en, iff, k1', e2, dk3, dk4, dk5, dk6, grd, k7', fl, if_true, Bool.false_eq_true, if_false, Bool.not_true, Bool.not_false], _, rx_reader_escape_p23 hn a1 a2 k3 k4 k5 k6 a7 rx_must_p1⟩
def markR (s : rx_reader) (a : List Range × Bool) (s' : rx_reader) : Prop := (∃ e u, rx_reader_mark s ⟨e, a.1, u⟩ a.2 s') ∧ a.1.length ≤ 11 ∧ (a.2 = false → ∃ p, a.1 = [⟨p, p⟩])
theorem mark_run : Con t d markP markR rx_reader_mark_pan := by
  intro l hl
  have one : ∀ {s s' : rx_reader} {p : Int}, (∀ u, rx_of ⟨1, [p, p], true⟩ ⟨2, [⟨p, p⟩], u⟩ → rx_reader_mark s ⟨2, oneR p, u⟩ false s') → markR s (oneR p, false) s' := by
    intro s s' p h
    obtain ⟨u, hu⟩ := of1 p p
    exact ⟨⟨2, u, h u hu⟩, by show (oneR p).length ≤ 11; simp [oneR], fun _ => ⟨p, rfl⟩⟩
  rcases opt_run (t := t) (d := d) (w := ⟨#[92, 98]⟩) [92, 98] rfl hl with ⟨r, e1, g1, h1⟩ | ⟨e1, h1⟩
  · exact .inl ⟨(oneR 8, false), r, by simp [markP, pb, e1, iff, pr], g1, one fun u hu => rx_reader_mark_r0 h1 hu⟩
  rcases opt_run (t := t) (d := d) (w := ⟨#[92, 45]⟩) [92, 45] rfl hl with ⟨r, e2, g2, h2⟩ | ⟨e2, h2⟩
  · exact .inl ⟨(oneR 45, false), r, by simp [markP, pb, e1, e2, iff, pr], g2, one fun u hu => rx_reader_mark_r1 h1 h2 hu⟩
  rcases opt_run (t := t) (d := d) (w := ⟨#[92]⟩) [92] rfl hl with ⟨r, e3, g3, h3⟩ | ⟨e3, h3⟩
  · rcases escape_run (t := t) (d := d) r g3 with ⟨⟨a, b⟩, r2, j1, j2, ⟨⟨e, u, j3⟩, j4, j5⟩⟩ | ⟨j1, s, j2⟩
    · refine .inl ⟨(a, b), r2, by simp [markP, pb, e1, e2, e3, iff, j1], j2, ⟨e, u, ?_⟩, j4, j5⟩
      cases b with
      | true => exact rx_reader_mark_r2 h1 h2 h3 j3
      | false => exact rx_reader_mark_r3 h1 h2 h3 j3
    · exact .inr ⟨by simp [markP, pb, e1, e2, e3, iff, j1], _, rx_reader_mark_p4 h1 h2 h3 j2⟩
  cases l with
  | nil => exact .inr ⟨rfl, _, rx_reader_mark_p6 h1 h2 h3 next_pan⟩
  | cons c r => exact .inl ⟨(oneR c, false), r, by simp [markP, pb, e1, e2, e3, iff, nxt, pr], hl.tail, one fun u hu => rx_reader_mark_r5 h1 h2 h3 next_run hu⟩
end
end
section
open Go
set_option linter.unusedVariables false
set_option linter.unusedSimpArgs false
set_option linter.unusedSectionVars false
set_option linter.unnecessarySimpa false
/-- A class's ways out by panic. -/
def ClsX (turned : Bool) (e : Ex × XSt) : Prop :=
  (∃ z0 z1 z2 z3 z4, e = rx_reader_class_l0_x1 z0 z1 turned z2 z3 z4) ∨ (∃ z0 z1 z2 z3, e = rx_reader_class_l0_x2 z0 z1 turned z2 z3) ∨ (∃ z0 z1 z2 z3, e = rx_reader_class_l0_x3 z0 z1 turned z2 z3) ∨
  (∃ z0 z1 z2 z3, e = rx_reader_class_l0_x4 z0 z1 turned z2 z3) ∨ (∃ z0 z1 z2 z3, e = rx_reader_class_l0_x5 z0 z1 turned z2 z3) ∨ (∃ z0 z1 z2, e = rx_reader_class_l0_x6 z0 z1 turned z2)
section
variable {t : Bool} {d : Int} {turned : Bool}
theorem class_loop : ∀ (n : Nat) (l : List Int) (acc : List Range) (lt : Bool), GL l → acc.length + 11 * l.length ≤ 2000000 →
    classL n acc l = .out ∨ (∃ a r lt', classL n acc l = .ok (a, r) ∧ GL r ∧ a.length ≤ acc.length + 11 * l.length ∧ rx_reader_class_l0 (S t l d) acc turned lt (rx_reader_class_l0_x0 (S t r d) a turned lt')) ∨
    (classL n acc l = .bad ∧ ∃ e, ClsX turned e ∧ rx_reader_class_l0 (S t l d) acc turned lt e)
  | 0, l, acc, lt, hl, hb => .inl rfl
  | n + 1, l, acc, lt, hl, hb => by
    rcases opt_run (t := t) (d := d) (w := ⟨#[93]⟩) [93] rfl hl with ⟨r, e1, g1, h1⟩ | ⟨e1, h1⟩
    · exact .inr (.inl ⟨acc, r, lt, by simp [classL, pb, e1, iff, pr], g1, by omega, rx_reader_class_l0_e0 h1⟩)
    rcases mark_run (t := t) (d := d) l hl with ⟨⟨a, b⟩, r2, j1, g2, ⟨⟨e, u, h2⟩, al, ab⟩⟩ | ⟨j1, s, h2⟩
    rotate_left
    · exact .inr (.inr ⟨by simp [classL, pb, e1, iff, j1], _, .inr (.inr (.inr (.inr (.inr ⟨_, _, _, rfl⟩)))), rx_reader_class_l0_e33 h1 h2⟩)
    have st2 := strict_markP j1
    dsimp only at h2 al ab
    have hp := peek_run (t := t) (d := d) r2
    have eq1 : classL (n + 1) acc l = iff (goesOn r2) (pb nxt fun _ => pb markP fun b' => pb (grd (decide (b = false ∧ b'.2 = false ∧ fromOf a ≤ fromOf b'.1))) fun _ => classL n (acc ++ [⟨fromOf a, fromOf b'.1⟩])) (classL n (acc ++ a)) r2 := by
      simp only [classL, pb, e1, iff, j1, tst, Bool.false_eq_true, if_false]
    rw [eq1]
    have small16 : ∀ {x y : Nat}, x ≤ 2000000 → y ≤ 11 → (x + y) * 16 ≤ 140737488355328 := by intro x y hx hy; omega
    cases hg : goesOn r2 with
    | false =>
      simp only [iff, Bool.false_eq_true, if_false]
      have step : ∀ {rs_}, rx_reader_class_l0 (S t r2 d) (acc ++ a) turned false rs_ → rx_reader_class_l0 (S t l d) acc turned lt rs_ := by
        intro rs_ h
        by_cases k : hd r2 = 45
        · match r2, g2, h2, hp, hg, k, h with
          | [], _, _, _, _, k, _ => cases k
          | [c], _, _, _, hg, k, _ =>
            have k' : c = 45 := k
            subst k'
            cases hg
          | c :: c2 :: r3, g2, h2, hp, hg, k, h =>
            have k' : c = 45 := k
            subst k'
            have k2 : c2 = 93 := by
              simp [goesOn] at hg
              exact hg
            cases b with
            | true => exact rx_reader_class_l0_s1 h1 h2 hp rfl (by show ((45 :: c2 :: r3).length : Int) > 1; simp; omega) rfl k2 (small16 (by omega) al) h
            | false => exact rx_reader_class_l0_s15 h1 h2 hp rfl (by show ((45 :: c2 :: r3).length : Int) > 1; simp; omega) rfl k2 (small16 (by omega) al) h
        · cases b with
          | true => exact rx_reader_class_l0_s14 h1 h2 hp k (small16 (by omega) al) h
          | false => exact rx_reader_class_l0_s32 h1 h2 hp k (small16 (by omega) al) h
      rcases class_loop n r2 (acc ++ a) false g2 (by rw [List.length_append]; omega) with k | ⟨x, r3, lt', k1, k2, k3, k4⟩ | ⟨k1, ex, k2, k3⟩
      · exact .inl k
      · exact .inr (.inl ⟨x, r3, lt', k1, k2, by rw [List.length_append] at k3; omega, step k4⟩)
      · exact .inr (.inr ⟨k1, ex, k2, step k3⟩)
    | true =>
      simp only [iff, if_true]
      match r2, g2, h2, hp, hg, st2 with
      | [], _, _, _, hg, _ => cases hg
      | c :: r3, g2, h2, hp, hg, st2 =>
        have hc : c = 45 := by
          cases r3 with
          | nil => simpa [goesOn] using hg
          | cons c2 r4 => simp [goesOn] at hg; exact hg.1
        subst hc
        have hn := next_run (t := t) (d := d) (c := 45) (r := r3)
        have g3 := g2.tail
        have en : nxt (45 :: r3) = .ok (45, r3) := rfl
        rcases mark_run (t := t) (d := d) r3 g3 with ⟨⟨a', b'⟩, r4, j2, g4, ⟨⟨e', u', h4⟩, al', ab'⟩⟩ | ⟨j2, s, h4⟩
        rotate_left
        · refine .inr (.inr ⟨by simp only [pb, en, j2], ?_⟩)
          cases r3 with
          | nil =>
            cases b with
            | true => exact ⟨_, .inr (.inl ⟨_, _, _, _, rfl⟩), rx_reader_class_l0_e12 h1 h2 hp rfl (by show ¬ (([45] : List Int).length : Int) > 1; simp) hn h4⟩
            | false => exact ⟨_, .inr (.inr (.inr (.inl ⟨_, _, _, _, rfl⟩))), rx_reader_class_l0_e30 h1 h2 hp rfl (by show ¬ (([45] : List Int).length : Int) > 1; simp) hn h4⟩
          | cons c2 r5 =>
            have k2 : ¬ c2 = 93 := by simp [goesOn] at hg; exact hg
            cases b with
            | true => exact ⟨_, .inr (.inl ⟨_, _, _, _, rfl⟩), rx_reader_class_l0_e6 h1 h2 hp rfl (by show ((45 :: c2 :: r5).length : Int) > 1; simp; omega) rfl k2 hn h4⟩
            | false => exact ⟨_, .inr (.inr (.inr (.inl ⟨_, _, _, _, rfl⟩))), rx_reader_class_l0_e22 h1 h2 hp rfl (by show ((45 :: c2 :: r5).length : Int) > 1; simp; omega) rfl k2 hn h4⟩
        have st4 := strict_markP j2
        dsimp only at h4 al' ab'
        match r3, g3, h2, hp, hg, st2, hn, j2, h4, st4 with
        | [], _, _, _, _, _, _, _, _, st4 => simp at st4
        | c2 :: r5, g3, h2, hp, hg, st2, hn, j2, h4, st4 =>
          have k2 : ¬ c2 = 93 := by simp [goesOn] at hg; exact hg
          have len1 : ((45 :: c2 :: r5).length : Int) > 1 := by simp; omega
          have en : nxt (45 :: c2 :: r5) = .ok (45, c2 :: r5) := rfl
          cases b with
          | true =>
            refine .inr (.inr ⟨by simp [pb, en, j2, grd, fl], ?_⟩)
            cases b' with
            | true => exact ⟨_, .inl ⟨_, _, _, _, _, rfl⟩, rx_reader_class_l0_e3 h1 h2 hp rfl len1 rfl k2 hn h4 rx_must_p1⟩
            | false => exact ⟨_, .inl ⟨_, _, _, _, _, rfl⟩, rx_reader_class_l0_e5 h1 h2 hp rfl len1 rfl k2 hn h4 rx_must_p1⟩
          | false =>
            cases b' with
            | true => exact .inr (.inr ⟨by simp [pb, en, j2, grd, fl], _, .inl ⟨_, _, _, _, _, rfl⟩, rx_reader_class_l0_e17 h1 h2 hp rfl len1 rfl k2 hn h4 rx_must_p1⟩)
            | false =>
              obtain ⟨p, hpa⟩ := ab rfl
              obtain ⟨q, hqa⟩ := ab' rfl
              subst hpa
              subst hqa
              by_cases hpq : p ≤ q
              · obtain ⟨v, hv⟩ := of1 p q
                have eq2 : (pb nxt fun _ => pb markP fun b' => pb (grd (decide (false = false ∧ b'.2 = false ∧ fromOf [⟨p, p⟩] ≤ fromOf b'.1))) fun _ => classL n (acc ++ [⟨fromOf [⟨p, p⟩], fromOf b'.1⟩])) (45 :: c2 :: r5) = classL n (acc ++ [⟨p, q⟩]) r4 := by
                  simp [pb, en, j2, grd, fromOf, hpq, pr]
                rw [eq2]
                have step : ∀ {rs_}, rx_reader_class_l0 (S t r4 d) (acc ++ [⟨p, q⟩]) turned false rs_ → rx_reader_class_l0 (S t l d) acc turned lt rs_ := by
                  intro rs_ h
                  exact rx_reader_class_l0_s18 (y1 := ⟨p, p⟩) (y2 := ⟨q, q⟩) h1 h2 hp rfl len1 rfl k2 hn h4 rfl rfl hpq rx_must_r0 hv (small16 (by omega) (by show 1 ≤ 11; omega)) h
                rcases class_loop n r4 (acc ++ [⟨p, q⟩]) false g4 (by simp at st2 st4 ⊢; omega) with k | ⟨x, r6, lt', k1, k2, k3, k4⟩ | ⟨k1, ex, k2, k3⟩
                · exact .inl k
                · exact .inr (.inl ⟨x, r6, lt', k1, k2, by simp at k3 st2 st4; omega, step k4⟩)
                · exact .inr (.inr ⟨k1, ex, k2, step k3⟩)
              · exact .inr (.inr ⟨by simp [pb, en, j2, grd, fromOf, hpq, fl], _, .inl ⟨_, _, _, _, _, rfl⟩, rx_reader_class_l0_e21 (y1 := ⟨p, p⟩) (y2 := ⟨q, q⟩) h1 h2 hp rfl len1 rfl k2 hn h4 rfl rfl hpq rx_must_p1⟩)
end
section
variable {t : Bool} {d : Int}
/-- A function of the reader does what the model does, where there is fuel. -/
def ConF {α : Type} (t : Bool) (d : Int) (f : Pa α) (run : rx_reader → α → rx_reader → Prop) (pan : rx_reader → rx_reader → Prop) : Prop :=
  ∀ l, GL l → f l = .out ∨ (∃ a r, f l = .ok (a, r) ∧ GL r ∧ run (S t l d) a (S t r d)) ∨ (f l = .bad ∧ ∃ s, pan (S t l d) s)
def classR (s : rx_reader) (a : List Range) (s' : rx_reader) : Prop := ∃ e u, rx_reader_class s ⟨e, a, u⟩ s'
theorem class_run (n : Nat) : ConF t d (classP n) classR rx_reader_class_pan := by
  intro l hl
  rcases opt_run (t := t) (d := d) (w := ⟨#[94]⟩) [94] rfl hl with ⟨r, e1, g1, h1⟩ | ⟨e1, h1⟩
  · rcases class_loop (t := t) (d := d) (turned := true) n r [] true g1 (by have := g1.1; simp; omega) with k | ⟨x, r3, lt', k1, k2, k3, k4⟩ | ⟨k1, ex, k2, k3⟩
    · exact .inl (by simp only [classP, pb, e1, k])
    · obtain ⟨u, hu⟩ := rx_turn (l := ⟨2, x, lt'⟩) (by show small (x.length + 3); unfold small; have := g1.1; simp at k3; omega)
      exact .inr (.inl ⟨turnR x, r3, by simp [classP, pb, e1, k1, pr], k2, 2, u, rx_reader_class_r0 h1 k4 hu⟩)
    · refine .inr (.inr ⟨by simp only [classP, pb, e1, k1], ?_⟩)
      rcases k2 with ⟨z0, z1, z2, z3, z4, rfl⟩ | ⟨z0, z1, z2, z3, rfl⟩ | ⟨z0, z1, z2, z3, rfl⟩ | ⟨z0, z1, z2, z3, rfl⟩ | ⟨z0, z1, z2, z3, rfl⟩ | ⟨z0, z1, z2, rfl⟩
      · exact ⟨_, rx_reader_class_p1 h1 k3⟩
      · exact ⟨_, rx_reader_class_p2 h1 k3⟩
      · exact ⟨_, rx_reader_class_p3 h1 k3⟩
      · exact ⟨_, rx_reader_class_p4 h1 k3⟩
      · exact ⟨_, rx_reader_class_p5 h1 k3⟩
      · exact ⟨_, rx_reader_class_p6 h1 k3⟩
  · rcases class_loop (t := t) (d := d) (turned := false) n l [] true hl (by have := hl.1; simp; omega) with k | ⟨x, r3, lt', k1, k2, k3, k4⟩ | ⟨k1, ex, k2, k3⟩
    · exact .inl (by simp only [classP, pb, e1, k])
    · obtain ⟨u, hu⟩ := rx_merge (l := ⟨2, x, lt'⟩) (by show small (x.length + 1); unfold small; have := hl.1; simp at k3; omega)
      have := rx_reader_class_r7 h1 k4 hu (Nat.le_refl _)
      rw [List.take_length] at this
      exact .inr (.inl ⟨mergeR x, r3, by simp [classP, pb, e1, k1, pr], k2, 2, u, this⟩)
    · refine .inr (.inr ⟨by simp only [classP, pb, e1, k1], ?_⟩)
      rcases k2 with ⟨z0, z1, z2, z3, z4, rfl⟩ | ⟨z0, z1, z2, z3, rfl⟩ | ⟨z0, z1, z2, z3, rfl⟩ | ⟨z0, z1, z2, z3, rfl⟩ | ⟨z0, z1, z2, z3, rfl⟩ | ⟨z0, z1, z2, rfl⟩
      · exact ⟨_, rx_reader_class_p8 h1 k3⟩
      · exact ⟨_, rx_reader_class_p9 h1 k3⟩
      · exact ⟨_, rx_reader_class_p10 h1 k3⟩
      · exact ⟨_, rx_reader_class_p11 h1 k3⟩
      · exact ⟨_, rx_reader_class_p12 h1 k3⟩
      · exact ⟨_, rx_reader_class_p13 h1 k3⟩
end
end
section
open Go
set_option linter.unusedVariables false
set_option linter.unusedSimpArgs false
set_option linter.unusedSectionVars false
set_option linter.unnecessarySimpa false
mutual
/-- What counts of a tree. -/
def ptOf : Rx → PT
  | ⟨a0, a1, a2, a3, a4, ⟨_, l5, _⟩⟩ => .node a0 a1.xs a2 a3 a4 (ptsOf l5)
def ptsOf : List Rx → List PT
  | [] => []
  | x :: r => ptOf x :: ptsOf r
end
theorem ptsOf_eq : ∀ l : List Rx, ptsOf l = l.map ptOf
  | [] => by rw [ptsOf]; rfl
  | x :: r => by rw [ptsOf, ptsOf_eq r]; rfl
theorem ptOf_eq (x : Rx) : ptOf x = .node x.Kind x.Ranges.xs x.Min x.Max x.Lazy (x.Sub.xs.map ptOf) := by
  obtain ⟨a0, a1, a2, a3, a4, ⟨e5, l5, t5⟩⟩ := x
  rw [ptOf, ptsOf_eq]
theorem several_run (k : Int) (xs : List Rx) (z : Bool) : ∃ x, rx_several k ⟨6, xs, z⟩ x ∧ ptOf x = severalM k (xs.map ptOf) := by
  match xs with
  | [] => exact ⟨_, rx_several_r0 rfl, by rw [ptOf_eq]; rfl⟩
  | [x] => exact ⟨x, rx_several_r1 (by show ¬ (([x] : List Rx).length : Int) = 0; simp) rfl rfl, rfl⟩
  | x :: y :: r =>
    refine ⟨_, rx_several_r2 (by show ¬ ((x :: y :: r).length : Int) = 0; rw [List.length_cons, List.length_cons]; omega) (by show ¬ ((x :: y :: r).length : Int) = 1; rw [List.length_cons, List.length_cons]; omega), ?_⟩
    rw [ptOf_eq]
    rfl
def treeR (fn : rx_reader → Rx → rx_reader → Prop) (s : rx_reader) (p : PT) (s' : rx_reader) : Prop := ∃ x, ptOf x = p ∧ fn s x s'
def z0x : Rx := Rx.mk 0 ⟨0, [], true⟩ 0 0 false ⟨0, [], true⟩
section
variable {t : Bool}
structure Run5 (t : Bool) (n : Nat) : Prop where
  pat : ∀ d, 0 ≤ d → d ≤ 200 → ConF t d (patP n d) (treeR rx_reader_pattern) rx_reader_pattern_pan
  alts1 : ∀ d, 0 ≤ d → d ≤ 200 → ∀ l x lt, GL l → altsP n d [ptOf x] l = .out ∨
    (∃ p r, altsP n d [ptOf x] l = .ok (p, r) ∧ GL r ∧ ((∃ x' lt', rx_reader_pattern_l0 (S t l d) z0x x lt (rx_reader_pattern_l0_x1 (S t r d) z0x x' lt') ∧ p = severalM 4 [ptOf x']) ∨
      ∃ xs lt', rx_reader_pattern_l0 (S t l d) z0x x lt (rx_reader_pattern_l0_x3 (S t r d) z0x xs lt' xs.length) ∧ p = severalM 4 (xs.map ptOf))) ∨
    (altsP n d [ptOf x] l = .bad ∧ ((∃ z0 z1 z2 z3, rx_reader_pattern_l0 (S t l d) z0x x lt (rx_reader_pattern_l0_x0 z0 z1 z2 z3)) ∨ ∃ z0 z1 z2 z3 z4, rx_reader_pattern_l0 (S t l d) z0x x lt (rx_reader_pattern_l0_x2 z0 z1 z2 z3 z4)))
  alts : ∀ d, 0 ≤ d → d ≤ 200 → ∀ l xs lt, GL l → xs.length + l.length ≤ 200000 → altsP n d (xs.map ptOf) l = .out ∨
    (∃ p r, altsP n d (xs.map ptOf) l = .ok (p, r) ∧ GL r ∧ ∃ xs' lt', rx_reader_pattern_l0_b (S t l d) z0x xs lt xs.length (rx_reader_pattern_l0_x3 (S t r d) z0x xs' lt' xs'.length) ∧ p = severalM 4 (xs'.map ptOf)) ∨
    (altsP n d (xs.map ptOf) l = .bad ∧ ∃ z0 z1 z2 z3 z4, rx_reader_pattern_l0_b (S t l d) z0x xs lt xs.length (rx_reader_pattern_l0_x2 z0 z1 z2 z3 z4))
  row : ∀ d, 0 ≤ d → d ≤ 200 → ∀ l xs lt, GL l → xs.length + l.length ≤ 200000 → rowP n d (xs.map ptOf) l = .out ∨
    (∃ p r, rowP n d (xs.map ptOf) l = .ok (p, r) ∧ GL r ∧ ∃ xs' lt', rx_reader_row_l0 (S t l d) z0x xs lt (rx_reader_row_l0_x0 (S t r d) z0x xs' lt') ∧ p = severalM 3 (xs'.map ptOf)) ∨
    (rowP n d (xs.map ptOf) l = .bad ∧ ∃ z0 z1 z2, rx_reader_row_l0 (S t l d) z0x xs lt (rx_reader_row_l0_x1 z0 z0x z1 z2))
  term : ∀ d, 0 ≤ d → d ≤ 200 → ConF t d (termP n d) (treeR rx_reader_term) rx_reader_term_pan
  atom : ∀ d, 0 ≤ d → d ≤ 200 → ConF t d (atomP n d) (treeR rx_reader_atom) rx_reader_atom_pan
theorem row_of {n : Nat} {d : Int} {l : List Int} (h : Run5 t n) (h0 : 0 ≤ d) (h1 : d ≤ 200) (hl : GL l) : rowP n d [] l = .out ∨
    (∃ p r, rowP n d [] l = .ok (p, r) ∧ GL r ∧ treeR rx_reader_row (S t l d) p (S t r d)) ∨ (rowP n d [] l = .bad ∧ ∃ s, rx_reader_row_pan (S t l d) s) := by
  rcases h.row d h0 h1 l [] true hl (by have := hl.1; simp; omega) with k | ⟨p, r, k1, k2, xs, lt', k3, k4⟩ | ⟨k1, z0, z1, z2, k2⟩
  · exact .inl k
  · obtain ⟨x, j1, j2⟩ := several_run 3 xs lt'
    exact .inr (.inl ⟨p, r, k1, k2, x, by rw [j2, k4], rx_reader_row_r0 k3 j1⟩)
  · exact .inr (.inr ⟨k1, _, rx_reader_row_p1 k2⟩)
theorem set_run {n : Nat} {d : Int} {l : List Int} (hl : GL l) (ng1 : rx_reader_take (S t l d) ⟨#[40, 63, 58]⟩ false (S t l d)) (ng2 : rx_reader_take (S t l d) ⟨#[40]⟩ false (S t l d)) :
    setP n l = .out ∨ (∃ a r, setP n l = .ok (a, r) ∧ GL r ∧ treeR rx_reader_atom (S t l d) a (S t r d)) ∨ (setP n l = .bad ∧ ∃ s, rx_reader_atom_pan (S t l d) s) := by
  have setOf : ∀ (e : Nat) (xs : List Range) (u : Bool), ptOf (Rx.mk 2 ⟨e, xs, u⟩ 0 0 false ⟨0, [], true⟩) = setT xs := by
    intro e xs u; rw [ptOf_eq]; rfl
  rcases opt_run (t := t) (d := d) (w := ⟨#[46]⟩) [46] rfl hl with ⟨r, e1, g1, h1⟩ | ⟨e1, h1⟩
  · obtain ⟨u, hu⟩ := of_run (p := ⟨1, [10, 10, 13, 13, 8232, 8233], true⟩) (by decide)
    obtain ⟨v, hv⟩ := rx_turn (l := ⟨2, dotL, u⟩) (by show small (dotL.length + 3); unfold small dotL; simp)
    exact .inr (.inl ⟨setT (turnR dotL), r, by simp [setP, pb, e1, iff, pr], g1, _, setOf _ _ _, rx_reader_atom_r52 ng1 ng2 h1 hu hv rx_set_r0⟩)
  rcases opt_run (t := t) (d := d) (w := ⟨#[91]⟩) [91] rfl hl with ⟨r, e2, g2, h2⟩ | ⟨e2, h2⟩
  · rcases class_run (t := t) (d := d) n r g2 with k | ⟨a, r', k1, k2, e, u, k3⟩ | ⟨k1, s, k2⟩
    · exact .inl (by simp [setP, pb, e1, e2, iff, k])
    · exact .inr (.inl ⟨setT a, r', by simp [setP, pb, e1, e2, iff, k1, pr], k2, _, setOf _ _ _, rx_reader_atom_r53 ng1 ng2 h1 h2 k3 rx_set_r0⟩)
    · exact .inr (.inr ⟨by simp [setP, pb, e1, e2, iff, k1], _, rx_reader_atom_p54 ng1 ng2 h1 h2 k2⟩)
  rcases opt_run (t := t) (d := d) (w := ⟨#[92]⟩) [92] rfl hl with ⟨r, e3, g3, h3⟩ | ⟨e3, h3⟩
  · rcases escape_run (t := t) (d := d) r g3 with ⟨⟨a, b⟩, r', k1, k2, ⟨e, u, k3⟩, _⟩ | ⟨k1, s, k2⟩
    · refine .inr (.inl ⟨setT a, r', by simp [setP, pb, e1, e2, e3, iff, k1, pr], k2, _, setOf e a u, ?_⟩)
      cases b with
      | true => exact rx_reader_atom_r55 ng1 ng2 h1 h2 h3 k3 rx_set_r0
      | false => exact rx_reader_atom_r56 ng1 ng2 h1 h2 h3 k3 rx_set_r0
    · exact .inr (.inr ⟨by simp [setP, pb, e1, e2, e3, iff, k1], _, rx_reader_atom_p57 ng1 ng2 h1 h2 h3 k2⟩)
  cases l with
  | nil => exact .inr (.inr ⟨rfl, _, rx_reader_atom_p62 ng1 ng2 h1 h2 h3 next_pan⟩)
  | cons c r =>
    have a1 := among_run c ⟨#[94, 36, 92, 46, 42, 43, 63, 40, 41, 91, 93, 123, 125, 124]⟩
    have w1 : strInts ⟨#[94, 36, 92, 46, 42, 43, 63, 40, 41, 91, 93, 123, 125, 124]⟩ = synW := rfl
    rw [w1] at a1
    by_cases hc : inB c synW = true
    · rw [hc] at a1
      exact .inr (.inr ⟨by simp [setP, pb, e1, e2, e3, iff, nxt, grd, hc, fl], _, rx_reader_atom_p59 ng1 ng2 h1 h2 h3 next_run a1 rx_must_p1⟩)
    · have hc' : inB c synW = false := by simpa using hc
      rw [hc'] at a1
      obtain ⟨u, hu⟩ := of1 c c
      exact .inr (.inl ⟨setT (oneR c), r, by simp [setP, pb, e1, e2, e3, iff, nxt, grd, hc', pr], hl.tail, _, setOf _ _ _, rx_reader_atom_r60 ng1 ng2 h1 h2 h3 next_run a1 rx_must_r0 hu rx_set_r0⟩)
end
end
section
open Go
set_option linter.unusedVariables false
set_option linter.unusedSimpArgs false
set_option linter.unusedSectionVars false
set_option linter.unnecessarySimpa false
section
variable {t : Bool}
theorem row_step {n : Nat} (ih : Run5 t n) {d : Int} (h0 : 0 ≤ d) (h1 : d ≤ 200) (l : List Int) (xs : List Rx) (lt : Bool) (hl : GL l) (hb : xs.length + l.length ≤ 200000) : rowP (n + 1) d (xs.map ptOf) l = .out ∨
    (∃ p r, rowP (n + 1) d (xs.map ptOf) l = .ok (p, r) ∧ GL r ∧ ∃ xs' lt', rx_reader_row_l0 (S t l d) z0x xs lt (rx_reader_row_l0_x0 (S t r d) z0x xs' lt') ∧ p = severalM 3 (xs'.map ptOf)) ∨
    (rowP (n + 1) d (xs.map ptOf) l = .bad ∧ ∃ z0 z1 z2, rx_reader_row_l0 (S t l d) z0x xs lt (rx_reader_row_l0_x1 z0 z0x z1 z2)) := by
  rw [rowP]
  cases l with
  | nil => exact .inr (.inl ⟨_, [], rfl, hl, xs, lt, rx_reader_row_l0_e3 (r_ := S t [] d) (by show ¬ (([] : List Int).length : Int) > 0; simp), rfl⟩)
  | cons c r =>
    have hp := peek_run (t := t) (d := d) (c :: r)
    have a1 := among_run c ⟨#[124, 41]⟩
    have w1 : strInts ⟨#[124, 41]⟩ = [124, 41] := rfl
    rw [w1] at a1
    have hlen : ((S t (c :: r) d).s_.xs.length : Int) > 0 := by show ((c :: r).length : Int) > 0; rw [List.length_cons]; omega
    by_cases hc : inB c [124, 41] = true
    · rw [hc] at a1
      exact .inr (.inl ⟨_, c :: r, by simp [pb, tst, rowOn, hc, iff, pr], hl, xs, lt, rx_reader_row_l0_e0 hlen hp a1, rfl⟩)
    · have hc' : inB c [124, 41] = false := by simpa using hc
      rw [hc'] at a1
      have eq : pb (tst rowOn) (fun b => iff b (pb (termP n d) fun x => rowP n d (xs.map ptOf ++ [x])) (pr (severalM 3 (xs.map ptOf)))) (c :: r) = pb (termP n d) (fun x => rowP n d (xs.map ptOf ++ [x])) (c :: r) := by
        simp only [pb, tst, rowOn, hc', iff, Bool.not_false, if_true]
      rw [eq]
      rcases ih.term d h0 h1 (c :: r) hl with k | ⟨p, r2, k1, k2, x, k3, k4⟩ | ⟨k1, s, k2⟩
      · exact .inl (by simp only [pb, k])
      · have st := strict_termP n d k1
        rw [pb_run k1]
        have e : xs.map ptOf ++ [p] = (xs ++ [x]).map ptOf := by rw [List.map_append, ← k3]; rfl
        rw [e]
        have sm : (xs.length + 1) * 80 ≤ 140737488355328 := by simp at hb; omega
        rcases ih.row d h0 h1 r2 (xs ++ [x]) false k2 (by rw [List.length_append]; simp at hb st ⊢; omega) with j | ⟨p', r', j1, j2, xs', lt', j3, j4⟩ | ⟨j1, z0, z1, z2, j2⟩
        · exact .inl j
        · exact .inr (.inl ⟨p', r', j1, j2, xs', lt', rx_reader_row_l0_s1 hlen hp a1 k4 sm j3, j4⟩)
        · exact .inr (.inr ⟨j1, z0, z1, z2, rx_reader_row_l0_s1 hlen hp a1 k4 sm j2⟩)
      · exact .inr (.inr ⟨by simp only [pb, k1], _, _, _, rx_reader_row_l0_e2 hlen hp a1 k2⟩)
theorem alts_step {n : Nat} (ih : Run5 t n) {d : Int} (h0 : 0 ≤ d) (h1 : d ≤ 200) (l : List Int) (xs : List Rx) (lt : Bool) (hl : GL l) (hb : xs.length + l.length ≤ 200000) : altsP (n + 1) d (xs.map ptOf) l = .out ∨
    (∃ p r, altsP (n + 1) d (xs.map ptOf) l = .ok (p, r) ∧ GL r ∧ ∃ xs' lt', rx_reader_pattern_l0_b (S t l d) z0x xs lt xs.length (rx_reader_pattern_l0_x3 (S t r d) z0x xs' lt' xs'.length) ∧ p = severalM 4 (xs'.map ptOf)) ∨
    (altsP (n + 1) d (xs.map ptOf) l = .bad ∧ ∃ z0 z1 z2 z3 z4, rx_reader_pattern_l0_b (S t l d) z0x xs lt xs.length (rx_reader_pattern_l0_x2 z0 z1 z2 z3 z4)) := by
  rw [altsP]
  rcases opt_run (t := t) (d := d) (w := ⟨#[124]⟩) [124] rfl hl with ⟨r, e1, g1, hh⟩ | ⟨e1, hh⟩
  · have el := opt_len e1
    simp at el
    have eq : pb (opt [124]) (fun b => iff b (pb (rowP n d []) fun x => altsP n d (xs.map ptOf ++ [x])) (pr (severalM 4 (xs.map ptOf)))) l = pb (rowP n d []) (fun x => altsP n d (xs.map ptOf ++ [x])) r := by
      simp only [pb, e1, iff, if_true]
    rw [eq]
    rcases row_of ih h0 h1 g1 with k | ⟨p, r2, k1, k2, x, k3, k4⟩ | ⟨k1, s, k2⟩
    · exact .inl (by simp only [pb, k])
    · have st := suf_len (((good5 n).row d []).suf k1)
      rw [pb_run k1]
      have e : xs.map ptOf ++ [p] = (xs ++ [x]).map ptOf := by rw [List.map_append, ← k3]; rfl
      rw [e]
      have step : ∀ {rs_}, rx_reader_pattern_l0_b (S t r2 d) z0x (xs ++ [x]) false (xs ++ [x]).length rs_ → rx_reader_pattern_l0_b (S t l d) z0x xs lt xs.length rs_ := by
        intro rs_ h
        refine rx_reader_pattern_l0_b_s3 hh k4 (by omega) (Nat.le_refl _) ?_
        rw [List.take_length]
        exact h
      rcases ih.alts d h0 h1 r2 (xs ++ [x]) false k2 (by rw [List.length_append]; simp; omega) with j | ⟨p', r', j1, j2, xs', lt', j3, j4⟩ | ⟨j1, z0, z1, z2, z3, z4, j2⟩
      · exact .inl j
      · exact .inr (.inl ⟨p', r', j1, j2, xs', lt', step j3, j4⟩)
      · exact .inr (.inr ⟨j1, z0, z1, z2, z3, z4, step j2⟩)
    · exact .inr (.inr ⟨by simp only [pb, k1], _, _, _, _, _, rx_reader_pattern_l0_b_e4 hh k2⟩)
  · exact .inr (.inl ⟨_, l, by simp only [pb, e1, iff, pr]; rfl, hl, xs, lt, rx_reader_pattern_l0_b_e5 hh, rfl⟩)
theorem alts1_step {n : Nat} (ih : Run5 t n) {d : Int} (h0 : 0 ≤ d) (h1 : d ≤ 200) (l : List Int) (x : Rx) (lt : Bool) (hl : GL l) : altsP (n + 1) d [ptOf x] l = .out ∨
    (∃ p r, altsP (n + 1) d [ptOf x] l = .ok (p, r) ∧ GL r ∧ ((∃ x' lt', rx_reader_pattern_l0 (S t l d) z0x x lt (rx_reader_pattern_l0_x1 (S t r d) z0x x' lt') ∧ p = severalM 4 [ptOf x']) ∨
      ∃ xs lt', rx_reader_pattern_l0 (S t l d) z0x x lt (rx_reader_pattern_l0_x3 (S t r d) z0x xs lt' xs.length) ∧ p = severalM 4 (xs.map ptOf))) ∨
    (altsP (n + 1) d [ptOf x] l = .bad ∧ ((∃ z0 z1 z2 z3, rx_reader_pattern_l0 (S t l d) z0x x lt (rx_reader_pattern_l0_x0 z0 z1 z2 z3)) ∨ ∃ z0 z1 z2 z3 z4, rx_reader_pattern_l0 (S t l d) z0x x lt (rx_reader_pattern_l0_x2 z0 z1 z2 z3 z4))) := by
  rw [altsP]
  rcases opt_run (t := t) (d := d) (w := ⟨#[124]⟩) [124] rfl hl with ⟨r, e1, g1, hh⟩ | ⟨e1, hh⟩
  · have el := opt_len e1
    simp at el
    have eq : pb (opt [124]) (fun b => iff b (pb (rowP n d []) fun y => altsP n d ([ptOf x] ++ [y])) (pr (severalM 4 [ptOf x]))) l = pb (rowP n d []) (fun y => altsP n d ([ptOf x] ++ [y])) r := by
      simp only [pb, e1, iff, if_true]
    rw [eq]
    rcases row_of ih h0 h1 g1 with k | ⟨p, r2, k1, k2, y, k3, k4⟩ | ⟨k1, s, k2⟩
    · exact .inl (by simp only [pb, k])
    · have st := suf_len (((good5 n).row d []).suf k1)
      rw [pb_run k1]
      have e : [ptOf x] ++ [p] = ([x] ++ [y]).map ptOf := by rw [List.map_append, ← k3]; rfl
      rw [e]
      have step : ∀ {rs_}, rx_reader_pattern_l0_b (S t r2 d) z0x ([x] ++ [y]) false ([x] ++ [y]).length rs_ → rx_reader_pattern_l0 (S t l d) z0x x lt rs_ := fun h => rx_reader_pattern_l0_s0 hh k4 h
      rcases ih.alts d h0 h1 r2 ([x] ++ [y]) false k2 (by have := hl.1; simp; omega) with j | ⟨p', r', j1, j2, xs', lt', j3, j4⟩ | ⟨j1, z0, z1, z2, z3, z4, j2⟩
      · exact .inl j
      · exact .inr (.inl ⟨p', r', j1, j2, .inr ⟨xs', lt', step j3, j4⟩⟩)
      · exact .inr (.inr ⟨j1, .inr ⟨z0, z1, z2, z3, z4, step j2⟩⟩)
    · exact .inr (.inr ⟨by simp only [pb, k1], .inl ⟨_, _, _, _, rx_reader_pattern_l0_e1 hh k2⟩⟩)
  · exact .inr (.inl ⟨_, l, by simp only [pb, e1, iff, pr]; rfl, hl, .inl ⟨x, lt, rx_reader_pattern_l0_e2 hh, rfl⟩⟩)
theorem pat_step {n : Nat} (ih : Run5 t n) {d : Int} (h0 : 0 ≤ d) (h1 : d ≤ 200) : ConF t d (patP (n + 1) d) (treeR rx_reader_pattern) rx_reader_pattern_pan := by
  intro l hl
  rw [patP]
  rcases row_of ih h0 h1 hl with k | ⟨p, r, k1, k2, x, k3, k4⟩ | ⟨k1, s, k2⟩
  · exact .inl (by simp only [pb, k])
  · rw [pb_run k1]
    subst k3
    rcases ih.alts1 d h0 h1 r x true k2 with j | ⟨p', r', j1, j2, ⟨x', lt', j3, j4⟩ | ⟨xs, lt', j3, j4⟩⟩ | ⟨j1, ⟨z0, z1, z2, z3, j2⟩ | ⟨z0, z1, z2, z3, z4, j2⟩⟩
    · exact .inl j
    · obtain ⟨y, m1, m2⟩ := several_run 4 [x'] lt'
      exact .inr (.inl ⟨p', r', j1, j2, y, by rw [m2, j4]; rfl, rx_reader_pattern_r1 k4 j3 m1⟩)
    · obtain ⟨y, m1, m2⟩ := several_run 4 xs lt'
      exact .inr (.inl ⟨p', r', j1, j2, y, by rw [m2, j4], rx_reader_pattern_r3 k4 j3 (Nat.le_refl _) (by rw [List.take_length]; exact m1)⟩)
    · exact .inr (.inr ⟨j1, _, rx_reader_pattern_p0 k4 j2⟩)
    · exact .inr (.inr ⟨j1, _, rx_reader_pattern_p2 k4 j2⟩)
  · exact .inr (.inr ⟨by simp only [pb, k1], _, rx_reader_pattern_p4 k2⟩)
theorem term_step {n : Nat} (ih : Run5 t n) {d : Int} (h0 : 0 ≤ d) (h1 : d ≤ 200) : ConF t d (termP (n + 1) d) (treeR rx_reader_term) rx_reader_term_pan := by
  intro l hl
  rw [termP]
  have leaf : ∀ k, ptOf (Rx.mk k ⟨0, [], true⟩ 0 0 false ⟨0, [], true⟩) = leafT k := fun k => by rw [ptOf_eq]; rfl
  rcases opt_run (t := t) (d := d) (w := ⟨#[94]⟩) [94] rfl hl with ⟨r, e1, g1, a1⟩ | ⟨e1, a1⟩
  · exact .inr (.inl ⟨_, r, by simp only [pb, e1, iff, if_true]; rfl, g1, _, leaf 6, rx_reader_term_r0 a1⟩)
  rcases opt_run (t := t) (d := d) (w := ⟨#[36]⟩) [36] rfl hl with ⟨r, e2, g2, a2⟩ | ⟨e2, a2⟩
  · exact .inr (.inl ⟨_, r, by simp [pb, e1, e2, iff, pr], g2, _, leaf 7, rx_reader_term_r1 a1 a2⟩)
  rcases opt_run (t := t) (d := d) (w := ⟨#[92, 98]⟩) [92, 98] rfl hl with ⟨r, e3, g3, a3⟩ | ⟨e3, a3⟩
  · exact .inr (.inl ⟨_, r, by simp [pb, e1, e2, e3, iff, pr], g3, _, leaf 8, rx_reader_term_r2 a1 a2 a3⟩)
  rcases opt_run (t := t) (d := d) (w := ⟨#[92, 66]⟩) [92, 66] rfl hl with ⟨r, e4, g4, a4⟩ | ⟨e4, a4⟩
  · exact .inr (.inl ⟨_, r, by simp [pb, e1, e2, e3, e4, iff, pr], g4, _, leaf 9, rx_reader_term_r3 a1 a2 a3 a4⟩)
  simp only [pb, e1, e2, e3, e4, iff, Bool.false_eq_true, if_false]
  rcases ih.atom d h0 h1 l hl with k | ⟨p, r, k1, k2, x, k3, k4⟩ | ⟨k1, s, k2⟩
  · exact .inl (by simp only [k])
  · simp only [k1]
    rcases count_run (t := t) (d := d) r k2 with ⟨c, r2, j1, j2, j3⟩ | ⟨j1, s, j2⟩
    · simp only [j1]
      match c, j3 with
      | none, j3 => exact .inr (.inl ⟨p, r2, rfl, j2, x, k3, rx_reader_term_r6 a1 a2 a3 a4 k4 j3⟩)
      | some (lo, hi), j3 =>
        have rep : ∀ z, ptOf (Rx.mk 5 ⟨0, [], true⟩ lo hi z ⟨6, [x], true⟩) = .node 5 [] lo hi z [p] := fun z => by rw [ptOf_eq, ← k3]; rfl
        rcases opt_run (t := t) (d := d) (w := ⟨#[63]⟩) [63] rfl j2 with ⟨r3, e5, g5, a5⟩ | ⟨e5, a5⟩
        · exact .inr (.inl ⟨_, r3, by simp only [pb, e5, pr], g5, _, rep true, rx_reader_term_r4 a1 a2 a3 a4 k4 j3 a5⟩)
        · exact .inr (.inl ⟨_, r2, by simp only [pb, e5, pr], j2, _, rep false, rx_reader_term_r5 a1 a2 a3 a4 k4 j3 a5⟩)
    · exact .inr (.inr ⟨by simp only [j1], _, rx_reader_term_p7 a1 a2 a3 a4 k4 j2⟩)
  · exact .inr (.inr ⟨by simp only [k1], _, rx_reader_term_p8 a1 a2 a3 a4 k2⟩)
/-- What stands in a group. -/
def groupP (n : Nat) (d : Int) : Pa PT := pb (tst fun l => decide (hd l = 63)) fun q => pb (grd (!q)) fun _ => pb (grd (decide (d + 1 ≤ 200))) fun _ => pb (patP n (d + 1)) fun x => pb (opt [41]) fun z => pb (grd z) fun _ => pr x
theorem group_run {n : Nat} (ih : Run5 t n) {d : Int} (h0 : 0 ≤ d) (h1 : d ≤ 200) (l : List Int) (hl : GL l) : groupP n d l = .out ∨
    (∃ a r, groupP n d l = .ok (a, r) ∧ GL r ∧ ∃ x r4, ptOf x = a ∧ hd l ≠ 63 ∧ d + 1 ≤ 200 ∧ rx_reader_pattern (rx_reader.mk (S t l d).s_ ((S t l d).deep_ + 1)) x (S t r4 (d + 1)) ∧ rx_reader_take (rx_reader.mk (S t r4 (d + 1)).s_ ((S t r4 (d + 1)).deep_ - 1)) ⟨#[41]⟩ true (S t r d)) ∨
    (groupP n d l = .bad ∧ (hd l = 63 ∨ (hd l ≠ 63 ∧ ¬ d + 1 ≤ 200) ∨ (hd l ≠ 63 ∧ d + 1 ≤ 200 ∧ ((∃ s, rx_reader_pattern_pan (rx_reader.mk (S t l d).s_ ((S t l d).deep_ + 1)) s) ∨
      ∃ x r4, rx_reader_pattern (rx_reader.mk (S t l d).s_ ((S t l d).deep_ + 1)) x (S t r4 (d + 1)) ∧ rx_reader_take (rx_reader.mk (S t r4 (d + 1)).s_ ((S t r4 (d + 1)).deep_ - 1)) ⟨#[41]⟩ false (S t r4 d))))) := by
  by_cases k1 : hd l = 63
  · exact .inr (.inr ⟨by simp [groupP, pb, tst, k1, grd, fl], .inl k1⟩)
  by_cases k2 : d + 1 ≤ 200
  rotate_left
  · exact .inr (.inr ⟨by simp [groupP, pb, tst, k1, grd, fl, pr, k2], .inr (.inl ⟨k1, k2⟩)⟩)
  have eq : groupP n d l = pb (patP n (d + 1)) (fun x => pb (opt [41]) fun z => pb (grd z) fun _ => pr x) l := by simp [groupP, pb, tst, k1, grd, pr, k2]
  rw [eq]
  have back : ∀ {r4 r : List Int} {w : ByteArray} {b : Bool}, rx_reader_take (S t r4 d) w b (S t r d) → rx_reader_take (rx_reader.mk (S t r4 (d + 1)).s_ ((S t r4 (d + 1)).deep_ - 1)) w b (S t r d) := by
    intro r4 r w b h
    have e : (S t r4 (d + 1)).deep_ - 1 = d := by show d + 1 - 1 = d; omega
    rw [e]
    exact h
  rcases ih.pat (d + 1) (by omega) k2 l hl with k | ⟨p, r4, k3, k4, x, k5, k6⟩ | ⟨k3, s, k4⟩
  · exact .inl (by simp only [pb, k])
  · rw [pb_run k3]
    rcases opt_run (t := t) (d := d) (w := ⟨#[41]⟩) [41] rfl k4 with ⟨r, e5, g5, a5⟩ | ⟨e5, a5⟩
    · exact .inr (.inl ⟨p, r, by simp [pb, e5, grd, pr], g5, x, r4, k5, k1, k2, k6, back a5⟩)
    · exact .inr (.inr ⟨by simp [pb, e5, grd, fl], .inr (.inr ⟨k1, k2, .inr ⟨x, r4, k6, back a5⟩⟩)⟩)
  · exact .inr (.inr ⟨by simp only [pb, k3], .inr (.inr ⟨k1, k2, .inl ⟨s, k4⟩⟩)⟩)
theorem atom_step {n : Nat} (ih : Run5 t n) {d : Int} (h0 : 0 ≤ d) (h1 : d ≤ 200) : ConF t d (atomP (n + 1) d) (treeR rx_reader_atom) rx_reader_atom_pan := by
  intro l hl
  have w1 : ∀ r, w64 ((S t r d).deep_ + 1) := fun r => in64 (by show _ ≤ d + 1; omega) (by show d + 1 ≤ _; omega)
  have w2 : ∀ r, w64 ((S t r (d + 1)).deep_ - 1) := fun r => in64 (by show _ ≤ d + 1 - 1; omega) (by show d + 1 - 1 ≤ _; omega)
  rw [atomP]
  rcases opt_run (t := t) (d := d) (w := ⟨#[40, 63, 58]⟩) [40, 63, 58] rfl hl with ⟨r, e1, g1, a1⟩ | ⟨e1, a1⟩
  · have eq : pb (opt [40, 63, 58]) (fun b => pb (iff b (pr true) (opt [40])) fun g => iff g
      (pb (tst fun l => decide (hd l = 63)) fun q => pb (grd (!q)) fun _ => pb (grd (decide (d + 1 ≤ 200))) fun _ => pb (patP n (d + 1)) fun x => pb (opt [41]) fun z => pb (grd z) fun _ => pr x) (setP n)) l = groupP n d r := by
      simp only [pb, e1, iff, if_true, pr, groupP]
    rw [eq]
    have hp := peek_run (t := t) (d := d) r
    rcases group_run ih h0 h1 r g1 with k | ⟨p, r', k1, k2, x, r4, k3, k4, k5, k6, k7⟩ | ⟨k1, k2 | ⟨k2, k3⟩ | ⟨k2, k3, ⟨s, k4⟩ | ⟨x, r4, k4, k5⟩⟩⟩
    · exact .inl k
    · exact .inr (.inl ⟨p, r', k1, k2, x, k3, rx_reader_atom_r0 a1 hp k4 rx_must_r0 (w1 r) k5 k6 (w2 r4) k7⟩)
    · exact .inr (.inr ⟨k1, _, rx_reader_atom_p25 a1 hp k2 rx_must_p1⟩)
    · exact .inr (.inr ⟨k1, _, rx_reader_atom_p11 a1 hp k2 rx_must_r0 (w1 r) k3 rx_must_p1⟩)
    · exact .inr (.inr ⟨k1, _, rx_reader_atom_p4 a1 hp k2 rx_must_r0 (w1 r) k3 k4⟩)
    · exact .inr (.inr ⟨k1, _, rx_reader_atom_p3 a1 hp k2 rx_must_r0 (w1 r) k3 k4 (w2 r4) k5 rx_must_p1⟩)
  rcases opt_run (t := t) (d := d) (w := ⟨#[40]⟩) [40] rfl hl with ⟨r, e2, g2, a2⟩ | ⟨e2, a2⟩
  · have eq : pb (opt [40, 63, 58]) (fun b => pb (iff b (pr true) (opt [40])) fun g => iff g
      (pb (tst fun l => decide (hd l = 63)) fun q => pb (grd (!q)) fun _ => pb (grd (decide (d + 1 ≤ 200))) fun _ => pb (patP n (d + 1)) fun x => pb (opt [41]) fun z => pb (grd z) fun _ => pr x) (setP n)) l = groupP n d r := by
      simp only [pb, e1, e2, iff, if_true, Bool.false_eq_true, if_false, groupP]
    rw [eq]
    have hp := peek_run (t := t) (d := d) r
    rcases group_run ih h0 h1 r g2 with k | ⟨p, r', k1, k2, x, r4, k3, k4, k5, k6, k7⟩ | ⟨k1, k2 | ⟨k2, k3⟩ | ⟨k2, k3, ⟨s, k4⟩ | ⟨x, r4, k4, k5⟩⟩⟩
    · exact .inl k
    · exact .inr (.inl ⟨p, r', k1, k2, x, k3, rx_reader_atom_r26 a1 a2 hp k4 rx_must_r0 (w1 r) k5 k6 (w2 r4) k7⟩)
    · exact .inr (.inr ⟨k1, _, rx_reader_atom_p51 a1 a2 hp k2 rx_must_p1⟩)
    · exact .inr (.inr ⟨k1, _, rx_reader_atom_p37 a1 a2 hp k2 rx_must_r0 (w1 r) k3 rx_must_p1⟩)
    · exact .inr (.inr ⟨k1, _, rx_reader_atom_p30 a1 a2 hp k2 rx_must_r0 (w1 r) k3 k4⟩)
    · exact .inr (.inr ⟨k1, _, rx_reader_atom_p29 a1 a2 hp k2 rx_must_r0 (w1 r) k3 k4 (w2 r4) k5 rx_must_p1⟩)
  have eq : pb (opt [40, 63, 58]) (fun b => pb (iff b (pr true) (opt [40])) fun g => iff g
    (pb (tst fun l => decide (hd l = 63)) fun q => pb (grd (!q)) fun _ => pb (grd (decide (d + 1 ≤ 200))) fun _ => pb (patP n (d + 1)) fun x => pb (opt [41]) fun z => pb (grd z) fun _ => pr x) (setP n)) l = setP n l := by
    simp only [pb, e1, e2, iff, Bool.false_eq_true, if_false]
  rw [eq]
  exact set_run hl a1 a2
theorem run5 : ∀ n, Run5 t n
  | 0 => by
    refine ⟨fun d _ _ l _ => .inl ?_, fun d _ _ l x _ _ => .inl ?_, fun d _ _ l x _ _ _ => .inl ?_, fun d _ _ l x _ _ _ => .inl ?_, fun d _ _ l _ => .inl ?_, fun d _ _ l _ => .inl ?_⟩
    · rw [patP]; rfl
    · rw [altsP]; rfl
    · rw [altsP]; rfl
    · rw [rowP]; rfl
    · rw [termP]; rfl
    · rw [atomP]; rfl
  | n + 1 => ⟨fun d h0 h1 => pat_step (run5 n) h0 h1, fun d h0 h1 l x lt hl => alts1_step (run5 n) h0 h1 l x lt hl, fun d h0 h1 l xs lt hl hb => alts_step (run5 n) h0 h1 l xs lt hl hb,
      fun d h0 h1 l xs lt hl hb => row_step (run5 n) h0 h1 l xs lt hl hb, fun d h0 h1 => term_step (run5 n) h0 h1, fun d h0 h1 => atom_step (run5 n) h0 h1⟩
end
/-- What a pattern's code points are read as. -/
theorem pattern_run {p : List Int} (t : Bool) (hp : GL p) : (∃ x r, parseM (4 * p.length + 4) p = (if r = [] then .ok (ptOf x) else .bad) ∧ rx_reader_pattern (S t p 0) x (S t r 0)) ∨ (parseM (4 * p.length + 4) p = .bad ∧ ∃ s, rx_reader_pattern_pan (S t p 0) s) := by
  unfold parseM
  rcases (run5 (t := t) (4 * p.length + 4)).pat 0 (by decide) (by decide) p hp with k | ⟨a, r, k1, k2, x, k3, k4⟩ | ⟨k1, s, k2⟩
  · exact ((live5 _).pat 0 p (by omega) k).elim
  · exact .inl ⟨x, r, by rw [k1, k3], k4⟩
  · exact .inr ⟨by rw [k1], s, k2⟩
end
section
open Go
set_option linter.unusedVariables false
set_option linter.unusedSimpArgs false
set_option linter.unusedSectionVars false
set_option linter.unnecessarySimpa false
/-- Its rows are not too long. -/
inductive Bd : PT → Prop
  | mk {k : Int} {rs : List Range} {mn mx : Int} {z : Bool} {sub : List PT} (h1 : rs.length ≤ 4000000) (h2 : sub.length ≤ 4000000) (h3 : ∀ x ∈ sub, Bd x) : Bd (.node k rs mn mx z sub)
theorem bd_several {k : Int} {l : List PT} (h : ∀ x ∈ l, Bd x) (hl : l.length ≤ 4000000) : Bd (severalM k l) := by
  match l, h, hl with
  | [], h, hl => exact .mk (by simp) (by simp) (by simp)
  | [x], h, hl => exact h x (by simp)
  | x :: y :: r, h, hl => exact .mk (by simp) hl h
theorem class_len : ∀ (n : Nat) (acc : List Range) (l : List Int) (a : List Range) (r : List Int), GL l → classL n acc l = .ok (a, r) → a.length ≤ acc.length + 11 * l.length
  | 0, acc, l, a, r, _, h => by cases h
  | n + 1, acc, l, a, r, hl, h => by
    obtain ⟨b, l1, h1, h2⟩ := pb_ok h
    have s1 := (good_opt (w := [93]) (by decide)).suf h1
    cases b with
    | true => cases h2; omega
    | false =>
      obtain ⟨rfl, _⟩ := opt_false h1
      simp only [iff, Bool.false_eq_true, if_false] at h2
      obtain ⟨m, l2, h3, h4⟩ := pb_ok h2
      have sm := strict_markP h3
      have hm : m.1.length ≤ 11 := by
        rcases mark_run (t := true) (d := 0) l1 hl with ⟨m', r', j1, j2, j3, j4, j5⟩ | ⟨j1, _⟩
        · rw [h3] at j1; cases j1; exact j4
        · rw [h3] at j1; cases j1
      have g2 := hl.suf (good_markP.suf h3)
      obtain ⟨g, l3, h5, h6⟩ := pb_ok h4
      unfold tst at h5
      cases h5
      by_cases hg : goesOn l2 = true
      · rw [hg] at h6
        simp only [iff, if_true] at h6
        obtain ⟨c, l4, k1, k2⟩ := pb_ok h6
        obtain ⟨m2, l5, k3, k4⟩ := pb_ok k2
        obtain ⟨_, l6, k5, k6⟩ := pb_ok k4
        have s4 := strict_nxt k1
        have s5 := strict_markP k3
        have s6 := suf_len ((good_grd _).suf k5)
        have g6 := ((g2.suf (good_nxt.suf k1)).suf (good_markP.suf k3)).suf ((good_grd _).suf k5)
        have := class_len n _ _ _ _ g6 k6
        simp at this
        omega
      · have hg' : goesOn l2 = false := by simpa using hg
        rw [hg'] at h6
        simp only [iff, Bool.false_eq_true, if_false] at h6
        have := class_len n _ _ _ _ g2 h6
        rw [List.length_append] at this
        omega
theorem bd_setT {rs : List Range} (h : rs.length ≤ 4000000) : Bd (setT rs) := .mk h (by simp) (by simp)
theorem bd_setP {n : Nat} {l r : List Int} {x : PT} (hl : GL l) (h : setP n l = .ok (x, r)) : Bd x := by
  obtain ⟨b, l1, h1, h2⟩ := pb_ok h
  cases b with
  | true => cases h2; exact bd_setT (by have := turnR_length dotL; simp [dotL] at this ⊢; omega)
  | false =>
    obtain ⟨rfl, _⟩ := opt_false h1
    obtain ⟨b, l2, h3, h4⟩ := pb_ok h2
    cases b with
    | true =>
      simp only [iff, if_true] at h4
      obtain ⟨rs, l3, h5, h6⟩ := pb_ok h4
      cases h6
      have g2 := hl.suf ((good_opt (w := [91]) (by decide)).suf h3)
      obtain ⟨tn, l4, h7, h8⟩ := pb_ok h5
      have g4 := g2.suf ((good_opt (w := [94]) (by decide)).suf h7)
      obtain ⟨a, l5, h9, h10⟩ := pb_ok h8
      cases h10
      have := class_len n _ _ _ _ g4 h9
      have := g4.1
      refine bd_setT ?_
      split
      · have := turnR_length a; simp at *; omega
      · have := mergeR_length a; simp at *; omega
    | false =>
      obtain ⟨rfl, _⟩ := opt_false h3
      simp only [iff, Bool.false_eq_true, if_false] at h4
      obtain ⟨b, l3, h5, h6⟩ := pb_ok h4
      cases b with
      | true =>
        simp only [iff, if_true] at h6
        obtain ⟨e, l4, h7, h8⟩ := pb_ok h6
        cases h8
        have g3 := hl.suf ((good_opt (w := [92]) (by decide)).suf h5)
        rcases escape_run (t := true) (d := 0) l3 g3 with ⟨m', r', j1, j2, j3, j4, j5⟩ | ⟨j1, _⟩
        · rw [h7] at j1; cases j1; exact bd_setT (by omega)
        · rw [h7] at j1; cases j1
      | false =>
        simp only [iff, Bool.false_eq_true, if_false] at h6
        obtain ⟨c, l4, h7, h8⟩ := pb_ok h6
        obtain ⟨_, l5, h9, h10⟩ := pb_ok h8
        cases h10
        exact bd_setT (by simp [oneR])
structure Bd5 (n : Nat) : Prop where
  pat : ∀ d l x r, GL l → patP n d l = .ok (x, r) → Bd x
  alts : ∀ d acc l x r, GL l → (∀ y ∈ acc, Bd y) → acc.length + l.length ≤ 200000 → altsP n d acc l = .ok (x, r) → Bd x
  row : ∀ d acc l x r, GL l → (∀ y ∈ acc, Bd y) → acc.length + l.length ≤ 200000 → rowP n d acc l = .ok (x, r) → Bd x
  term : ∀ d l x r, GL l → termP n d l = .ok (x, r) → Bd x
  atom : ∀ d l x r, GL l → atomP n d l = .ok (x, r) → Bd x
theorem bd_app {acc : List PT} {p : PT} (h : ∀ y ∈ acc, Bd y) (hp : Bd p) : ∀ y ∈ acc ++ [p], Bd y := by
  intro y hy
  rcases List.mem_append.1 hy with k | k
  · exact h y k
  · rw [List.mem_singleton.1 k]; exact hp
theorem bd5 : ∀ n, Bd5 n
  | 0 => by
    refine ⟨fun d l x r _ h => ?_, fun d acc l x r _ _ _ h => ?_, fun d acc l x r _ _ _ h => ?_, fun d l x r _ h => ?_, fun d l x r _ h => ?_⟩
    · rw [patP] at h; cases h
    · rw [altsP] at h; cases h
    · rw [rowP] at h; cases h
    · rw [termP] at h; cases h
    · rw [atomP] at h; cases h
  | n + 1 => by
    have ih := bd5 n
    have gd := good5 n
    have nil : ∀ y ∈ ([] : List PT), Bd y := by simp
    refine ⟨fun d l x r hl h => ?_, fun d acc l x r hl ha hb h => ?_, fun d acc l x r hl ha hb h => ?_, fun d l x r hl h => ?_, fun d l x r hl h => ?_⟩
    · rw [patP] at h
      obtain ⟨p, l1, h1, h2⟩ := pb_ok h
      have g1 := hl.suf ((gd.row d []).suf h1)
      have := hl.1; have := g1.1
      exact ih.alts d [p] l1 x r g1 (bd_app nil (ih.row d [] l p l1 hl nil (by simp; omega) h1)) (by simp; omega) h2
    · rw [altsP] at h
      obtain ⟨b, l1, h1, h2⟩ := pb_ok h
      have g1 := hl.suf ((good_opt (w := [124]) (by decide)).suf h1)
      have e1 := opt_len h1
      cases b with
      | true =>
        simp only [iff, if_true] at h2
        obtain ⟨p, l2, h3, h4⟩ := pb_ok h2
        have s2 := (gd.row d []).suf h3
        have := g1.1; have := suf_len s2
        simp at e1
        exact ih.alts d _ l2 x r (g1.suf s2) (bd_app ha (ih.row d [] l1 p l2 g1 nil (by simp; omega) h3)) (by simp; omega) h4
      | false => cases h2; exact bd_several ha (by omega)
    · rw [rowP] at h
      obtain ⟨b, l1, h1, h2⟩ := pb_ok h
      unfold tst at h1
      cases h1
      cases hb' : rowOn l with
      | true =>
        rw [hb'] at h2
        simp only [iff, if_true] at h2
        obtain ⟨p, l2, h3, h4⟩ := pb_ok h2
        have s2 := (gd.term d).suf h3
        have := strict_termP n d h3
        exact ih.row d _ l2 x r (hl.suf s2) (bd_app ha (ih.term d l p l2 hl h3)) (by simp; omega) h4
      | false => rw [hb'] at h2; cases h2; exact bd_several ha (by omega)
    · rw [termP] at h
      have leaf : ∀ k, Bd (leafT k) := fun k => .mk (by simp) (by simp) (by simp)
      obtain ⟨b, l1, a1, a2⟩ := pb_ok h
      cases b with
      | true => cases a2; exact leaf _
      | false =>
      obtain ⟨rfl, _⟩ := opt_false a1
      simp only [iff, Bool.false_eq_true, if_false] at a2
      obtain ⟨b, l1, b1, b2⟩ := pb_ok a2
      cases b with
      | true => cases b2; exact leaf _
      | false =>
      obtain ⟨rfl, _⟩ := opt_false b1
      simp only [iff, Bool.false_eq_true, if_false] at b2
      obtain ⟨b, l1, c1, c2⟩ := pb_ok b2
      cases b with
      | true => cases c2; exact leaf _
      | false =>
      obtain ⟨rfl, _⟩ := opt_false c1
      simp only [iff, Bool.false_eq_true, if_false] at c2
      obtain ⟨b, l1, d1, d2⟩ := pb_ok c2
      cases b with
      | true => cases d2; exact leaf _
      | false =>
      obtain ⟨rfl, _⟩ := opt_false d1
      simp only [iff, Bool.false_eq_true, if_false] at d2
      obtain ⟨p, l2, h3, h4⟩ := pb_ok d2
      have bp := ih.atom d l1 p l2 hl h3
      obtain ⟨c, l3, h5, h6⟩ := pb_ok h4
      cases c with
      | none => cases h6; exact bp
      | some c =>
        obtain ⟨lo, hi⟩ := c
        obtain ⟨z, l4, h7, h8⟩ := pb_ok h6
        cases h8
        exact .mk (by simp) (by simp) (by simpa using bp)
    · rcases atom_ok h with ⟨p, l1, l2, hp, rfl, _, _, _, h1, _⟩ | ⟨_, _, h1⟩
      · exact ih.pat _ l1 x _ (hl.suf (List.suffix_append _ _)) h1
      · exact bd_setP hl h1
/-! ### Like trees -/
theorem same_rng {a b : SL Range} (hs : a.xs.length ≤ 4000000) (h : a.xs = b.xs) : L.ref09_Ranges a b true := by
  have loop : ∀ (m i : Nat), a.xs.length = i + m → ∃ z, L.ref09_Ranges_l0 a b i (L.ref09_Ranges_l0_x1 a b z) := by
    intro m
    induction m with
    | zero => intro i hi; exact ⟨_, L.ref09_Ranges_l0_e2 (by omega)⟩
    | succ m ih =>
      intro i hi
      have hlt : i < a.xs.length := by omega
      obtain ⟨z, hz⟩ := ih (i + 1) (by omega)
      have e1 : a.xs[((i : Nat) : Int).toNat]? = some a.xs[i] := by rw [Int.toNat_natCast]; exact List.getElem?_eq_getElem hlt
      exact ⟨z, L.ref09_Ranges_l0_s0 (by omega) (by omega) e1 (by rw [← h]; exact e1) (by rw [eqK_range]; simp) (in64 (by omega) (by omega)) hz⟩
  obtain ⟨z, hz⟩ := loop a.xs.length 0 (by omega)
  exact L.ref09_Ranges_r2 (by rw [h]) hz
theorem same_run {p : PT} (hp : Bd p) : ∀ x y : Rx, ptOf x = p → ptOf y = p → L.ref09_Same x y true := by
  induction hp with
  | @mk k rs mn mx z sub h1 h2 h3 ih =>
    intro x y hx hy
    rw [ptOf_eq] at hx hy
    injection hx with a1 a2 a3 a4 a5 a6
    injection hy with b1 b2 b3 b4 b5 b6
    have lx : x.Sub.xs.length = sub.length := by rw [← a6, List.length_map]
    have ly : y.Sub.xs.length = sub.length := by rw [← b6, List.length_map]
    have hr : L.ref09_Ranges x.Ranges y.Ranges true := same_rng (by rw [a2]; exact h1) (by rw [a2, b2])
    have loop : ∀ (m i : Nat), sub.length = i + m → ∃ z, L.ref09_Same_l0 x y i (L.ref09_Same_l0_x1 x y z) := by
      intro m
      induction m with
      | zero => intro i hi; exact ⟨_, L.ref09_Same_l0_e2 (by omega)⟩
      | succ m ihm =>
        intro i hi
        have k0 : i < x.Sub.xs.length := by omega
        have k1 : i < y.Sub.xs.length := by omega
        obtain ⟨z, hz⟩ := ihm (i + 1) (by omega)
        have e1 : x.Sub.xs[((i : Nat) : Int).toNat]? = some x.Sub.xs[i] := by rw [Int.toNat_natCast]; exact List.getElem?_eq_getElem k0
        have e2 : y.Sub.xs[((i : Nat) : Int).toNat]? = some y.Sub.xs[i] := by rw [Int.toNat_natCast]; exact List.getElem?_eq_getElem k1
        have k2 : i < sub.length := by omega
        have m1 : ptOf x.Sub.xs[i] = sub[i] := by simp [← a6]
        have m2 : ptOf y.Sub.xs[i] = sub[i] := by simp [← b6]
        exact ⟨z, L.ref09_Same_l0_s0 (by omega) (by omega) e1 e2 (ih sub[i] (List.getElem_mem k2) _ _ m1 m2) (in64 (by omega) (by omega)) hz⟩
    obtain ⟨z', hz⟩ := loop sub.length 0 (by omega)
    have hlen : (x.Sub.xs.length : Int) = (y.Sub.xs.length : Int) := by omega
    cases z with
    | true => exact L.ref09_Same_r5 (by omega) (by omega) (by omega) a5 b5 hr hlen hz
    | false => exact L.ref09_Same_r11 (by omega) (by omega) (by omega) a5 b5 hr hlen hz
/-! ### Code points -/
theorem GP.good {l p : List Int} (h : GP l p) : ∀ c ∈ p, 0 ≤ c ∧ c ≤ 1114111 := by
  have lo : ∀ b : Int, 128 ≤ lowB b := low_ge
  have hi : ∀ b : Int, highB b ≤ 191 := high_le
  induction h with
  | nil => intro c hc; cases hc
  | one h0 h1 h ih =>
    intro c hc
    rcases List.mem_cons.1 hc with rfl | hc
    · omega
    · exact ih c hc
  | @two b c l p h0 h1 hc h ih =>
    intro x hx
    rcases List.mem_cons.1 hx with rfl | hx
    · omega
    · exact ih x hx
  | @three b c d l p h0 h1 hc hd h ih =>
    intro x hx
    rcases List.mem_cons.1 hx with rfl | hx
    · have := lo b; have := hi b; omega
    · exact ih x hx
  | @four b c d e l p h0 h1 hc hd he h ih =>
    intro x hx
    rcases List.mem_cons.1 hx with rfl | hx
    · have := lo b; have := hi b
      have e4 : b = 244 → highB b = 143 := fun e => by unfold highB; rw [if_neg (by omega), if_pos e]
      by_cases k : b = 244
      · have := e4 k; omega
      · omega
    · exact ih x hx
theorem GP.append {l p l' p' : List Int} (h : GP l p) (h' : GP l' p') : GP (l ++ l') (p ++ p') := by
  induction h with
  | nil => exact h'
  | one h0 h1 h ih => exact .one h0 h1 ih
  | two h0 h1 hc h ih => exact .two h0 h1 hc ih
  | three h0 h1 hc hd h ih => exact .three h0 h1 hc hd ih
  | four h0 h1 hc hd he h ih => exact .four h0 h1 hc hd he ih
theorem GP.ascii : ∀ {l : List Int}, (∀ c ∈ l, 0 ≤ c ∧ c < 128) → GP l l
  | [], _ => .nil
  | c :: r, h => .one (h c (by simp)).1 (h c (by simp)).2 (GP.ascii fun x hx => h x (by simp [hx]))
theorem GP.count {l p : List Int} (h : GP l p) : l.count 40 = p.count 40 := by
  have lo : ∀ b : Int, 128 ≤ lowB b := low_ge
  induction h with
  | nil => rfl
  | one h0 h1 h ih => rw [List.count_cons, List.count_cons, ih]
  | @two b c l p h0 h1 hc h ih =>
    rw [List.count_cons_of_ne (by omega), List.count_cons_of_ne (by omega), List.count_cons_of_ne (by omega), ih]
  | @three b c d l p h0 h1 hc hd h ih =>
    have := lo b
    have e1 : b = 224 → lowB b = 160 := fun e => by unfold lowB; rw [if_pos e]
    rw [List.count_cons_of_ne (by omega), List.count_cons_of_ne (by omega), List.count_cons_of_ne (by omega), List.count_cons_of_ne (by
      by_cases k : b = 224
      · have := e1 k; have := high_le b; omega
      · omega), ih]
  | @four b c d e l p h0 h1 hc hd he h ih =>
    have := lo b
    have e1 : b = 240 → lowB b = 144 := fun e => by unfold lowB; rw [if_neg (by omega), if_pos e]
    rw [List.count_cons_of_ne (by omega), List.count_cons_of_ne (by omega), List.count_cons_of_ne (by omega), List.count_cons_of_ne (by omega), List.count_cons_of_ne (by
      by_cases k : b = 240
      · have := e1 k; have := high_le b; omega
      · omega), ih]
/-! ### rx.Parse -/
theorem strInts_isBytes (s : ByteArray) : isBytes (strInts s) := by
  intro x hx
  unfold strInts at hx
  obtain ⟨b, _, rfl⟩ := List.mem_map.1 hx
  have := b.toNat_lt
  omega
def Reads (s : ByteArray) (a : PT) : Prop := ∃ p, GP (strInts s) p ∧ s.size ≤ 4096 ∧ parseM (4 * p.length + 4) p = .ok a
theorem parse_all {s : ByteArray} (hs : s.size ≤ 10000000) : (∃ x, Reads s (ptOf x) ∧ Bd (ptOf x) ∧ L.rx_Parse s x 0) ∨ ((∀ a, ¬ Reads s a) ∧ L.rx_Parse s Rx0 90) := by
  have hl := strInts_length s
  rcases utf_points_run (b := bsOf s) (strInts_isBytes s) (by show (strInts s).length < _; omega) with ⟨p, t, h1, h2⟩ | ⟨h1, h2⟩
  rotate_left
  · exact .inr ⟨fun a ⟨p, k, _⟩ => h1 ⟨p, k⟩, parse_bad h2 (.inl (by decide))⟩
  have h1' : GP (strInts s) p := h1
  by_cases h4 : (s.size : Int) > 4096
  · exact .inr ⟨fun a ⟨p, _, k, _⟩ => by omega, parse_bad h2 (.inr h4)⟩
  have hp : GL p := ⟨by have := h1'.len; omega, h1'.good⟩
  rcases pattern_run t hp with ⟨x, r, k1, k2⟩ | ⟨k1, z, k2⟩
  · by_cases hr : r = []
    · subst hr
      rw [if_pos rfl] at k1
      refine .inl ⟨x, ⟨p, h1', by omega, k1⟩, ?_, parse_ok h2 h4 k2 rfl rx_must_r0⟩
      unfold parseM at k1
      split at k1
      · cases k1
      · cases k1
      · rename_i a r e
        split at k1
        · cases k1; exact (bd5 _).pat 0 p _ _ hp e
        · cases k1
    · rw [if_neg hr] at k1
      refine .inr ⟨fun a ⟨p', j1, _, j3⟩ => ?_, parse_more h2 h4 k2 (by show ¬ (r.length : Int) = 0; cases r with | nil => exact absurd rfl hr | cons c r => rw [List.length_cons]; omega) rx_must_p1⟩
      rw [h1'.uniq j1] at k1
      rw [k1] at j3; cases j3
  · refine .inr ⟨fun a ⟨p', j1, _, j3⟩ => ?_, parse_pan h2 h4 k2⟩
    rw [h1'.uniq j1] at k1
    rw [k1] at j3; cases j3
end
section
open Go
set_option linter.unusedVariables false
set_option linter.unusedSimpArgs false
set_option linter.unusedSectionVars false
set_option linter.unnecessarySimpa false
theorem opt_no {c x : Int} {w l : List Int} (h : x ≠ c) : opt (c :: w) (x :: l) = .ok (false, x :: l) := by
  unfold opt; simp only [takeM]; rw [if_neg h]
theorem opt_yes (w l : List Int) : opt w (w ++ l) = .ok (true, l) := by unfold opt; rw [takeM_app]
theorem iff_f {α : Type} {f g : Pa α} : iff false f g = g := rfl
theorem iff_t {α : Type} {f g : Pa α} : iff true f g = f := rfl
theorem not_q {n : Nat} {d : Int} {l r : List Int} {x : PT} (h : patP n d (63 :: l) = .ok (x, r)) : False := by
  cases n with
  | zero => rw [patP] at h; cases h
  | succ n =>
  rw [patP] at h
  obtain ⟨p, l1, h, _⟩ := pb_ok h
  cases n with
  | zero => rw [rowP] at h; cases h
  | succ n =>
  rw [rowP] at h
  obtain ⟨b, l2, h3, h⟩ := pb_ok h
  unfold tst at h3
  cases h3
  have : rowOn (63 :: l) = true := rfl
  rw [this, iff_t] at h
  obtain ⟨p, l3, h, _⟩ := pb_ok h
  cases n with
  | zero => rw [termP] at h; cases h
  | succ n =>
  rw [termP, pb_run (opt_no (by decide)), iff_f, pb_run (opt_no (by decide)), iff_f, pb_run (opt_no (by decide)), iff_f, pb_run (opt_no (by decide)), iff_f] at h
  obtain ⟨p, l3, h, _⟩ := pb_ok h
  cases n with
  | zero => rw [atomP] at h; cases h
  | succ n =>
  rcases atom_ok h with ⟨p, l1, l2, hp, e, _⟩ | ⟨_, _, h⟩
  · rcases hp with rfl | rfl <;> simp at e
  · unfold setP at h
    rw [pb_run (opt_no (by decide)), iff_f, pb_run (opt_no (by decide)), iff_f, pb_run (opt_no (by decide)), iff_f] at h
    have e : nxt (63 :: l) = .ok (63, l) := rfl
    rw [pb_run e] at h
    cases h
theorem count_none {R : List Int} (h : ∀ c ∈ R.head?, c ≠ 42 ∧ c ≠ 43 ∧ c ≠ 63 ∧ c ≠ 123) : countP R = .ok (none, R) := by
  cases R with
  | nil => rfl
  | cons c r =>
    obtain ⟨h1, h2, h3, h4⟩ := h c rfl
    unfold countP
    rw [pb_run (opt_no h1), iff_f, pb_run (opt_no h2), iff_f, pb_run (opt_no h3), iff_f, pb_run (opt_no h4)]
    rfl
theorem term_group {m : Nat} {d : Int} {l R : List Int} {x : PT} (h : atomP m d (40 :: l) = .ok (x, R)) (hR : ∀ c ∈ R.head?, c ≠ 42 ∧ c ≠ 43 ∧ c ≠ 63 ∧ c ≠ 123) : termP (m + 1) d (40 :: l) = .ok (x, R) := by
  rw [termP, pb_run (opt_no (by decide)), iff_f, pb_run (opt_no (by decide)), iff_f, pb_run (opt_no (by decide)), iff_f, pb_run (opt_no (by decide)), iff_f, pb_run h, pb_run (count_none hR)]
  rfl
theorem group_ok {m : Nat} {d : Int} {A R : List Int} {x : PT} (h : patP m (d + 1) A = .ok (x, [])) (hd' : d + 1 ≤ 200) : groupP m d (A ++ 41 :: R) = .ok (x, R) := by
  have h1 : hd (A ++ 41 :: R) ≠ 63 := by
    cases A with
    | nil => show (41 : Int) ≠ 63; decide
    | cons c A =>
      show c ≠ 63
      intro e
      subst e
      exact not_q h
  have h2 := ((good5 m).pat (d + 1)).loc (t := 41 :: R) (.inr ⟨R, rfl⟩) h
  have e1 : tst (fun l => decide (hd l = 63)) (A ++ 41 :: R) = .ok (false, A ++ 41 :: R) := by
    show Rs.ok (decide (hd (A ++ 41 :: R) = 63), A ++ 41 :: R) = _
    rw [decide_eq_false h1]
  have e2 : grd (!false) (A ++ 41 :: R) = .ok ((), A ++ 41 :: R) := rfl
  have e3 : grd (decide (d + 1 ≤ 200)) (A ++ 41 :: R) = .ok ((), A ++ 41 :: R) := by rw [decide_eq_true hd']; rfl
  unfold groupP
  rw [pb_run e1, pb_run e2, pb_run e3, pb_run h2]
  have e4 : opt [41] ([] ++ 41 :: R) = .ok (true, R) := opt_yes [41] R
  rw [pb_run e4]
  rfl
theorem atom_g1 {m : Nat} {d : Int} {A R : List Int} {x : PT} (h : patP m (d + 1) A = .ok (x, [])) (hd' : d + 1 ≤ 200) : atomP (m + 1) d (40 :: 63 :: 58 :: (A ++ 41 :: R)) = .ok (x, R) := by
  have e1 : opt [40, 63, 58] (40 :: 63 :: 58 :: (A ++ 41 :: R)) = .ok (true, A ++ 41 :: R) := opt_yes [40, 63, 58] _
  have e2 : iff true (pr true) (opt [40]) (A ++ 41 :: R) = .ok (true, A ++ 41 :: R) := rfl
  rw [atomP, pb_run e1, pb_run e2, iff_t]
  exact group_ok h hd'
theorem atom_g2 {m : Nat} {d : Int} {A R : List Int} {x : PT} (h : patP m (d + 1) A = .ok (x, [])) (hd' : d + 1 ≤ 200) : atomP (m + 1) d (40 :: (A ++ 41 :: R)) = .ok (x, R) := by
  have e1 : opt [40, 63, 58] (40 :: (A ++ 41 :: R)) = .ok (false, 40 :: (A ++ 41 :: R)) := by
    unfold opt
    cases A with
    | nil => simp [takeM]
    | cons c A =>
      have : c ≠ 63 := by
        intro e
        subst e
        exact not_q h
      simp [takeM, this]
  have e2 : iff false (pr true) (opt [40]) (40 :: (A ++ 41 :: R)) = .ok (true, A ++ 41 :: R) := opt_yes [40] _
  rw [atomP, pb_run e1, pb_run e2, iff_t]
  exact group_ok h hd'
theorem row_end {m : Nat} {d : Int} {acc : List PT} {R : List Int} (h : rowOn R = false) : rowP (m + 1) d acc R = .ok (severalM 3 acc, R) := by
  have e : tst rowOn R = .ok (false, R) := by unfold tst; rw [h]
  rw [rowP, pb_run e]; rfl
theorem row_on {m : Nat} {d : Int} {acc : List PT} {l R : List Int} {x : PT} (h : rowOn l = true) (ht : termP m d l = .ok (x, R)) : rowP (m + 1) d acc l = rowP m d (acc ++ [x]) R := by
  have e : tst rowOn l = .ok (true, l) := by unfold tst; rw [h]
  rw [rowP, pb_run e, iff_t, pb_run ht]
theorem alts_end {m : Nat} {d : Int} {acc : List PT} : altsP (m + 1) d acc [] = .ok (severalM 4 acc, []) := by rw [altsP]; rfl
theorem alts_on {m : Nat} {d : Int} {acc : List PT} {l R : List Int} {x : PT} (h : rowP m d [] l = .ok (x, R)) : altsP (m + 1) d acc (124 :: l) = altsP m d (acc ++ [x]) R := by
  have e : opt [124] (124 :: l) = .ok (true, l) := opt_yes [124] l
  rw [altsP, pb_run e, iff_t, pb_run h]
/-- What is read as this, whatever the fuel, down to this depth. -/
def Pat (M : Nat) (A : List Int) (x : PT) : Prop := ∀ m d, M ≤ m → 0 ≤ d → d ≤ 2 → patP m d A = .ok (x, [])
section
variable {M : Nat} {A B : List Int} {xa xb : PT}
theorem two_row (hA : Pat M A xa) (hB : Pat M B xb) : patP (M + 6) 0 (40 :: 63 :: 58 :: (A ++ 41 :: 40 :: (B ++ 41 :: []))) = .ok (.node 3 [] 0 0 false [xa, xb], []) := by
  have r1 := atom_g1 (R := 40 :: (B ++ 41 :: [])) (hA (M + 2) (0 + 1) (by omega) (by decide) (by decide)) (by decide)
  have t1 := term_group r1 (by intro c hc; cases hc; decide)
  have r2 := atom_g2 (R := []) (hB (M + 1) (0 + 1) (by omega) (by decide) (by decide)) (by decide)
  have t2 := term_group r2 (by intro c hc; cases hc)
  have e : rowP (M + 5) 0 [] (40 :: 63 :: 58 :: (A ++ 41 :: 40 :: (B ++ 41 :: []))) = .ok (.node 3 [] 0 0 false [xa, xb], []) := by
    rw [row_on rfl t1, row_on rfl t2, row_end rfl]; rfl
  rw [patP, pb_run e, alts_end]
  rfl
theorem two_alt (hA : Pat M A xa) (hB : Pat M B xb) : patP (M + 6) 0 (40 :: (A ++ 41 :: 124 :: 40 :: 63 :: 58 :: (B ++ 41 :: []))) = .ok (.node 4 [] 0 0 false [xa, xb], []) := by
  have r1 := atom_g2 (R := 124 :: 40 :: 63 :: 58 :: (B ++ 41 :: [])) (hA (M + 2) (0 + 1) (by omega) (by decide) (by decide)) (by decide)
  have t1 := term_group r1 (by intro c hc; cases hc; decide)
  have r2 := atom_g1 (R := []) (hB (M + 1) (0 + 1) (by omega) (by decide) (by decide)) (by decide)
  have t2 := term_group r2 (by intro c hc; cases hc)
  have e : rowP (M + 5) 0 [] (40 :: (A ++ 41 :: 124 :: 40 :: 63 :: 58 :: (B ++ 41 :: []))) = .ok (xa, 124 :: 40 :: 63 :: 58 :: (B ++ 41 :: [])) := by
    rw [row_on rfl t1, row_end rfl]; rfl
  have e2 : rowP (M + 4) 0 [] (40 :: 63 :: 58 :: (B ++ 41 :: [])) = .ok (xb, []) := by
    rw [row_on rfl t2, row_end rfl]; rfl
  rw [patP, pb_run e, alts_on e2, alts_end]
  rfl
theorem one_grp (hA : Pat M A xa) {d : Int} (h0 : 0 ≤ d) (h1 : d ≤ 1) (m : Nat) (hm : M ≤ m) : patP (m + 5) d (40 :: 63 :: 58 :: (A ++ 41 :: [])) = .ok (xa, []) := by
  have r1 := atom_g1 (R := []) (hA (m + 1) (d + 1) (by omega) (by omega) (by omega)) (by omega)
  have t1 := term_group r1 (by intro c hc; cases hc)
  have e : rowP (m + 4) d [] (40 :: 63 :: 58 :: (A ++ 41 :: [])) = .ok (xa, []) := by
    rw [row_on rfl t1, row_end rfl]; rfl
  rw [patP, pb_run e, alts_end]
  rfl
theorem one_twice (hA : Pat M A xa) : patP (M + 10) 0 (40 :: ((40 :: 63 :: 58 :: (A ++ 41 :: [])) ++ 41 :: [])) = .ok (xa, []) := by
  have r1 := atom_g2 (R := []) (one_grp hA (d := 0 + 1) (by decide) (by decide) (M + 1) (by omega)) (by decide)
  have t1 := term_group r1 (by intro c hc; cases hc)
  have e : rowP (M + 9) 0 [] (40 :: ((40 :: 63 :: 58 :: (A ++ 41 :: [])) ++ 41 :: [])) = .ok (xa, []) := by
    rw [row_on rfl t1, row_end rfl]; rfl
  rw [patP, pb_run e, alts_end]
  rfl
end
theorem parseM_pat {n : Nat} {A : List Int} {x : PT} : parseM n A = .ok x ↔ patP n 0 A = .ok (x, []) := by
  unfold parseM
  constructor
  · intro h
    split at h
    · cases h
    · cases h
    · rename_i a r e
      split at h
      · rename_i hr; cases h; rw [e, hr]
      · cases h
  · intro h; rw [h]; rfl
theorem pat_of {A : List Int} {x : PT} (h : parseM (4 * A.length + 4) A = .ok x) (hc : A.count 40 ≤ 190) : Pat (4 * A.length + 4) A x :=
  fun m d hm h0 h1 => (dp5 _).pat m 0 d 190 hm (by omega) hc (parseM_pat.1 h)
theorem reads_uniq {s : ByteArray} {a b : PT} (h : Reads s a) (k : Reads s b) : a = b := by
  obtain ⟨p, h1, _, h2⟩ := h
  obtain ⟨q, k1, _, k2⟩ := k
  rw [h1.uniq k1] at h2
  rw [h2] at k2
  injection k2
theorem strInts_append (a b : ByteArray) : strInts (a ++ b) = strInts a ++ strInts b := by
  unfold strInts
  rw [ByteArray.data_append]
  simp
theorem deep_run {s : ByteArray} (hs : s.size ≤ 10000000) : L.law_deep s (decide ((strInts s).count 40 > 190)) := by
  have loop : ∀ (rest : List Int) (i n : Nat), (strInts s).drop i = rest → n ≤ i → ∃ z, L.law_deep_l0 s (n : Int) (i : Int) (L.law_deep_l0_x0 s ((n + rest.count 40 : Nat) : Int) z) := by
    intro rest
    induction rest with
    | nil =>
      intro i n h hn
      have hl := strInts_length s
      have := List.drop_eq_nil_iff.1 h
      exact ⟨_, L.law_deep_l0_e2 (by omega)⟩
    | cons c r ih =>
      intro i n h hn
      obtain ⟨k1, k2, k3⟩ := byte_drop h
      have hb : s[((i : Nat) : Int).toNat]? = some (s.get! i) := by
        rw [Int.toNat_natCast, getElem?_pos s i k1]
        congr 1
        show s.data[i] = s.data[i]!
        rw [getElem!_pos s.data i k1]
      have e1 : (i : Int) + 1 = ((i + 1 : Nat) : Int) := by omega
      by_cases e : c = 40
      · obtain ⟨z, hz⟩ := ih (i + 1) (n + 1) k3 (by omega)
        refine ⟨z, L.law_deep_l0_s0 (by omega) (by omega) hb (by omega) (in64 (by omega) (by omega)) (in64 (by omega) (by omega)) ?_⟩
        have e2 : (n : Int) + 1 = ((n + 1 : Nat) : Int) := by omega
        have e3 : n + (c :: r).count 40 = n + 1 + r.count 40 := by rw [e, List.count_cons_self]; omega
        rw [e1, e2, e3]
        exact hz
      · obtain ⟨z, hz⟩ := ih (i + 1) n k3 (by omega)
        refine ⟨z, L.law_deep_l0_s1 (by omega) (by omega) hb (by omega) (in64 (by omega) (by omega)) ?_⟩
        have e3 : n + (c :: r).count 40 = n + r.count 40 := by rw [List.count_cons_of_ne e]
        rw [e1, e3]
        exact hz
  obtain ⟨z, hz⟩ := loop (strInts s) 0 0 rfl (Nat.le_refl _)
  rw [Nat.zero_add] at hz
  by_cases h : (strInts s).count 40 > 190
  · rw [decide_eq_true h]; exact L.law_deep_r0 hz (by omega)
  · rw [decide_eq_false h]; exact L.law_deep_r1 hz (by omega)
theorem groups_true {a b : ByteArray} (ha : a.size ≤ 1048576) (hb : b.size ≤ 1048576) : L.law_RxGroups a b true := by
  have hh : L.law_heads true := L.R_heads
  rcases parse_all (s := a) (by omega) with ⟨xa, ra, ba, pa⟩ | ⟨_, pa⟩
  rotate_left
  · rcases parse_all (s := b) (by omega) with ⟨xb, rb, bb, pb'⟩ | ⟨_, pb'⟩
    · exact L.law_RxGroups_r0 pa pb' (by decide) hh
    · exact L.law_RxGroups_r0 pa pb' (by decide) hh
  rcases parse_all (s := b) (by omega) with ⟨xb, rb, bb, pb'⟩ | ⟨_, pb'⟩
  rotate_left
  · exact L.law_RxGroups_r1 pa pb' rfl (by decide) hh
  have hw : w64 ((a.size : Int) + (b.size : Int)) := in64 (by omega) (by omega)
  by_cases h5 : ((a.size : Int) + (b.size : Int)) > 4000
  · exact L.law_RxGroups_r2 pa pb' rfl rfl hw h5 hh
  have da := deep_run (s := a) (by omega)
  by_cases ka : (strInts a).count 40 > 190
  · rw [decide_eq_true ka] at da; exact L.law_RxGroups_r3 pa pb' rfl rfl hw h5 da hh
  rw [decide_eq_false ka] at da
  have db := deep_run (s := b) (by omega)
  by_cases kb : (strInts b).count 40 > 190
  · rw [decide_eq_true kb] at db; exact L.law_RxGroups_r4 pa pb' rfl rfl hw h5 da db hh
  rw [decide_eq_false kb] at db
  obtain ⟨A, gA, _, mA⟩ := ra
  obtain ⟨B, gB, _, mB⟩ := rb
  have la := gA.len
  have lb := gB.len
  have sa := strInts_length a
  have sb := strInts_length b
  have PA := pat_of mA (by rw [← gA.count]; omega)
  have PB := pat_of mB (by rw [← gB.count]; omega)
  have up : ∀ {C : List Int} {x : PT} {M' : Nat}, Pat (4 * C.length + 4) C x → 4 * C.length + 4 ≤ M' → Pat M' C x := fun h hm m d hm' h0 h1 => h m d (by omega) h0 h1
  have PA' := up PA (M' := 4 * A.length + 4 * B.length + 4) (by omega)
  have PB' := up PB (M' := 4 * A.length + 4 * B.length + 4) (by omega)
  have mono : ∀ {n m : Nat} {l : List Int} {x : PT}, n ≤ m → l.count 40 ≤ 200 → patP n 0 l = .ok (x, []) → patP m 0 l = .ok (x, []) := fun hm hc h => (dp5 _).pat _ 0 0 200 hm (by omega) hc h
  have sz : ∀ x y : ByteArray, (x ++ y).size = x.size + y.size := fun x y => ByteArray.size_append
  -- one behind the other
  have R1 : Reads (((((⟨#[40, 63, 58]⟩ : ByteArray) ++ a) ++ (⟨#[41, 40]⟩ : ByteArray)) ++ b) ++ (⟨#[41]⟩ : ByteArray)) (.node 3 [] 0 0 false [ptOf xa, ptOf xb]) := by
    refine ⟨40 :: 63 :: 58 :: (A ++ 41 :: 40 :: (B ++ 41 :: [])), ?_, ?_, parseM_pat.2 ?_⟩
    · simp only [strInts_append]
      have := (GP.ascii (l := [40, 63, 58]) (by decide)).append (gA.append ((GP.ascii (l := [41, 40]) (by decide)).append (gB.append (GP.ascii (l := [41]) (by decide)))))
      simpa [strInts, List.append_assoc] using this
    · simp only [sz]
      show 3 + a.size + 2 + b.size + 1 ≤ 4096
      omega
    · have e : 4 * (40 :: 63 :: 58 :: (A ++ 41 :: 40 :: (B ++ 41 :: []))).length + 4 = (4 * A.length + 4 * B.length + 22) + 6 := by simp; omega
      rw [e]
      exact two_row (up PA (by omega)) (up PB (by omega))
  have R2 : Reads (((((⟨#[40]⟩ : ByteArray) ++ a) ++ (⟨#[41, 124, 40, 63, 58]⟩ : ByteArray)) ++ b) ++ (⟨#[41]⟩ : ByteArray)) (.node 4 [] 0 0 false [ptOf xa, ptOf xb]) := by
    refine ⟨40 :: (A ++ 41 :: 124 :: 40 :: 63 :: 58 :: (B ++ 41 :: [])), ?_, ?_, parseM_pat.2 ?_⟩
    · simp only [strInts_append]
      have := (GP.ascii (l := [40]) (by decide)).append (gA.append ((GP.ascii (l := [41, 124, 40, 63, 58]) (by decide)).append (gB.append (GP.ascii (l := [41]) (by decide)))))
      simpa [strInts, List.append_assoc] using this
    · simp only [sz]
      show 1 + a.size + 5 + b.size + 1 ≤ 4096
      omega
    · have e : 4 * (40 :: (A ++ 41 :: 124 :: 40 :: 63 :: 58 :: (B ++ 41 :: []))).length + 4 = (4 * A.length + 4 * B.length + 26) + 6 := by simp; omega
      rw [e]
      exact two_alt (up PA (by omega)) (up PB (by omega))
  have R3 : Reads (((⟨#[40, 40, 63, 58]⟩ : ByteArray) ++ a) ++ (⟨#[41, 41]⟩ : ByteArray)) (ptOf xa) := by
    refine ⟨40 :: ((40 :: 63 :: 58 :: (A ++ 41 :: [])) ++ 41 :: []), ?_, ?_, parseM_pat.2 ?_⟩
    · simp only [strInts_append]
      have := (GP.ascii (l := [40, 40, 63, 58]) (by decide)).append (gA.append (GP.ascii (l := [41, 41]) (by decide)))
      simpa [strInts, List.append_assoc] using this
    · simp only [sz]
      show 4 + a.size + 2 ≤ 4096
      omega
    · have e : 4 * (40 :: ((40 :: 63 :: 58 :: (A ++ 41 :: [])) ++ 41 :: [])).length + 4 = (4 * A.length + 18) + 10 := by simp; omega
      rw [e]
      exact one_twice (up PA (by omega))
  have get : ∀ {s : ByteArray} {q : PT}, s.size ≤ 5000 → Reads s q → ∃ x, ptOf x = q ∧ L.rx_Parse s x 0 := by
    intro s q hs hq
    rcases parse_all (s := s) (by omega) with ⟨x, r, _, p⟩ | ⟨n, _⟩
    · exact ⟨x, reads_uniq r hq, p⟩
    · exact (n _ hq).elim
  obtain ⟨x1, e1, p1⟩ := get (by simp only [sz]; show 3 + a.size + 2 + b.size + 1 ≤ 5000; omega) R1
  obtain ⟨x2, e2, p2⟩ := get (by simp only [sz]; show 1 + a.size + 5 + b.size + 1 ≤ 5000; omega) R2
  obtain ⟨x3, e3, p3⟩ := get (by simp only [sz]; show 4 + a.size + 2 ≤ 5000; omega) R3
  have two : ∀ {x : Rx} {k : Int} {u v : PT}, ptOf x = .node k [] 0 0 false [u, v] → x.Kind = k ∧ ∃ y0 y1, x.Sub.xs = [y0, y1] ∧ ptOf y0 = u ∧ ptOf y1 = v := by
    intro x k u v h
    rw [ptOf_eq] at h
    injection h with h1 h2 h3 h4 h5 h6
    match hx : x.Sub.xs, h6 with
    | [y0, y1], h6 =>
      simp at h6
      exact ⟨h1, y0, y1, rfl, h6.1, h6.2⟩
    | [], h6 => simp at h6
    | [_], h6 => simp at h6
    | _ :: _ :: _ :: _, h6 => simp at h6
  obtain ⟨k1, y0, y1, s1, j0, j1⟩ := two e1
  obtain ⟨k2, y2, y3, s2, j2, j3⟩ := two e2
  have B1 : ∀ {x y : Nat}, x ≤ 5000 → y ≤ 5000 → x + y ≤ 9223372036854775807 := fun hx hy => by omega
  exact L.law_RxGroups_r5 (y0 := y0) (y1 := y1) (y2 := y2) (y3 := y3) pa pb' rfl rfl hw h5 da db
    (B1 (by decide) (by omega)) (B1 (by simp only [sz]; show 3 + a.size ≤ 5000; omega) (by decide)) (B1 (by simp only [sz]; show 3 + a.size + 2 ≤ 5000; omega) (by omega)) (B1 (by simp only [sz]; show 3 + a.size + 2 + b.size ≤ 5000; omega) (by decide)) p1
    (B1 (by decide) (by omega)) (B1 (by simp only [sz]; show 1 + a.size ≤ 5000; omega) (by decide)) (B1 (by simp only [sz]; show 1 + a.size + 5 ≤ 5000; omega) (by omega)) (B1 (by simp only [sz]; show 1 + a.size + 5 + b.size ≤ 5000; omega) (by decide)) p2
    (B1 (by decide) (by omega)) (B1 (by simp only [sz]; show 4 + a.size ≤ 5000; omega) (by decide)) p3 rfl rfl rfl k1 k2 (by rw [s1]; rfl) (by rw [s2]; rfl)
    (by rw [s1]; rfl) (same_run ba _ _ j0 rfl) (by rw [s1]; rfl) (same_run bb _ _ j1 rfl) (by rw [s2]; rfl) (same_run ba _ _ j2 rfl) (by rw [s2]; rfl) (same_run bb _ _ j3 rfl) (same_run ba _ _ e3 rfl) hh
end
end Go.Proofs.Ytpghocjfmddpkaa.V

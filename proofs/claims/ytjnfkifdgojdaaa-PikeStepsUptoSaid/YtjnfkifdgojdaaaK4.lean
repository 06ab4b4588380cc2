/- Contracts: valid text, its code points, by the program and by the document's answer. -/
import Derived.Test.YtjnfkifdgojdaaaVP
import Derived.Test.YtjnfkifdgojdaaaK2
namespace Go.Proofs.Ytjnfkifdgojdaaa.V
open Go
set_option linter.unusedVariables false
set_option linter.unnecessarySimpa false
set_option linter.unusedSimpArgs false
set_option linter.unusedSectionVars false
theorem drop_cons {α : Type} {l : List α} {k : Nat} {y : α} {r : List α} (h : l.drop k = y :: r) : l[k]? = some y ∧ l.drop (k + 1) = r ∧ k < l.length := by
  have hl : k < l.length := by
    apply Classical.byContradiction
    intro hn
    rw [List.drop_eq_nil_of_le (by omega)] at h
    cases h
  rw [List.drop_eq_getElem_cons hl] at h
  obtain ⟨h1, h2⟩ := List.cons.inj h
  exact ⟨by rw [List.getElem?_eq_getElem hl, h1], h2, hl⟩
theorem drop_len {α : Type} {l : List α} {k : Nat} (h : l.drop k = []) : l.length ≤ k := by simpa using h
theorem goes_run (c : Int) : ∃ lo hi, utf_goes c (goesL c) lo hi ∧ (0 < goesL c → lo = lowB c ∧ hi = highB c) := by
  unfold goesL
  by_cases h1 : c < 128
  · rw [if_pos h1]; exact ⟨_, _, utf_goes_r0 h1, fun h => by omega⟩
  · rw [if_neg h1]
    by_cases h2 : c < 194
    · rw [if_pos (.inl h2)]; exact ⟨_, _, utf_goes_r1 h1 h2, fun h => by omega⟩
    · by_cases h3 : c > 244
      · rw [if_pos (.inr h3)]; exact ⟨_, _, utf_goes_r2 h1 h2 h3, fun h => by omega⟩
      · rw [if_neg (by omega)]
        unfold lowB highB
        by_cases h4 : c < 224
        · rw [if_pos h4]; exact ⟨_, _, utf_goes_r3 h1 h2 h3 h4, fun _ => by rw [if_neg (by omega), if_neg (by omega), if_neg (by omega), if_neg (by omega)]; exact ⟨rfl, rfl⟩⟩
        · rw [if_neg h4]
          by_cases h5 : c = 224
          · rw [if_pos (by omega)]; exact ⟨_, _, utf_goes_r4 h1 h2 h3 h4 h5, fun _ => by simp [h5]⟩
          · by_cases h6 : c = 237
            · rw [if_pos (by omega)]; exact ⟨_, _, utf_goes_r5 h1 h2 h3 h4 h5 h6, fun _ => by simp [h6]⟩
            · by_cases h7 : c < 240
              · rw [if_pos h7]; exact ⟨_, _, utf_goes_r6 h1 h2 h3 h4 h5 h6 h7, fun _ => by simp [h5, h6]; omega⟩
              · rw [if_neg h7]
                by_cases h8 : c = 240
                · exact ⟨_, _, utf_goes_r7 h1 h2 h3 h4 h5 h6 h7 h8, fun _ => by simp [h8]⟩
                · by_cases h9 : c = 244
                  · exact ⟨_, _, utf_goes_r8 h1 h2 h3 h4 h5 h6 h7 h8 h9, fun _ => by simp [h9]⟩
                  · exact ⟨_, _, utf_goes_r9 h1 h2 h3 h4 h5 h6 h7 h8 h9, fun _ => by simp [h5, h6, h8, h9]⟩
theorem goesL_le (c : Int) : goesL c ≤ 3 := by unfold goesL; split <;> (try split) <;> (try split) <;> (try split) <;> omega
def isBytes (l : List Int) : Prop := ∀ x ∈ l, 0 ≤ x ∧ x < 256
theorem utf_good_loop {b : SL Int} (hb : isBytes b.xs) (hs : b.xs.length < 1000000000000000) : ∀ (rest : List Int) (i : Nat) (left low high : Int), b.xs.drop i = rest → 0 ≤ left → left ≤ 3 →
    (GM rest left low high ∧ ∃ lo hi z, utf_Good_l0 b left low high b (b.xs.length : Int) i (utf_Good_l0_x1 b 0 lo hi b (b.xs.length : Int) z)) ∨
    (¬ GM rest left low high ∧ ((∃ z, utf_Good_l0 b left low high b (b.xs.length : Int) i (utf_Good_l0_x0 z)) ∨ ∃ k lo hi z, k ≠ 0 ∧ utf_Good_l0 b left low high b (b.xs.length : Int) i (utf_Good_l0_x1 b k lo hi b (b.xs.length : Int) z)))
  | [], i, left, low, high, hd, h0, h3 => by
    have hl := drop_len hd
    by_cases h : left = 0
    · subst h
      exact .inl ⟨gm0.2 good_nil, _, _, _, utf_Good_l0_e5 (by omega)⟩
    · exact .inr ⟨gm_nil (by omega), .inr ⟨left, _, _, _, h, utf_Good_l0_e5 (by omega)⟩⟩
  | c :: r, i, left, low, high, hd, h0, h3 => by
    obtain ⟨k1, k2, k3⟩ := drop_cons hd
    have kg : b.xs[((i : Nat) : Int).toNat]? = some c := by rw [Int.toNat_natCast]; exact k1
    have hc := hb c (List.mem_of_getElem? k1)
    have w1 : w64 ((i : Int) + 1) := in64 (by omega) (by omega)
    have ei : ((i : Int) + 1) = ((i + 1 : Nat) : Int) := by omega
    by_cases h : left = 0
    · subst h
      obtain ⟨lo, hi, g1, g2⟩ := goes_run c
      have hg3 := goesL_le c
      rw [gm0, good_cons hc.1]
      by_cases hn : goesL c < 0
      · exact .inr ⟨fun h => by omega, .inl ⟨_, utf_Good_l0_e0 (by omega) (by omega) kg rfl g1 hn⟩⟩
      · have e : GM r (goesL c) lo hi ↔ GM r (goesL c) (lowB c) (highB c) := by
          by_cases hz : goesL c = 0
          · rw [hz, gm0, gm0]
          · obtain ⟨e1, e2⟩ := g2 (by omega)
            rw [e1, e2]
        have st : ∀ {rs_ : Ex × XSt}, utf_Good_l0 b (goesL c) lo hi b (b.xs.length : Int) ((i + 1 : Nat) : Int) rs_ → utf_Good_l0 b 0 low high b (b.xs.length : Int) i rs_ := fun hk => utf_Good_l0_s1 (by omega) (by omega) kg rfl g1 hn w1 (by rw [ei]; exact hk)
        rcases utf_good_loop hb hs r (i + 1) (goesL c) lo hi k2 (by omega) hg3 with ⟨j1, l', h', z, j2⟩ | ⟨j1, ⟨z, j2⟩ | ⟨k, l', h', z, j3, j2⟩⟩
        · exact .inl ⟨⟨by omega, e.1 j1⟩, _, _, _, st j2⟩
        · exact .inr ⟨fun h => j1 (e.2 h.2), .inl ⟨_, st j2⟩⟩
        · exact .inr ⟨fun h => j1 (e.2 h.2), .inr ⟨k, _, _, _, j3, st j2⟩⟩
    · rw [gm_cons (by omega)]
      by_cases hl : c < low
      · exact .inr ⟨fun h => by omega, .inl ⟨_, utf_Good_l0_e2 (by omega) (by omega) kg h hl⟩⟩
      · by_cases hh : c > high
        · exact .inr ⟨fun h => by omega, .inl ⟨_, utf_Good_l0_e3 (by omega) (by omega) kg h hl hh⟩⟩
        · have w2 : w64 (left - 1) := in64 (by omega) (by omega)
          have st : ∀ {rs_ : Ex × XSt}, utf_Good_l0 b (left - 1) 128 191 b (b.xs.length : Int) ((i + 1 : Nat) : Int) rs_ → utf_Good_l0 b left low high b (b.xs.length : Int) i rs_ := fun hk => utf_Good_l0_s4 (by omega) (by omega) kg h hl hh w2 w1 (by rw [ei]; exact hk)
          rcases utf_good_loop hb hs r (i + 1) (left - 1) 128 191 k2 (by omega) (by omega) with ⟨j1, l', h', z, j2⟩ | ⟨j1, ⟨z, j2⟩ | ⟨k, l', h', z, j3, j2⟩⟩
          · exact .inl ⟨⟨by omega, j1⟩, _, _, _, st j2⟩
          · exact .inr ⟨fun h => j1 h.2, .inl ⟨_, st j2⟩⟩
          · exact .inr ⟨fun h => j1 h.2, .inr ⟨k, _, _, _, j3, st j2⟩⟩
theorem utf_good_run {b : SL Int} (hb : isBytes b.xs) (hs : b.xs.length < 1000000000000000) : (GoodT b.xs ∧ ∃ n, utf_Good b n true) ∨ (¬ GoodT b.xs ∧ ∃ n, utf_Good b n false) := by
  rcases utf_good_loop hb hs b.xs 0 0 128 191 (by simp) (by decide) (by decide) with ⟨j1, l', h', z, j2⟩ | ⟨j1, ⟨z, j2⟩ | ⟨k, l', h', z, j3, j2⟩⟩
  · exact .inl ⟨gm0.1 j1, _, utf_Good_r1 j2 rfl⟩
  · exact .inr ⟨fun h => j1 (gm0.2 h), _, utf_Good_r0 j2⟩
  · exact .inr ⟨fun h => j1 (gm0.2 h), _, utf_Good_r2 j2 j3⟩
theorem strInts_bytes {l : List Int} (hb : isBytes l) : strInts (⟨(bytesOf l).toArray⟩ : ByteArray) = l := by
  unfold strInts bytesOf
  simp only [List.map_map]
  conv => rhs; rw [← List.map_id l]
  apply List.map_congr_left
  intro x hx
  have := hb x hx
  simp only [Function.comp, UInt8.toNat_ofNat', id]
  omega
theorem utf_points_loop {s : ByteArray} (hs : s.size < 1000000000000) : ∀ (q : List Int) (i : Nat) (out : List Int) (t : Bool), GP ((strInts s).drop i) q → out.length + q.length < 1000000000000 → ∃ z t', utf_Points_l0 out s i t (utf_Points_l0_x0 (out ++ q) s z t')
  | [], i, out, t, h, hl => by
    have hn : (strInts s).drop i = [] := by
      cases hd : (strInts s).drop i with
      | nil => rfl
      | cons x r => rw [hd] at h; cases h
    have : ¬ i < s.size := by
      have := drop_len hn
      have e : (strInts s).length = s.size := by unfold strInts; rw [List.length_map, Array.length_toList]; rfl
      omega
    rw [List.append_nil]
    exact ⟨_, _, utf_Points_l0_e1 this⟩
  | x :: q, i, out, t, h, hl => by
    have hne : (strInts s).drop i ≠ [] := by
      intro e
      rw [e] at h
      cases h
    obtain ⟨c, w, q', h1, h2, h3, h4, h5, h6⟩ := gp_decode rfl h hne
    cases h2
    simp only [List.length_cons] at hl
    have hc : c < 2000000 := by
      have := Lib.decode_at s i
      rw [h1] at this
      have h9 : c = (Lib.decodeN (s.size - i) (s.get! i).toNat (s.get! (i + 1)).toNat (s.get! (i + 2)).toNat (s.get! (i + 3)).toNat).1 := by rw [← this]
      have b0 := UInt8.toNat_lt (s.get! i)
      rw [h9]
      unfold Lib.decodeN
      repeat' split
      all_goals first | omega | (dsimp only; omega)
    obtain ⟨z, t', g⟩ := utf_points_loop hs q (i + w) (out ++ [(c : Int)]) false h3 (by simp; omega)
    rw [List.append_assoc] at g
    exact ⟨z, t', utf_Points_l0_s0 h4 h1 (in64 (by omega) (by omega)) (by omega) g⟩
theorem utf_points_run {b : SL Int} (hb : isBytes b.xs) (hs : b.xs.length < 100000000000) : (∃ p t, GP b.xs p ∧ utf_Points b ⟨1, p, t⟩ 0) ∨ (¬ GoodT b.xs ∧ utf_Points b ⟨1, [], true⟩ 10) := by
  rcases utf_good_run hb (by omega) with ⟨⟨p, hp⟩, n, h⟩ | ⟨hn, n, h⟩
  · have e := strInts_bytes hb
    have hsz : (⟨(bytesOf b.xs).toArray⟩ : ByteArray).size = b.xs.length := by
      show ((bytesOf b.xs).toArray).size = _
      simp [bytesOf]
    obtain ⟨z, t, g⟩ := utf_points_loop (s := ⟨(bytesOf b.xs).toArray⟩) (by rw [hsz]; omega) p 0 [] true (by rw [e, List.drop_zero]; exact hp) (by have := hp.len; simp; omega)
    rw [List.nil_append] at g
    exact .inl ⟨p, t, hp, utf_Points_r0 h g⟩
  · exact .inr ⟨hn, utf_Points_r1 h⟩
/-! ### The document's answer -/
/-- So many bytes go on, and what is behind them. -/
inductive Pre : Int → Int → Int → List Int → List Int → Prop
  | base {lo hi l} : Pre 0 lo hi l l
  | more {c l k lo hi r} (hk : 0 < k) (hc : lo ≤ c ∧ c ≤ hi) (h : Pre (k - 1) 128 191 l r) : Pre k lo hi (c :: l) r
theorem gm_pre {l r : List Int} {k lo hi : Int} (h : Pre k lo hi l r) : GM l k lo hi ↔ GoodT r := by
  induction h with
  | base => exact gm0
  | more hk hc h ih => rw [gm_cons hk, ih]; exact ⟨fun x => x.2, fun x => ⟨hc, x⟩⟩
theorem gm_has {l : List Int} {k lo hi : Int} (h : GM l k lo hi) : ∃ r, Pre k lo hi l r := by
  induction h with
  | base _ => exact ⟨_, .base⟩
  | more hk hc _ ih => obtain ⟨r, hr⟩ := ih; exact ⟨r, .more hk hc hr⟩
theorem length_run {c : Int} : (goesL c < 0 ∧ ref01_length c 0) ∨ (0 ≤ goesL c ∧ ref01_length c (goesL c + 1)) := by
  unfold goesL
  by_cases h1 : c < 128
  · rw [if_pos h1]; exact .inr ⟨by omega, ref01_length_r0 h1⟩
  · rw [if_neg h1]
    by_cases h2 : c < 194
    · rw [if_pos (.inl h2)]
      exact .inl ⟨by omega, ref01_length_r15 h1 (by omega) (by omega) (by omega)⟩
    · by_cases h3 : c > 244
      · rw [if_pos (.inr h3)]
        exact .inl ⟨by omega, ref01_length_r4 h1 (by omega) (by omega) (by omega) (by omega) (by omega) (by omega)⟩
      · rw [if_neg (by omega)]
        by_cases h4 : c < 224
        · rw [if_pos h4]; exact .inr ⟨by omega, ref01_length_r1 h1 (by omega) (by omega)⟩
        · rw [if_neg h4]
          by_cases h5 : c < 240
          · rw [if_pos h5]; exact .inr ⟨by omega, ref01_length_r2 h1 (by omega) (by omega) (by omega) (by omega)⟩
          · rw [if_neg h5]; exact .inr ⟨by omega, ref01_length_r3 h1 (by omega) (by omega) (by omega) (by omega) (by omega) (by omega)⟩
theorem second_run {c d : Int} : ref01_second c d (decide (lowB c ≤ d ∧ d ≤ highB c)) := by
  unfold lowB highB
  by_cases h1 : c = 224
  · rw [if_pos h1, if_neg (by omega), if_neg (by omega)]
    by_cases a : d ≥ 160
    · by_cases b : d ≤ 191
      · rw [decide_eq_true ⟨a, b⟩]; exact ref01_second_r0 h1 a b
      · rw [decide_eq_false (by omega)]; exact ref01_second_r1 h1 a b
    · rw [decide_eq_false (by omega)]; exact ref01_second_r2 h1 a
  · rw [if_neg h1]
    by_cases h2 : c = 237
    · rw [if_neg (by omega), if_pos h2]
      by_cases a : d ≥ 128
      · by_cases b : d ≤ 159
        · rw [decide_eq_true ⟨a, b⟩]; exact ref01_second_r3 h1 h2 a b
        · rw [decide_eq_false (by omega)]; exact ref01_second_r4 h1 h2 a b
      · rw [decide_eq_false (by omega)]; exact ref01_second_r5 h1 h2 a
    · rw [if_neg h2]
      by_cases h3 : c = 240
      · rw [if_pos h3, if_neg (by omega)]
        by_cases a : d ≥ 144
        · by_cases b : d ≤ 191
          · rw [decide_eq_true ⟨a, b⟩]; exact ref01_second_r6 h1 h2 h3 a b
          · rw [decide_eq_false (by omega)]; exact ref01_second_r7 h1 h2 h3 a b
        · rw [decide_eq_false (by omega)]; exact ref01_second_r8 h1 h2 h3 a
      · rw [if_neg h3]
        by_cases h4 : c = 244
        · rw [if_pos h4]
          by_cases a : d ≥ 128
          · by_cases b : d ≤ 143
            · rw [decide_eq_true ⟨a, b⟩]; exact ref01_second_r9 h1 h2 h3 h4 a b
            · rw [decide_eq_false (by omega)]; exact ref01_second_r10 h1 h2 h3 h4 a b
          · rw [decide_eq_false (by omega)]; exact ref01_second_r11 h1 h2 h3 h4 a
        · rw [if_neg h4]
          by_cases a : d ≥ 128
          · by_cases b : d ≤ 191
            · rw [decide_eq_true ⟨a, b⟩]; exact ref01_second_r12 h1 h2 h3 h4 a b
            · rw [decide_eq_false (by omega)]; exact ref01_second_r13 h1 h2 h3 h4 a b
          · rw [decide_eq_false (by omega)]; exact ref01_second_r14 h1 h2 h3 h4 a
/-- Behind the second byte. -/
theorem step_loop {b : SL Int} {i : Nat} {n : Int} (hs : b.xs.length < 1000000000000000) (hn : n ≤ 4) : ∀ (rest : List Int) (j : Nat), b.xs.drop (i + j) = rest → 2 ≤ j → (j : Int) ≤ n → i + j ≤ b.xs.length →
    (∃ r, Pre (n - j) 128 191 rest r ∧ b.xs.drop (i + n.toNat) = r ∧ i + n.toNat ≤ b.xs.length ∧ ∃ z, ref01_step_l0 b i n j (ref01_step_l0_x1 b i n z)) ∨ ((¬ ∃ r, Pre (n - j) 128 191 rest r) ∧ ∃ z, 0 ≤ z ∧ z ≤ 4 ∧ ref01_step_l0 b i n j (ref01_step_l0_x0 z)) := by
  intro rest
  induction rest with
  | nil =>
    intro j hd h2 hj hle
    by_cases h : (j : Int) = n
    · left
      refine ⟨[], by rw [show n - j = 0 by omega]; exact .base, by rw [show i + n.toNat = i + j by omega]; exact hd, by omega, _, ref01_step_l0_e10 (by omega)⟩
    · right
      have hl := drop_len hd
      refine ⟨fun ⟨r, hr⟩ => ?_, j, by omega, by omega, ref01_step_l0_e0 (by omega) (in64 (by omega) (by omega)) (by omega)⟩
      generalize hk : n - (j : Int) = k at hr
      cases hr with
      | base => omega
  | cons c rest ih =>
    intro j hd h2 hj hle
    by_cases h : (j : Int) = n
    · left
      refine ⟨c :: rest, by rw [show n - j = 0 by omega]; exact .base, by rw [show i + n.toNat = i + j by omega]; exact hd, by omega, _, ref01_step_l0_e10 (by omega)⟩
    · obtain ⟨k1, k2, k3⟩ := drop_cons hd
      have kg : b.xs[((i : Int) + j).toNat]? = some c := by rw [show ((i : Int) + j).toNat = i + j by omega]; exact k1
      have w1 : w64 ((i : Int) + j) := in64 (by omega) (by omega)
      have w2 : w64 ((j : Int) + 1) := in64 (by omega) (by omega)
      have bad : ¬ (128 ≤ c ∧ c ≤ 191) → ¬ ∃ r, Pre (n - j) 128 191 (c :: rest) r := fun hb ⟨r, hr⟩ => by
        generalize hk : n - (j : Int) = k at hr
        cases hr with
        | base => omega
        | more _ hc _ => exact hb hc
      by_cases hl : c < 128
      · exact .inr ⟨bad (by omega), j, by omega, by omega, ref01_step_l0_e6 (by omega) w1 (by omega) (by omega) kg (by omega) (by omega) hl⟩
      · by_cases hh : c > 191
        · exact .inr ⟨bad (by omega), j, by omega, by omega, ref01_step_l0_e7 (by omega) w1 (by omega) (by omega) kg (by omega) (by omega) hl hh⟩
        · have st : ∀ {rs_ : Ex × XSt}, ref01_step_l0 b i n ((j + 1 : Nat) : Int) rs_ → ref01_step_l0 b i n j rs_ := fun hk => ref01_step_l0_s8 (by omega) w1 (by omega) (by omega) kg (by omega) (by omega) hl hh w2 (by rw [show (j : Int) + 1 = ((j + 1 : Nat) : Int) by omega]; exact hk)
          have ek : n - ((j + 1 : Nat) : Int) = n - j - 1 := by omega
          rcases ih (j + 1) (by rw [← k2]; congr 1) (by omega) (by omega) (by omega) with ⟨r, g1, g2, g3, z, g4⟩ | ⟨g1, z, g2, g3, g4⟩
          · rw [ek] at g1
            exact .inl ⟨r, .more (by omega) (by omega) g1, g2, g3, z, st g4⟩
          · refine .inr ⟨fun ⟨r, hr⟩ => g1 ⟨r, ?_⟩, z, g2, g3, st g4⟩
            rw [ek]
            generalize hk : n - (j : Int) = k at hr
            cases hr with
            | base => omega
            | more _ _ h => exact h
theorem step_run {b : SL Int} {i : Nat} {c : Int} {l : List Int} (hs : b.xs.length < 1000000000000000) (hd : b.xs.drop i = c :: l) :
    (∃ r, 0 ≤ goesL c ∧ Pre (goesL c) (lowB c) (highB c) l r ∧ b.xs.drop (i + (goesL c + 1).toNat) = r ∧ i + (goesL c + 1).toNat ≤ b.xs.length ∧ ref01_step b i (goesL c + 1) true) ∨ ((¬ (0 ≤ goesL c ∧ ∃ r, Pre (goesL c) (lowB c) (highB c) l r)) ∧ ∃ z, 0 ≤ z ∧ z ≤ 4 ∧ ref01_step b i z false) := by
  obtain ⟨k1, k2, k3⟩ := drop_cons hd
  have kg : b.xs[((i : Nat) : Int).toNat]? = some c := by rw [Int.toNat_natCast]; exact k1
  have hg3 := goesL_le c
  rcases length_run (c := c) with ⟨h1, h2⟩ | ⟨h1, h2⟩
  · exact .inr ⟨fun h => by omega, 0, by omega, by omega, ref01_step_r0 (by omega) kg h2 rfl⟩
  · by_cases h0 : goesL c = 0
    · rw [h0] at h2 ⊢
      refine .inl ⟨l, Int.le_refl _, .base, k2, by omega, ?_⟩
      exact ref01_step_r2 (z0 := 1) (by omega) kg h2 (by decide) (ref01_step_l0_e10 (by decide))
    · cases l with
      | nil =>
        have hl := drop_len k2
        refine .inr ⟨fun ⟨_, r, hr⟩ => ?_, 1, by omega, by omega, ref01_step_r1 (by omega) kg h2 (by omega) (ref01_step_l0_e0 (by omega) (in64 (by omega) (by omega)) (by omega))⟩
        generalize goesL c = k at *
        cases hr with
        | base => exact h0 rfl
      | cons d l =>
        obtain ⟨j1, j2, j3⟩ := drop_cons k2
        have jg : b.xs[((i : Int) + 1).toNat]? = some d := by rw [show ((i : Int) + 1).toNat = i + 1 by omega]; exact j1
        have w1 : w64 ((i : Int) + 1) := in64 (by omega) (by omega)
        have sr := second_run (c := c) (d := d)
        by_cases hin : lowB c ≤ d ∧ d ≤ highB c
        · rw [decide_eq_true hin] at sr
          have st : ∀ {rs_ : Ex × XSt}, ref01_step_l0 b i (goesL c + 1) ((2 : Nat) : Int) rs_ → ref01_step_l0 b i (goesL c + 1) 1 rs_ := fun hk => ref01_step_l0_s4 (by omega) w1 (by omega) (by omega) jg rfl (by omega) kg sr (by decide) (by decide) hk
          rcases step_loop (b := b) (i := i) (n := goesL c + 1) hs (by omega) l 2 (by rw [← j2]) (by omega) (by omega) (by omega) with ⟨r, g1, g2, g3, z, g4⟩ | ⟨g1, z, g2, g3, g4⟩
          · rw [show goesL c + 1 - ((2 : Nat) : Int) = goesL c - 1 by omega] at g1
            exact .inl ⟨r, h1, .more (by omega) hin g1, g2, g3, ref01_step_r2 (by omega) kg h2 (by omega) (st g4)⟩
          · refine .inr ⟨fun ⟨_, r, hr⟩ => g1 ⟨r, ?_⟩, z, g2, g3, ref01_step_r1 (by omega) kg h2 (by omega) (st g4)⟩
            rw [show goesL c + 1 - ((2 : Nat) : Int) = goesL c - 1 by omega]
            generalize goesL c = k at *
            cases hr with
            | base => exact absurd rfl h0
            | more _ _ h => exact h
        · rw [decide_eq_false hin] at sr
          refine .inr ⟨fun ⟨_, r, hr⟩ => ?_, 1, by omega, by omega, ref01_step_r1 (by omega) kg h2 (by omega) (ref01_step_l0_e5 (by omega) w1 (by omega) (by omega) jg rfl (by omega) kg sr)⟩
          generalize goesL c = k at *
          cases hr with
          | base => exact h0 rfl
          | more _ hc _ => exact hin hc
theorem ref_good_loop {b : SL Int} (hb : isBytes b.xs) (hs : b.xs.length < 1000000000000000) : ∀ (m i : Nat) (l : List Int), l.length ≤ m → b.xs.drop i = l → i ≤ b.xs.length → (GoodT l ∧ ∃ z, ref01_Good_l0 b i (ref01_Good_l0_x1 b z)) ∨ (¬ GoodT l ∧ ∃ z, ref01_Good_l0 b i (ref01_Good_l0_x0 z)) := by
  intro m
  induction m with
  | zero =>
    intro i l hm hd hi
    have : l = [] := List.length_eq_zero_iff.1 (by omega)
    subst this
    have := drop_len hd
    exact .inl ⟨good_nil, _, ref01_Good_l0_e2 (by omega)⟩
  | succ m ih =>
    intro i l hm hd hi
    cases l with
    | nil =>
      have := drop_len hd
      exact .inl ⟨good_nil, _, ref01_Good_l0_e2 (by omega)⟩
    | cons c l =>
      obtain ⟨k1, k2, k3⟩ := drop_cons hd
      have hc := hb c (List.mem_of_getElem? k1)
      have hg3 := goesL_le c
      rcases step_run hs hd with ⟨r, g1, g2, g3, g4, g5⟩ | ⟨g1, z, g2, g3, g4⟩
      · have w : w64 ((i : Int) + (goesL c + 1)) := in64 (by omega) (by omega)
        have hr : r.length ≤ m := by
          rw [← g3, List.length_drop]
          have := congrArg List.length hd
          rw [List.length_drop] at this
          simp only [List.length_cons] at hm this
          omega
        have e : GoodT (c :: l) ↔ GoodT r := by
          rw [good_cons hc.1, ← gm_pre g2]
          exact ⟨fun h => h.2, fun h => ⟨g1, h⟩⟩
        have st : ∀ {rs_ : Ex × XSt}, ref01_Good_l0 b ((i + (goesL c + 1).toNat : Nat) : Int) rs_ → ref01_Good_l0 b i rs_ := fun hk => ref01_Good_l0_s0 (by omega) g5 w (by rw [show (i : Int) + (goesL c + 1) = ((i + (goesL c + 1).toNat : Nat) : Int) by omega]; exact hk)
        rcases ih _ r hr g3 g4 with ⟨j1, z, j2⟩ | ⟨j1, z, j2⟩
        · exact .inl ⟨e.2 j1, z, st j2⟩
        · exact .inr ⟨fun h => j1 (e.1 h), z, st j2⟩
      · refine .inr ⟨fun h => g1 ?_, _, ref01_Good_l0_e1 (by omega) g4 (in64 (by omega) (by omega))⟩
        have := (good_cons hc.1).1 h
        exact ⟨this.1, gm_has this.2⟩
theorem ref_good_run {b : SL Int} (hb : isBytes b.xs) (hs : b.xs.length < 1000000000000000) : (GoodT b.xs ∧ ∃ z, ref01_Good b z true) ∨ (¬ GoodT b.xs ∧ ∃ z, ref01_Good b z false) := by
  rcases ref_good_loop hb hs _ 0 b.xs (Nat.le_refl _) (by simp) (by omega) with ⟨j1, z, j2⟩ | ⟨j1, z, j2⟩
  · exact .inl ⟨j1, z, ref01_Good_r1 j2⟩
  · exact .inr ⟨j1, z, ref01_Good_r0 j2⟩
/-! Bits -/
theorem bits_and {x : Int} {k : Nat} (h0 : 0 ≤ x) (h1 : x < 4294967296) (hk : k ≤ 6) : bitAnd .i64 x ((2 ^ k - 1 : Nat) : Int) = x % (2 ^ k : Nat) := by
  obtain ⟨n, rfl⟩ := Int.eq_ofNat_of_zero_le h0
  have hp : 2 ^ k ≤ 2 ^ 6 := Nat.pow_le_pow_right (by decide) hk
  have e : (BitVec.ofInt 64 (n : Int) &&& BitVec.ofInt 64 ((2 ^ k - 1 : Nat) : Int)).toNat = n % 2 ^ k := by
    rw [BitVec.toNat_and, BitVec.toNat_ofInt, BitVec.toNat_ofInt]
    have a1 : ((n : Int) % ((2 ^ 64 : Nat) : Int)).toNat = n := by omega
    have a2 : ((((2 ^ k - 1 : Nat) : Int)) % ((2 ^ 64 : Nat) : Int)).toNat = 2 ^ k - 1 := by omega
    rw [a1, a2, Nat.and_two_pow_sub_one_eq_mod]
  unfold bitAnd
  have e2 : (BitVec.ofInt IntKind.i64.bits (n : Int) &&& BitVec.ofInt IntKind.i64.bits ((2 ^ k - 1 : Nat) : Int)).toNat = n % 2 ^ k := e
  rw [e2]
  have := Nat.mod_lt n (show 0 < 2 ^ k from Nat.pow_pos (by decide))
  exact in64 (by omega) (by omega)
theorem bits_or {a r : Int} {k : Nat} (h0 : 0 ≤ a) (h1 : a < 65536) (hr0 : 0 ≤ r) (hr : r < (2 ^ k : Nat)) (hk : k ≤ 18) : bitOr .i64 (a * 2 ^ k) r = a * (2 ^ k : Nat) + r := by
  obtain ⟨m, rfl⟩ := Int.eq_ofNat_of_zero_le h0
  obtain ⟨n, rfl⟩ := Int.eq_ofNat_of_zero_le hr0
  have hp : 2 ^ k ≤ 2 ^ 18 := Nat.pow_le_pow_right (by decide) hk
  have hn : n < 2 ^ k := by omega
  have hm : m < 65536 := by omega
  have hml : m * 2 ^ k ≤ 65535 * 2 ^ 18 := Nat.mul_le_mul (by omega) hp
  have ec : ((m : Int) * 2 ^ k) = ((m * 2 ^ k : Nat) : Int) := by simp
  rw [ec]
  have e : (BitVec.ofInt 64 ((m * 2 ^ k : Nat) : Int) ||| BitVec.ofInt 64 (n : Int)).toNat = m * 2 ^ k + n := by
    rw [BitVec.toNat_or, BitVec.toNat_ofInt, BitVec.toNat_ofInt]
    have a1 : (((m * 2 ^ k : Nat) : Int) % ((2 ^ 64 : Nat) : Int)).toNat = m * 2 ^ k := by omega
    have a2 : ((n : Int) % ((2 ^ 64 : Nat) : Int)).toNat = n := by omega
    rw [a1, a2, Nat.mul_comm m, ← Nat.two_pow_add_eq_or_of_lt hn]
  unfold bitOr
  have e2 : (BitVec.ofInt IntKind.i64.bits ((m * 2 ^ k : Nat) : Int) ||| BitVec.ofInt IntKind.i64.bits (n : Int)).toNat = m * 2 ^ k + n := e
  rw [e2]
  have e3 : ((m * 2 ^ k + n : Nat) : Int) = (m : Int) * (2 ^ k : Nat) + n := by
    rw [Int.natCast_add, Int.natCast_mul]
  rw [e3] at *
  exact in64 (by omega) (by omega)
end Go.Proofs.Ytjnfkifdgojdaaa.V

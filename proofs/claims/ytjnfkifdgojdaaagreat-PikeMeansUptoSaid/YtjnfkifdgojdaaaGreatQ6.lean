/- What the law's own meaning of a tree is: places told by zeros and ones. -/
import Derived.Test.YtjnfkifdgojdaaaGreatMC
namespace Go.Proofs.YtjnfkifdgojdaaaGreat.V
open Go
set_option linter.unusedVariables false
set_option linter.unusedSimpArgs false
set_option linter.unusedSectionVars false
set_option linter.unnecessarySimpa false
def refWordB (p : Int) : Bool := decide ((97 ≤ p ∧ p ≤ 122) ∨ (65 ≤ p ∧ p ≤ 90) ∨ (48 ≤ p ∧ p ≤ 57) ∨ p = 95)
theorem or32_neg {p : Int} (h : -9223372036854775808 ≤ p) (h1 : p < 0) : bitOr .i64 p 32 < 0 := by
 have e : bitOr .i64 p 32 = IntKind.i64.wrap (((BitVec.ofInt 64 p ||| BitVec.ofInt 64 32).toNat : Nat) : Int) := rfl
 have l1 := (BitVec.ofInt 64 p ||| BitVec.ofInt 64 32).isLt
 have l2 : (BitVec.ofInt 64 p).toNat ≤ (BitVec.ofInt 64 p ||| BitVec.ofInt 64 32).toNat := by rw [BitVec.toNat_or]; exact Nat.left_le_or
 have l3 : 9223372036854775808 ≤ (BitVec.ofInt 64 p).toNat := by rw [BitVec.toNat_ofInt]; omega
 rw [e]
 generalize (BitVec.ofInt 64 p ||| BitVec.ofInt 64 32).toNat = u at *
 unfold IntKind.wrap
 simp [IntKind.signed, IntKind.bits]
 omega
theorem ref_word_run (p : Int) : ref11_Word p (refWordB p) := by
 have t : ((97 ≤ p ∧ p ≤ 122) ∨ (65 ≤ p ∧ p ≤ 90) ∨ (48 ≤ p ∧ p ≤ 57) ∨ p = 95) → ref11_Word p true → ref11_Word p (refWordB p) := fun h k => by unfold refWordB; rw [decide_eq_true h]; exact k
 have f : ¬ ((97 ≤ p ∧ p ≤ 122) ∨ (65 ≤ p ∧ p ≤ 90) ∨ (48 ≤ p ∧ p ≤ 57) ∨ p = 95) → ref11_Word p false → ref11_Word p (refWordB p) := fun h k => by unfold refWordB; rw [decide_eq_false h]; exact k
 by_cases a : p ≥ 97
 ·by_cases b : p ≤ 122
  ·exact t (by omega) (ref11_Word_r0 a b)
  ·exact f (by omega) (ref11_Word_r4 a b (by omega) (by omega) (by omega) (by omega) (by omega))
 ·by_cases c : p ≥ 65
  ·by_cases d : p ≤ 90
   ·exact t (by omega) (ref11_Word_r12 a c d)
   ·by_cases e : p = 95
    ·exact t (by omega) (ref11_Word_r14 a c d (by omega) (by omega) e)
    ·exact f (by omega) (ref11_Word_r15 a c d (by omega) (by omega) e)
  ·by_cases d : p ≥ 48
   ·by_cases e : p ≤ 57
    ·exact t (by omega) (ref11_Word_r18 a c d e)
    ·exact f (by omega) (ref11_Word_r20 a c d e (by omega))
   ·exact f (by omega) (ref11_Word_r22 a c d (by omega))
theorem word_small : ∀ n : Nat, n < 128 → refWordB (n : Int) = wordB (n : Int) := by decide +kernel
theorem word_eq {p : Int} (h : -9223372036854775808 ≤ p) : refWordB p = wordB p := by
 by_cases h0 : p < 0
 ·have := or32_neg h h0
  unfold refWordB wordB
  rw [decide_eq_false (by omega), decide_eq_false (by omega)]
 ·by_cases h1 : p < 128
  ·obtain ⟨n, rfl⟩ := Int.eq_ofNat_of_zero_le (Int.not_lt.1 h0)
   exact word_small n (by omega)
  ·unfold refWordB wordB
   rw [decide_eq_false (by omega), decide_eq_false (by omega)]
theorem ints_run {a b : SL Int} (h : a.xs = b.xs) (hs : a.xs.length < 100000000000) : ref01_Ints a b true := by
 have hl : a.xs.length = b.xs.length := by rw [h]
 suffices hh : ∀ (rest : List Int) (k : Nat), a.xs.drop k = rest → ∃ z, ref01_Ints_l0 a b k (ref01_Ints_l0_x1 a b z) from by
  obtain ⟨z, g⟩ := hh a.xs 0 (by simp)
  exact ref01_Ints_r2 (by omega) g
 intro rest
 induction rest with
 | nil =>
  intro k hd
  have := drop_nil_le hd
  exact ⟨_, ref01_Ints_l0_e2 (by omega)⟩
 | cons x rest ih =>
  intro k hd
  obtain ⟨k1, k2, k3⟩ := at_drop hd
  obtain ⟨z, g⟩ := ih (k + 1) k2
  exact ⟨z, ref01_Ints_l0_s1 (by omega) (by omega) k1 (by rw [← h]; exact k1) rfl (in64 (by omega) (by omega)) g⟩
def Bits (l : List Int) (P : Nat → Prop) (n : Nat) : Prop := l.length = n ∧ ∀ k, k < n → (l[k]? = some 1 ∧ P k) ∨ (l[k]? = some 0 ∧ ¬ P k)
theorem Bits.congr {l : List Int} {P Q : Nat → Prop} {n : Nat} (h : Bits l P n) (e : ∀ k, k < n → (P k ↔ Q k)) : Bits l Q n :=
 ⟨h.1, fun k hk => by
  rcases h.2 k hk with ⟨a, b⟩ | ⟨a, b⟩
  ·exact .inl ⟨a, (e k hk).1 b⟩
  ·exact .inr ⟨a, fun c => b ((e k hk).2 c)⟩⟩
theorem Bits.one {l : List Int} {P : Nat → Prop} {n k : Nat} (h : Bits l P n) (hk : k < n) : l[k]? = some 1 ↔ P k := by
 rcases h.2 k hk with ⟨a, b⟩ | ⟨a, b⟩
 ·exact ⟨fun _ => b, fun _ => a⟩
 ·exact ⟨fun c => by rw [a] at c; simp at c, fun c => absurd c b⟩
theorem Bits.get {l : List Int} {P : Nat → Prop} {n k : Nat} (h : Bits l P n) (hk : k < n) : ∃ y, l[k]? = some y ∧ (y = 1 ∨ y = 0) ∧ (y = 1 ↔ P k) := by
 rcases h.2 k hk with ⟨a, b⟩ | ⟨a, b⟩
 ·exact ⟨1, a, .inl rfl, fun _ => b, fun _ => rfl⟩
 ·exact ⟨0, a, .inr rfl, fun c => absurd c (by decide), fun c => absurd c b⟩
theorem bits_zero (n : Nat) : Bits (List.replicate n (0 : Int)) (fun _ => False) n := ⟨List.length_replicate, fun k hk => .inr ⟨by rw [List.getElem?_replicate, if_pos hk], fun h => h⟩⟩
theorem Bits.set {l : List Int} {P : Nat → Prop} {n a : Nat} (h : Bits l P n) : Bits (l.set a 1) (fun k => P k ∨ k = a) n := by
 refine ⟨by rw [List.length_set]; exact h.1, fun k hk => ?_⟩
 by_cases e : a = k
 ·subst e
  exact .inl ⟨by rw [List.getElem?_set_self (by rw [h.1]; exact hk)], .inr rfl⟩
 ·rw [List.getElem?_set_ne e]
  rcases h.2 k hk with ⟨a1, b⟩ | ⟨a1, b⟩
  ·exact .inl ⟨a1, .inl b⟩
  ·exact .inr ⟨a1, fun c => c.elim b (fun c => e c.symm)⟩
theorem Bits.ext {a b : List Int} {P Q : Nat → Prop} {n : Nat} (h : Bits a P n) (g : Bits b Q n) : a = b ↔ ∀ k, k < n → (P k ↔ Q k) := by
 constructor
 ·rintro rfl k hk
  exact (h.one hk).symm.trans (g.one hk)
 ·intro e
  apply List.ext_getElem?
  intro k
  rcases Nat.lt_or_ge k n with hk | hk
  ·rcases h.2 k hk with ⟨a1, b1⟩ | ⟨a1, b1⟩ <;> rcases g.2 k hk with ⟨a2, b2⟩ | ⟨a2, b2⟩
   ·rw [a1, a2]
   ·exact absurd ((e k hk).1 b1) b2
   ·exact absurd ((e k hk).2 b2) b1
   ·rw [a1, a2]
  ·rw [List.getElem?_eq_none (by rw [h.1]; exact hk), List.getElem?_eq_none (by rw [g.1]; exact hk)]
theorem join_loop {a b : SL Int} {t : Bool} {n : Nat} (ha : a.xs.length = n) (hb : b.xs.length = n) (hn : n < 1000000000) : ∀ (rest : List Int) (i : Nat) (out : List Int), a.xs.drop i = rest → out.length = n →
  ∃ out' z, law_join_l0 out a b t n i (law_join_l0_x0 out' a b t n z) ∧ out'.length = n ∧ (∀ k, k < i → out'[k]? = out[k]?) ∧ (∀ k, i ≤ k → k < n → ∀ y z, a.xs[k]? = some y → b.xs[k]? = some z → out'[k]? = some (max y z))
 | [], i, out, hd, ho => by
  have := drop_nil_le hd
  exact ⟨out, i, law_join_l0_e1 (by omega), ho, fun _ _ => rfl, fun k h1 h2 => by omega⟩
 | y :: rest, i, out, hd, ho => by
  obtain ⟨h1, h2, h3⟩ := at_drop hd
  obtain ⟨z, hz⟩ : ∃ z, b.xs[i]? = some z := ⟨_, List.getElem?_eq_getElem (by omega)⟩
  obtain ⟨w, hw⟩ : ∃ w, out[i]? = some w := ⟨_, List.getElem?_eq_getElem (by omega)⟩
  have hz' : b.xs[((i : Nat) : Int).toNat]? = some z := by rw [Int.toNat_natCast]; exact hz
  have hw' : out[((i : Nat) : Int).toNat]? = some w := by rw [Int.toNat_natCast]; exact hw
  obtain ⟨out', z', g1, g2, g3, g4⟩ := join_loop (t := t) ha hb hn rest (i + 1) (out.set i (max y z)) h2 (by rw [List.length_set]; exact ho)
  refine ⟨out', z', law_join_l0_s0 (by omega) (by omega) h1 hz' hw' (by omega) (in64 (by omega) (by omega)) (by rw [Int.toNat_natCast]; exact g1), g2, fun k hk => ?_, fun k hk1 hk2 y' z' hy hz2 => ?_⟩
  ·rw [g3 k (by omega), List.getElem?_set_ne (by omega)]
  ·rcases Nat.lt_or_ge i k with c | c
   ·exact g4 k c hk2 y' z' hy hz2
   ·have : k = i := by omega
    subst this
    rw [Int.toNat_natCast] at h1
    rw [h1] at hy
    rw [hz] at hz2
    cases hy; cases hz2
    rw [g3 k (by omega), List.getElem?_set_self (by omega)]
theorem join_run {a b : SL Int} {P Q : Nat → Prop} {n : Nat} (ha : Bits a.xs P n) (hb : Bits b.xs Q n) (hn : n < 1000000000) : ∃ o, law_join a b o ∧ Bits o.xs (fun k => P k ∨ Q k) n := by
 obtain ⟨out, z, g1, g2, _, g4⟩ := join_loop (t := true) ha.1 hb.1 hn a.xs 0 (List.replicate a.xs.length 0) (by simp) (by rw [List.length_replicate, ha.1])
 have hk := ha.1
 rw [← hk] at g1
 refine ⟨_, law_join_r0 (by omega) g1 (by omega), ?_⟩
 show Bits (out.take a.xs.length) _ _
 rw [show a.xs.length = out.length by omega, List.take_length]
 refine ⟨g2, fun k hk => ?_⟩
 have h4 := g4 k (Nat.zero_le _) hk
 rcases ha.2 k hk with ⟨a1, b1⟩ | ⟨a1, b1⟩ <;> rcases hb.2 k hk with ⟨a2, b2⟩ | ⟨a2, b2⟩
 ·exact .inl ⟨by rw [h4 _ _ a1 a2]; rfl, .inl b1⟩
 ·exact .inl ⟨by rw [h4 _ _ a1 a2]; rfl, .inl b1⟩
 ·exact .inl ⟨by rw [h4 _ _ a1 a2]; rfl, .inr b2⟩
 ·exact .inr ⟨by rw [h4 _ _ a1 a2]; rfl, fun h => h.elim b1 b2⟩
inductive OV where
 | r (l : List Int) (t : Bool)
 | d (s : SL Int)
def OV.sl : OV → SL Int
 | .r l t => ⟨1, l, t⟩
 | .d s => s
theorem take_all (l : List Int) : l.take l.length = l := List.take_length ..
def OW (x : Rx) (s src : SL Int) (v : OV) (i : Int) (rs : Ex × XSt) : Prop := match v with
 | .r l t => law_onward_l0 x l s src t l.length i rs
 | .d o => law_onward_l0_b x s src o i rs
def OWx (x : Rx) (s src : SL Int) (v : OV) (i : Int) : Ex × XSt := match v with
 | .r l t => law_onward_l0_x0 x l s src t l.length i
 | .d o => law_onward_l0_x1 x s src o i
theorem OW_one {x : Rx} {s src r0 r1 : SL Int} {v : OV} {i y : Int} {rs : Ex × XSt} (h0 : i < src.xs.length) (h1 : 0 ≤ i) (h2 : src.xs[i.toNat]? = some y) (h3 : y = 1) (h4 : lm x s i r0) (h5 : law_join v.sl r0 r1) (h6 : w64 (i + 1)) (hk : OW x s src (.d r1) (i + 1) rs) : OW x s src v i rs := by
 cases v with
 | r l t => exact law_onward_l0_s0 h0 h1 h2 h3 h4 (Nat.le_refl _) (by rw [take_all]; exact h5) h6 hk
 | d o => exact law_onward_l0_b_s3 h0 h1 h2 h3 h4 h5 h6 hk
theorem OW_none {x : Rx} {s src : SL Int} {v : OV} {i y : Int} {rs : Ex × XSt} (h0 : i < src.xs.length) (h1 : 0 ≤ i) (h2 : src.xs[i.toNat]? = some y) (h3 : ¬ y = 1) (h6 : w64 (i + 1)) (hk : OW x s src v (i + 1) rs) : OW x s src v i rs := by
 cases v with
 | r l t => exact law_onward_l0_s1 h0 h1 h2 h3 h6 hk
 | d o => exact law_onward_l0_b_s4 h0 h1 h2 h3 h6 hk
theorem OW_exit {x : Rx} {s src : SL Int} {v : OV} {i : Int} (h0 : ¬ i < src.xs.length) : OW x s src v i (OWx x s src v i) := by
 cases v with
 | r l t => exact law_onward_l0_e2 h0
 | d o => exact law_onward_l0_b_e5 h0
theorem onward_loop {x : Rx} {s src : SL Int} {P : Nat → Prop} {R : Nat → Nat → Prop} {n : Nat} (hn : n < 1000000000) (hsrc : Bits src.xs P n) (hM : ∀ i, i < n → ∃ o, lm x s i o ∧ Bits o.xs (R i) n) :
  ∀ (m i : Nat) (v : OV), i + m = n → Bits v.sl.xs (fun k => ∃ j, j < i ∧ P j ∧ R j k) n → ∃ v' z, OW x s src v i (OWx x s src v' z) ∧ Bits v'.sl.xs (fun k => ∃ j, j < n ∧ P j ∧ R j k) n
 | 0, i, v, hi, hv => by
  have : i = n := by omega
  subst this
  have := hsrc.1
  exact ⟨v, i, OW_exit (by omega), hv⟩
 | m + 1, i, v, hi, hv => by
  have hl := hsrc.1
  obtain ⟨y, h1, _, h3⟩ := hsrc.get (k := i) (by omega)
  have h1' : src.xs[((i : Nat) : Int).toNat]? = some y := by rw [Int.toNat_natCast]; exact h1
  by_cases c : y = 1
  ·obtain ⟨o, g1, g2⟩ := hM i (by omega)
   obtain ⟨o2, g3, g4⟩ := join_run hv g2 hn
   obtain ⟨v', z, k1, k2⟩ := onward_loop hn hsrc hM m (i + 1) (.d o2) (by omega) (g4.congr fun k _ => by
    constructor
    ·rintro (⟨j, j1, j2⟩ | h)
     ·exact ⟨j, by omega, j2⟩
     ·exact ⟨i, by omega, h3.1 c, h⟩
    ·rintro ⟨j, j1, j2, j3⟩
     rcases Nat.lt_or_ge j i with e | e
     ·exact .inl ⟨j, e, j2, j3⟩
     ·have : j = i := by omega
      subst this
      exact .inr j3)
   exact ⟨v', z, OW_one (by omega) (by omega) h1' c g1 g3 (in64 (by omega) (by omega)) k1, k2⟩
  ·obtain ⟨v', z, k1, k2⟩ := onward_loop hn hsrc hM m (i + 1) v (by omega) (hv.congr fun k _ => by
    constructor
    ·rintro ⟨j, j1, j2⟩
     exact ⟨j, by omega, j2⟩
    ·rintro ⟨j, j1, j2, j3⟩
     rcases Nat.lt_or_ge j i with e | e
     ·exact ⟨j, e, j2, j3⟩
     ·have : j = i := by omega
      subst this
      exact absurd (h3.2 j2) c)
   exact ⟨v', z, OW_none (by omega) (by omega) h1' c (in64 (by omega) (by omega)) k1, k2⟩
theorem onward_run {x : Rx} {s src : SL Int} {P : Nat → Prop} {R : Nat → Nat → Prop} {n : Nat} (hn : n < 1000000000) (hsrc : Bits src.xs P n) (hM : ∀ i, i < n → ∃ o, lm x s i o ∧ Bits o.xs (R i) n) :
  ∃ o, law_onward x s src o ∧ Bits o.xs (fun k => ∃ j, j < n ∧ P j ∧ R j k) n := by
 have hl := hsrc.1
 obtain ⟨v', z, k1, k2⟩ := onward_loop hn hsrc hM n 0 (.r (List.replicate src.xs.length 0) true) (by omega) (by
  show Bits (List.replicate src.xs.length 0) _ n
  rw [hl]
  exact (bits_zero n).congr fun k _ => ⟨fun h => h.elim, fun ⟨j, j1, _⟩ => by omega⟩)
 have k1' : law_onward_l0 x (List.replicate src.xs.length 0) s src true (List.replicate src.xs.length (0 : Int)).length 0 (OWx x s src v' z) := k1
 rw [List.length_replicate] at k1'
 cases v' with
 | r l t => exact ⟨_, law_onward_r0 (by omega) k1' (Nat.le_refl _), by rw [take_all]; exact k2⟩
 | d o => exact ⟨_, law_onward_r1 (by omega) k1', k2⟩
def outB (b : Bool) (n a : Nat) : List Int := if b = true then (List.replicate (n + 1) 0).set a 1 else List.replicate (n + 1) 0
theorem outB_bits (b : Bool) (n a : Nat) : Bits (outB b n a) (fun k => b = true ∧ k = a) (n + 1) := by
 unfold outB
 cases b with
 | true => exact (bits_zero (n + 1)).set.congr fun k _ => by simp
 | false => exact (bits_zero (n + 1)).congr fun k _ => by simp
theorem tkA (n a : Nat) : List.take (n + 1) ((List.replicate (n + 1) (0 : Int)).set a 1) = (List.replicate (n + 1) (0 : Int)).set a 1 := List.take_of_length_le (by simp)
theorem tkB (n : Nat) : List.take (n + 1) (List.replicate (n + 1) (0 : Int)) = List.replicate (n + 1) (0 : Int) := List.take_of_length_le (by simp)
theorem means_k6 {x : Rx} {s : SL Int} {at_ : Nat} (hk : x.Kind = 6) (ha : at_ ≤ s.xs.length) (hs : s.xs.length < 1000000000) (hb : ∀ c ∈ s.xs, 0 ≤ c) : ∃ o, lm x s at_ o ∧ o.xs = outB (letsB s.xs 3 at_) s.xs.length at_ := by
 have hz : (List.replicate ((s.xs.length : Int) + 1).toNat (0 : Int))[((at_ : Nat) : Int).toNat]? = some 0 := by rw [List.getElem?_replicate, if_pos (by omega)]
 have ew : ((s.xs.length : Int) + 1).toNat = s.xs.length + 1 := by omega
 cases at_ with
 | zero =>
  by_cases hlt : 0 < s.xs.length
  ·obtain ⟨vy, hy0⟩ : ∃ v, s.xs[0]? = some v := ⟨_, List.getElem?_eq_getElem hlt⟩
   have hq : (0 = s.xs.length) = False := eq_false (by omega)
   have hy : s.xs[((0 : Nat) : Int).toNat]? = some vy := by rw [Int.toNat_natCast]; exact hy0
   have hy1 := hy0
   have wy : ref11_Word vy (wordB vy) := by have h := ref_word_run vy; rwa [word_eq (by have := hb vy (List.mem_of_getElem? hy0); omega)] at h
   cases cy : wordB vy <;> rw [cy] at wy
   ·skip
    refine ⟨_, lm_r16 (in64 (by omega) (by omega)) (by omega) (by omega) (by omega) (by omega) (by omega) (by omega) (by omega) (by omega) hy wy (by omega) hz (by omega) (by simp), ?_⟩
    simp [Z1, outB, letsB, borderB, aheadB, behindB, ew, tkA, tkB, hq, hy1, cy]
   ·skip
    refine ⟨_, lm_r14 (in64 (by omega) (by omega)) (by omega) (by omega) (by omega) (by omega) (by omega) (by omega) (by omega) (by omega) hy wy (by omega) hz (by omega) (by simp), ?_⟩
    simp [Z1, outB, letsB, borderB, aheadB, behindB, ew, tkA, tkB, hq, hy1, cy]
  ·have hy1 : s.xs[0]? = none := List.getElem?_eq_none (by omega)
   have hq : (0 = s.xs.length) = True := eq_true (by omega)
   refine ⟨_, lm_r18 (in64 (by omega) (by omega)) (by omega) (by omega) (by omega) (by omega) (by omega) (by omega) (by omega) (by omega) (by omega) hz (by omega) (by simp), ?_⟩
   simp [Z1, outB, letsB, borderB, aheadB, behindB, ew, tkA, tkB, hq, hy1]
 | succ j =>
  obtain ⟨vx, hx0⟩ : ∃ v, s.xs[j]? = some v := ⟨_, List.getElem?_eq_getElem (by omega)⟩
  have hx : s.xs[(((j + 1 : Nat) : Int) - 1).toNat]? = some vx := by rw [show (((j + 1 : Nat) : Int) - 1).toNat = j by omega]; exact hx0
  have hx1 := hx0
  have wx : ref11_Word vx (wordB vx) := by have h := ref_word_run vx; rwa [word_eq (by have := hb vx (List.mem_of_getElem? hx0); omega)] at h
  by_cases hlt : (j + 1) < s.xs.length
  ·obtain ⟨vy, hy0⟩ : ∃ v, s.xs[(j + 1)]? = some v := ⟨_, List.getElem?_eq_getElem hlt⟩
   have hq : ((j + 1) = s.xs.length) = False := eq_false (by omega)
   have hy : s.xs[(((j + 1) : Nat) : Int).toNat]? = some vy := by rw [Int.toNat_natCast]; exact hy0
   have hy1 := hy0
   have wy : ref11_Word vy (wordB vy) := by have h := ref_word_run vy; rwa [word_eq (by have := hb vy (List.mem_of_getElem? hy0); omega)] at h
   cases cx : wordB vx <;> rw [cx] at wx
   ·skip
    cases cy : wordB vy <;> rw [cy] at wy
    ·skip
     refine ⟨_, lm_r11 (in64 (by omega) (by omega)) (by omega) (by omega) (by omega) (by omega) (by omega) (by omega) (in64 (by omega) (by omega)) (by omega) hx wx (by omega) (by omega) hy wy (by omega) (by simp), ?_⟩
     simp [Z1, outB, letsB, borderB, aheadB, behindB, ew, tkA, tkB, hq, hx1, hy1, cx, cy]
    ·skip
     refine ⟨_, lm_r9 (in64 (by omega) (by omega)) (by omega) (by omega) (by omega) (by omega) (by omega) (by omega) (in64 (by omega) (by omega)) (by omega) hx wx (by omega) (by omega) hy wy (by omega) (by simp), ?_⟩
     simp [Z1, outB, letsB, borderB, aheadB, behindB, ew, tkA, tkB, hq, hx1, hy1, cx, cy]
   ·skip
    cases cy : wordB vy <;> rw [cy] at wy
    ·skip
     refine ⟨_, lm_r5 (in64 (by omega) (by omega)) (by omega) (by omega) (by omega) (by omega) (by omega) (by omega) (in64 (by omega) (by omega)) (by omega) hx wx (by omega) (by omega) hy wy (by omega) (by simp), ?_⟩
     simp [Z1, outB, letsB, borderB, aheadB, behindB, ew, tkA, tkB, hq, hx1, hy1, cx, cy]
    ·skip
     refine ⟨_, lm_r3 (in64 (by omega) (by omega)) (by omega) (by omega) (by omega) (by omega) (by omega) (by omega) (in64 (by omega) (by omega)) (by omega) hx wx (by omega) (by omega) hy wy (by omega) (by simp), ?_⟩
     simp [Z1, outB, letsB, borderB, aheadB, behindB, ew, tkA, tkB, hq, hx1, hy1, cx, cy]
  ·have hy1 : s.xs[(j + 1)]? = none := List.getElem?_eq_none (by omega)
   have hq : ((j + 1) = s.xs.length) = True := eq_true (by omega)
   cases cx : wordB vx <;> rw [cx] at wx
   ·skip
    refine ⟨_, lm_r13 (in64 (by omega) (by omega)) (by omega) (by omega) (by omega) (by omega) (by omega) (by omega) (in64 (by omega) (by omega)) (by omega) hx wx (by omega) (by omega) (by simp), ?_⟩
    simp [Z1, outB, letsB, borderB, aheadB, behindB, ew, tkA, tkB, hq, hx1, hy1, cx]
   ·skip
    refine ⟨_, lm_r7 (in64 (by omega) (by omega)) (by omega) (by omega) (by omega) (by omega) (by omega) (by omega) (in64 (by omega) (by omega)) (by omega) hx wx (by omega) (by omega) (by simp), ?_⟩
    simp [Z1, outB, letsB, borderB, aheadB, behindB, ew, tkA, tkB, hq, hx1, hy1, cx]
theorem means_k7 {x : Rx} {s : SL Int} {at_ : Nat} (hk : x.Kind = 7) (ha : at_ ≤ s.xs.length) (hs : s.xs.length < 1000000000) (hb : ∀ c ∈ s.xs, 0 ≤ c) : ∃ o, lm x s at_ o ∧ o.xs = outB (letsB s.xs 4 at_) s.xs.length at_ := by
 have hz : (List.replicate ((s.xs.length : Int) + 1).toNat (0 : Int))[((at_ : Nat) : Int).toNat]? = some 0 := by rw [List.getElem?_replicate, if_pos (by omega)]
 have ew : ((s.xs.length : Int) + 1).toNat = s.xs.length + 1 := by omega
 cases at_ with
 | zero =>
  by_cases hlt : 0 < s.xs.length
  ·obtain ⟨vy, hy0⟩ : ∃ v, s.xs[0]? = some v := ⟨_, List.getElem?_eq_getElem hlt⟩
   have hq : (0 = s.xs.length) = False := eq_false (by omega)
   have hy : s.xs[((0 : Nat) : Int).toNat]? = some vy := by rw [Int.toNat_natCast]; exact hy0
   have hy1 := hy0
   have wy : ref11_Word vy (wordB vy) := by have h := ref_word_run vy; rwa [word_eq (by have := hb vy (List.mem_of_getElem? hy0); omega)] at h
   cases cy : wordB vy <;> rw [cy] at wy
   ·skip
    refine ⟨_, lm_r35 (in64 (by omega) (by omega)) (by omega) (by omega) (by omega) (by omega) (by omega) (by omega) (by omega) (by omega) (by omega) hy wy (by omega) (by simp), ?_⟩
    simp [Z1, outB, letsB, borderB, aheadB, behindB, ew, tkA, tkB, hq, hy1, cy]
   ·skip
    refine ⟨_, lm_r33 (in64 (by omega) (by omega)) (by omega) (by omega) (by omega) (by omega) (by omega) (by omega) (by omega) (by omega) (by omega) hy wy (by omega) (by simp), ?_⟩
    simp [Z1, outB, letsB, borderB, aheadB, behindB, ew, tkA, tkB, hq, hy1, cy]
  ·have hy1 : s.xs[0]? = none := List.getElem?_eq_none (by omega)
   have hq : (0 = s.xs.length) = True := eq_true (by omega)
   refine ⟨_, lm_r36 (in64 (by omega) (by omega)) (by omega) (by omega) (by omega) (by omega) (by omega) (by omega) (by omega) (by omega) (by omega) (by omega) hz (by omega) (by simp), ?_⟩
   simp [Z1, outB, letsB, borderB, aheadB, behindB, ew, tkA, tkB, hq, hy1]
 | succ j =>
  obtain ⟨vx, hx0⟩ : ∃ v, s.xs[j]? = some v := ⟨_, List.getElem?_eq_getElem (by omega)⟩
  have hx : s.xs[(((j + 1 : Nat) : Int) - 1).toNat]? = some vx := by rw [show (((j + 1 : Nat) : Int) - 1).toNat = j by omega]; exact hx0
  have hx1 := hx0
  have wx : ref11_Word vx (wordB vx) := by have h := ref_word_run vx; rwa [word_eq (by have := hb vx (List.mem_of_getElem? hx0); omega)] at h
  by_cases hlt : (j + 1) < s.xs.length
  ·obtain ⟨vy, hy0⟩ : ∃ v, s.xs[(j + 1)]? = some v := ⟨_, List.getElem?_eq_getElem hlt⟩
   have hq : ((j + 1) = s.xs.length) = False := eq_false (by omega)
   have hy : s.xs[(((j + 1) : Nat) : Int).toNat]? = some vy := by rw [Int.toNat_natCast]; exact hy0
   have hy1 := hy0
   have wy : ref11_Word vy (wordB vy) := by have h := ref_word_run vy; rwa [word_eq (by have := hb vy (List.mem_of_getElem? hy0); omega)] at h
   cases cx : wordB vx <;> rw [cx] at wx
   ·skip
    cases cy : wordB vy <;> rw [cy] at wy
    ·skip
     refine ⟨_, lm_r29 (in64 (by omega) (by omega)) (by omega) (by omega) (by omega) (by omega) (by omega) (by omega) (by omega) (in64 (by omega) (by omega)) (by omega) hx wx (by omega) (by omega) hy wy (by omega) (by simp), ?_⟩
     simp [Z1, outB, letsB, borderB, aheadB, behindB, ew, tkA, tkB, hq, hx1, hy1, cx, cy]
    ·skip
     refine ⟨_, lm_r27 (in64 (by omega) (by omega)) (by omega) (by omega) (by omega) (by omega) (by omega) (by omega) (by omega) (in64 (by omega) (by omega)) (by omega) hx wx (by omega) (by omega) hy wy (by omega) (by simp), ?_⟩
     simp [Z1, outB, letsB, borderB, aheadB, behindB, ew, tkA, tkB, hq, hx1, hy1, cx, cy]
   ·skip
    cases cy : wordB vy <;> rw [cy] at wy
    ·skip
     refine ⟨_, lm_r23 (in64 (by omega) (by omega)) (by omega) (by omega) (by omega) (by omega) (by omega) (by omega) (by omega) (in64 (by omega) (by omega)) (by omega) hx wx (by omega) (by omega) hy wy (by omega) (by simp), ?_⟩
     simp [Z1, outB, letsB, borderB, aheadB, behindB, ew, tkA, tkB, hq, hx1, hy1, cx, cy]
    ·skip
     refine ⟨_, lm_r21 (in64 (by omega) (by omega)) (by omega) (by omega) (by omega) (by omega) (by omega) (by omega) (by omega) (in64 (by omega) (by omega)) (by omega) hx wx (by omega) (by omega) hy wy (by omega) (by simp), ?_⟩
     simp [Z1, outB, letsB, borderB, aheadB, behindB, ew, tkA, tkB, hq, hx1, hy1, cx, cy]
  ·have hy1 : s.xs[(j + 1)]? = none := List.getElem?_eq_none (by omega)
   have hq : ((j + 1) = s.xs.length) = True := eq_true (by omega)
   cases cx : wordB vx <;> rw [cx] at wx
   ·skip
    refine ⟨_, lm_r30 (in64 (by omega) (by omega)) (by omega) (by omega) (by omega) (by omega) (by omega) (by omega) (by omega) (in64 (by omega) (by omega)) (by omega) hx wx (by omega) (by omega) (by omega) hz (by omega) (by simp), ?_⟩
    simp [Z1, outB, letsB, borderB, aheadB, behindB, ew, tkA, tkB, hq, hx1, hy1, cx]
   ·skip
    refine ⟨_, lm_r24 (in64 (by omega) (by omega)) (by omega) (by omega) (by omega) (by omega) (by omega) (by omega) (by omega) (in64 (by omega) (by omega)) (by omega) hx wx (by omega) (by omega) (by omega) hz (by omega) (by simp), ?_⟩
    simp [Z1, outB, letsB, borderB, aheadB, behindB, ew, tkA, tkB, hq, hx1, hy1, cx]
theorem means_k8 {x : Rx} {s : SL Int} {at_ : Nat} (hk : x.Kind = 8) (ha : at_ ≤ s.xs.length) (hs : s.xs.length < 1000000000) (hb : ∀ c ∈ s.xs, 0 ≤ c) : ∃ o, lm x s at_ o ∧ o.xs = outB (letsB s.xs 5 at_) s.xs.length at_ := by
 have hz : (List.replicate ((s.xs.length : Int) + 1).toNat (0 : Int))[((at_ : Nat) : Int).toNat]? = some 0 := by rw [List.getElem?_replicate, if_pos (by omega)]
 have ew : ((s.xs.length : Int) + 1).toNat = s.xs.length + 1 := by omega
 cases at_ with
 | zero =>
  by_cases hlt : 0 < s.xs.length
  ·obtain ⟨vy, hy0⟩ : ∃ v, s.xs[0]? = some v := ⟨_, List.getElem?_eq_getElem hlt⟩
   have hq : (0 = s.xs.length) = False := eq_false (by omega)
   have hy : s.xs[((0 : Nat) : Int).toNat]? = some vy := by rw [Int.toNat_natCast]; exact hy0
   have hy1 := hy0
   have wy : ref11_Word vy (wordB vy) := by have h := ref_word_run vy; rwa [word_eq (by have := hb vy (List.mem_of_getElem? hy0); omega)] at h
   cases cy : wordB vy <;> rw [cy] at wy
   ·skip
    refine ⟨_, lm_r45 (in64 (by omega) (by omega)) (by omega) (by omega) (by omega) (by omega) (by omega) (by omega) (by omega) (by omega) (by omega) (by omega) hy wy (by simp), ?_⟩
    simp [Z1, outB, letsB, borderB, aheadB, behindB, ew, tkA, tkB, hq, hy1, cy]
   ·skip
    refine ⟨_, lm_r44 (in64 (by omega) (by omega)) (by omega) (by omega) (by omega) (by omega) (by omega) (by omega) (by omega) (by omega) (by omega) (by omega) hy wy hz (by omega) (by simp), ?_⟩
    simp [Z1, outB, letsB, borderB, aheadB, behindB, ew, tkA, tkB, hq, hy1, cy]
  ·have hy1 : s.xs[0]? = none := List.getElem?_eq_none (by omega)
   have hq : (0 = s.xs.length) = True := eq_true (by omega)
   refine ⟨_, lm_r46 (in64 (by omega) (by omega)) (by omega) (by omega) (by omega) (by omega) (by omega) (by omega) (by omega) (by omega) (by omega) (by simp), ?_⟩
   simp [Z1, outB, letsB, borderB, aheadB, behindB, ew, tkA, tkB, hq, hy1]
 | succ j =>
  obtain ⟨vx, hx0⟩ : ∃ v, s.xs[j]? = some v := ⟨_, List.getElem?_eq_getElem (by omega)⟩
  have hx : s.xs[(((j + 1 : Nat) : Int) - 1).toNat]? = some vx := by rw [show (((j + 1 : Nat) : Int) - 1).toNat = j by omega]; exact hx0
  have hx1 := hx0
  have wx : ref11_Word vx (wordB vx) := by have h := ref_word_run vx; rwa [word_eq (by have := hb vx (List.mem_of_getElem? hx0); omega)] at h
  by_cases hlt : (j + 1) < s.xs.length
  ·obtain ⟨vy, hy0⟩ : ∃ v, s.xs[(j + 1)]? = some v := ⟨_, List.getElem?_eq_getElem hlt⟩
   have hq : ((j + 1) = s.xs.length) = False := eq_false (by omega)
   have hy : s.xs[(((j + 1) : Nat) : Int).toNat]? = some vy := by rw [Int.toNat_natCast]; exact hy0
   have hy1 := hy0
   have wy : ref11_Word vy (wordB vy) := by have h := ref_word_run vy; rwa [word_eq (by have := hb vy (List.mem_of_getElem? hy0); omega)] at h
   cases cx : wordB vx <;> rw [cx] at wx
   ·skip
    cases cy : wordB vy <;> rw [cy] at wy
    ·skip
     refine ⟨_, lm_r42 (in64 (by omega) (by omega)) (by omega) (by omega) (by omega) (by omega) (by omega) (by omega) (by omega) (by omega) (in64 (by omega) (by omega)) (by omega) hx wx (by omega) (by omega) hy wy (by simp), ?_⟩
     simp [Z1, outB, letsB, borderB, aheadB, behindB, ew, tkA, tkB, hq, hx1, hy1, cx, cy]
    ·skip
     refine ⟨_, lm_r41 (in64 (by omega) (by omega)) (by omega) (by omega) (by omega) (by omega) (by omega) (by omega) (by omega) (by omega) (in64 (by omega) (by omega)) (by omega) hx wx (by omega) (by omega) hy wy hz (by omega) (by simp), ?_⟩
     simp [Z1, outB, letsB, borderB, aheadB, behindB, ew, tkA, tkB, hq, hx1, hy1, cx, cy]
   ·skip
    cases cy : wordB vy <;> rw [cy] at wy
    ·skip
     refine ⟨_, lm_r39 (in64 (by omega) (by omega)) (by omega) (by omega) (by omega) (by omega) (by omega) (by omega) (by omega) (by omega) (in64 (by omega) (by omega)) (by omega) hx wx (by omega) (by omega) hy wy hz (by omega) (by simp), ?_⟩
     simp [Z1, outB, letsB, borderB, aheadB, behindB, ew, tkA, tkB, hq, hx1, hy1, cx, cy]
    ·skip
     refine ⟨_, lm_r38 (in64 (by omega) (by omega)) (by omega) (by omega) (by omega) (by omega) (by omega) (by omega) (by omega) (by omega) (in64 (by omega) (by omega)) (by omega) hx wx (by omega) (by omega) hy wy (by simp), ?_⟩
     simp [Z1, outB, letsB, borderB, aheadB, behindB, ew, tkA, tkB, hq, hx1, hy1, cx, cy]
  ·have hy1 : s.xs[(j + 1)]? = none := List.getElem?_eq_none (by omega)
   have hq : ((j + 1) = s.xs.length) = True := eq_true (by omega)
   cases cx : wordB vx <;> rw [cx] at wx
   ·skip
    refine ⟨_, lm_r43 (in64 (by omega) (by omega)) (by omega) (by omega) (by omega) (by omega) (by omega) (by omega) (by omega) (by omega) (in64 (by omega) (by omega)) (by omega) hx wx (by omega) (by simp), ?_⟩
    simp [Z1, outB, letsB, borderB, aheadB, behindB, ew, tkA, tkB, hq, hx1, hy1, cx]
   ·skip
    refine ⟨_, lm_r40 (in64 (by omega) (by omega)) (by omega) (by omega) (by omega) (by omega) (by omega) (by omega) (by omega) (by omega) (in64 (by omega) (by omega)) (by omega) hx wx (by omega) (by omega) hz (by omega) (by simp), ?_⟩
    simp [Z1, outB, letsB, borderB, aheadB, behindB, ew, tkA, tkB, hq, hx1, hy1, cx]
theorem means_k9 {x : Rx} {s : SL Int} {at_ : Nat} (hk : x.Kind = 9) (ha : at_ ≤ s.xs.length) (hs : s.xs.length < 1000000000) (hb : ∀ c ∈ s.xs, 0 ≤ c) : ∃ o, lm x s at_ o ∧ o.xs = outB (letsB s.xs 6 at_) s.xs.length at_ := by
 have hz : (List.replicate ((s.xs.length : Int) + 1).toNat (0 : Int))[((at_ : Nat) : Int).toNat]? = some 0 := by rw [List.getElem?_replicate, if_pos (by omega)]
 have ew : ((s.xs.length : Int) + 1).toNat = s.xs.length + 1 := by omega
 cases at_ with
 | zero =>
  by_cases hlt : 0 < s.xs.length
  ·obtain ⟨vy, hy0⟩ : ∃ v, s.xs[0]? = some v := ⟨_, List.getElem?_eq_getElem hlt⟩
   have hq : (0 = s.xs.length) = False := eq_false (by omega)
   have hy : s.xs[((0 : Nat) : Int).toNat]? = some vy := by rw [Int.toNat_natCast]; exact hy0
   have hy1 := hy0
   have wy : ref11_Word vy (wordB vy) := by have h := ref_word_run vy; rwa [word_eq (by have := hb vy (List.mem_of_getElem? hy0); omega)] at h
   cases cy : wordB vy <;> rw [cy] at wy
   ·skip
    refine ⟨_, lm_r54 (in64 (by omega) (by omega)) (by omega) (by omega) (by omega) (by omega) (by omega) (by omega) (by omega) (by omega) (by omega) (by omega) (by omega) hy wy hz (by omega) (by simp), ?_⟩
    simp [Z1, outB, letsB, borderB, aheadB, behindB, ew, tkA, tkB, hq, hy1, cy]
   ·skip
    refine ⟨_, lm_r53 (in64 (by omega) (by omega)) (by omega) (by omega) (by omega) (by omega) (by omega) (by omega) (by omega) (by omega) (by omega) (by omega) (by omega) hy wy (by simp), ?_⟩
    simp [Z1, outB, letsB, borderB, aheadB, behindB, ew, tkA, tkB, hq, hy1, cy]
  ·have hy1 : s.xs[0]? = none := List.getElem?_eq_none (by omega)
   have hq : (0 = s.xs.length) = True := eq_true (by omega)
   refine ⟨_, lm_r55 (in64 (by omega) (by omega)) (by omega) (by omega) (by omega) (by omega) (by omega) (by omega) (by omega) (by omega) (by omega) (by omega) (by omega) hz (by omega) (by simp), ?_⟩
   simp [Z1, outB, letsB, borderB, aheadB, behindB, ew, tkA, tkB, hq, hy1]
 | succ j =>
  obtain ⟨vx, hx0⟩ : ∃ v, s.xs[j]? = some v := ⟨_, List.getElem?_eq_getElem (by omega)⟩
  have hx : s.xs[(((j + 1 : Nat) : Int) - 1).toNat]? = some vx := by rw [show (((j + 1 : Nat) : Int) - 1).toNat = j by omega]; exact hx0
  have hx1 := hx0
  have wx : ref11_Word vx (wordB vx) := by have h := ref_word_run vx; rwa [word_eq (by have := hb vx (List.mem_of_getElem? hx0); omega)] at h
  by_cases hlt : (j + 1) < s.xs.length
  ·obtain ⟨vy, hy0⟩ : ∃ v, s.xs[(j + 1)]? = some v := ⟨_, List.getElem?_eq_getElem hlt⟩
   have hq : ((j + 1) = s.xs.length) = False := eq_false (by omega)
   have hy : s.xs[(((j + 1) : Nat) : Int).toNat]? = some vy := by rw [Int.toNat_natCast]; exact hy0
   have hy1 := hy0
   have wy : ref11_Word vy (wordB vy) := by have h := ref_word_run vy; rwa [word_eq (by have := hb vy (List.mem_of_getElem? hy0); omega)] at h
   cases cx : wordB vx <;> rw [cx] at wx
   ·skip
    cases cy : wordB vy <;> rw [cy] at wy
    ·skip
     refine ⟨_, lm_r51 (in64 (by omega) (by omega)) (by omega) (by omega) (by omega) (by omega) (by omega) (by omega) (by omega) (by omega) (by omega) (in64 (by omega) (by omega)) (by omega) hx wx (by omega) (by omega) hy wy hz (by omega) (by simp), ?_⟩
     simp [Z1, outB, letsB, borderB, aheadB, behindB, ew, tkA, tkB, hq, hx1, hy1, cx, cy]
    ·skip
     refine ⟨_, lm_r50 (in64 (by omega) (by omega)) (by omega) (by omega) (by omega) (by omega) (by omega) (by omega) (by omega) (by omega) (by omega) (in64 (by omega) (by omega)) (by omega) hx wx (by omega) (by omega) hy wy (by simp), ?_⟩
     simp [Z1, outB, letsB, borderB, aheadB, behindB, ew, tkA, tkB, hq, hx1, hy1, cx, cy]
   ·skip
    cases cy : wordB vy <;> rw [cy] at wy
    ·skip
     refine ⟨_, lm_r48 (in64 (by omega) (by omega)) (by omega) (by omega) (by omega) (by omega) (by omega) (by omega) (by omega) (by omega) (by omega) (in64 (by omega) (by omega)) (by omega) hx wx (by omega) (by omega) hy wy (by simp), ?_⟩
     simp [Z1, outB, letsB, borderB, aheadB, behindB, ew, tkA, tkB, hq, hx1, hy1, cx, cy]
    ·skip
     refine ⟨_, lm_r47 (in64 (by omega) (by omega)) (by omega) (by omega) (by omega) (by omega) (by omega) (by omega) (by omega) (by omega) (by omega) (in64 (by omega) (by omega)) (by omega) hx wx (by omega) (by omega) hy wy hz (by omega) (by simp), ?_⟩
     simp [Z1, outB, letsB, borderB, aheadB, behindB, ew, tkA, tkB, hq, hx1, hy1, cx, cy]
  ·have hy1 : s.xs[(j + 1)]? = none := List.getElem?_eq_none (by omega)
   have hq : ((j + 1) = s.xs.length) = True := eq_true (by omega)
   cases cx : wordB vx <;> rw [cx] at wx
   ·skip
    refine ⟨_, lm_r52 (in64 (by omega) (by omega)) (by omega) (by omega) (by omega) (by omega) (by omega) (by omega) (by omega) (by omega) (by omega) (in64 (by omega) (by omega)) (by omega) hx wx (by omega) (by omega) hz (by omega) (by simp), ?_⟩
    simp [Z1, outB, letsB, borderB, aheadB, behindB, ew, tkA, tkB, hq, hx1, hy1, cx]
   ·skip
    refine ⟨_, lm_r49 (in64 (by omega) (by omega)) (by omega) (by omega) (by omega) (by omega) (by omega) (by omega) (by omega) (by omega) (by omega) (in64 (by omega) (by omega)) (by omega) hx wx (by omega) (by simp), ?_⟩
    simp [Z1, outB, letsB, borderB, aheadB, behindB, ew, tkA, tkB, hq, hx1, hy1, cx]
theorem set_loop {x : Rx} {s : SL Int} {a : Nat} {n : Nat} (hs : s.xs.length < 1000000000) (hr : x.Ranges.xs.length < 9000000000000) (ha : a ≤ s.xs.length) : ∀ (rest : List Range) (i : Nat) (out : List Int) (P : Nat → Prop), x.Ranges.xs.drop i = rest → Bits out P (s.xs.length + 1) →
  ∃ out' z, lm_l0 x out s a true (s.xs.length + 1) i (lm_l0_x0 x out' s a true (s.xs.length + 1) z) ∧ Bits out' (fun k => P k ∨ ((∃ c, s.xs[a]? = some c ∧ hitR c rest) ∧ k = a + 1)) (s.xs.length + 1)
 | [], i, out, P, hd, ho => by
  have := drop_nil_le hd
  exact ⟨out, i, lm_l0_e4 (by omega), ho.congr fun k _ => ⟨fun h => .inl h, fun h => h.elim id fun ⟨⟨c, _, r, hr, _⟩, _⟩ => by cases hr⟩⟩
 | r :: rest, i, out, P, hd, ho => by
  obtain ⟨h1, h2, h3⟩ := at_drop hd
  have w : w64 ((i : Int) + 1) := in64 (by omega) (by omega)
  by_cases c1 : a < s.xs.length
  ·obtain ⟨c, hc⟩ : ∃ c, s.xs[a]? = some c := ⟨_, List.getElem?_eq_getElem c1⟩
   have hc' : s.xs[((a : Nat) : Int).toNat]? = some c := by rw [Int.toNat_natCast]; exact hc
   have tail : (¬ (r.From ≤ c ∧ c ≤ r.To)) → ∀ k, (P k ∨ ((∃ c, s.xs[a]? = some c ∧ hitR c rest) ∧ k = a + 1)) ↔ (P k ∨ ((∃ c, s.xs[a]? = some c ∧ hitR c (r :: rest)) ∧ k = a + 1)) := by
    intro hn k
    refine or_congr_right (and_congr_left fun _ => ⟨fun ⟨c', e, u, hu, hh⟩ => ⟨c', e, u, List.mem_cons_of_mem _ hu, hh⟩, fun ⟨c', e, u, hu, hh⟩ => ?_⟩)
    rcases List.mem_cons.1 hu with rfl | hu
    ·rw [hc] at e; cases e; exact absurd hh hn
    ·exact ⟨c', e, u, hu, hh⟩
   by_cases c2 : c ≥ r.From
   ·by_cases c3 : c ≤ r.To
    ·obtain ⟨y, hy, _⟩ := ho.get (k := a + 1) (by omega)
     have e1 : ((a : Int) + 1).toNat = a + 1 := by omega
     obtain ⟨out', z, g1, g2⟩ := set_loop (n := n) hs hr ha rest (i + 1) (out.set (a + 1) 1) _ h2 ho.set
     refine ⟨out', z, lm_l0_s0 (y2 := y) (by omega) (by omega) (by omega) hc' (by omega) h1 c2 c3 (in64 (by omega) (by omega)) (by omega) (by rw [e1]; exact hy) (by omega) w (by rw [e1]; exact g1), g2.congr fun k _ => ?_⟩
     constructor
     ·rintro ((h | h) | ⟨⟨c', e, u, hu, hh⟩, h⟩)
      ·exact .inl h
      ·exact .inr ⟨⟨c, hc, r, List.mem_cons_self .., c2, c3⟩, h⟩
      ·exact .inr ⟨⟨c', e, u, List.mem_cons_of_mem _ hu, hh⟩, h⟩
     ·rintro (h | ⟨_, h⟩)
      ·exact .inl (.inl h)
      ·exact .inl (.inr h)
    ·obtain ⟨out', z, g1, g2⟩ := set_loop (n := n) hs hr ha rest (i + 1) out P h2 ho
     exact ⟨out', z, lm_l0_s1 (by omega) (by omega) (by omega) hc' (by omega) h1 c2 c3 w g1, g2.congr fun k _ => tail (fun h => c3 h.2) k⟩
   ·obtain ⟨out', z, g1, g2⟩ := set_loop (n := n) hs hr ha rest (i + 1) out P h2 ho
    exact ⟨out', z, lm_l0_s2 (by omega) (by omega) (by omega) hc' (by omega) h1 c2 w g1, g2.congr fun k _ => tail (fun h => c2 h.1) k⟩
  ·obtain ⟨out', z, g1, g2⟩ := set_loop (n := n) hs hr ha rest (i + 1) out P h2 ho
   refine ⟨out', z, lm_l0_s3 (by omega) (by omega) w g1, g2.congr fun k _ => ?_⟩
   have hn : s.xs[a]? = none := List.getElem?_eq_none (by omega)
   simp [hn]
def AW (x : Rx) (s : SL Int) (a : Int) (v : OV) (i : Int) (rs : Ex × XSt) : Prop := match v with
 | .r l t => lm_l1 x l s a t l.length i rs
 | .d o => lm_l1_b x s a o i rs
def AWx (x : Rx) (s : SL Int) (a : Int) (v : OV) (i : Int) : Ex × XSt := match v with
 | .r l t => lm_l1_x0 x l s a t l.length i
 | .d o => lm_l1_x1 x s a o i
theorem altM_loop {x : Rx} {s : SL Int} {a n : Nat} {R : Rx → Nat → Prop} (hn : n < 1000000000) (hx : x.Sub.xs.length < 9000000000000) (hM : ∀ y ∈ x.Sub.xs, ∃ o, lm y s a o ∧ Bits o.xs (R y) n) :
  ∀ (rest : List Rx) (i : Nat) (v : OV) (P : Nat → Prop), x.Sub.xs.drop i = rest → Bits v.sl.xs P n → ∃ v' z, AW x s a v i (AWx x s a v' z) ∧ Bits v'.sl.xs (fun k => P k ∨ ∃ y ∈ rest, R y k) n
 | [], i, v, P, hd, hv => by
  have := drop_nil_le hd
  refine ⟨v, i, ?_, hv.congr fun k _ => by simp⟩
  cases v with
  | r l t => exact lm_l1_e1 (by omega)
  | d o => exact lm_l1_b_e3 (by omega)
 | y :: rest, i, v, P, hd, hv => by
  obtain ⟨h1, h2, h3⟩ := at_drop hd
  obtain ⟨o, g1, g2⟩ := hM y (List.mem_of_mem_drop (by rw [hd]; exact List.mem_cons_self ..))
  obtain ⟨o2, g3, g4⟩ := join_run hv g2 hn
  obtain ⟨v', z, k1, k2⟩ := altM_loop hn hx hM rest (i + 1) (.d o2) _ h2 g4
  have w : w64 ((i : Int) + 1) := in64 (by omega) (by omega)
  refine ⟨v', z, ?_, k2.congr fun k _ => ?_⟩
  ·cases v with
   | r l t => exact lm_l1_s0 (by omega) (by omega) h1 g1 (Nat.le_refl _) (by rw [take_all]; exact g3) w k1
   | d o => exact lm_l1_b_s2 (by omega) (by omega) h1 g1 g3 w k1
  ·constructor
   ·rintro ((h | h) | ⟨q, hq, h⟩)
    ·exact .inl h
    ·exact .inr ⟨y, List.mem_cons_self .., h⟩
    ·exact .inr ⟨q, List.mem_cons_of_mem _ hq, h⟩
   ·rintro (h | ⟨q, hq, h⟩)
    ·exact .inl (.inl h)
    ·rcases List.mem_cons.1 hq with rfl | hq
     ·exact .inl (.inr h)
     ·exact .inr ⟨q, hq, h⟩
def SW (x : Rx) (s : SL Int) (v : OV) (i : Int) (rs : Ex × XSt) : Prop := match v with
 | .r l t => lm_l2 x l s t l.length i rs
 | .d o => lm_l2_b x s o i rs
def SWx (x : Rx) (s : SL Int) (v : OV) (i : Int) : Ex × XSt := match v with
 | .r l t => lm_l2_x0 x l s t l.length i
 | .d o => lm_l2_x1 x s o i
theorem seqMs_loop {x : Rx} {s : SL Int} {a n : Nat} {R : Rx → Nat → Nat → Prop} (hn : n < 1000000000) (hx : x.Sub.xs.length < 9000000000000) (hle : ∀ y ∈ x.Sub.xs, ∀ i j, i < n → R y i j → j < n) (hM : ∀ y ∈ x.Sub.xs, ∀ i, i < n → ∃ o, lm y s i o ∧ Bits o.xs (R y i) n) :
  ∀ (rest : List Rx) (i : Nat) (v : OV) (P : Nat → Prop), x.Sub.xs.drop i = rest → (∀ k, P k → k < n) → Bits v.sl.xs P n → ∃ v' z, SW x s v i (SWx x s v' z) ∧ Bits v'.sl.xs (fun k => ∃ j, P j ∧ seqM R rest j k) n
 | [], i, v, P, hd, hP, hv => by
  have := drop_nil_le hd
  refine ⟨v, i, ?_, hv.congr fun k _ => ⟨fun h => ⟨k, h, rfl⟩, fun ⟨j, h, e⟩ => by cases e; exact h⟩⟩
  cases v with
  | r l t => exact lm_l2_e1 (by omega)
  | d o => exact lm_l2_b_e3 (by omega)
 | y :: rest, i, v, P, hd, hP, hv => by
  obtain ⟨h1, h2, h3⟩ := at_drop hd
  have hy : y ∈ x.Sub.xs := List.mem_of_mem_drop (by rw [hd]; exact List.mem_cons_self ..)
  obtain ⟨o, g1, g2⟩ := onward_run hn hv (hM y hy)
  obtain ⟨v', z, k1, k2⟩ := seqMs_loop (a := a) hn hx hle hM rest (i + 1) (.d o) _ h2 (fun k ⟨j, j1, _, j3⟩ => hle y hy j k j1 j3) g2
  have w : w64 ((i : Int) + 1) := in64 (by omega) (by omega)
  refine ⟨v', z, ?_, k2.congr fun k _ => ?_⟩
  ·cases v with
   | r l t => exact lm_l2_s0 (by omega) (by omega) h1 (Nat.le_refl _) (by rw [take_all]; exact g1) w k1
   | d o => exact lm_l2_b_s2 (by omega) (by omega) h1 g1 w k1
  ·constructor
   ·rintro ⟨j, ⟨q, q1, q2, q3⟩, h⟩
    exact ⟨q, q2, j, q3, h⟩
   ·rintro ⟨q, q2, j, q3, h⟩
    exact ⟨j, ⟨q, hP q q2, q2, q3⟩, h⟩
def TW (x : Rx) (s : SL Int) (v : OV) (i : Int) (rs : Ex × XSt) : Prop := match v with
 | .r l t => lm_l3 x l s t l.length i rs
 | .d o => lm_l3_b x s o i rs
def TWx (x : Rx) (s : SL Int) (v : OV) (i : Int) : Ex × XSt := match v with
 | .r l t => lm_l3_x0 x l s t l.length i
 | .d o => lm_l3_x1 x s o i
theorem timesM_loop {x y : Rx} {s : SL Int} {a n : Nat} {F : Nat → Nat → Prop} (hn : n < 1000000000) (hmin : x.Min ≤ 1000) (hy : x.Sub.xs[Int.toNat 0]? = some y) (hle : ∀ i j, i < n → F i j → j < n) (hM : ∀ i, i < n → ∃ o, lm y s i o ∧ Bits o.xs (F i) n) :
  ∀ (m : Nat) (i : Int) (v : OV) (P : Nat → Prop), i + m = x.Min → 0 ≤ i → (∀ k, P k → k < n) → Bits v.sl.xs P n → ∃ v', TW x s v i (TWx x s v' x.Min) ∧ Bits v'.sl.xs (fun k => ∃ j, P j ∧ powM F m j k) n
 | 0, i, v, P, hi, h0, hP, hv => by
  have : i = x.Min := by omega
  subst this
  refine ⟨v, ?_, hv.congr fun k _ => ⟨fun h => ⟨k, h, rfl⟩, fun ⟨j, h, e⟩ => by cases e; exact h⟩⟩
  cases v with
  | r l t => exact lm_l3_e1 (by omega)
  | d o => exact lm_l3_b_e3 (by omega)
 | m + 1, i, v, P, hi, h0, hP, hv => by
  obtain ⟨o, g1, g2⟩ := onward_run hn hv hM
  obtain ⟨v', k1, k2⟩ := timesM_loop (a := a) hn hmin hy hle hM m (i + 1) (.d o) _ (by omega) (by omega) (fun k ⟨j, j1, _, j3⟩ => hle j k j1 j3) g2
  have w : w64 (i + 1) := in64 (by omega) (by omega)
  refine ⟨v', ?_, k2.congr fun k _ => ?_⟩
  ·cases v with
   | r l t => exact lm_l3_s0 (by omega) hy (Nat.le_refl _) (by rw [take_all]; exact g1) w k1
   | d o => exact lm_l3_b_s2 (by omega) hy g1 w k1
  ·constructor
   ·rintro ⟨j, ⟨q, q1, q2, q3⟩, h⟩
    exact ⟨q, q2, j, q3, h⟩
   ·rintro ⟨q, q2, j, q3, h⟩
    exact ⟨j, ⟨q, hP q q2, q2, q3⟩, h⟩
def FW (x : Rx) (s : SL Int) (v : OV) (i : Int) (rs : Ex × XSt) : Prop := match v with
 | .r l t => lm_l4 x l s t l.length i rs
 | .d o => lm_l4_b x s o i rs
def FX (x : Rx) (s : SL Int) (v : OV) (i : Int) : Option (SL Int) → Ex × XSt := match v with
 | .r l t => fun q => match q with
  | some nx => lm_l4_x0 x l s t l.length i nx
  | none => lm_l4_x1 x l s t l.length i
 | .d o => fun q => match q with
  | some nx => lm_l4_x2 x s o i nx
  | none => lm_l4_x3 x s o i
def onesN : List Int → Nat
 | [] => 0
 | y :: r => (if y = 1 then 1 else 0) + onesN r
theorem onesN_le : ∀ l : List Int, onesN l ≤ l.length
 | [] => Nat.le_refl _
 | y :: r => by
  have := onesN_le r
  rw [onesN, List.length_cons]
  split <;> omega
theorem onesN_mono : ∀ {a b : List Int}, a.length = b.length → (∀ k : Nat, a[k]? = some 1 → b[k]? = some 1) → onesN a ≤ onesN b ∧ (onesN a = onesN b → ∀ k : Nat, b[k]? = some 1 → a[k]? = some 1)
 | [], [], _, _ => ⟨Nat.le_refl _, fun _ k h => by simp at h⟩
 | [], _ :: _, h, _ => by simp at h
 | _ :: _, [], h, _ => by simp at h
 | x :: a, y :: b, hl, h => by
  obtain ⟨h1, h2⟩ := onesN_mono (a := a) (b := b) (by simpa using hl) (fun k hk => by simpa using h (k + 1) (by simpa using hk))
  have h0 : x = 1 → y = 1 := fun e => by have := h 0 (by simp [e]); simpa using this
  rw [onesN, onesN]
  refine ⟨by split <;> split <;> omega, fun he k hk => ?_⟩
  have hxy : y = 1 → x = 1 := fun e => by
   rw [if_pos e] at he
   by_cases c : x = 1
   ·exact c
   ·rw [if_neg c] at he; omega
  have he2 : onesN a = onesN b := by
   by_cases c : x = 1
   ·rw [if_pos c, if_pos (h0 c)] at he; omega
   ·rw [if_neg c, if_neg (fun e => c (hxy e))] at he; omega
  cases k with
  | zero => simp at hk ⊢; exact hxy hk
  | succ k => simp at hk ⊢; exact h2 he2 k hk
theorem ints_dec {a b : SL Int} (hl : a.xs.length = b.xs.length) (hs : a.xs.length < 100000000000) : ref01_Ints a b (decide (a.xs = b.xs)) := by
 by_cases e : a.xs = b.xs
 ·rw [decide_eq_true e]; exact ints_run e hs
 rw [decide_eq_false e]
 suffices hh : ∀ (ra rb : List Int) (k : Nat), a.xs.drop k = ra → b.xs.drop k = rb → ra ≠ rb → ref01_Ints_l0 a b k ref01_Ints_l0_x0 from
  ref01_Ints_r1 (by omega) (hh a.xs b.xs 0 (by simp) (by simp) e)
 intro ra
 induction ra with
 | nil =>
  intro rb k h1 h2 hne
  have e1 := drop_nil_le h1
  cases rb with
  | nil => exact absurd rfl hne
  | cons y r => obtain ⟨_, _, h3⟩ := at_drop h2; omega
 | cons y ra ih =>
  intro rb k h1 h2 hne
  obtain ⟨g1, g2, g3⟩ := at_drop h1
  cases rb with
  | nil => have := drop_nil_le h2; omega
  | cons z rb =>
   obtain ⟨k1, k2, k3⟩ := at_drop h2
   by_cases c : y = z
   ·subst c
    exact ref01_Ints_l0_s1 (by omega) (by omega) g1 k1 rfl (in64 (by omega) (by omega)) (ih rb (k + 1) g2 k2 (fun e => hne (by rw [e])))
   ·exact ref01_Ints_l0_e0 (by omega) (by omega) g1 k1 c
def UpTo (F : Nat → Nat → Prop) (P0 : Nat → Prop) (t : Nat) (k : Nat) : Prop := ∃ u, u ≤ t ∧ ∃ j, P0 j ∧ powM F u j k
def Fin (x : Rx) (F : Nat → Nat → Prop) (P0 : Nat → Prop) (k : Nat) : Prop := ∃ u : Nat, (x.Max < 0 ∨ x.Min + u ≤ x.Max) ∧ ∃ j, P0 j ∧ powM F u j k
theorem powM_lt {F : Nat → Nat → Prop} {n : Nat} (hle : ∀ i j, i < n → F i j → j < n) : ∀ (u j k : Nat), j < n → powM F u j k → k < n
 | 0, j, k, hj, h => by cases h; exact hj
 | u + 1, j, k, hj, ⟨a, h1, h2⟩ => powM_lt hle u a k (hle j a hj h1) h2
theorem UpTo.next {F : Nat → Nat → Prop} {P0 : Nat → Prop} {n : Nat} (hP0 : ∀ k, P0 k → k < n) (hle : ∀ i j, i < n → F i j → j < n) {t k : Nat} : (UpTo F P0 t k ∨ ∃ j, j < n ∧ UpTo F P0 t j ∧ F j k) ↔ UpTo F P0 (t + 1) k := by
 constructor
 ·rintro (⟨u, h1, h2⟩ | ⟨j, _, ⟨u, h1, q, h2, h3⟩, h4⟩)
  ·exact ⟨u, by omega, h2⟩
  ·exact ⟨u + 1, by omega, q, h2, (powM_add F u 1 q k).2 ⟨j, h3, k, h4, rfl⟩⟩
 ·rintro ⟨u, h1, q, h2, h3⟩
  cases u with
  | zero => exact .inl ⟨0, Nat.zero_le _, q, h2, h3⟩
  | succ u =>
   obtain ⟨j, h4, w, h5, h6⟩ := (powM_add F u 1 q k).1 h3
   cases h6
   exact .inr ⟨j, powM_lt hle u q j (hP0 q h2) h4, ⟨u, by omega, q, h2, h4⟩, h5⟩
theorem UpTo.stable {F : Nat → Nat → Prop} {P0 : Nat → Prop} {n : Nat} (hP0 : ∀ k, P0 k → k < n) (hle : ∀ i j, i < n → F i j → j < n) {t : Nat} (h : ∀ k, k < n → (UpTo F P0 t k ↔ UpTo F P0 (t + 1) k)) : ∀ (u q k : Nat), P0 q → powM F u q k → UpTo F P0 t k
 | 0, q, k, h1, h2 => ⟨0, Nat.zero_le _, q, h1, h2⟩
 | u + 1, q, k, h1, h2 => by
  obtain ⟨j, h4, w, h5, h6⟩ := (powM_add F u 1 q k).1 h2
  cases h6
  have hj := powM_lt hle u q j (hP0 q h1) h4
  exact (h k (hle j k hj h5)).2 ((UpTo.next hP0 hle).1 (.inr ⟨j, hj, UpTo.stable hP0 hle h u q j h1 h4, h5⟩))
theorem optsM_loop {x y : Rx} {s : SL Int} {n : Nat} {F : Nat → Nat → Prop} {P0 : Nat → Prop} (hn : n < 1000000000) (hmin : 0 ≤ x.Min ∧ x.Min ≤ 1000) (hmax : x.Max ≤ 1000) (hy : x.Sub.xs[Int.toNat 0]? = some y) (hle : ∀ i j, i < n → F i j → j < n) (hP0 : ∀ k, P0 k → k < n) (hM : ∀ i, i < n → ∃ o, lm y s i o ∧ Bits o.xs (F i) n) :
  ∀ (m : Nat) (i : Int) (t : Nat) (v : OV), i = x.Min + t → (x.Max < 0 ∨ i ≤ x.Max) → n ≤ m + onesN v.sl.xs → t ≤ onesN v.sl.xs → Bits v.sl.xs (UpTo F P0 t) n → ∃ v' z q, FW x s v i (FX x s v' z q) ∧ Bits v'.sl.xs (Fin x F P0) n := by
 intro m
 induction m with
 | zero =>
  intro i t v hi hx hm ht hv
  obtain ⟨o, g1, g2⟩ := onward_run hn hv hM
  obtain ⟨nx, g3, g4⟩ := join_run hv g2 hn
  have g4' := g4.congr (Q := UpTo F P0 (t + 1)) fun k _ => UpTo.next hP0 hle
  have hl := hv.1
  have hl2 := g4'.1
  have hid := ints_dec (a := nx) (b := v.sl) (by omega) (by omega)
  have hon := onesN_mono (a := v.sl.xs) (b := nx.xs) (by omega) (fun k hk => by
   have hkn : k < n := by have := (List.getElem?_eq_some_iff.1 hk).1; omega
   exact (g4.one hkn).2 (.inl ((hv.one hkn).1 hk)))
  have hnx := onesN_le nx.xs
  have heq : nx.xs = v.sl.xs := (g4'.ext hv).2 fun k hk => by
   rw [← g4'.one hk, ← hv.one hk]
   exact ⟨hon.2 (by omega) k, fun h => (g4.one hk).2 (.inl ((hv.one hk).1 h))⟩
  rw [decide_eq_true heq] at hid
  have hst := (hv.ext g4').1 heq.symm
  have hfin : Bits v.sl.xs (Fin x F P0) n := hv.congr fun k hk => ⟨fun ⟨u, h1, h2⟩ => ⟨u, by omega, h2⟩, fun ⟨u, _, q, h1, h2⟩ => UpTo.stable hP0 hle hst u q k h1 h2⟩
  by_cases c1 : i < x.Max
  ·refine ⟨v, i, some nx, ?_, hfin⟩
   cases v with
   | r l t => exact lm_l4_e0 c1 hy (Nat.le_refl _) (by rw [take_all]; exact g1) (by rw [take_all]; exact g3) (by rw [take_all]; exact hid)
   | d o => exact lm_l4_b_e5 c1 hy g1 g3 hid
  ·by_cases c2 : x.Max < 0
   ·refine ⟨v, i, some nx, ?_, hfin⟩
    cases v with
    | r l t => exact lm_l4_e2 c1 c2 hy (Nat.le_refl _) (by rw [take_all]; exact g1) (by rw [take_all]; exact g3) (by rw [take_all]; exact hid)
    | d o => exact lm_l4_b_e7 c1 c2 hy g1 g3 hid
   ·refine ⟨v, i, none, ?_, hfin⟩
    cases v with
    | r l t => exact lm_l4_e4 c1 c2
    | d o => exact lm_l4_b_e9 c1 c2
 | succ m ih =>
  intro i t v hi hx hm ht hv
  obtain ⟨o, g1, g2⟩ := onward_run hn hv hM
  obtain ⟨nx, g3, g4⟩ := join_run hv g2 hn
  have g4' := g4.congr (Q := UpTo F P0 (t + 1)) fun k _ => UpTo.next hP0 hle
  have hl := hv.1
  have hl2 := g4'.1
  have hid := ints_dec (a := nx) (b := v.sl) (by omega) (by omega)
  have hon := onesN_mono (a := v.sl.xs) (b := nx.xs) (by omega) (fun k hk => by
   have hkn : k < n := by have := (List.getElem?_eq_some_iff.1 hk).1; omega
   exact (g4.one hkn).2 (.inl ((hv.one hkn).1 hk)))
  have hnx := onesN_le nx.xs
  by_cases heq : nx.xs = v.sl.xs
  ·rw [decide_eq_true heq] at hid
   have hst := (hv.ext g4').1 heq.symm
   have hfin : Bits v.sl.xs (Fin x F P0) n := hv.congr fun k hk => ⟨fun ⟨u, h1, h2⟩ => ⟨u, by omega, h2⟩, fun ⟨u, _, q, h1, h2⟩ => UpTo.stable hP0 hle hst u q k h1 h2⟩
   by_cases c1 : i < x.Max
   ·refine ⟨v, i, some nx, ?_, hfin⟩
    cases v with
    | r l t => exact lm_l4_e0 c1 hy (Nat.le_refl _) (by rw [take_all]; exact g1) (by rw [take_all]; exact g3) (by rw [take_all]; exact hid)
    | d o => exact lm_l4_b_e5 c1 hy g1 g3 hid
   ·by_cases c2 : x.Max < 0
    ·refine ⟨v, i, some nx, ?_, hfin⟩
     cases v with
     | r l t => exact lm_l4_e2 c1 c2 hy (Nat.le_refl _) (by rw [take_all]; exact g1) (by rw [take_all]; exact g3) (by rw [take_all]; exact hid)
     | d o => exact lm_l4_b_e7 c1 c2 hy g1 g3 hid
    ·refine ⟨v, i, none, ?_, hfin⟩
     cases v with
     | r l t => exact lm_l4_e4 c1 c2
     | d o => exact lm_l4_b_e9 c1 c2
  ·rw [decide_eq_false heq] at hid
   have hlt : onesN v.sl.xs < onesN nx.xs := by
    rcases Nat.lt_or_ge (onesN v.sl.xs) (onesN nx.xs) with h | h
    ·exact h
    ·exact absurd ((g4'.ext hv).2 fun k hk => by
      rw [← g4'.one hk, ← hv.one hk]
      exact ⟨hon.2 (by omega) k, fun h => (g4.one hk).2 (.inl ((hv.one hk).1 h))⟩) heq
   have hib : i ≤ 2000000000 := by
    have := onesN_le v.sl.xs
    omega
   have w : w64 (i + 1) := in64 (by omega) (by omega)
   by_cases c1 : i < x.Max
   ·obtain ⟨v', z, q, k1, k2⟩ := ih (i + 1) (t + 1) (.d nx) (by omega) (.inr (by omega)) (by show n ≤ m + onesN nx.xs; omega) (by show t + 1 ≤ onesN nx.xs; omega) g4'
    refine ⟨v', z, q, ?_, k2⟩
    cases v with
    | r l t => exact lm_l4_s1 c1 hy (Nat.le_refl _) (by rw [take_all]; exact g1) (by rw [take_all]; exact g3) (by rw [take_all]; exact hid) w k1
    | d o => exact lm_l4_b_s6 c1 hy g1 g3 hid w k1
   ·by_cases c2 : x.Max < 0
    ·obtain ⟨v', z, q, k1, k2⟩ := ih (i + 1) (t + 1) (.d nx) (by omega) (.inl c2) (by show n ≤ m + onesN nx.xs; omega) (by show t + 1 ≤ onesN nx.xs; omega) g4'
     refine ⟨v', z, q, ?_, k2⟩
     cases v with
     | r l t => exact lm_l4_s3 c1 c2 hy (Nat.le_refl _) (by rw [take_all]; exact g1) (by rw [take_all]; exact g3) (by rw [take_all]; exact hid) w k1
     | d o => exact lm_l4_b_s8 c1 c2 hy g1 g3 hid w k1
    ·have hfin : Bits v.sl.xs (Fin x F P0) n := hv.congr fun k hk => ⟨fun ⟨u, h1, h2⟩ => ⟨u, by omega, h2⟩, fun ⟨u, h0, h1⟩ => ⟨u, by omega, h1⟩⟩
     refine ⟨v, i, none, ?_, hfin⟩
     cases v with
     | r l t => exact lm_l4_e4 c1 c2
     | d o => exact lm_l4_b_e9 c1 c2
theorem means_run {s : SL Int} (hs : s.xs.length < 100000000) (hb : ∀ c ∈ s.xs, 0 ≤ c) : ∀ (n : Nat) {x : Rx}, wf_Rx x → rightR n x → ∀ a : Nat, a < s.xs.length + 1 → ∃ o, lm x s a o ∧ Bits o.xs (fun k => M n s.xs x a k) (s.xs.length + 1)
 | 0, x, hx, h, a, ha => h.elim
 | n + 1, x, hx, h, a, ha => by
  obtain ⟨w1, w2, w3⟩ := wfRx_small hx
  have ih : ∀ y ∈ x.Sub.xs, ∀ i, i < s.xs.length + 1 → ∃ o, lm y s i o ∧ Bits o.xs (fun k => M n s.xs y i k) (s.xs.length + 1) := fun y hy i hi => means_run hs hb n (w3 y hy) (h.2 y hy) i hi
  have hle : ∀ y ∈ x.Sub.xs, ∀ i j, i < s.xs.length + 1 → M n s.xs y i j → j < s.xs.length + 1 := fun y _ i j hi hm => by have := (M_le n i j (by omega) hm).2; omega
  have h4 := h.1.2.2.2
  have ew : ((s.xs.length : Int) + 1).toNat = s.xs.length + 1 := by omega
  have wl : w64 ((s.xs.length : Int) + 1) := in64 (by omega) (by omega)
  have hz : (List.replicate ((s.xs.length : Int) + 1).toNat (0 : Int))[((a : Nat) : Int).toNat]? = some 0 := by rw [List.getElem?_replicate, if_pos (by omega)]
  have hn1 : s.xs.length + 1 < 1000000000 := by omega
  have out_of : ∀ {v : OV} {P Q : Nat → Prop}, lm x s a v.sl → Bits v.sl.xs P (s.xs.length + 1) → (∀ k, P k ↔ Q k) → ∃ o, lm x s a o ∧ Bits o.xs Q (s.xs.length + 1) := fun g1 g2 e => ⟨_, g1, g2.congr fun k _ => e k⟩
  by_cases k1 : x.Kind = 1
  ·refine ⟨_, lm_r0 wl (by omega) (by omega) k1 (by omega) hz (by omega) (by simp), ?_⟩
   rw [ew, Int.toNat_natCast]
   show Bits (List.take (s.xs.length + 1) ((List.replicate (s.xs.length + 1) (0 : Int)).set a 1)) _ _
   rw [tkA]
   exact (bits_zero (s.xs.length + 1)).set.congr fun k _ => by simp [M, k1]
  by_cases k2 : x.Kind = 2
  ·obtain ⟨out', z, g1, g2⟩ := set_loop (x := x) (s := s) (a := a) (n := 0) (by omega) (by unfold small at w1; omega) (by omega) x.Ranges.xs 0 (List.replicate (s.xs.length + 1) 0) _ (by simp) (bits_zero _)
   refine ⟨_, lm_r1 wl (by omega) (by omega) k1 k2 (by rw [ew]; exact g1) (by rw [ew]; have := g2.1; omega), ?_⟩
   show Bits (List.take _ out') _ _
   rw [ew, show s.xs.length + 1 = out'.length from g2.1.symm, take_all, g2.1]
   exact g2.congr fun k _ => by
    simp only [M, if_pos k2, false_or]
    constructor
    ·rintro ⟨⟨c, c1, c2⟩, e⟩; exact ⟨c, c1, c2, e⟩
    ·rintro ⟨c, c1, c2, e⟩; exact ⟨⟨c, c1, c2⟩, e⟩
  by_cases k6 : x.Kind = 6
  ·obtain ⟨o, g1, g2⟩ := means_k6 (s := s) (at_ := a) k6 (by omega) (by omega) hb
   exact ⟨o, g1, by rw [g2]; exact (outB_bits _ _ _).congr fun k _ => by simp [M, k6]⟩
  by_cases k7 : x.Kind = 7
  ·obtain ⟨o, g1, g2⟩ := means_k7 (s := s) (at_ := a) k7 (by omega) (by omega) hb
   exact ⟨o, g1, by rw [g2]; exact (outB_bits _ _ _).congr fun k _ => by simp [M, k7]⟩
  by_cases k8 : x.Kind = 8
  ·obtain ⟨o, g1, g2⟩ := means_k8 (s := s) (at_ := a) k8 (by omega) (by omega) hb
   exact ⟨o, g1, by rw [g2]; exact (outB_bits _ _ _).congr fun k _ => by simp [M, k8]⟩
  by_cases k9 : x.Kind = 9
  ·obtain ⟨o, g1, g2⟩ := means_k9 (s := s) (at_ := a) k9 (by omega) (by omega) hb
   exact ⟨o, g1, by rw [g2]; exact (outB_bits _ _ _).congr fun k _ => by simp [M, k9]⟩
  have l0 : (List.replicate (s.xs.length + 1) (0 : Int)).length = s.xs.length + 1 := List.length_replicate
  have l1 : ((List.replicate (s.xs.length + 1) (0 : Int)).set a 1).length = s.xs.length + 1 := by simp
  have bset : Bits ((List.replicate (s.xs.length + 1) (0 : Int)).set a 1) (fun k => k = a) (s.xs.length + 1) := (bits_zero (s.xs.length + 1)).set.congr fun k _ => by simp
  by_cases k4 : x.Kind = 4
  ·obtain ⟨v', z, g1, g2⟩ := altM_loop (x := x) (s := s) (a := a) (R := fun y k => M n s.xs y a k) hn1 w2 (fun y hy => ih y hy a ha) x.Sub.xs 0 (.r (List.replicate (s.xs.length + 1) 0) true) _ (by simp) (bits_zero _)
   have g1' : lm_l1 x (List.replicate (s.xs.length + 1) 0) s a true (List.replicate (s.xs.length + 1) (0 : Int)).length 0 (AWx x s a v' z) := g1
   rw [l0] at g1'
   refine out_of (v := v') ?_ g2 (fun k => by simp [M, k4])
   cases v' with
   | r l t => have := lm_r56 wl (by omega) (by omega) k1 k2 k6 k7 k8 k9 k4 (by rw [ew]; exact g1') (Nat.le_refl _); rwa [take_all] at this
   | d o => exact lm_r57 wl (by omega) (by omega) k1 k2 k6 k7 k8 k9 k4 (by rw [ew]; exact g1')
  by_cases k3 : x.Kind = 3
  ·obtain ⟨v', z, g1, g2⟩ := seqMs_loop (x := x) (s := s) (a := a) (R := fun y i k => M n s.xs y i k) hn1 w2 hle ih x.Sub.xs 0 (.r ((List.replicate (s.xs.length + 1) 0).set a 1) true) (fun k => k = a) (by simp) (fun k e => by omega) bset
   have g1' : lm_l2 x ((List.replicate (s.xs.length + 1) 0).set a 1) s true ((List.replicate (s.xs.length + 1) (0 : Int)).set a 1).length 0 (SWx x s v' z) := g1
   rw [l1] at g1'
   refine out_of (v := v') ?_ g2 (fun k => ?_)
   ·cases v' with
    | r l t => have := lm_r58 wl (by omega) (by omega) k1 k2 k6 k7 k8 k9 k4 k3 (by omega) hz (by omega) (by rw [ew, Int.toNat_natCast]; exact g1') (Nat.le_refl _); rwa [take_all] at this
    | d o => exact lm_r59 wl (by omega) (by omega) k1 k2 k6 k7 k8 k9 k4 k3 (by omega) hz (by omega) (by rw [ew, Int.toNat_natCast]; exact g1')
   ·simp only [M, if_neg k2, if_pos k3]
    constructor
    ·rintro ⟨j, rfl, h⟩; exact h
    ·intro h; exact ⟨a, rfl, h⟩
  have k5 : x.Kind = 5 := by omega
  obtain ⟨_, hl, a1, a2, a3, a4, a5⟩ : x.Kind = 5 ∧ x.Sub.xs.length = 1 ∧ 0 ≤ x.Min ∧ x.Min ≤ 1000 ∧ -1 ≤ x.Max ∧ x.Max ≤ 1000 ∧ (x.Max < 0 ∨ x.Min ≤ x.Max) := by omega
  obtain ⟨y, hy⟩ := List.length_eq_one_iff.1 hl
  have hm : y ∈ x.Sub.xs := by rw [hy]; simp
  have hsub : x.Sub.xs[Int.toNat 0]? = some y := by rw [hy]; rfl
  obtain ⟨v1, g1, g2⟩ := timesM_loop (x := x) (s := s) (a := a) (F := fun i k => M n s.xs y i k) hn1 a2 hsub (hle y hm) (ih y hm) x.Min.toNat 0 (.r ((List.replicate (s.xs.length + 1) 0).set a 1) true) (fun k => k = a) (by omega) (by omega) (fun k e => by omega) bset
  have g1' : lm_l3 x ((List.replicate (s.xs.length + 1) 0).set a 1) s true ((List.replicate (s.xs.length + 1) (0 : Int)).set a 1).length 0 (TWx x s v1 x.Min) := g1
  rw [l1] at g1'
  have hP0 : ∀ k, (∃ j, j = a ∧ powM (fun i k => M n s.xs y i k) x.Min.toNat j k) → k < s.xs.length + 1 := fun k ⟨j, e, hp⟩ => powM_lt (hle y hm) _ j k (by omega) hp
  obtain ⟨v2, z, q, f1, f2⟩ := optsM_loop (x := x) (s := s) (P0 := fun k => ∃ j, j = a ∧ powM (fun i k => M n s.xs y i k) x.Min.toNat j k) hn1 ⟨a1, a2⟩ a4 hsub (hle y hm) hP0 (ih y hm) (s.xs.length + 1) x.Min 0 v1 (by omega) (by omega) (by omega) (Nat.zero_le _) (g2.congr fun k _ => ⟨fun h => ⟨0, Nat.le_refl _, k, h, rfl⟩, fun ⟨u, hu, j, hj, hp⟩ => by
    have : u = 0 := by omega
    subst this
    cases hp
    exact hj⟩)
  refine out_of (v := v2) ?_ f2 (fun k => ?_)
  ·have A : ((a : Nat) : Int).toNat < ((s.xs.length : Int) + 1).toNat := by omega
   cases v1 with
   | r l t =>
    cases v2 with
    | r l2 t2 =>
     cases q with
     | none => have := lm_r61 wl (by omega) (by omega) k1 k2 k6 k7 k8 k9 k4 k3 k5 (by omega) hz A (by rw [ew, Int.toNat_natCast]; exact g1') f1 (Nat.le_refl _); rwa [take_all] at this
     | some nx => have := lm_r60 wl (by omega) (by omega) k1 k2 k6 k7 k8 k9 k4 k3 k5 (by omega) hz A (by rw [ew, Int.toNat_natCast]; exact g1') f1 (Nat.le_refl _); rwa [take_all] at this
    | d o2 =>
     cases q with
     | none => exact lm_r63 wl (by omega) (by omega) k1 k2 k6 k7 k8 k9 k4 k3 k5 (by omega) hz A (by rw [ew, Int.toNat_natCast]; exact g1') f1
     | some nx => exact lm_r62 wl (by omega) (by omega) k1 k2 k6 k7 k8 k9 k4 k3 k5 (by omega) hz A (by rw [ew, Int.toNat_natCast]; exact g1') f1
   | d o =>
    cases v2 with
    | r l2 t2 =>
     cases q with
     | none => have := lm_r65 wl (by omega) (by omega) k1 k2 k6 k7 k8 k9 k4 k3 k5 (by omega) hz A (by rw [ew, Int.toNat_natCast]; exact g1') f1 (Nat.le_refl _); rwa [take_all] at this
     | some nx => have := lm_r64 wl (by omega) (by omega) k1 k2 k6 k7 k8 k9 k4 k3 k5 (by omega) hz A (by rw [ew, Int.toNat_natCast]; exact g1') f1 (Nat.le_refl _); rwa [take_all] at this
    | d o2 =>
     cases q with
     | none => exact lm_r67 wl (by omega) (by omega) k1 k2 k6 k7 k8 k9 k4 k3 k5 (by omega) hz A (by rw [ew, Int.toNat_natCast]; exact g1') f1
     | some nx => exact lm_r66 wl (by omega) (by omega) k1 k2 k6 k7 k8 k9 k4 k3 k5 (by omega) hz A (by rw [ew, Int.toNat_natCast]; exact g1') f1
  ·simp only [M, if_neg k2, if_neg k3, if_neg k4, if_pos k5, hy]
   constructor
   ·rintro ⟨u, h1, j, ⟨_, rfl, h2⟩, h3⟩
    exact ⟨x.Min.toNat + u, by omega, by omega, (powM_add _ _ _ _ _).2 ⟨j, h2, h3⟩⟩
   ·rintro ⟨t, h1, h2, h3⟩
    obtain ⟨u, rfl⟩ : ∃ u, t = x.Min.toNat + u := ⟨t - x.Min.toNat, by omega⟩
    obtain ⟨j, h4, h5⟩ := (powM_add _ _ _ _ _).1 h3
    exact ⟨u, by omega, j, ⟨a, rfl, h4⟩, h5⟩
end Go.Proofs.YtjnfkifdgojdaaaGreat.V

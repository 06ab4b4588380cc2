/- Typed data, and what the printed rules need. -/
import Derived.Test.YtjnfkifdgojdaaaGreatV29
import Derived.Test.YtjnfkifdgojdaaaGreatV32
import Derived.Laws.Strings
namespace Go.Proofs.YtjnfkifdgojdaaaGreat.V
open Go
set_option linter.unusedVariables false
set_option linter.unusedSimpArgs false
set_option linter.unusedSectionVars false
def XLp (C : Calling) (byref : FuncId → List Nat) (pin : Nat) (keep : List Nat) (c : VCode) (S : XSt) (r : Ex × XSt) : Prop := ∃ n0, ∀ n, n0 ≤ n → Lpn C byref pin keep c S r n
def xRound (C : Calling) (byref : FuncId → List Nat) (pin n : Nat) (keep : List Nat) (c : VCode) (S : XSt) (as : List Ans) : Option (Option Prop × XSt) := match xCode C byref pin n c S as with
 | some (p, (.nrm, st1), []) => some (p, xgcSt pin keep st1)
 | _ => none
def RoundN (C : Calling) (byref : FuncId → List Nat) (pin : Nat) (keep : List Nat) (c : VCode) (S S1 : XSt) (n : Nat) : Prop := ∃ st1 : St, gcSt pin keep st1 = S1.den ∧ eval C byref pin n c S.den = some (.nrm, st1)
theorem xRound_run {C : Calling} {byref : FuncId → List Nat} {pin n : Nat} {keep : List Nat} {c : VCode} {S S1 : XSt} {p : Option Prop} (as : List Ans) (h : xRound C byref pin n keep c S as = some (p, S1)) (hp : holdsO p) : RoundN C byref pin keep c S S1 n := by
 unfold xRound at h
 split at h
 ·rename_i p' st1 h1
  cases h
  exact ⟨st1.den, xgcSt_den pin keep st1, xCode_sound h1 hp⟩
 ·cases h
theorem RoundN.up {C : Calling} {byref : FuncId → List Nat} {pin : Nat} {keep : List Nat} {c : VCode} {S S1 : XSt} {n : Nat} (h : RoundN C byref pin keep c S S1 n) {m : Nat} (hm : n ≤ m) : RoundN C byref pin keep c S S1 m := by
 obtain ⟨st1, h1, h2⟩ := h
 exact ⟨st1, h1, eval_le (Le.refl C) hm h2⟩
theorem XLp.step {C : Calling} {byref : FuncId → List Nat} {pin : Nat} {keep : List Nat} {c : VCode} {S S1 : XSt} {r : Ex × XSt} (h2 : XLp C byref pin keep c S1 r) (h : ∃ n0, ∀ n, n0 ≤ n → RoundN C byref pin keep c S S1 n) : XLp C byref pin keep c S r := by
 obtain ⟨n1, h1⟩ := h
 obtain ⟨n2, h2⟩ := h2
 obtain ⟨st1, hg, he⟩ := h1 n1 (Nat.le_refl _)
 exact Lp.step st1 ⟨n1, fun n hn => eval_le (Le.refl C) hn he⟩ hg ⟨n2, h2⟩
theorem XLp.exit {C : Calling} {byref : FuncId → List Nat} {pin : Nat} {keep : List Nat} {c : VCode} {S : XSt} {r : Ex × XSt} (he : r.1 ≠ .nrm) (h : ∃ n0, ∀ n, n0 ≤ n → XCn C byref pin c S r n) : XLp C byref pin keep c S r :=
 Lp.exit h he
theorem xFn_run {C : Calling} {byref : FuncId → List Nat} {n : Nat} {fn : VFn} {args : List AV} {sto sto' : List XO} {out : Out} (as : List Ans) {p : Option Prop} (h : xFn C byref n fn args sto as = some (p, (out, sto'))) (hp : holdsO p) : evalFn C byref n fn args (dens sto) = some (out, dens sto') := xFn_sound h hp
theorem xCode_run {C : Calling} {byref : FuncId → List Nat} {pin n : Nat} {c : VCode} {st : XSt} {r : Ex × XSt} (as : List Ans) {p : Option Prop} (h : xCode C byref pin n c st as = some (p, r, [])) (hp : holdsO p) : XCn C byref pin c st r n := xCode_sound h hp
abbrev w64 (z : Int) : Prop := IntKind.i64.wrap z = z
def VCode.s1 : VCode → VCode
 | .seq a _ => a
 | c => c
def VCode.s2 : VCode → VCode
 | .seq _ b => b
 | c => c
def VCode.c1 : VCode → VCode
 | .cond _ a _ => a
 | c => c
def VCode.c2 : VCode → VCode
 | .cond _ _ b => b
 | c => c
def VCode.bk : VCode → VCode
 | .block _ a => a
 | c => c
abbrev di (n : Int) : D := .int .i64 n
abbrev ai (n : Int) : AV := .d (.int .i64 n)
abbrev ab (b : Bool) : AV := .d (.bool b)
structure SL (α : Type) where
 e : Nat
 xs : List α
 t : Bool
def esOf {α : Type} (es e : Nat) : List α → Nat
 | [] => e
 | _ :: _ => es
abbrev dl {α : Type} (enc : α → D) (l : List α) : List D := l.map enc
def slD {α : Type} (es : Nat) (enc : α → D) (s : SL α) : D := .sl (esOf es s.e s.xs) (dl enc s.xs) s.t
section
variable {α : Type} {es : Nat} {enc : α → D}
theorem esOf_self (l : List α) : esOf es es l = es := by cases l <;> rfl
theorem esOf_or (e : Nat) (l : List α) : esOf es e l = es ∨ l.map enc = [] := by cases l <;> simp [esOf]
theorem fetch {s : SL α} {i : Int} {y : α} {d : D} (h0 : 0 ≤ i) (h : s.xs[i.toNat]? = some y) (he : enc y = d) : esOf es s.e s.xs = es ∧ 0 ≤ i ∧ (dl enc s.xs)[i.toNat]? = some d := by
 subst he
 refine ⟨?_, h0, by rw [List.getElem?_map, h]; rfl⟩
 cases hx : s.xs with
 | nil => rw [hx] at h; simp at h
 | cons => rfl
theorem fetchE (es : Nat) (enc : α → D) (s : SL α) (i : Int) {y : α} (h0 : 0 ≤ i) (h : s.xs[i.toNat]? = some y) : esOf es s.e s.xs = es ∧ 0 ≤ i ∧ (dl enc s.xs)[i.toNat]? = some (enc y) := fetch h0 h rfl
theorem c_get {ns : List Int} {i : Nat} {y : Int} (h : ns[i]? = some y) : ns[0 + i]? = some y := by rwa [Nat.zero_add]
theorem dl_getE (enc : α → D) {l : List α} {i : Nat} {y : α} (h : l[i]? = some y) : (dl enc l)[0 + i]? = some (enc y) := by
 rw [Nat.zero_add, List.getElem?_map, h]; rfl
theorem dl_setE (enc : α → D) {l : List α} {i : Nat} {y : α} (y' : α) (h : l[i]? = some y) : (dl enc l)[0 + i]? = some (enc y) ∧ (dl enc l).set (0 + i) (enc y') = dl enc (l.set i y') := by
 refine ⟨dl_getE enc h, ?_⟩
 rw [Nat.zero_add]; exact List.map_set.symm
theorem len_dl (enc : α → D) (l : List α) : (dl enc l).length = l.length := List.length_map ..
theorem elems_slD (es : Nat) (enc : α → D) (s : SL α) : elemsS [] es (.d (slD es enc s)) = some ((dl enc s.xs).map .d) := by
 show (if esOf es s.e s.xs = es ∨ dl enc s.xs = [] then some ((dl enc s.xs).map AV.d) else none) = _
 rw [if_pos (esOf_or _ _)]
theorem ap_row {P : Prop} (enc : α → D) (l new : List α) (bytes : Nat) (h : P) (hb : (l.length + new.length) * bytes ≤ 140737488355328) : P ∧ l.length ≤ (dl enc l).length ∧ (l.length + (dl enc new).length) * bytes ≤ mostBytes ∧ (dl enc l).take l.length ++ dl enc new = dl enc (l ++ new) ∧ l.length + (dl enc new).length = (l ++ new).length := by
 refine ⟨h, by rw [List.length_map]; exact Nat.le_refl _, by rw [List.length_map]; exact hb, ?_, by rw [List.length_map, List.length_append]⟩
 rw [← List.map_take, List.take_length]; exact List.map_append.symm
theorem ap_row' {P : Prop} (enc : α → D) (l new : List α) (bytes n : Nat) (hn : n ≤ l.length) (h : P) (hb : (n + new.length) * bytes ≤ 140737488355328) : P ∧ n ≤ (dl enc l).length ∧ (n + (dl enc new).length) * bytes ≤ mostBytes ∧ (dl enc l).take n ++ dl enc new = dl enc (l.take n ++ new) ∧ n + (dl enc new).length = (l.take n ++ new).length := by
 refine ⟨h, by rw [List.length_map]; exact hn, by rw [List.length_map]; exact hb, ?_, by rw [List.length_map, List.length_append, List.length_take]; omega⟩
 rw [← List.map_take]; exact List.map_append.symm
theorem ap_o {P : Prop} (enc : α → D) (l new : List α) (bytes : Nat) (cs : List AV) (k : Nat) (hk : cs.length = k) (hl : l.length = k) (hc : cs = (dl enc l).map .d) (h : P) (hb : (k + new.length) * bytes ≤ 140737488355328) : P ∧ k ≤ cs.length ∧ (k + (dl enc new).length) * bytes ≤ mostBytes ∧ cs.take k ++ (dl enc new).map .d = (dl enc (l ++ new)).map .d ∧ k + (dl enc new).length = (l ++ new).length := by
 subst hk
 refine ⟨h, Nat.le_refl _, by rw [List.length_map]; exact hb, ?_, by rw [List.length_map, List.length_append, hl]⟩
 rw [List.take_length, hc]
 simp
theorem ap_sl {P : Prop} (es : Nat) (enc : α → D) (s : SL α) (new : List α) (bytes : Nat) (ht : s.t = true) (hne : new ≠ []) (h : P) (hb : (s.xs.length + new.length) * bytes ≤ 140737488355328) : P ∧ dl enc new ≠ [] ∧ (s.t = true ∧ (esOf es s.e s.xs = es ∨ dl enc s.xs = []) ∧ ((dl enc s.xs).length + (dl enc new).length) * bytes ≤ mostBytes) ∧ dl enc s.xs ++ dl enc new = dl enc (s.xs ++ new) ∧ (dl enc s.xs).length + (dl enc new).length = (s.xs ++ new).length := by
 refine ⟨h, ?_, ⟨ht, esOf_or _ _, ?_⟩, ?_, ?_⟩
 ·intro e; apply hne; simpa using e
 ·rw [List.length_map, List.length_map]; exact hb
 ·exact List.map_append.symm
 ·rw [List.length_map, List.length_map, List.length_append]
theorem snap_row' (es : Nat) (enc : α → D) (t : Bool) (id : Nat) {n : Nat} {l : List α} (hn : n ≤ l.length) : es = es ∧ 0 + n ≤ (dl enc l).length ∧ slD es enc ⟨es, l.take n, t⟩ = .sl es (((dl enc l).drop 0).take n) t ∧ [id] = [id] := by
 refine ⟨rfl, by rw [List.length_map]; omega, ?_, rfl⟩
 simp only [slD, esOf_self, List.drop_zero]
 congr 1
 exact List.map_take
theorem snap_row (es : Nat) (enc : α → D) (t : Bool) (id : Nat) (l : List α) : es = es ∧ 0 + l.length ≤ (dl enc l).length ∧ slD es enc ⟨es, l, t⟩ = .sl es (((dl enc l).drop 0).take l.length) t ∧ [id] = [id] := by
 have := snap_row' es enc t id (Nat.le_refl l.length)
 rwa [List.take_length] at this
theorem mk_row {k : Nat} {n m : Int} {bytes : Nat} {t : Bool} {ag : Bool} {zero : List D} {y : α} (h0 : 0 ≤ n) (h1 : n ≤ m) (h2 : m * bytes ≤ 281474976710656) (hb : 0 < bytes) (ht : (n == m) = t) (hk : n.toNat = k) (hz : elemOf ag zero = .d (enc y)) :
  (0 ≤ n ∧ n ≤ m ∧ m * bytes ≤ 281474976710656 ∧ 0 < bytes ∧ m ≤ 9223372036854775807) ∧ (n == m) = t ∧ n.toNat = k ∧ List.replicate k (elemOf ag zero) = (dl enc (List.replicate k y)).map .d := by
 refine ⟨⟨h0, h1, h2, hb, ?_⟩, ht, hk, by rw [hz]; simp⟩
 have : m * 1 ≤ m * bytes := Int.mul_le_mul_of_nonneg_left (by omega) (by omega)
 omega
end
section
variable {α : Type} {es : Nat} {enc : α → D} {s : SL α}
theorem bd_hm {len : Nat} {c : Option Nat} {k k' : IntKind} {hi : Int} (h0 : 0 ≤ hi) (h : hi.toNat ≤ len) : bounds len c none (some (.d (.int k hi))) (some (.d (.int k' hi))) = some (0, hi.toNat, true) := by
 simp only [bounds, intOf, if_pos h0]
 rw [if_pos ⟨Nat.zero_le _, h⟩, if_pos (by omega)]
def slOk (s : SL α) (es : Nat) (enc : α → D) (lo hi mx : Option AV) (l h : Nat) (t : Bool) (z : D) : Prop := (esOf es s.e s.xs = es ∨ dl enc s.xs = []) ∧ bounds (dl enc s.xs).length (if s.t then some (dl enc s.xs).length else none) lo hi mx = some (l, h, t) ∧ z = .sl es (((dl enc s.xs).drop l).take (h - l)) t
theorem sl_hm {k k' : IntKind} {hi : Int} (h0 : 0 ≤ hi) (h : hi.toNat ≤ s.xs.length) : slOk s es enc none (some (.d (.int k hi))) (some (.d (.int k' hi))) 0 hi.toNat true (slD es enc ⟨es, s.xs.take hi.toNat, true⟩) := by
 refine ⟨esOf_or _ _, ?_, ?_⟩
 ·rw [bd_hm h0 (by simpa using h)]
 ·simp only [slD, esOf_self]
  congr 1
  rw [List.drop_zero, ← List.map_take, Nat.sub_zero]
theorem rw_hm {n : Nat} {t : Bool} {k k' : IntKind} {hi : Int} (h0 : 0 ≤ hi) (h : hi.toNat ≤ n) : bounds n (if t then some n else none) none (some (.d (.int k hi))) (some (.d (.int k' hi))) = some (0, hi.toNat, true) := bd_hm h0 h
end
def strInts (s : ByteArray) : List Int := s.data.toList.map fun b => (b.toNat : Int)
def bytesOf (l : List Int) : List UInt8 := l.map fun n => UInt8.ofNat n.toNat
theorem str_bytes (s : ByteArray) : .sl 1 (bytesD s) false = slD 1 (D.int .u8) ⟨1, strInts s, false⟩ := by
 simp only [slD, esOf_self, strInts, bytesD, List.map_map]
 rfl
theorem unbytes_data : ∀ l : List Int, unbytes ((dl (D.int .u8) l).map .d) = some (bytesOf l)
 | [] => rfl
 | x :: r => by
  show (match unbytes ((dl (D.int .u8) r).map .d) with | some bs => some (UInt8.ofNat x.toNat :: bs) | none => none) = _
  rw [unbytes_data r]; rfl
def bitAnd (k : IntKind) (x y : Int) : Int := k.wrap (BitVec.ofInt k.bits x &&& BitVec.ofInt k.bits y).toNat
def bitOr (k : IntKind) (x y : Int) : Int := k.wrap (BitVec.ofInt k.bits x ||| BitVec.ofInt k.bits y).toNat
theorem bin_int {op : BinOp} {k : IntKind} {a b : Int} (h1 : op ≠ .shl) (h2 : op ≠ .shr) : binD op (.int k a) (.int k b) = intOp op k a b := by
 simp only [binD]
 rw [if_neg h1, if_neg h2, if_pos trivial]
theorem z_add {k : IntKind} {a b : Int} (h : k.wrap (a + b) = a + b) : binD .add (.int k a) (.int k b) = some (.int k (a + b)) := by
 rw [bin_int (by decide) (by decide)]; simp only [intOp, h]
theorem z_sub {k : IntKind} {a b : Int} (h : k.wrap (a - b) = a - b) : binD .sub (.int k a) (.int k b) = some (.int k (a - b)) := by
 rw [bin_int (by decide) (by decide)]; simp only [intOp, h]
theorem z_mul {k : IntKind} {a b : Int} (h : k.wrap (a * b) = a * b) : binD .mul (.int k a) (.int k b) = some (.int k (a * b)) := by
 rw [bin_int (by decide) (by decide)]; simp only [intOp, h]
theorem z_shl {k k' : IntKind} {a b : Int} {m : Nat} (hb : b = m) (hm : m ≤ k.bits) (h : k.wrap (a * 2 ^ m) = a * 2 ^ m) : binD .shl (.int k a) (.int k' b) = some (.int k (a * 2 ^ m)) := by
 simp only [binD]
 rw [if_pos trivial, if_neg (by omega)]
 subst hb
 have e1 : Nat.min (Int.toNat (m : Int)) k.bits = m := by
  rw [Int.toNat_natCast]; exact Nat.min_eq_left hm
 rw [e1, h]
theorem z_bit {op : BinOp} {k : IntKind} {a b : Int} {z : D} (h1 : op ≠ .shl) (h2 : op ≠ .shr) (h : intOp op k a b = some z) : binD op (.int k a) (.int k b) = some z := by
 rw [bin_int h1 h2, h]
theorem mm_min {k : IntKind} {a b : Int} : minmax true a [.d (.int k b)] = some (min a b) := by
 simp only [minmax, if_true, Int.min_def]
 split <;> split <;> first | rfl | (congr 1; omega)
theorem mm_max {k : IntKind} {a b : Int} : minmax false a [.d (.int k b)] = some (max a b) := by
 simp only [minmax, Int.max_def]
 split <;> split <;> first | rfl | (congr 1; omega) | simp_all
theorem in64 {z : Int} (h1 : -9223372036854775808 ≤ z) (h2 : z ≤ 9223372036854775807) : IntKind.i64.wrap z = z := by
 unfold IntKind.wrap
 simp [IntKind.signed, IntKind.bits]
 omega
section
variable {K W : Type}
def KeyOk (ag : Bool) (ks : List SK) (ek : K → D) : Prop := ∀ a b, (a = b → keyEq ag ks (ek a) (ek b) = some true) ∧ (a ≠ b → keyEq ag ks (ek a) (ek b) = some false)
abbrev mp (ek : K → D) (ev : W → D) (l : List (K × W)) : List (D × D) := l.map fun p => (ek p.1, ev p.2)
open Classical in
noncomputable def mfind (k : K) : List (K × W) → Option W
 | [] => none
 | (x, v) :: r => if k = x then some v else mfind k r
open Classical in
noncomputable def mput (k : K) (v : W) : List (K × W) → List (K × W)
 | [] => [(k, v)]
 | (x, u) :: r => if k = x then (k, v) :: r else (x, u) :: mput k v r
open Classical in
noncomputable def midx (k : K) : List (K × W) → Nat
 | [] => 0
 | (x, u) :: r => if k = x then 0 else midx k r + 1
theorem keyOk_int (k : IntKind) : KeyOk false [.int] (D.int k) := fun a b => ⟨fun h => by subst h; simp [keyEq, eqK], fun h => by simp [keyEq, eqK, h]⟩
theorem findKV_mp {ag : Bool} {ks : List SK} {ek : K → D} (hk : KeyOk ag ks ek) (ev : W → D) (k : K) : ∀ (l : List (K × W)) (j : Nat), findKV ag ks (ek k) (kvD (mp ek ev l)) j = some ((mfind k l).map fun v => (j + midx k l, .d (ev v)))
 | [], j => rfl
 | (x, v) :: r, j => by
  simp only [mp, kvD, List.map_cons, findKV, mfind, midx]
  by_cases h : k = x
  ·rw [(hk k x).1 h, if_pos h, if_pos h]
   rfl
  ·rw [(hk k x).2 h, if_neg h, if_neg h]
   have := findKV_mp hk ev k r (j + 1)
   simp only [mp, kvD] at this
   dsimp only
   rw [this]
   congr 1
   cases mfind k r with
   | none => rfl
   | some u => simp only [Option.map_some]; congr 2; omega
theorem updD_mp {ag : Bool} {ks : List SK} {ek : K → D} (hk : KeyOk ag ks ek) (ev : W → D) (k : K) (v : W) : ∀ l : List (K × W), updD ag ks (ek k) (ev v) (mp ek ev l) = some (mp ek ev (mput k v l))
 | [] => rfl
 | (x, u) :: r => by
  simp only [mp, List.map_cons, updD, mput]
  by_cases h : k = x
  ·rw [(hk k x).1 h, if_pos h]
   rfl
  ·rw [(hk k x).2 h, if_neg h]
   have := updD_mp hk ev k v r
   simp only [mp] at this
   dsimp only
   rw [this]
   rfl
section
variable {ag : Bool} {ks : List SK} {ek : K → D} {ev : W → D} {k : K} {v w : W} {l : List (K × W)}
theorem mf_ok (hk : KeyOk ag ks ek) (h : mfind k l = some v) : ∃ i, findKV ag ks (ek k) (kvD (mp ek ev l)) 0 = some (some (i, .d (ev v))) := ⟨0 + midx k l, by rw [findKV_mp hk, h]; rfl⟩
theorem m0_ok (hk : KeyOk ag ks ek) (h : mfind k l = none) : findKV ag ks (ek k) (kvD (mp ek ev l)) 0 = some none := by rw [findKV_mp hk, h]; rfl
theorem mu_ok (hk : KeyOk ag ks ek) : updD ag ks (ek k) (ev v) (mp ek ev l) = some (mp ek ev (mput k v l)) := updD_mp hk ev k v l
end
theorem mfind_put (k j : K) (v : W) : ∀ l : List (K × W), (k = j → mfind j (mput k v l) = some v) ∧ (k ≠ j → mfind j (mput k v l) = mfind j l)
 | [] => ⟨fun h => by simp [mput, mfind, h], fun h => by simp [mput, mfind, Ne.symm h]⟩
 | (x, u) :: r => by
  obtain ⟨h1, h2⟩ := mfind_put k j v r
  by_cases hx : k = x
  ·subst hx
   refine ⟨fun h => by simp [mput, mfind, h], fun h => ?_⟩
   simp only [mput, if_pos, mfind]
   rw [if_neg (Ne.symm h), if_neg (Ne.symm h)]
  ·simp only [mput, if_neg hx, mfind]
   refine ⟨fun h => ?_, fun h => ?_⟩
   ·subst h
    rw [if_neg hx, h1 rfl]
   ·by_cases hj : j = x
    ·rw [if_pos hj, if_pos hj]
    ·rw [if_neg hj, if_neg hj, h2 h]
end
end Go.Proofs.YtjnfkifdgojdaaaGreat.V

/- Rules: what each path of each function does (printed). -/
import Derived.Test.YtkkekfehjbbhoaaGreatDoorVP
namespace Go.Proofs.YtkkekfehjbbhoaaGreatDoor.V
open Go
set_option linter.unusedVariables false
set_option maxRecDepth 10000
set_option maxHeartbeats 1000000
/- caliper caliperlaw03.DecCompares -/
def law_DecCompares (a : Dec) (b : Dec) (q0 : Bool) : Prop :=
  R 4 [(.d (e_Dec a)), (.d (e_Dec b))] (dens []) = some (.ret (ab q0), dens [])
/- caliper dec.Compare -/
def dec_Compare (a : Dec) (b : Dec) (q0 : Int) (q1 : Int) : Prop :=
  R 11 [(.d (e_Dec a)), (.d (e_Dec b))] (dens []) = some (.ret (.tup [(ai q0), (ai q1)]), dens [])
/- caliper dec.Check -/
/- strings.Trim -/
/- caliper dec.sign -/
/- cmp.Compare[int] -/
/- cmp.isNaN[int] -/
/- cmp.Compare[string] -/
def cmp_Compare_string (x : ByteArray) (y : ByteArray) (q0 : Int) : Prop :=
  R 31 [(.d (.str x)), (.d (.str y))] (dens []) = some (.ret (ai q0), dens [])
/- cmp.isNaN[string] -/
def cmp_isNaN_string (x : ByteArray) (q0 : Bool) : Prop :=
  R 50 [(.d (.str x))] (dens []) = some (.ret (ab q0), dens [])
theorem cmp_isNaN_string_r0 {x : ByteArray} (h0 : x = x) : cmp_isNaN_string x false := by
  exact R_fn tab_50 rfl ⟨0, fun n hn => xFn_run (p := some _) [.b false] (by kernel_rfl) (s_neq_f' h0)⟩
theorem cmp_Compare_string_r3 {x y : ByteArray} (h0 : cmp_isNaN_string x false) (h1 : cmp_isNaN_string y false) (h2 : binD .lss (.str x) (.str y) = some (.bool true)) : cmp_Compare_string x y (-1) := by
  exact R_fn tab_31 rfl ⟨0, fun n hn => xFn_run (p := some _) [.out (.ret (ab false)) [], .out (.ret (ab false)) [], .b true] (by kernel_rfl) (And.intro h0 (And.intro h1 h2))⟩
theorem cmp_Compare_string_r4 {x y : ByteArray} (h0 : cmp_isNaN_string x false) (h1 : cmp_isNaN_string y false) (h2 : binD .lss (.str x) (.str y) = some (.bool false)) (h3 : binD .gtr (.str x) (.str y) = some (.bool true)) : cmp_Compare_string x y 1 := by
  exact R_fn tab_31 rfl ⟨0, fun n hn => xFn_run (p := some _) [.out (.ret (ab false)) [], .out (.ret (ab false)) [], .b false, .b true] (by kernel_rfl) (And.intro h0 (And.intro h1 (And.intro h2 h3)))⟩
theorem cmp_Compare_string_r5 {x y : ByteArray} (h0 : cmp_isNaN_string x false) (h1 : cmp_isNaN_string y false) (h2 : binD .lss (.str x) (.str y) = some (.bool false)) (h3 : binD .gtr (.str x) (.str y) = some (.bool false)) : cmp_Compare_string x y 0 := by
  exact R_fn tab_31 rfl ⟨0, fun n hn => xFn_run (p := some _) [.out (.ret (ab false)) [], .out (.ret (ab false)) [], .b false, .b false] (by kernel_rfl) (And.intro h0 (And.intro h1 (And.intro h2 h3)))⟩
/- cmp.Or[int] -/
def cmp_Or_int (vals : SL Int) (q0 : Int) : Prop :=
  R 30 [(.d (slD 1 (D.int .i64) vals))] (dens []) = some (.ret (ai q0), dens [])
def cmp_Or_int_l0 (zero : Int) (t6 : SL Int) (t7 : Int) (t8 : Int) (r_ : Ex × XSt) : Prop :=
  XLp R (byrefOf tab) 0 [3, 6, 7, 8] f30_l0 ⟨[(3, (ai zero)), (6, (.d (slD 1 (D.int .i64) t6))), (7, (ai t7)), (8, (ai t8))], []⟩ r_
def cmp_Or_int_l0_x0 (t2 : Int) : Ex × XSt := (.ret, ⟨[(2, (ai t2))], []⟩)
def cmp_Or_int_l0_x1 (zero : Int) (t6 : SL Int) (t7 : Int) (t8 : Int) : Ex × XSt := ((.ext 0), ⟨[(3, (ai zero)), (6, (.d (slD 1 (D.int .i64) t6))), (7, (ai t7)), (8, (ai t8)), (9, (ab false))], []⟩)
theorem cmp_Or_int_l0_e0 {zero : Int} {t6 : SL Int} {t7 t8 y0 : Int} (h0 : t8 < t7) (h1 : 0 ≤ t8) (h2 : t6.xs[(t8).toNat]? = some y0) (h3 : y0 ≠ zero) : cmp_Or_int_l0 zero t6 t7 t8 (cmp_Or_int_l0_x0 y0) := by
  exact XLp.exit (by intro e; cases e) ⟨0, fun n hn => xCode_run (p := some _) [.b true, .d (di y0), .b true] (by kernel_rfl) (And.intro h0 (And.intro (fetchE 1 (D.int .i64) t6 t8 h1 h2) h3))⟩
theorem cmp_Or_int_l0_s1 {zero : Int} {t6 : SL Int} {t7 t8 y0 : Int} (h0 : t8 < t7) (h1 : 0 ≤ t8) (h2 : t6.xs[(t8).toNat]? = some y0) (h3 : y0 = zero) (h4 : w64 (t8 + 1)) {r_ : Ex × XSt} (hk : cmp_Or_int_l0 zero t6 t7 (t8 + 1) r_) : cmp_Or_int_l0 zero t6 t7 t8 r_ := by
  exact XLp.step hk ⟨0, fun n hn => xRound_run (p := some _) [.b true, .d (di y0), .b false, .z (di (t8 + 1))] (by kernel_rfl) (And.intro h0 (And.intro (And.intro (fetchE 1 (D.int .i64) t6 t8 h1 h2) (Classical.not_not.2 h3)) (z_add h4)))⟩
theorem cmp_Or_int_l0_e2 {zero : Int} {t6 : SL Int} {t7 t8 : Int} (h0 : ¬ t8 < t7) : cmp_Or_int_l0 zero t6 t7 t8 (cmp_Or_int_l0_x1 zero t6 t7 t8) := by
  exact XLp.exit (by intro e; cases e) ⟨0, fun n hn => xCode_run (p := some _) [.b false] (by kernel_rfl) h0⟩
theorem cmp_Or_int_r0 {vals : SL Int} {z0 : Int} (h0 : cmp_Or_int_l0 0 vals (vals.xs.length : Int) 0 (cmp_Or_int_l0_x0 z0)) : cmp_Or_int vals z0 := by
  obtain ⟨h0_1, h0_2⟩ := h0
  exact R_fn tab_30 rfl ⟨h0_1, fun n hn => xFn_run (p := some _) [.n vals.xs.length, .lp (cmp_Or_int_l0_x0 z0)] (by kernel_rfl) (And.intro (len_dl (D.int .i64) vals.xs) (h0_2 n (by omega)))⟩
theorem cmp_Or_int_r1 {vals : SL Int} {z0 : Int} (h0 : cmp_Or_int_l0 0 vals (vals.xs.length : Int) 0 (cmp_Or_int_l0_x1 0 vals (vals.xs.length : Int) z0)) : cmp_Or_int vals 0 := by
  obtain ⟨h0_1, h0_2⟩ := h0
  exact R_fn tab_30 rfl ⟨h0_1, fun n hn => xFn_run (p := some _) [.n vals.xs.length, .lp (cmp_Or_int_l0_x1 0 vals (vals.xs.length : Int) z0)] (by kernel_rfl) (And.intro (len_dl (D.int .i64) vals.xs) (h0_2 n (by omega)))⟩
theorem dec_Compare_r1 {a b : Dec} {r0 r1 : Int} (h0 : dec_Check a r0) (h1 : r0 = 0) (h2 : dec_Check b r1) (h3 : r1 ≠ 0) : dec_Compare a b 0 2 := by
  exact R_fn tab_11 rfl ⟨0, fun n hn => xFn_run (p := some _) [.out (.ret (ai r0)) [], .b false, .out (.ret (ai r1)) [], .b true] (by kernel_rfl) (And.intro h0 (And.intro (Classical.not_not.2 h1) (And.intro h2 h3)))⟩
theorem dec_Compare_r2 {a b : Dec} {r0 r1 r2 r3 r4 : Int} (h0 : dec_Check a r0) (h1 : r0 = 0) (h2 : dec_Check b r1) (h3 : r1 = 0) (h4 : dec_sign a r2) (h5 : dec_sign b r3) (h6 : cmp_Compare_int r2 r3 r4) (h7 : r4 ≠ 0) : dec_Compare a b r4 0 := by
  exact R_fn tab_11 rfl ⟨0, fun n hn => xFn_run (p := some _) [.out (.ret (ai r0)) [], .b false, .out (.ret (ai r1)) [], .b false, .d (di r2), .d (di r3), .d (di r4), .b true] (by kernel_rfl) (And.intro (And.intro h0 (And.intro (Classical.not_not.2 h1) (And.intro h2 (Classical.not_not.2 h3)))) (And.intro (And.intro h4 (And.intro h5 h6)) h7))⟩
theorem dec_Compare_r3 {a b : Dec} {r0 r1 r2 r3 r4 : Int} (h0 : dec_Check a r0) (h1 : r0 = 0) (h2 : dec_Check b r1) (h3 : r1 = 0) (h4 : dec_sign a r2) (h5 : dec_sign b r3) (h6 : cmp_Compare_int r2 r3 r4) (h7 : r4 = 0) (h8 : eqK [.bool, .str, .int] [(.bool a.Neg), (.str a.Digits), (di a.Exp)] [(.bool b.Neg), (.str b.Digits), (di b.Exp)] = some true) : dec_Compare a b r4 0 := by
  exact R_fn tab_11 rfl ⟨0, fun n hn => xFn_run (p := some _) [.out (.ret (ai r0)) [], .b false, .out (.ret (ai r1)) [], .b false, .d (di r2), .d (di r3), .d (di r4), .b false, .b true] (by kernel_rfl) (And.intro (And.intro h0 (And.intro (Classical.not_not.2 h1) (And.intro h2 (Classical.not_not.2 h3)))) (And.intro (And.intro h4 (And.intro h5 h6)) (And.intro (Classical.not_not.2 h7) h8)))⟩
theorem dec_Compare_r4 {a b : Dec} {r0 r1 r2 r3 r4 r5 r6 r7 r8 : Int} (h0 : dec_Check a r0) (h1 : r0 = 0) (h2 : dec_Check b r1) (h3 : r1 = 0) (h4 : dec_sign a r2) (h5 : dec_sign b r3) (h6 : cmp_Compare_int r2 r3 r4) (h7 : r4 = 0) (h8 : eqK [.bool, .str, .int] [(.bool a.Neg), (.str a.Digits), (di a.Exp)] [(.bool b.Neg), (.str b.Digits), (di b.Exp)] = some false) (h9 : w64 ((a.Digits.size : Int) + a.Exp)) (h10 : w64 ((b.Digits.size : Int) + b.Exp)) (h11 : cmp_Compare_int ((a.Digits.size : Int) + a.Exp) ((b.Digits.size : Int) + b.Exp) r5) (h12 : cmp_Compare_string a.Digits b.Digits r6) (h13 : cmp_Or_int ⟨1, [r5, r6], true⟩ r7) (h14 : dec_sign a r8) (h15 : w64 (r7 * r8)) : dec_Compare a b (r7 * r8) 0 := by
  exact R_fn tab_11 rfl ⟨0, fun n hn => xFn_run (p := some _) [.out (.ret (ai r0)) [], .b false, .out (.ret (ai r1)) [], .b false, .d (di r2), .d (di r3), .d (di r4), .b false, .b false, .z (di ((a.Digits.size : Int) + a.Exp)), .z (di ((b.Digits.size : Int) + b.Exp)), .d (di r5), .d (di r6), .d (di r7), .out (.ret (ai r8)) [], .z (di (r7 * r8))] (by kernel_rfl) (And.intro (And.intro h0 (And.intro (Classical.not_not.2 h1) (And.intro h2 (Classical.not_not.2 h3)))) (And.intro (And.intro (And.intro h4 (And.intro h5 h6)) (And.intro (Classical.not_not.2 h7) h8)) (And.intro (And.intro (z_add h9) (And.intro (z_add h10) (And.intro h11 (And.intro h12 h13)))) (And.intro h14 (z_mul h15)))))⟩
/- caliper caliperref03.Compare -/
def ref03_Compare (a : Dec) (b : Dec) (q0 : Int) (q1 : Int) : Prop :=
  R 12 [(.d (e_Dec a)), (.d (e_Dec b))] (dens []) = some (.ret (.tup [(ai q0), (ai q1)]), dens [])
/- caliper caliperref03.Check -/
/- caliper caliperref03.digit -/
/- caliper caliperref03.sign -/
/- caliper caliperref03.size -/
def ref03_size (a : Dec) (b : Dec) (q0 : Int) : Prop :=
  R 32 [(.d (e_Dec a)), (.d (e_Dec b))] (dens []) = some (.ret (ai q0), dens [])
def ref03_size_l0 (a : Dec) (b : Dec) (i : Int) (r_ : Ex × XSt) : Prop :=
  XLp R (byrefOf tab) 0 [2, 3, 7] f32_l0 ⟨[(2, (.ptr 0 3 0 0)), (3, (.ptr 1 3 0 0)), (7, (ai i))], [(.o (.row 3 [(.d (e_Dec a))] false)), (.o (.row 3 [(.d (e_Dec b))] false))]⟩ r_
def ref03_size_l0_x0 (o0 : Dec) (o1 : Dec) : Ex × XSt := (.ret, ⟨[(4, (ai (-1)))], [(.o (.row 3 [(.d (e_Dec o0))] false)), (.o (.row 3 [(.d (e_Dec o1))] false))]⟩)
def ref03_size_l0_x1 (o0 : Dec) (o1 : Dec) : Ex × XSt := (.ret, ⟨[(4, (ai 1))], [(.o (.row 3 [(.d (e_Dec o0))] false)), (.o (.row 3 [(.d (e_Dec o1))] false))]⟩)
def ref03_size_l0_x2 (a : Dec) (b : Dec) (i : Int) : Ex × XSt := ((.ext 0), ⟨[(2, (.ptr 0 3 0 0)), (3, (.ptr 1 3 0 0)), (7, (ai i)), (39, (ab false))], [(.o (.row 3 [(.d (e_Dec a))] false)), (.o (.row 3 [(.d (e_Dec b))] false))]⟩)
theorem ref03_size_l0_e0 {a b : Dec} {i : Int} {b0 b1 : UInt8} (h0 : i < (a.Digits.size : Int)) (h1 : 0 ≤ i) (h2 : a.Digits[(i).toNat]? = some b0) (h3 : i < (b.Digits.size : Int)) (h4 : b.Digits[(i).toNat]? = some b1) (h5 : (b0.toNat : Int) ≠ (b1.toNat : Int)) (h6 : (b0.toNat : Int) < (b1.toNat : Int)) : ref03_size_l0 a b i (ref03_size_l0_x0 a b) := by
  exact XLp.exit (by intro e; cases e) ⟨0, fun n hn => xCode_run (p := some _) [.b true, .b true, .byte b0, .b true, .byte b1, .b true, .b true] (by kernel_rfl) (And.intro h0 (And.intro (And.intro h0 (And.intro (h1 : 0 ≤ (i : Int)) h2)) (And.intro (And.intro h3 (And.intro (h1 : 0 ≤ (i : Int)) h4)) (And.intro h5 h6))))⟩
theorem ref03_size_l0_e1 {a b : Dec} {i : Int} {b0 b1 : UInt8} (h0 : i < (a.Digits.size : Int)) (h1 : 0 ≤ i) (h2 : a.Digits[(i).toNat]? = some b0) (h3 : i < (b.Digits.size : Int)) (h4 : b.Digits[(i).toNat]? = some b1) (h5 : (b0.toNat : Int) ≠ (b1.toNat : Int)) (h6 : ¬ (b0.toNat : Int) < (b1.toNat : Int)) : ref03_size_l0 a b i (ref03_size_l0_x1 a b) := by
  exact XLp.exit (by intro e; cases e) ⟨0, fun n hn => xCode_run (p := some _) [.b true, .b true, .byte b0, .b true, .byte b1, .b true, .b false] (by kernel_rfl) (And.intro h0 (And.intro (And.intro h0 (And.intro (h1 : 0 ≤ (i : Int)) h2)) (And.intro (And.intro h3 (And.intro (h1 : 0 ≤ (i : Int)) h4)) (And.intro h5 h6))))⟩
theorem ref03_size_l0_s2 {a b : Dec} {i : Int} {b0 b1 : UInt8} (h0 : i < (a.Digits.size : Int)) (h1 : 0 ≤ i) (h2 : a.Digits[(i).toNat]? = some b0) (h3 : i < (b.Digits.size : Int)) (h4 : b.Digits[(i).toNat]? = some b1) (h5 : (b0.toNat : Int) = (b1.toNat : Int)) (h6 : w64 (i + 1)) {r_ : Ex × XSt} (hk : ref03_size_l0 a b (i + 1) r_) : ref03_size_l0 a b i r_ := by
  exact XLp.step hk ⟨0, fun n hn => xRound_run (p := some _) [.b true, .b true, .byte b0, .b true, .byte b1, .b false, .z (di (i + 1))] (by kernel_rfl) (And.intro h0 (And.intro (And.intro (And.intro h0 (And.intro (h1 : 0 ≤ (i : Int)) h2)) (And.intro (And.intro h3 (And.intro (h1 : 0 ≤ (i : Int)) h4)) (Classical.not_not.2 h5))) (z_add h6)))⟩
theorem ref03_size_l0_e4 {a b : Dec} {i : Int} {b0 : UInt8} (h0 : i < (a.Digits.size : Int)) (h1 : 0 ≤ i) (h2 : a.Digits[(i).toNat]? = some b0) (h3 : ¬ i < (b.Digits.size : Int)) (h4 : (b0.toNat : Int) ≠ 48) (h5 : ¬ (b0.toNat : Int) < 48) : ref03_size_l0 a b i (ref03_size_l0_x1 a b) := by
  exact XLp.exit (by intro e; cases e) ⟨0, fun n hn => xCode_run (p := some _) [.b true, .b true, .byte b0, .b false, .b true, .b false] (by kernel_rfl) (And.intro h0 (And.intro (And.intro h0 (And.intro (h1 : 0 ≤ (i : Int)) h2)) (And.intro h3 (And.intro h4 h5))))⟩
theorem ref03_size_l0_s5 {a b : Dec} {i : Int} {b0 : UInt8} (h0 : i < (a.Digits.size : Int)) (h1 : 0 ≤ i) (h2 : a.Digits[(i).toNat]? = some b0) (h3 : ¬ i < (b.Digits.size : Int)) (h4 : (b0.toNat : Int) = 48) (h5 : w64 (i + 1)) {r_ : Ex × XSt} (hk : ref03_size_l0 a b (i + 1) r_) : ref03_size_l0 a b i r_ := by
  exact XLp.step hk ⟨0, fun n hn => xRound_run (p := some _) [.b true, .b true, .byte b0, .b false, .b false, .z (di (i + 1))] (by kernel_rfl) (And.intro h0 (And.intro (And.intro (And.intro h0 (And.intro (h1 : 0 ≤ (i : Int)) h2)) (And.intro h3 (Classical.not_not.2 h4))) (z_add h5)))⟩
theorem ref03_size_l0_e6 {a b : Dec} {i : Int} {b0 : UInt8} (h0 : ¬ i < (a.Digits.size : Int)) (h1 : i < (b.Digits.size : Int)) (h2 : 0 ≤ i) (h3 : b.Digits[(i).toNat]? = some b0) (h4 : 48 ≠ (b0.toNat : Int)) (h5 : 48 < (b0.toNat : Int)) : ref03_size_l0 a b i (ref03_size_l0_x0 a b) := by
  exact XLp.exit (by intro e; cases e) ⟨0, fun n hn => xCode_run (p := some _) [.b false, .b true, .b false, .b true, .byte b0, .b true, .b true] (by kernel_rfl) (And.intro (And.intro h0 h1) (And.intro h0 (And.intro (And.intro h1 (And.intro (h2 : 0 ≤ (i : Int)) h3)) (And.intro h4 h5))))⟩
theorem ref03_size_l0_s8 {a b : Dec} {i : Int} {b0 : UInt8} (h0 : ¬ i < (a.Digits.size : Int)) (h1 : i < (b.Digits.size : Int)) (h2 : 0 ≤ i) (h3 : b.Digits[(i).toNat]? = some b0) (h4 : 48 = (b0.toNat : Int)) (h5 : w64 (i + 1)) {r_ : Ex × XSt} (hk : ref03_size_l0 a b (i + 1) r_) : ref03_size_l0 a b i r_ := by
  exact XLp.step hk ⟨0, fun n hn => xRound_run (p := some _) [.b false, .b true, .b false, .b true, .byte b0, .b false, .z (di (i + 1))] (by kernel_rfl) (And.intro (And.intro h0 h1) (And.intro (And.intro h0 (And.intro (And.intro h1 (And.intro (h2 : 0 ≤ (i : Int)) h3)) (Classical.not_not.2 h4))) (z_add h5)))⟩
theorem ref03_size_l0_e9 {a b : Dec} {i : Int} (h0 : ¬ i < (a.Digits.size : Int)) (h1 : ¬ i < (b.Digits.size : Int)) : ref03_size_l0 a b i (ref03_size_l0_x2 a b i) := by
  exact XLp.exit (by intro e; cases e) ⟨0, fun n hn => xCode_run (p := some _) [.b false, .b false] (by kernel_rfl) (And.intro h0 h1)⟩
theorem ref03_size_r0 {a b : Dec} (h0 : w64 ((a.Digits.size : Int) + a.Exp)) (h1 : w64 ((b.Digits.size : Int) + b.Exp)) (h2 : ((a.Digits.size : Int) + a.Exp) ≠ ((b.Digits.size : Int) + b.Exp)) (h3 : ((a.Digits.size : Int) + a.Exp) < ((b.Digits.size : Int) + b.Exp)) : ref03_size a b (-1) := by
  exact R_fn tab_32 rfl ⟨0, fun n hn => xFn_run (p := some _) [.z (di ((a.Digits.size : Int) + a.Exp)), .z (di ((b.Digits.size : Int) + b.Exp)), .b true, .b true] (by kernel_rfl) (And.intro (And.intro (z_add h0) (z_add h1)) (And.intro h2 h3))⟩
theorem ref03_size_r1 {a b : Dec} (h0 : w64 ((a.Digits.size : Int) + a.Exp)) (h1 : w64 ((b.Digits.size : Int) + b.Exp)) (h2 : ((a.Digits.size : Int) + a.Exp) ≠ ((b.Digits.size : Int) + b.Exp)) (h3 : ¬ ((a.Digits.size : Int) + a.Exp) < ((b.Digits.size : Int) + b.Exp)) : ref03_size a b 1 := by
  exact R_fn tab_32 rfl ⟨0, fun n hn => xFn_run (p := some _) [.z (di ((a.Digits.size : Int) + a.Exp)), .z (di ((b.Digits.size : Int) + b.Exp)), .b true, .b false] (by kernel_rfl) (And.intro (And.intro (z_add h0) (z_add h1)) (And.intro h2 h3))⟩
theorem ref03_size_r2 {a b : Dec} (h0 : w64 ((a.Digits.size : Int) + a.Exp)) (h1 : w64 ((b.Digits.size : Int) + b.Exp)) (h2 : ((a.Digits.size : Int) + a.Exp) = ((b.Digits.size : Int) + b.Exp)) (h3 : ref03_size_l0 a b 0 (ref03_size_l0_x0 a b)) : ref03_size a b (-1) := by
  obtain ⟨h3_1, h3_2⟩ := h3
  exact R_fn tab_32 rfl ⟨h3_1, fun n hn => xFn_run (p := some _) [.z (di ((a.Digits.size : Int) + a.Exp)), .z (di ((b.Digits.size : Int) + b.Exp)), .b false, .lp (ref03_size_l0_x0 a b)] (by kernel_rfl) (And.intro (And.intro (z_add h0) (z_add h1)) (And.intro (Classical.not_not.2 h2) (h3_2 n (by omega))))⟩
theorem ref03_size_r3 {a b : Dec} (h0 : w64 ((a.Digits.size : Int) + a.Exp)) (h1 : w64 ((b.Digits.size : Int) + b.Exp)) (h2 : ((a.Digits.size : Int) + a.Exp) = ((b.Digits.size : Int) + b.Exp)) (h3 : ref03_size_l0 a b 0 (ref03_size_l0_x1 a b)) : ref03_size a b 1 := by
  obtain ⟨h3_1, h3_2⟩ := h3
  exact R_fn tab_32 rfl ⟨h3_1, fun n hn => xFn_run (p := some _) [.z (di ((a.Digits.size : Int) + a.Exp)), .z (di ((b.Digits.size : Int) + b.Exp)), .b false, .lp (ref03_size_l0_x1 a b)] (by kernel_rfl) (And.intro (And.intro (z_add h0) (z_add h1)) (And.intro (Classical.not_not.2 h2) (h3_2 n (by omega))))⟩
theorem ref03_size_r4 {a b : Dec} {z0 : Int} (h0 : w64 ((a.Digits.size : Int) + a.Exp)) (h1 : w64 ((b.Digits.size : Int) + b.Exp)) (h2 : ((a.Digits.size : Int) + a.Exp) = ((b.Digits.size : Int) + b.Exp)) (h3 : ref03_size_l0 a b 0 (ref03_size_l0_x2 a b z0)) : ref03_size a b 0 := by
  obtain ⟨h3_1, h3_2⟩ := h3
  exact R_fn tab_32 rfl ⟨h3_1, fun n hn => xFn_run (p := some _) [.z (di ((a.Digits.size : Int) + a.Exp)), .z (di ((b.Digits.size : Int) + b.Exp)), .b false, .lp (ref03_size_l0_x2 a b z0)] (by kernel_rfl) (And.intro (And.intro (z_add h0) (z_add h1)) (And.intro (Classical.not_not.2 h2) (h3_2 n (by omega))))⟩
theorem ref03_Compare_r2 {a b : Dec} {r0 r1 r2 r3 : Int} (h0 : ref03_Check a r0) (h1 : r0 = 0) (h2 : ref03_Check b r1) (h3 : r1 = 0) (h4 : ref03_sign a r2) (h5 : ref03_sign b r3) (h6 : r2 < r3) : ref03_Compare a b (-1) 0 := by
  exact R_fn tab_12 rfl ⟨0, fun n hn => xFn_run (p := some _) [.out (.ret (ai r0)) [], .b false, .out (.ret (ai r1)) [], .b false, .d (di r2), .d (di r3), .b true] (by kernel_rfl) (And.intro (And.intro h0 (And.intro (Classical.not_not.2 h1) (And.intro h2 (Classical.not_not.2 h3)))) (And.intro (And.intro h4 h5) h6))⟩
theorem ref03_Compare_r3 {a b : Dec} {r0 r1 r2 r3 : Int} (h0 : ref03_Check a r0) (h1 : r0 = 0) (h2 : ref03_Check b r1) (h3 : r1 = 0) (h4 : ref03_sign a r2) (h5 : ref03_sign b r3) (h6 : ¬ r2 < r3) (h7 : r2 > r3) : ref03_Compare a b 1 0 := by
  exact R_fn tab_12 rfl ⟨0, fun n hn => xFn_run (p := some _) [.out (.ret (ai r0)) [], .b false, .out (.ret (ai r1)) [], .b false, .d (di r2), .d (di r3), .b false, .b true] (by kernel_rfl) (And.intro (And.intro h0 (And.intro (Classical.not_not.2 h1) (And.intro h2 (Classical.not_not.2 h3)))) (And.intro (And.intro h4 h5) (And.intro h6 h7)))⟩
theorem ref03_Compare_r4 {a b : Dec} {r0 r1 r2 r3 : Int} (h0 : ref03_Check a r0) (h1 : r0 = 0) (h2 : ref03_Check b r1) (h3 : r1 = 0) (h4 : ref03_sign a r2) (h5 : ref03_sign b r3) (h6 : ¬ r2 < r3) (h7 : ¬ r2 > r3) (h8 : r2 = 0) : ref03_Compare a b 0 0 := by
  exact R_fn tab_12 rfl ⟨0, fun n hn => xFn_run (p := some _) [.out (.ret (ai r0)) [], .b false, .out (.ret (ai r1)) [], .b false, .d (di r2), .d (di r3), .b false, .b false, .b true] (by kernel_rfl) (And.intro (And.intro h0 (And.intro (Classical.not_not.2 h1) (And.intro h2 (Classical.not_not.2 h3)))) (And.intro (And.intro h4 h5) (And.intro h6 (And.intro h7 h8))))⟩
theorem ref03_Compare_r5 {a b : Dec} {r0 r1 r2 r3 r4 : Int} (h0 : ref03_Check a r0) (h1 : r0 = 0) (h2 : ref03_Check b r1) (h3 : r1 = 0) (h4 : ref03_sign a r2) (h5 : ref03_sign b r3) (h6 : ¬ r2 < r3) (h7 : ¬ r2 > r3) (h8 : ¬ r2 = 0) (h9 : ref03_size a b r4) (h10 : w64 (r2 * r4)) : ref03_Compare a b (r2 * r4) 0 := by
  exact R_fn tab_12 rfl ⟨0, fun n hn => xFn_run (p := some _) [.out (.ret (ai r0)) [], .b false, .out (.ret (ai r1)) [], .b false, .d (di r2), .d (di r3), .b false, .b false, .b false, .out (.ret (ai r4)) [], .z (di (r2 * r4))] (by kernel_rfl) (And.intro (And.intro h0 (And.intro (Classical.not_not.2 h1) (And.intro h2 (Classical.not_not.2 h3)))) (And.intro (And.intro h4 h5) (And.intro (And.intro h6 (And.intro h7 h8)) (And.intro h9 (z_mul h10)))))⟩
/- caliper caliperlaw03.heads -/
/- caliper caliperlaw03.DecOrder -/
def law_DecOrder (a : Dec) (b : Dec) (c : Dec) (q0 : Bool) : Prop :=
  R 6 [(.d (e_Dec a)), (.d (e_Dec b)), (.d (e_Dec c))] (dens []) = some (.ret (ab q0), dens [])
end Go.Proofs.YtkkekfehjbbhoaaGreatDoor.V

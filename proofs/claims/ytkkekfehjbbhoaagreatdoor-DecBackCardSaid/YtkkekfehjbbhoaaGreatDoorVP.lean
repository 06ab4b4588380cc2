/- Rules: what each path of each function does (printed). -/
import Derived.Test.YtkkekfehjbbhoaaGreatDoorVX
namespace Go.Proofs.YtkkekfehjbbhoaaGreatDoor.V
open Go
set_option linter.unusedVariables false
set_option maxRecDepth 10000
set_option maxHeartbeats 1000000
/- caliper caliperlaw03.DecMultiples -/
def law_DecMultiples (a : Dec) (b : Dec) (q0 : Bool) : Prop :=
  R 3 [(.d (e_Dec a)), (.d (e_Dec b))] (dens []) = some (.ret (ab q0), dens [])
/- caliper caliperlaw03.heads -/
def law_heads (q0 : Bool) : Prop :=
  R 8 [] (dens []) = some (.ret (ab q0), dens [])
/- caliper dec.Multiple -/
def dec_Multiple (a : Dec) (b : Dec) (q0 : Bool) (q1 : Int) : Prop :=
  R 9 [(.d (e_Dec a)), (.d (e_Dec b))] (dens []) = some (.ret (.tup [(ab q0), (ai q1)]), dens [])
/- caliper dec.Check -/
def dec_Check (d : Dec) (q0 : Int) : Prop :=
  R 13 [(.d (e_Dec d))] (dens []) = some (.ret (ai q0), dens [])
/- strings.Trim -/
def strings_Trim (s : ByteArray) (cutset : ByteArray) (q0 : ByteArray) : Prop :=
  R 33 [(.d (.str s)), (.d (.str cutset))] (dens []) = some (.ret (.d (.str q0)), dens [])
theorem dec_Check_r0 {d : Dec} (h0 : (d.Digits.size : Int) = 0) (h1 : eqK [.bool, .str, .int] [(.bool d.Neg), (.str d.Digits), (di d.Exp)] [(.bool false), (.str (⟨#[]⟩ : ByteArray)), (di 0)] = some true) : dec_Check d 0 := by
  exact R_fn tab_13 rfl ⟨0, fun n hn => xFn_run (p := some _) [.b true, .b true] (by kernel_rfl) (And.intro h0 h1)⟩
theorem dec_Check_r1 {d : Dec} (h0 : (d.Digits.size : Int) = 0) (h1 : eqK [.bool, .str, .int] [(.bool d.Neg), (.str d.Digits), (di d.Exp)] [(.bool false), (.str (⟨#[]⟩ : ByteArray)), (di 0)] = some false) : dec_Check d 2 := by
  exact R_fn tab_13 rfl ⟨0, fun n hn => xFn_run (p := some _) [.b true, .b false] (by kernel_rfl) (And.intro h0 h1)⟩
theorem dec_Check_r2 {d : Dec} (h0 : ¬ (d.Digits.size : Int) = 0) (h1 : (d.Digits.size : Int) > 65536) : dec_Check d 2 := by
  exact R_fn tab_13 rfl ⟨0, fun n hn => xFn_run (p := some _) [.b false, .b true] (by kernel_rfl) (And.intro h0 h1)⟩
theorem dec_Check_r3 {d : Dec} {b0 : UInt8} (h0 : ¬ (d.Digits.size : Int) = 0) (h1 : ¬ (d.Digits.size : Int) > 65536) (h2 : d.Digits[Int.toNat 0]? = some b0) (h3 : (b0.toNat : Int) = 48) : dec_Check d 2 := by
  exact R_fn tab_13 rfl ⟨0, fun n hn => xFn_run (p := some _) [.b false, .b false, .byte b0, .b true] (by kernel_rfl) (And.intro h0 (And.intro h1 (And.intro (And.intro ((by decide : 0 ≤ (0 : Int)) : 0 ≤ (0 : Int)) h2) h3)))⟩
theorem dec_Check_r4 {d : Dec} {b0 b1 : UInt8} (h0 : ¬ (d.Digits.size : Int) = 0) (h1 : ¬ (d.Digits.size : Int) > 65536) (h2 : d.Digits[Int.toNat 0]? = some b0) (h3 : ¬ (b0.toNat : Int) = 48) (h4 : w64 ((d.Digits.size : Int) - 1)) (h5 : 0 ≤ ((d.Digits.size : Int) - 1)) (h6 : d.Digits[((d.Digits.size : Int) - 1).toNat]? = some b1) (h7 : (b1.toNat : Int) = 48) : dec_Check d 2 := by
  exact R_fn tab_13 rfl ⟨0, fun n hn => xFn_run (p := some _) [.b false, .b false, .byte b0, .b false, .z (di ((d.Digits.size : Int) - 1)), .byte b1, .b true] (by kernel_rfl) (And.intro h0 (And.intro h1 (And.intro (And.intro ((by decide : 0 ≤ (0 : Int)) : 0 ≤ (0 : Int)) h2) (And.intro h3 (And.intro (z_sub h4) (And.intro (And.intro (h5 : 0 ≤ ((d.Digits.size : Int) - 1 : Int)) h6) h7))))))⟩
theorem dec_Check_r5 {d : Dec} {b0 b1 : UInt8} {r0 : ByteArray} (h0 : ¬ (d.Digits.size : Int) = 0) (h1 : ¬ (d.Digits.size : Int) > 65536) (h2 : d.Digits[Int.toNat 0]? = some b0) (h3 : ¬ (b0.toNat : Int) = 48) (h4 : w64 ((d.Digits.size : Int) - 1)) (h5 : 0 ≤ ((d.Digits.size : Int) - 1)) (h6 : d.Digits[((d.Digits.size : Int) - 1).toNat]? = some b1) (h7 : ¬ (b1.toNat : Int) = 48) (h8 : strings_Trim d.Digits (⟨#[48, 49, 50, 51, 52, 53, 54, 55, 56, 57]⟩ : ByteArray) r0) (h9 : r0 = (⟨#[]⟩ : ByteArray)) (h10 : d.Exp < (-1000000)) : dec_Check d 2 := by
  exact R_fn tab_13 rfl ⟨0, fun n hn => xFn_run (p := some _) [.b false, .b false, .byte b0, .b false, .z (di ((d.Digits.size : Int) - 1)), .byte b1, .b false, .out (.ret (.d (.str r0))) [], .b false, .b true] (by kernel_rfl) (And.intro h0 (And.intro h1 (And.intro (And.intro ((by decide : 0 ≤ (0 : Int)) : 0 ≤ (0 : Int)) h2) (And.intro h3 (And.intro (z_sub h4) (And.intro (And.intro (h5 : 0 ≤ ((d.Digits.size : Int) - 1 : Int)) h6) (And.intro h7 (And.intro h8 (And.intro (s_neq_f' h9) h10)))))))))⟩
theorem dec_Check_r6 {d : Dec} {b0 b1 : UInt8} {r0 : ByteArray} (h0 : ¬ (d.Digits.size : Int) = 0) (h1 : ¬ (d.Digits.size : Int) > 65536) (h2 : d.Digits[Int.toNat 0]? = some b0) (h3 : ¬ (b0.toNat : Int) = 48) (h4 : w64 ((d.Digits.size : Int) - 1)) (h5 : 0 ≤ ((d.Digits.size : Int) - 1)) (h6 : d.Digits[((d.Digits.size : Int) - 1).toNat]? = some b1) (h7 : ¬ (b1.toNat : Int) = 48) (h8 : strings_Trim d.Digits (⟨#[48, 49, 50, 51, 52, 53, 54, 55, 56, 57]⟩ : ByteArray) r0) (h9 : r0 = (⟨#[]⟩ : ByteArray)) (h10 : ¬ d.Exp < (-1000000)) (h11 : d.Exp > 1000000) : dec_Check d 2 := by
  exact R_fn tab_13 rfl ⟨0, fun n hn => xFn_run (p := some _) [.b false, .b false, .byte b0, .b false, .z (di ((d.Digits.size : Int) - 1)), .byte b1, .b false, .out (.ret (.d (.str r0))) [], .b false, .b false, .b true] (by kernel_rfl) (And.intro h0 (And.intro h1 (And.intro (And.intro ((by decide : 0 ≤ (0 : Int)) : 0 ≤ (0 : Int)) h2) (And.intro h3 (And.intro (z_sub h4) (And.intro (And.intro (h5 : 0 ≤ ((d.Digits.size : Int) - 1 : Int)) h6) (And.intro h7 (And.intro h8 (And.intro (s_neq_f' h9) (And.intro h10 h11))))))))))⟩
theorem dec_Check_r7 {d : Dec} {b0 b1 : UInt8} {r0 : ByteArray} (h0 : ¬ (d.Digits.size : Int) = 0) (h1 : ¬ (d.Digits.size : Int) > 65536) (h2 : d.Digits[Int.toNat 0]? = some b0) (h3 : ¬ (b0.toNat : Int) = 48) (h4 : w64 ((d.Digits.size : Int) - 1)) (h5 : 0 ≤ ((d.Digits.size : Int) - 1)) (h6 : d.Digits[((d.Digits.size : Int) - 1).toNat]? = some b1) (h7 : ¬ (b1.toNat : Int) = 48) (h8 : strings_Trim d.Digits (⟨#[48, 49, 50, 51, 52, 53, 54, 55, 56, 57]⟩ : ByteArray) r0) (h9 : r0 = (⟨#[]⟩ : ByteArray)) (h10 : ¬ d.Exp < (-1000000)) (h11 : ¬ d.Exp > 1000000) : dec_Check d 0 := by
  exact R_fn tab_13 rfl ⟨0, fun n hn => xFn_run (p := some _) [.b false, .b false, .byte b0, .b false, .z (di ((d.Digits.size : Int) - 1)), .byte b1, .b false, .out (.ret (.d (.str r0))) [], .b false, .b false, .b false] (by kernel_rfl) (And.intro h0 (And.intro h1 (And.intro (And.intro ((by decide : 0 ≤ (0 : Int)) : 0 ≤ (0 : Int)) h2) (And.intro h3 (And.intro (z_sub h4) (And.intro (And.intro (h5 : 0 ≤ ((d.Digits.size : Int) - 1 : Int)) h6) (And.intro h7 (And.intro h8 (And.intro (s_neq_f' h9) (And.intro h10 h11))))))))))⟩
theorem dec_Check_r8 {d : Dec} {b0 b1 : UInt8} {r0 : ByteArray} (h0 : ¬ (d.Digits.size : Int) = 0) (h1 : ¬ (d.Digits.size : Int) > 65536) (h2 : d.Digits[Int.toNat 0]? = some b0) (h3 : ¬ (b0.toNat : Int) = 48) (h4 : w64 ((d.Digits.size : Int) - 1)) (h5 : 0 ≤ ((d.Digits.size : Int) - 1)) (h6 : d.Digits[((d.Digits.size : Int) - 1).toNat]? = some b1) (h7 : ¬ (b1.toNat : Int) = 48) (h8 : strings_Trim d.Digits (⟨#[48, 49, 50, 51, 52, 53, 54, 55, 56, 57]⟩ : ByteArray) r0) (h9 : ¬ r0 = (⟨#[]⟩ : ByteArray)) : dec_Check d 2 := by
  exact R_fn tab_13 rfl ⟨0, fun n hn => xFn_run (p := some _) [.b false, .b false, .byte b0, .b false, .z (di ((d.Digits.size : Int) - 1)), .byte b1, .b false, .out (.ret (.d (.str r0))) [], .b true] (by kernel_rfl) (And.intro h0 (And.intro h1 (And.intro (And.intro ((by decide : 0 ≤ (0 : Int)) : 0 ≤ (0 : Int)) h2) (And.intro h3 (And.intro (z_sub h4) (And.intro (And.intro (h5 : 0 ≤ ((d.Digits.size : Int) - 1 : Int)) h6) (And.intro h7 (And.intro h8 (s_neq_t h9)))))))))⟩
/- caliper dec.sign -/
def dec_sign (d : Dec) (q0 : Int) : Prop :=
  R 20 [(.d (e_Dec d))] (dens []) = some (.ret (ai q0), dens [])
theorem dec_sign_r0 {d : Dec} (h0 : d.Digits = (⟨#[]⟩ : ByteArray)) : dec_sign d 0 := by
  exact R_fn tab_20 rfl ⟨0, fun n hn => xFn_run (p := some _) [.b true] (by kernel_rfl) (s_eql_t h0)⟩
theorem dec_sign_r1 {d : Dec} (h0 : ¬ d.Digits = (⟨#[]⟩ : ByteArray)) (h1 : d.Neg = true) : dec_sign d (-1) := by
  exact R_fn tab_20 rfl ⟨0, fun n hn => xFn_run (p := some _) [.b false, .q true] (by kernel_rfl) (And.intro (s_eql_f h0) h1)⟩
theorem dec_sign_r2 {d : Dec} (h0 : ¬ d.Digits = (⟨#[]⟩ : ByteArray)) (h1 : d.Neg = false) : dec_sign d 1 := by
  exact R_fn tab_20 rfl ⟨0, fun n hn => xFn_run (p := some _) [.b false, .q false] (by kernel_rfl) (And.intro (s_eql_f h0) h1)⟩
/- caliper nat.Of -/
def nat_Of (s : ByteArray) (q0 : SL Int) (q1 : Int) : Prop :=
  R 17 [(.d (.str s))] (dens []) = some (.ret (.tup [(.d (slD 1 (D.int .u32) q0)), (ai q1)]), dens [])
def nat_Of_l0 (out : List Int) (s : ByteArray) (outt : Bool) (at_ : Int) (x : Int) (t30 : SL Int) (t31 : Int) (t32 : Int) (r_ : Ex × XSt) : Prop :=
  XLp R (byrefOf tab) 0 [0, 4, 5, 6, 30, 31, 32] f17_l0 ⟨[(0, (.d (.str s))), (4, (.row 0 1 0 out.length outt)), (5, (ai at_)), (6, (.d (.int .u32 x))), (30, (.d (slD 1 (D.int .u8) t30))), (31, (ai t31)), (32, (ai t32))], [(.w 1 (dl (D.int .u32) out) false)]⟩ r_
def nat_Of_l0_x0 (out : List Int) (s : ByteArray) (outt : Bool) (at_ : Int) (x : Int) (t30 : SL Int) (t31 : Int) (t32 : Int) : Ex × XSt := ((.ext 2), ⟨[(0, (.d (.str s))), (4, (.row 0 1 0 out.length outt)), (5, (ai at_)), (6, (.d (.int .u32 x))), (30, (.d (slD 1 (D.int .u8) t30))), (31, (ai t31)), (32, (ai t32)), (33, (ab false))], [(.w 1 (dl (D.int .u32) out) false)]⟩)
theorem nat_Of_l0_s0 {out : List Int} {s : ByteArray} {outt : Bool} {at_ x : Int} {t30 : SL Int} {t31 t32 y0 : Int} (h0 : t32 < t31) (h1 : 0 ≤ t32) (h2 : t30.xs[(t32).toNat]? = some y0) (h3 : wk .u32 (x * 10)) (h4 : wk .u8 (y0 - 48)) (h5 : wk .u32 (y0 - 48)) (h6 : wk .u32 ((x * 10) + (y0 - 48))) (h7 : w64 (t32 + 1)) {r_ : Ex × XSt} (hk : nat_Of_l0 out s outt at_ ((x * 10) + (y0 - 48)) t30 t31 (t32 + 1) r_) : nat_Of_l0 out s outt at_ x t30 t31 t32 r_ := by
  exact XLp.step hk ⟨0, fun n hn => xRound_run (p := some _) [.b true, .d (.int .u8 y0), .z (.int .u32 (x * 10)), .z (.int .u8 (y0 - 48)), .z (.int .u32 (y0 - 48)), .z (.int .u32 ((x * 10) + (y0 - 48))), .z (di (t32 + 1))] (by kernel_rfl) (And.intro h0 (And.intro (And.intro (fetchE 1 (D.int .u8) t30 t32 h1 h2) (And.intro (z_mul h3) (And.intro (z_sub h4) (And.intro h5 (z_add h6))))) (z_add h7)))⟩
theorem nat_Of_l0_e1 {out : List Int} {s : ByteArray} {outt : Bool} {at_ x : Int} {t30 : SL Int} {t31 t32 : Int} (h0 : ¬ t32 < t31) : nat_Of_l0 out s outt at_ x t30 t31 t32 (nat_Of_l0_x0 out s outt at_ x t30 t31 t32) := by
  exact XLp.exit (by intro e; cases e) ⟨0, fun n hn => xCode_run (p := some _) [.b false] (by kernel_rfl) h0⟩
def nat_Of_l1 (out : List Int) (s : ByteArray) (outt : Bool) (r_ : Ex × XSt) : Prop :=
  XLp R (byrefOf tab) 0 [0, 4] f17_l1 ⟨[(0, (.d (.str s))), (4, (.row 0 1 0 out.length outt))], [(.w 1 (dl (D.int .u32) out) false)]⟩ r_
def nat_Of_l1_x0 (out : List Int) (s : ByteArray) (outt : Bool) : Ex × XSt := ((.ext 0), ⟨[(0, (.d (.str s))), (4, (.row 0 1 0 out.length outt)), (22, (ab false))], [(.w 1 (dl (D.int .u32) out) false)]⟩)
theorem nat_Of_l1_e0 {out : List Int} {s : ByteArray} {outt : Bool} (h0 : s = (⟨#[]⟩ : ByteArray)) : nat_Of_l1 out s outt (nat_Of_l1_x0 out s outt) := by
  exact XLp.exit (by intro e; cases e) ⟨0, fun n hn => xCode_run (p := some _) [.b false] (by kernel_rfl) (s_neq_f' h0)⟩
theorem nat_Of_l1_s1 {out : List Int} {s : ByteArray} {outt : Bool} {z0 z1 : Int} (h0 : ¬ s = (⟨#[]⟩ : ByteArray)) (h1 : w64 ((s.size : Int) - 9)) (h2 : 0 ≤ (max 0 ((s.size : Int) - 9))) (h3 : (max 0 ((s.size : Int) - 9)).toNat ≤ s.size) (h4 : nat_Of_l0 out s outt (max 0 ((s.size : Int) - 9)) 0 ⟨1, strInts (s.extract ((max 0 ((s.size : Int) - 9)).toNat) s.size), false⟩ ((strInts (s.extract ((max 0 ((s.size : Int) - 9)).toNat) s.size)).length : Int) 0 (nat_Of_l0_x0 out s outt (max 0 ((s.size : Int) - 9)) z0 ⟨1, strInts (s.extract ((max 0 ((s.size : Int) - 9)).toNat) s.size), false⟩ ((strInts (s.extract ((max 0 ((s.size : Int) - 9)).toNat) s.size)).length : Int) z1)) (h5 : (out.length + 1) * 4 ≤ 140737488355328) {r_ : Ex × XSt} (hk : nat_Of_l1 (out ++ [z0]) (s.extract 0 ((max 0 ((s.size : Int) - 9)).toNat)) false r_) : nat_Of_l1 out s outt r_ := by
  obtain ⟨h4_1, h4_2⟩ := h4
  exact XLp.step hk ⟨h4_1, fun n hn => xRound_run (p := some _) [.b true, .z (di ((s.size : Int) - 9)), .z (.int .i64 (max 0 ((s.size : Int) - 9))), .bnd ((max 0 ((s.size : Int) - 9)).toNat) s.size false (.str (s.extract ((max 0 ((s.size : Int) - 9)).toNat) s.size)), .z (slD 1 (D.int .u8) ⟨1, strInts (s.extract ((max 0 ((s.size : Int) - 9)).toNat) s.size), false⟩), .n ((strInts (s.extract ((max 0 ((s.size : Int) - 9)).toNat) s.size)).length), .lp (nat_Of_l0_x0 out s outt (max 0 ((s.size : Int) - 9)) z0 ⟨1, strInts (s.extract ((max 0 ((s.size : Int) - 9)).toNat) s.size), false⟩ ((strInts (s.extract ((max 0 ((s.size : Int) - 9)).toNat) s.size)).length : Int) z1), .ap (dl (D.int .u32) [z0]) (dl (D.int .u32) (out ++ [z0])) (out ++ [z0]).length, .bnd 0 ((max 0 ((s.size : Int) - 9)).toNat) false (.str (s.extract 0 ((max 0 ((s.size : Int) - 9)).toNat)))] (by kernel_rfl) (And.intro (s_neq_t h0) (And.intro (And.intro (z_sub h1) (mm_max (k := .i64) (a := 0) (b := (s.size : Int) - 9))) (And.intro (And.intro (And.intro (And.intro (bnd_lo (n := s.size) (k := .i64) (lo := max 0 ((s.size : Int) - 9)) h2 h3) (rfl : D.str (s.extract ((max 0 ((s.size : Int) - 9)).toNat) s.size) = D.str (s.extract ((max 0 ((s.size : Int) - 9)).toNat) s.size))) (And.intro (str_bytes (s.extract ((max 0 ((s.size : Int) - 9)).toNat) s.size)) (len_dl (D.int .u8) (strInts (s.extract ((max 0 ((s.size : Int) - 9)).toNat) s.size))))) (h4_2 n (by omega))) (And.intro (ap_row (D.int .u32) out [z0] 4 (And.intro (rfl : 1 = 1) (And.intro (rfl : 1 = 1) (And.intro (by decide : 0 + 1 ≤ 1) (rfl : (([(.d (.int .u32 z0))] : List AV).drop 0).take 1 = (dl (D.int .u32) [z0]).map .d)))) h5) (And.intro (bnd_hi (n := s.size) (k := .i64) (hi := max 0 ((s.size : Int) - 9)) h2 h3) (rfl : D.str (s.extract 0 ((max 0 ((s.size : Int) - 9)).toNat)) = D.str (s.extract 0 ((max 0 ((s.size : Int) - 9)).toNat))))))))⟩
/- caliper nat.trim -/
def nat_trim (a : SL Int) (q0 : SL Int) : Prop :=
  R 38 [(.d (slD 1 (D.int .u32) a))] (dens []) = some (.ret (.d (slD 1 (D.int .u32) q0)), dens [])
def nat_trim_l0 (a : SL Int) (n_ : Int) (r_ : Ex × XSt) : Prop :=
  XLp R (byrefOf tab) 0 [0, 3] f38_l0 ⟨[(0, (.d (slD 1 (D.int .u32) a))), (3, (ai n_))], []⟩ r_
def nat_trim_l0_x0 (a : SL Int) (n_ : Int) : Ex × XSt := ((.ext 0), ⟨[(0, (.d (slD 1 (D.int .u32) a))), (3, (ai n_)), (15, (ab false))], []⟩)
theorem nat_trim_l0_s0 {a : SL Int} {n_ y0 : Int} (h0 : n_ > 0) (h1 : w64 (n_ - 1)) (h2 : 0 ≤ (n_ - 1)) (h3 : a.xs[(n_ - 1).toNat]? = some y0) (h4 : y0 = 0) {r_ : Ex × XSt} (hk : nat_trim_l0 a (n_ - 1) r_) : nat_trim_l0 a n_ r_ := by
  exact XLp.step hk ⟨0, fun n hn => xRound_run (p := some _) [.b true, .z (di (n_ - 1)), .d (.int .u32 y0), .b true, .z (di (n_ - 1))] (by kernel_rfl) (And.intro (And.intro h0 (And.intro (z_sub h1) (And.intro (fetchE 1 (D.int .u32) a (n_ - 1) h2 h3) h4))) (z_sub h1))⟩
theorem nat_trim_l0_e1 {a : SL Int} {n_ y0 : Int} (h0 : n_ > 0) (h1 : w64 (n_ - 1)) (h2 : 0 ≤ (n_ - 1)) (h3 : a.xs[(n_ - 1).toNat]? = some y0) (h4 : ¬ y0 = 0) : nat_trim_l0 a n_ (nat_trim_l0_x0 a n_) := by
  exact XLp.exit (by intro e; cases e) ⟨0, fun n hn => xCode_run (p := some _) [.b true, .z (di (n_ - 1)), .d (.int .u32 y0), .b false] (by kernel_rfl) (And.intro h0 (And.intro (z_sub h1) (And.intro (fetchE 1 (D.int .u32) a (n_ - 1) h2 h3) h4)))⟩
theorem nat_trim_l0_e2 {a : SL Int} {n_ : Int} (h0 : ¬ n_ > 0) : nat_trim_l0 a n_ (nat_trim_l0_x0 a n_) := by
  exact XLp.exit (by intro e; cases e) ⟨0, fun n hn => xCode_run (p := some _) [.b false] (by kernel_rfl) h0⟩
theorem nat_trim_r0 {a : SL Int} {z0 : Int} (h0 : nat_trim_l0 a (a.xs.length : Int) (nat_trim_l0_x0 a z0)) (h1 : 0 ≤ z0) (h2 : (z0).toNat ≤ a.xs.length) : nat_trim a ⟨1, a.xs.take ((z0).toNat), true⟩ := by
  obtain ⟨h0_1, h0_2⟩ := h0
  exact R_fn tab_38 rfl ⟨h0_1, fun n hn => xFn_run (p := some _) [.n a.xs.length, .lp (nat_trim_l0_x0 a z0), .bnd 0 ((z0).toNat) true (slD 1 (D.int .u32) ⟨1, a.xs.take ((z0).toNat), true⟩)] (by kernel_rfl) (And.intro (len_dl (D.int .u32) a.xs) (And.intro (h0_2 n (by omega)) (sl_hm (es := 1) (enc := (D.int .u32)) (s := a) (k := .i64) (hi := z0) (k' := .i64) h1 h2)))⟩
theorem nat_Of_r0 {s : ByteArray} (h0 : s = (⟨#[]⟩ : ByteArray)) : nat_Of s ⟨1, [], true⟩ 2 := by
  exact R_fn tab_17 rfl ⟨0, fun n hn => xFn_run (p := some _) [.b true, .snap (slD 1 (D.int .u32) ⟨1, [], true⟩) [1]] (by kernel_rfl) (And.intro (s_eql_t h0) (snap_row 1 (D.int .u32) true 1 []))⟩
theorem nat_Of_r1 {s : ByteArray} (h0 : ¬ s = (⟨#[]⟩ : ByteArray)) (h1 : (s.size : Int) > 1048576) : nat_Of s ⟨1, [], true⟩ 2 := by
  exact R_fn tab_17 rfl ⟨0, fun n hn => xFn_run (p := some _) [.b false, .b true, .snap (slD 1 (D.int .u32) ⟨1, [], true⟩) [1]] (by kernel_rfl) (And.intro (And.intro (s_eql_f h0) h1) (snap_row 1 (D.int .u32) true 1 []))⟩
theorem nat_Of_r2 {s r0 : ByteArray} {z0 : List Int} {z1 : ByteArray} {z2 : Bool} {r1 : SL Int} (h0 : ¬ s = (⟨#[]⟩ : ByteArray)) (h1 : ¬ (s.size : Int) > 1048576) (h2 : strings_Trim s (⟨#[48, 49, 50, 51, 52, 53, 54, 55, 56, 57]⟩ : ByteArray) r0) (h3 : r0 = (⟨#[]⟩ : ByteArray)) (h4 : nat_Of_l1 [] s true (nat_Of_l1_x0 z0 z1 z2)) (h5 : nat_trim ⟨1, z0, z2⟩ r1) : nat_Of s r1 0 := by
  obtain ⟨h4_1, h4_2⟩ := h4
  exact R_fn tab_17 rfl ⟨h4_1, fun n hn => xFn_run (p := some _) [.b false, .b false, .out (.ret (.d (.str r0))) [], .b false, .lp (nat_Of_l1_x0 z0 z1 z2), .snap (slD 1 (D.int .u32) ⟨1, z0, z2⟩) [0], .out (.ret (.d (slD 1 (D.int .u32) r1))) []] (by kernel_rfl) (And.intro (And.intro (s_eql_f h0) (And.intro h1 (And.intro h2 (s_neq_f' h3)))) (And.intro (h4_2 n (by omega)) (And.intro (snap_row 1 (D.int .u32) z2 0 z0) h5)))⟩
theorem nat_Of_r3 {s r0 : ByteArray} (h0 : ¬ s = (⟨#[]⟩ : ByteArray)) (h1 : ¬ (s.size : Int) > 1048576) (h2 : strings_Trim s (⟨#[48, 49, 50, 51, 52, 53, 54, 55, 56, 57]⟩ : ByteArray) r0) (h3 : ¬ r0 = (⟨#[]⟩ : ByteArray)) : nat_Of s ⟨1, [], true⟩ 2 := by
  exact R_fn tab_17 rfl ⟨0, fun n hn => xFn_run (p := some _) [.b false, .b false, .out (.ret (.d (.str r0))) [], .b true, .snap (slD 1 (D.int .u32) ⟨1, [], true⟩) [1]] (by kernel_rfl) (And.intro (And.intro (s_eql_f h0) (And.intro h1 (And.intro h2 (s_neq_t h3)))) (snap_row 1 (D.int .u32) true 1 []))⟩
/- caliper nat.Power -/
def nat_Power (a : SL Int) (n_ : Int) (m : SL Int) (q0 : SL Int) (q1 : Int) : Prop :=
  R 21 [(.d (slD 1 (D.int .u32) a)), (ai n_), (.d (slD 1 (D.int .u32) m))] (dens []) = some (.ret (.tup [(.d (slD 1 (D.int .u32) q0)), (ai q1)]), dens [])
/- caliper nat.both -/
def nat_both (a : SL Int) (b : SL Int) (q0 : Int) : Prop :=
  R 39 [(.d (slD 1 (D.int .u32) a)), (.d (slD 1 (D.int .u32) b))] (dens []) = some (.ret (ai q0), dens [])
/- caliper nat.fits -/
def nat_fits (a : SL Int) (q0 : Bool) : Prop :=
  R 37 [(.d (slD 1 (D.int .u32) a))] (dens []) = some (.ret (ab q0), dens [])
/- slices.Max[[]uint32,uint32] -/
def sl_Max_uint32_uint32 (x : SL Int) (q0 : Int) : Prop :=
  R 65 [(.d (slD 1 (D.int .u32) x))] (dens []) = some (.ret (.d (.int .u32 q0)), dens [])
def sl_Max_uint32_uint32_l0 (x : SL Int) (m : Int) (i : Int) (r_ : Ex × XSt) : Prop :=
  XLp R (byrefOf tab) 0 [0, 3, 4] f65_l0 ⟨[(0, (.d (slD 1 (D.int .u32) x))), (3, (.d (.int .u32 m))), (4, (ai i))], []⟩ r_
def sl_Max_uint32_uint32_l0_x0 (x : SL Int) (m : Int) (i : Int) : Ex × XSt := ((.ext 0), ⟨[(0, (.d (slD 1 (D.int .u32) x))), (3, (.d (.int .u32 m))), (4, (ai i)), (15, (ab false))], []⟩)
/- caliper nat.Power$1 -/
def nat_Power_f1 (c0s : SL Int) (x : SL Int) (q0 : SL Int) (s0 : SL Int) : Prop :=
  R 42 [(.d (slD 1 (D.int .u32) x)), (.ptr 0 1 0 0)] (dens [(.o (.row 1 [(.d (slD 1 (D.int .u32) c0s))] false))]) = some (.ret (.d (slD 1 (D.int .u32) q0)), dens [(.o (.row 1 [(.d (slD 1 (D.int .u32) s0))] false))])
/- caliper nat.divided -/
def nat_divided (a : SL Int) (b : SL Int) (q0 : SL Int) (q1 : SL Int) : Prop :=
  R 43 [(.d (slD 1 (D.int .u32) a)), (.d (slD 1 (D.int .u32) b))] (dens []) = some (.ret (.tup [(.d (slD 1 (D.int .u32) q0)), (.d (slD 1 (D.int .u32) q1))]), dens [])
/- caliper nat.compare -/
def nat_compare (a : SL Int) (b : SL Int) (q0 : Int) : Prop :=
  R 66 [(.d (slD 1 (D.int .u32) a)), (.d (slD 1 (D.int .u32) b))] (dens []) = some (.ret (ai q0), dens [])
/- cmp.Compare[int] -/
def cmp_Compare_int (x : Int) (y : Int) (q0 : Int) : Prop :=
  R 29 [(ai x), (ai y)] (dens []) = some (.ret (ai q0), dens [])
/- cmp.isNaN[int] -/
def cmp_isNaN_int (x : Int) (q0 : Bool) : Prop :=
  R 49 [(ai x)] (dens []) = some (.ret (ab q0), dens [])
theorem cmp_isNaN_int_r1 {x : Int} (h0 : x = x) : cmp_isNaN_int x false := by
  exact R_fn tab_49 rfl ⟨0, fun n hn => xFn_run (p := some _) [.b false] (by kernel_rfl) (Classical.not_not.2 h0)⟩
theorem cmp_Compare_int_r3 {x y : Int} (h0 : cmp_isNaN_int x false) (h1 : cmp_isNaN_int y false) (h2 : x < y) : cmp_Compare_int x y (-1) := by
  exact R_fn tab_29 rfl ⟨0, fun n hn => xFn_run (p := some _) [.out (.ret (ab false)) [], .out (.ret (ab false)) [], .b true] (by kernel_rfl) (And.intro h0 (And.intro h1 h2))⟩
theorem cmp_Compare_int_r4 {x y : Int} (h0 : cmp_isNaN_int x false) (h1 : cmp_isNaN_int y false) (h2 : ¬ x < y) (h3 : x > y) : cmp_Compare_int x y 1 := by
  exact R_fn tab_29 rfl ⟨0, fun n hn => xFn_run (p := some _) [.out (.ret (ab false)) [], .out (.ret (ab false)) [], .b false, .b true] (by kernel_rfl) (And.intro h0 (And.intro h1 (And.intro h2 h3)))⟩
theorem cmp_Compare_int_r5 {x y : Int} (h0 : cmp_isNaN_int x false) (h1 : cmp_isNaN_int y false) (h2 : ¬ x < y) (h3 : ¬ x > y) : cmp_Compare_int x y 0 := by
  exact R_fn tab_29 rfl ⟨0, fun n hn => xFn_run (p := some _) [.out (.ret (ab false)) [], .out (.ret (ab false)) [], .b false, .b false] (by kernel_rfl) (And.intro h0 (And.intro h1 (And.intro h2 h3)))⟩
/- cmp.Compare[uint32] -/
def cmp_Compare_uint32 (x : Int) (y : Int) (q0 : Int) : Prop :=
  R 84 [(.d (.int .u32 x)), (.d (.int .u32 y))] (dens []) = some (.ret (ai q0), dens [])
/- cmp.isNaN[uint32] -/
def cmp_isNaN_uint32 (x : Int) (q0 : Bool) : Prop :=
  R 99 [(.d (.int .u32 x))] (dens []) = some (.ret (ab q0), dens [])
def nat_compare_l0 (a : SL Int) (b : SL Int) (i : Int) (r_ : Ex × XSt) : Prop :=
  XLp R (byrefOf tab) 0 [0, 1, 6] f66_l0 ⟨[(0, (.d (slD 1 (D.int .u32) a))), (1, (.d (slD 1 (D.int .u32) b))), (6, (ai i))], []⟩ r_
def nat_compare_l0_x0 (t4 : Int) : Ex × XSt := (.ret, ⟨[(4, (ai t4))], []⟩)
def nat_compare_l0_x1 (a : SL Int) (b : SL Int) (i : Int) : Ex × XSt := ((.ext 0), ⟨[(0, (.d (slD 1 (D.int .u32) a))), (1, (.d (slD 1 (D.int .u32) b))), (6, (ai i)), (20, (ab false))], []⟩)
/- slices.Clone[[]uint32,uint32] -/
def sl_Clone_uint32_uint32 (s : SL Int) (q0 : SL Int) : Prop :=
  R 67 [(.d (slD 1 (D.int .u32) s))] (dens []) = some (.ret (.d (slD 1 (D.int .u32) q0)), dens [])
/- caliper nat.small -/
def nat_small (a : SL Int) (d : Int) (q0 : SL Int) (q1 : SL Int) : Prop :=
  R 68 [(.d (slD 1 (D.int .u32) a)), (.d (.int .u32 d))] (dens []) = some (.ret (.tup [(.d (slD 1 (D.int .u32) q0)), (.d (slD 1 (D.int .u32) q1))]), dens [])
def nat_small_l0 (out : List Int) (a : SL Int) (d : Int) (outt : Bool) (outn : Nat) (rest : Int) (i : Int) (r_ : Ex × XSt) : Prop :=
  XLp R (byrefOf tab) 0 [0, 1, 6, 7, 8] f68_l0 ⟨[(0, (.d (slD 1 (D.int .u32) a))), (1, (.d (.int .u32 d))), (6, (.row 0 1 0 outn outt)), (7, (.d (.int .u64 rest))), (8, (ai i))], [(.w 1 (dl (D.int .u32) out) false)]⟩ r_
def nat_small_l0_x0 (out : List Int) (a : SL Int) (d : Int) (outt : Bool) (outn : Nat) (rest : Int) (i : Int) : Ex × XSt := ((.ext 0), ⟨[(0, (.d (slD 1 (D.int .u32) a))), (1, (.d (.int .u32 d))), (6, (.row 0 1 0 outn outt)), (7, (.d (.int .u64 rest))), (8, (ai i)), (16, (ab false))], [(.w 1 (dl (D.int .u32) out) false)]⟩)
/- caliper nat.scaled -/
def nat_scaled (a : SL Int) (d : Int) (q0 : SL Int) : Prop :=
  R 69 [(.d (slD 1 (D.int .u32) a)), (.d (.int .u32 d))] (dens []) = some (.ret (.d (slD 1 (D.int .u32) q0)), dens [])
def nat_scaled_l0 (out : List Int) (a : SL Int) (d : Int) (outt : Bool) (outn : Nat) (carry : Int) (t14 : SL Int) (t15 : Int) (t16 : Int) (r_ : Ex × XSt) : Prop :=
  XLp R (byrefOf tab) 0 [0, 1, 5, 6, 14, 15, 16] f69_l0 ⟨[(0, (.d (slD 1 (D.int .u32) a))), (1, (.d (.int .u32 d))), (5, (.row 0 1 0 outn outt)), (6, (.d (.int .u64 carry))), (14, (.d (slD 1 (D.int .u32) t14))), (15, (ai t15)), (16, (ai t16))], [(.w 1 (dl (D.int .u32) out) false)]⟩ r_
def nat_scaled_l0_x0 (out : List Int) (a : SL Int) (d : Int) (outt : Bool) (outn : Nat) (carry : Int) (t14 : SL Int) (t15 : Int) (t16 : Int) : Ex × XSt := ((.ext 0), ⟨[(0, (.d (slD 1 (D.int .u32) a))), (1, (.d (.int .u32 d))), (5, (.row 0 1 0 outn outt)), (6, (.d (.int .u64 carry))), (14, (.d (slD 1 (D.int .u32) t14))), (15, (ai t15)), (16, (ai t16)), (17, (ab false))], [(.w 1 (dl (D.int .u32) out) false)]⟩)
/- caliper nat.guess -/
def nat_guess (u : List Int) (ut : Bool) (un : Nat) (v : SL Int) (j : Int) (q0 : Int) (u_1 : List Int) : Prop :=
  R 70 [(.row 0 1 0 un ut), (.d (slD 1 (D.int .u32) v)), (ai j)] (dens [(.w 1 (dl (D.int .u32) u) false)]) = some (.ret (.d (.int .u32 q0)), dens [(.w 1 (dl (D.int .u32) u_1) false)])
/- math bits.Mul64 -/
def bits_Mul64 (x : Int) (y : Int) (q0 : Int) (q1 : Int) : Prop :=
  R 85 [(.d (.int .u64 x)), (.d (.int .u64 y))] (dens []) = some (.ret (.tup [(.d (.int .u64 q0)), (.d (.int .u64 q1))]), dens [])
/- math bits.Add64 -/
def bits_Add64 (x : Int) (y : Int) (carry : Int) (q0 : Int) (q1 : Int) : Prop :=
  R 86 [(.d (.int .u64 x)), (.d (.int .u64 y)), (.d (.int .u64 carry))] (dens []) = some (.ret (.tup [(.d (.int .u64 q0)), (.d (.int .u64 q1))]), dens [])
/- math bits.Div64 -/
def bits_Div64 (hi : Int) (lo : Int) (y : Int) (q0 : Int) (q1 : Int) : Prop :=
  R 87 [(.d (.int .u64 hi)), (.d (.int .u64 lo)), (.d (.int .u64 y))] (dens []) = some (.ret (.tup [(.d (.int .u64 q0)), (.d (.int .u64 q1))]), dens [])
/- math bits.LeadingZeros64 -/
/- math bits.Len64 -/
/- caliper nat.taken -/
def nat_taken (u : List Int) (ut : Bool) (un : Nat) (v : SL Int) (j : Int) (q : Int) (q0 : Bool) (u_1 : List Int) : Prop :=
  R 88 [(.row 0 1 0 un ut), (.d (slD 1 (D.int .u32) v)), (ai j), (.d (.int .u32 q))] (dens [(.w 1 (dl (D.int .u32) u) false)]) = some (.ret (ab q0), dens [(.w 1 (dl (D.int .u32) u_1) false)])
def nat_taken_l0 (window : List Int) (p : SL Int) (windowt : Bool) (windown : Nat) (windowo : Nat) (i : Int) (r_ : Ex × XSt) : Prop :=
  XLp R (byrefOf tab) 1 [10, 11, 12] f88_l0 ⟨[(10, (.d (slD 1 (D.int .u32) p))), (11, (.row 0 1 windowo windown windowt)), (12, (ai i))], [(.w 1 (dl (D.int .u32) window) false)]⟩ r_
def nat_taken_l0_x0 (o0 : List Int) : Ex × XSt := (.ret, ⟨[(8, (ab false))], [(.w 1 (dl (D.int .u32) o0) false)]⟩)
def nat_taken_l0_x1 (window : List Int) (p : SL Int) (windowt : Bool) (windown : Nat) (windowo : Nat) : Ex × XSt := ((.ext 0), ⟨[(10, (.d (slD 1 (D.int .u32) p))), (11, (.row 0 1 windowo windown windowt)), (50, (ab false))], [(.w 1 (dl (D.int .u32) window) false)]⟩)
def nat_taken_l0_x2 (window : List Int) (p : SL Int) (windowt : Bool) (windown : Nat) (windowo : Nat) (i : Int) : Ex × XSt := ((.ext 0), ⟨[(10, (.d (slD 1 (D.int .u32) p))), (11, (.row 0 1 windowo windown windowt)), (12, (ai i)), (30, (ab false))], [(.w 1 (dl (D.int .u32) window) false)]⟩)
def nat_taken_l1 (window : List Int) (p : SL Int) (windowt : Bool) (windown : Nat) (windowo : Nat) (borrow : Int) (t52 : Int) (t53 : Int) (r_ : Ex × XSt) : Prop :=
  XLp R (byrefOf tab) 1 [10, 11, 13, 52, 53] f88_l1 ⟨[(10, (.d (slD 1 (D.int .u32) p))), (11, (.row 0 1 windowo windown windowt)), (13, (.d (.int .u32 borrow))), (52, (ai t52)), (53, (ai t53))], [(.w 1 (dl (D.int .u32) window) false)]⟩ r_
def nat_taken_l1_x0 (window : List Int) (p : SL Int) (windowt : Bool) (windown : Nat) (windowo : Nat) (borrow : Int) (t52 : Int) (t53 : Int) : Ex × XSt := ((.ext 2), ⟨[(10, (.d (slD 1 (D.int .u32) p))), (11, (.row 0 1 windowo windown windowt)), (13, (.d (.int .u32 borrow))), (52, (ai t52)), (53, (ai t53)), (54, (ab false))], [(.w 1 (dl (D.int .u32) window) false)]⟩)
def nat_guess_l0 (u : List Int) (ut : Bool) (un : Nat) (v : SL Int) (j : Int) (q : Int) (r_ : Ex × XSt) : Prop :=
  XLp R (byrefOf tab) 1 [0, 1, 2, 11] f70_l0 ⟨[(0, (.row 0 1 0 un ut)), (1, (.d (slD 1 (D.int .u32) v))), (2, (ai j)), (11, (.d (.int .u64 q)))], [(.w 1 (dl (D.int .u32) u) false)]⟩ r_
def nat_guess_l0_x0 (u : List Int) (ut : Bool) (un : Nat) (v : SL Int) (j : Int) (q : Int) : Ex × XSt := ((.ext 0), ⟨[(0, (.row 0 1 0 un ut)), (1, (.d (slD 1 (D.int .u32) v))), (2, (ai j)), (11, (.d (.int .u64 q))), (62, (ab false))], [(.w 1 (dl (D.int .u32) u) false)]⟩)
def nat_divided_l0 (u : List Int) (q : List Int) (scale : Int) (ut : Bool) (un : Nat) (v : SL Int) (n_ : Int) (qt : Bool) (qn : Nat) (j : Int) (r_ : Ex × XSt) : Prop :=
  XLp R (byrefOf tab) 0 [6, 7, 8, 9, 10, 11] f43_l0 ⟨[(6, (.d (.int .u32 scale))), (7, (.row 0 1 0 un ut)), (8, (.d (slD 1 (D.int .u32) v))), (9, (ai n_)), (10, (.row 1 1 0 qn qt)), (11, (ai j))], [(.w 1 (dl (D.int .u32) u) false), (.w 1 (dl (D.int .u32) q) false)]⟩ r_
def nat_divided_l0_x0 (u : List Int) (q : List Int) (scale : Int) (ut : Bool) (un : Nat) (v : SL Int) (n_ : Int) (qt : Bool) (qn : Nat) (j : Int) : Ex × XSt := ((.ext 0), ⟨[(6, (.d (.int .u32 scale))), (7, (.row 0 1 0 un ut)), (8, (.d (slD 1 (D.int .u32) v))), (9, (ai n_)), (10, (.row 1 1 0 qn qt)), (11, (ai j)), (60, (ab false))], [(.w 1 (dl (D.int .u32) u) false), (.w 1 (dl (D.int .u32) q) false)]⟩)
/- caliper nat.times -/
def nat_times (a : SL Int) (b : SL Int) (q0 : SL Int) : Prop :=
  R 40 [(.d (slD 1 (D.int .u32) a)), (.d (slD 1 (D.int .u32) b))] (dens []) = some (.ret (.d (slD 1 (D.int .u32) q0)), dens [])
def nat_times_l0 (out : List Int) (b : SL Int) (outt : Bool) (outn : Nat) (i : Int) (x : Int) (carry : Int) (t18 : SL Int) (t19 : Int) (t20 : Int) (t25 : SL Int) (t26 : Int) (t27 : Int) (r_ : Ex × XSt) : Prop :=
  XLp R (byrefOf tab) 0 [1, 5, 6, 7, 8, 18, 19, 20, 25, 26, 27] f40_l0 ⟨[(1, (.d (slD 1 (D.int .u32) b))), (5, (.row 0 1 0 outn outt)), (6, (ai i)), (7, (.d (.int .u32 x))), (8, (.d (.int .u64 carry))), (18, (.d (slD 1 (D.int .u32) t18))), (19, (ai t19)), (20, (ai t20)), (25, (.d (slD 1 (D.int .u32) t25))), (26, (ai t26)), (27, (ai t27))], [(.w 1 (dl (D.int .u32) out) false)]⟩ r_
def nat_times_l0_x0 (out : List Int) (b : SL Int) (outt : Bool) (outn : Nat) (i : Int) (x : Int) (carry : Int) (t18 : SL Int) (t19 : Int) (t20 : Int) (t25 : SL Int) (t26 : Int) (t27 : Int) : Ex × XSt := ((.ext 2), ⟨[(1, (.d (slD 1 (D.int .u32) b))), (5, (.row 0 1 0 outn outt)), (6, (ai i)), (7, (.d (.int .u32 x))), (8, (.d (.int .u64 carry))), (18, (.d (slD 1 (D.int .u32) t18))), (19, (ai t19)), (20, (ai t20)), (25, (.d (slD 1 (D.int .u32) t25))), (26, (ai t26)), (27, (ai t27)), (28, (ab false))], [(.w 1 (dl (D.int .u32) out) false)]⟩)
def nat_times_l1 (out : List Int) (b : SL Int) (outt : Bool) (outn : Nat) (t18 : SL Int) (t19 : Int) (t20 : Int) (r_ : Ex × XSt) : Prop :=
  XLp R (byrefOf tab) 0 [1, 5, 18, 19, 20] f40_l1 ⟨[(1, (.d (slD 1 (D.int .u32) b))), (5, (.row 0 1 0 outn outt)), (18, (.d (slD 1 (D.int .u32) t18))), (19, (ai t19)), (20, (ai t20))], [(.w 1 (dl (D.int .u32) out) false)]⟩ r_
def nat_times_l1_x0 (out : List Int) (b : SL Int) (outt : Bool) (outn : Nat) (t18 : SL Int) (t19 : Int) (t20 : Int) : Ex × XSt := ((.ext 0), ⟨[(1, (.d (slD 1 (D.int .u32) b))), (5, (.row 0 1 0 outn outt)), (18, (.d (slD 1 (D.int .u32) t18))), (19, (ai t19)), (20, (ai t20)), (21, (ab false))], [(.w 1 (dl (D.int .u32) out) false)]⟩)
def nat_Power_l0 (o0 : SL Int) (n_ : Int) (out : SL Int) (x : SL Int) (r_ : Ex × XSt) : Prop :=
  XLp R (byrefOf tab) 0 [1, 9, 10, 11] f21_l0 ⟨[(1, (ai n_)), (9, (.func (.func 42) [] [(.ptr 0 1 0 0)])), (10, (.d (slD 1 (D.int .u32) out))), (11, (.d (slD 1 (D.int .u32) x)))], [(.o (.row 1 [(.d (slD 1 (D.int .u32) o0))] false))]⟩ r_
def nat_Power_l0_x0 (o0 : SL Int) (n_ : Int) (out : SL Int) (x : SL Int) : Ex × XSt := ((.ext 1), ⟨[(1, (ai n_)), (9, (.func (.func 42) [] [(.ptr 0 1 0 0)])), (10, (.d (slD 1 (D.int .u32) out))), (11, (.d (slD 1 (D.int .u32) x))), (33, (ab false))], [(.o (.row 1 [(.d (slD 1 (D.int .u32) o0))] false))]⟩)
/- caliper nat.Mul -/
def nat_Mul (a : SL Int) (b : SL Int) (q0 : SL Int) (q1 : Int) : Prop :=
  R 18 [(.d (slD 1 (D.int .u32) a)), (.d (slD 1 (D.int .u32) b))] (dens []) = some (.ret (.tup [(.d (slD 1 (D.int .u32) q0)), (ai q1)]), dens [])
/- caliper nat.Div -/
def nat_Div (a : SL Int) (b : SL Int) (q0 : SL Int) (q1 : SL Int) (q2 : Int) : Prop :=
  R 22 [(.d (slD 1 (D.int .u32) a)), (.d (slD 1 (D.int .u32) b))] (dens []) = some (.ret (.tup [(.d (slD 1 (D.int .u32) q0)), (.d (slD 1 (D.int .u32) q1)), (ai q2)]), dens [])
/- caliper caliperref03.Multiple -/
def ref03_Multiple (a : Dec) (b : Dec) (q0 : Bool) (q1 : Int) : Prop :=
  R 10 [(.d (e_Dec a)), (.d (e_Dec b))] (dens []) = some (.ret (.tup [(ab q0), (ai q1)]), dens [])
/- caliper caliperref03.Check -/
def ref03_Check (d : Dec) (q0 : Int) : Prop :=
  R 23 [(.d (e_Dec d))] (dens []) = some (.ret (ai q0), dens [])
/- caliper caliperref03.digit -/
def ref03_digit (c : Int) (q0 : Bool) : Prop :=
  R 44 [(.d (.int .u8 c))] (dens []) = some (.ret (ab q0), dens [])
theorem ref03_digit_r0 {c : Int} (h0 : c ≥ 48) (h1 : c ≤ 57) : ref03_digit c true := by
  exact R_fn tab_44 rfl ⟨0, fun n hn => xFn_run (p := some _) [.b true, .b true] (by kernel_rfl) (And.intro h0 h1)⟩
theorem ref03_digit_r1 {c : Int} (h0 : c ≥ 48) (h1 : ¬ c ≤ 57) : ref03_digit c false := by
  exact R_fn tab_44 rfl ⟨0, fun n hn => xFn_run (p := some _) [.b true, .b false] (by kernel_rfl) (And.intro h0 h1)⟩
theorem ref03_digit_r2 {c : Int} (h0 : ¬ c ≥ 48) : ref03_digit c false := by
  exact R_fn tab_44 rfl ⟨0, fun n hn => xFn_run (p := some _) [.b false] (by kernel_rfl) h0⟩
def ref03_Check_l0 (d : Dec) (n_ : Int) (i : Int) (r_ : Ex × XSt) : Prop :=
  XLp R (byrefOf tab) 0 [1, 3, 4] f23_l0 ⟨[(1, (.ptr 0 3 0 0)), (3, (ai n_)), (4, (ai i))], [(.o (.row 3 [(.d (e_Dec d))] false))]⟩ r_
def ref03_Check_l0_x0 (o0 : Dec) : Ex × XSt := (.ret, ⟨[(2, (ai 2))], [(.o (.row 3 [(.d (e_Dec o0))] false))]⟩)
def ref03_Check_l0_x1 (d : Dec) (n_ : Int) (i : Int) : Ex × XSt := ((.ext 0), ⟨[(1, (.ptr 0 3 0 0)), (3, (ai n_)), (4, (ai i)), (19, (ab false))], [(.o (.row 3 [(.d (e_Dec d))] false))]⟩)
theorem ref03_Check_l0_s0 {d : Dec} {n_ i : Int} {b0 : UInt8} (h0 : i < n_) (h1 : 0 ≤ i) (h2 : d.Digits[(i).toNat]? = some b0) (h3 : ref03_digit (b0.toNat : Int) true) (h4 : w64 (i + 1)) {r_ : Ex × XSt} (hk : ref03_Check_l0 d n_ (i + 1) r_) : ref03_Check_l0 d n_ i r_ := by
  exact XLp.step hk ⟨0, fun n hn => xRound_run (p := some _) [.b true, .byte b0, .out (.ret (ab true)) [], .z (di (i + 1))] (by kernel_rfl) (And.intro h0 (And.intro (And.intro (And.intro (h1 : 0 ≤ (i : Int)) h2) h3) (z_add h4)))⟩
theorem ref03_Check_l0_e1 {d : Dec} {n_ i : Int} {b0 : UInt8} (h0 : i < n_) (h1 : 0 ≤ i) (h2 : d.Digits[(i).toNat]? = some b0) (h3 : ref03_digit (b0.toNat : Int) false) : ref03_Check_l0 d n_ i (ref03_Check_l0_x0 d) := by
  exact XLp.exit (by intro e; cases e) ⟨0, fun n hn => xCode_run (p := some _) [.b true, .byte b0, .out (.ret (ab false)) []] (by kernel_rfl) (And.intro h0 (And.intro (And.intro (h1 : 0 ≤ (i : Int)) h2) h3))⟩
theorem ref03_Check_l0_e2 {d : Dec} {n_ i : Int} (h0 : ¬ i < n_) : ref03_Check_l0 d n_ i (ref03_Check_l0_x1 d n_ i) := by
  exact XLp.exit (by intro e; cases e) ⟨0, fun n hn => xCode_run (p := some _) [.b false] (by kernel_rfl) h0⟩
theorem ref03_Check_r0 {d : Dec} (h0 : (d.Digits.size : Int) = 0) (h1 : d.Neg = true) : ref03_Check d 2 := by
  exact R_fn tab_23 rfl ⟨0, fun n hn => xFn_run (p := some _) [.b true, .q true] (by kernel_rfl) (And.intro h0 h1)⟩
theorem ref03_Check_r1 {d : Dec} (h0 : (d.Digits.size : Int) = 0) (h1 : d.Neg = false) (h2 : d.Exp ≠ 0) : ref03_Check d 2 := by
  exact R_fn tab_23 rfl ⟨0, fun n hn => xFn_run (p := some _) [.b true, .q false, .b true] (by kernel_rfl) (And.intro h0 (And.intro h1 h2))⟩
theorem ref03_Check_r2 {d : Dec} (h0 : (d.Digits.size : Int) = 0) (h1 : d.Neg = false) (h2 : d.Exp = 0) : ref03_Check d 0 := by
  exact R_fn tab_23 rfl ⟨0, fun n hn => xFn_run (p := some _) [.b true, .q false, .b false] (by kernel_rfl) (And.intro h0 (And.intro h1 (Classical.not_not.2 h2)))⟩
theorem ref03_Check_r3 {d : Dec} (h0 : ¬ (d.Digits.size : Int) = 0) (h1 : ref03_Check_l0 d (d.Digits.size : Int) 0 (ref03_Check_l0_x0 d)) : ref03_Check d 2 := by
  obtain ⟨h1_1, h1_2⟩ := h1
  exact R_fn tab_23 rfl ⟨h1_1, fun n hn => xFn_run (p := some _) [.b false, .lp (ref03_Check_l0_x0 d)] (by kernel_rfl) (And.intro h0 (h1_2 n (by omega)))⟩
theorem ref03_Check_r4 {d : Dec} {z0 : Int} (h0 : ¬ (d.Digits.size : Int) = 0) (h1 : ref03_Check_l0 d (d.Digits.size : Int) 0 (ref03_Check_l0_x1 d (d.Digits.size : Int) z0)) (h2 : (d.Digits.size : Int) > 65536) : ref03_Check d 2 := by
  obtain ⟨h1_1, h1_2⟩ := h1
  exact R_fn tab_23 rfl ⟨h1_1, fun n hn => xFn_run (p := some _) [.b false, .lp (ref03_Check_l0_x1 d (d.Digits.size : Int) z0), .b true] (by kernel_rfl) (And.intro h0 (And.intro (h1_2 n (by omega)) h2))⟩
theorem ref03_Check_r5 {d : Dec} {z0 : Int} {b0 : UInt8} (h0 : ¬ (d.Digits.size : Int) = 0) (h1 : ref03_Check_l0 d (d.Digits.size : Int) 0 (ref03_Check_l0_x1 d (d.Digits.size : Int) z0)) (h2 : ¬ (d.Digits.size : Int) > 65536) (h3 : d.Digits[Int.toNat 0]? = some b0) (h4 : (b0.toNat : Int) = 48) : ref03_Check d 2 := by
  obtain ⟨h1_1, h1_2⟩ := h1
  exact R_fn tab_23 rfl ⟨h1_1, fun n hn => xFn_run (p := some _) [.b false, .lp (ref03_Check_l0_x1 d (d.Digits.size : Int) z0), .b false, .byte b0, .b true] (by kernel_rfl) (And.intro h0 (And.intro (h1_2 n (by omega)) (And.intro h2 (And.intro (And.intro ((by decide : 0 ≤ (0 : Int)) : 0 ≤ (0 : Int)) h3) h4))))⟩
theorem ref03_Check_r6 {d : Dec} {z0 : Int} {b0 b1 : UInt8} (h0 : ¬ (d.Digits.size : Int) = 0) (h1 : ref03_Check_l0 d (d.Digits.size : Int) 0 (ref03_Check_l0_x1 d (d.Digits.size : Int) z0)) (h2 : ¬ (d.Digits.size : Int) > 65536) (h3 : d.Digits[Int.toNat 0]? = some b0) (h4 : ¬ (b0.toNat : Int) = 48) (h5 : w64 ((d.Digits.size : Int) - 1)) (h6 : 0 ≤ ((d.Digits.size : Int) - 1)) (h7 : d.Digits[((d.Digits.size : Int) - 1).toNat]? = some b1) (h8 : (b1.toNat : Int) = 48) : ref03_Check d 2 := by
  obtain ⟨h1_1, h1_2⟩ := h1
  exact R_fn tab_23 rfl ⟨h1_1, fun n hn => xFn_run (p := some _) [.b false, .lp (ref03_Check_l0_x1 d (d.Digits.size : Int) z0), .b false, .byte b0, .b false, .z (di ((d.Digits.size : Int) - 1)), .byte b1, .b true] (by kernel_rfl) (And.intro h0 (And.intro (h1_2 n (by omega)) (And.intro h2 (And.intro (And.intro ((by decide : 0 ≤ (0 : Int)) : 0 ≤ (0 : Int)) h3) (And.intro h4 (And.intro (z_sub h5) (And.intro (And.intro (h6 : 0 ≤ ((d.Digits.size : Int) - 1 : Int)) h7) h8)))))))⟩
theorem ref03_Check_r7 {d : Dec} {z0 : Int} {b0 b1 : UInt8} (h0 : ¬ (d.Digits.size : Int) = 0) (h1 : ref03_Check_l0 d (d.Digits.size : Int) 0 (ref03_Check_l0_x1 d (d.Digits.size : Int) z0)) (h2 : ¬ (d.Digits.size : Int) > 65536) (h3 : d.Digits[Int.toNat 0]? = some b0) (h4 : ¬ (b0.toNat : Int) = 48) (h5 : w64 ((d.Digits.size : Int) - 1)) (h6 : 0 ≤ ((d.Digits.size : Int) - 1)) (h7 : d.Digits[((d.Digits.size : Int) - 1).toNat]? = some b1) (h8 : ¬ (b1.toNat : Int) = 48) (h9 : d.Exp < (-1000000)) : ref03_Check d 2 := by
  obtain ⟨h1_1, h1_2⟩ := h1
  exact R_fn tab_23 rfl ⟨h1_1, fun n hn => xFn_run (p := some _) [.b false, .lp (ref03_Check_l0_x1 d (d.Digits.size : Int) z0), .b false, .byte b0, .b false, .z (di ((d.Digits.size : Int) - 1)), .byte b1, .b false, .b true] (by kernel_rfl) (And.intro h0 (And.intro (h1_2 n (by omega)) (And.intro h2 (And.intro (And.intro ((by decide : 0 ≤ (0 : Int)) : 0 ≤ (0 : Int)) h3) (And.intro h4 (And.intro (z_sub h5) (And.intro (And.intro (h6 : 0 ≤ ((d.Digits.size : Int) - 1 : Int)) h7) (And.intro h8 h9))))))))⟩
theorem ref03_Check_r8 {d : Dec} {z0 : Int} {b0 b1 : UInt8} (h0 : ¬ (d.Digits.size : Int) = 0) (h1 : ref03_Check_l0 d (d.Digits.size : Int) 0 (ref03_Check_l0_x1 d (d.Digits.size : Int) z0)) (h2 : ¬ (d.Digits.size : Int) > 65536) (h3 : d.Digits[Int.toNat 0]? = some b0) (h4 : ¬ (b0.toNat : Int) = 48) (h5 : w64 ((d.Digits.size : Int) - 1)) (h6 : 0 ≤ ((d.Digits.size : Int) - 1)) (h7 : d.Digits[((d.Digits.size : Int) - 1).toNat]? = some b1) (h8 : ¬ (b1.toNat : Int) = 48) (h9 : ¬ d.Exp < (-1000000)) (h10 : d.Exp > 1000000) : ref03_Check d 2 := by
  obtain ⟨h1_1, h1_2⟩ := h1
  exact R_fn tab_23 rfl ⟨h1_1, fun n hn => xFn_run (p := some _) [.b false, .lp (ref03_Check_l0_x1 d (d.Digits.size : Int) z0), .b false, .byte b0, .b false, .z (di ((d.Digits.size : Int) - 1)), .byte b1, .b false, .b false, .b true] (by kernel_rfl) (And.intro h0 (And.intro (h1_2 n (by omega)) (And.intro h2 (And.intro (And.intro ((by decide : 0 ≤ (0 : Int)) : 0 ≤ (0 : Int)) h3) (And.intro h4 (And.intro (z_sub h5) (And.intro (And.intro (h6 : 0 ≤ ((d.Digits.size : Int) - 1 : Int)) h7) (And.intro h8 (And.intro h9 h10)))))))))⟩
theorem ref03_Check_r9 {d : Dec} {z0 : Int} {b0 b1 : UInt8} (h0 : ¬ (d.Digits.size : Int) = 0) (h1 : ref03_Check_l0 d (d.Digits.size : Int) 0 (ref03_Check_l0_x1 d (d.Digits.size : Int) z0)) (h2 : ¬ (d.Digits.size : Int) > 65536) (h3 : d.Digits[Int.toNat 0]? = some b0) (h4 : ¬ (b0.toNat : Int) = 48) (h5 : w64 ((d.Digits.size : Int) - 1)) (h6 : 0 ≤ ((d.Digits.size : Int) - 1)) (h7 : d.Digits[((d.Digits.size : Int) - 1).toNat]? = some b1) (h8 : ¬ (b1.toNat : Int) = 48) (h9 : ¬ d.Exp < (-1000000)) (h10 : ¬ d.Exp > 1000000) : ref03_Check d 0 := by
  obtain ⟨h1_1, h1_2⟩ := h1
  exact R_fn tab_23 rfl ⟨h1_1, fun n hn => xFn_run (p := some _) [.b false, .lp (ref03_Check_l0_x1 d (d.Digits.size : Int) z0), .b false, .byte b0, .b false, .z (di ((d.Digits.size : Int) - 1)), .byte b1, .b false, .b false, .b false] (by kernel_rfl) (And.intro h0 (And.intro (h1_2 n (by omega)) (And.intro h2 (And.intro (And.intro ((by decide : 0 ≤ (0 : Int)) : 0 ≤ (0 : Int)) h3) (And.intro h4 (And.intro (z_sub h5) (And.intro (And.intro (h6 : 0 ≤ ((d.Digits.size : Int) - 1 : Int)) h7) (And.intro h8 (And.intro h9 h10)))))))))⟩
/- caliper caliperref03.sign -/
def ref03_sign (d : Dec) (q0 : Int) : Prop :=
  R 24 [(.d (e_Dec d))] (dens []) = some (.ret (ai q0), dens [])
theorem ref03_sign_r0 {d : Dec} (h0 : d.Digits = (⟨#[]⟩ : ByteArray)) : ref03_sign d 0 := by
  exact R_fn tab_24 rfl ⟨0, fun n hn => xFn_run (p := some _) [.b true] (by kernel_rfl) (s_eql_t h0)⟩
theorem ref03_sign_r1 {d : Dec} (h0 : ¬ d.Digits = (⟨#[]⟩ : ByteArray)) (h1 : d.Neg = true) : ref03_sign d (-1) := by
  exact R_fn tab_24 rfl ⟨0, fun n hn => xFn_run (p := some _) [.b false, .q true] (by kernel_rfl) (And.intro (s_eql_f h0) h1)⟩
theorem ref03_sign_r2 {d : Dec} (h0 : ¬ d.Digits = (⟨#[]⟩ : ByteArray)) (h1 : d.Neg = false) : ref03_sign d 1 := by
  exact R_fn tab_24 rfl ⟨0, fun n hn => xFn_run (p := some _) [.b false, .q false] (by kernel_rfl) (And.intro (s_eql_f h0) h1)⟩
/- caliper caliperref02.Of -/
def ref02_Of (s : ByteArray) (q0 : SL Int) (q1 : Int) : Prop :=
  R 25 [(.d (.str s))] (dens []) = some (.ret (.tup [(.d (slD 1 (D.int .u32) q0)), (ai q1)]), dens [])
def ref02_Of_l0 (s : ByteArray) (i : Int) (r_ : Ex × XSt) : Prop :=
  XLp R (byrefOf tab) 0 [0, 4] f25_l0 ⟨[(0, (.d (.str s))), (4, (ai i))], []⟩ r_
def ref02_Of_l0_x0 (t2 : List Int) : Ex × XSt := (.ret, ⟨[(2, (.row 0 1 0 t2.length true)), (3, (ai 2))], [(.w 1 (dl (D.int .u32) t2) false)]⟩)
def ref02_Of_l0_x1 (s : ByteArray) (i : Int) : Ex × XSt := ((.ext 0), ⟨[(0, (.d (.str s))), (4, (ai i)), (20, (ab false))], []⟩)
theorem ref02_Of_l0_e0 {s : ByteArray} {i : Int} {b0 : UInt8} (h0 : i < (s.size : Int)) (h1 : 0 ≤ i) (h2 : s[(i).toNat]? = some b0) (h3 : (b0.toNat : Int) < 48) : ref02_Of_l0 s i (ref02_Of_l0_x0 []) := by
  exact XLp.exit (by intro e; cases e) ⟨0, fun n hn => xCode_run (p := some _) [.b true, .byte b0, .b true] (by kernel_rfl) (And.intro h0 (And.intro (And.intro (h1 : 0 ≤ (i : Int)) h2) h3))⟩
theorem ref02_Of_l0_e1 {s : ByteArray} {i : Int} {b0 : UInt8} (h0 : i < (s.size : Int)) (h1 : 0 ≤ i) (h2 : s[(i).toNat]? = some b0) (h3 : ¬ (b0.toNat : Int) < 48) (h4 : (b0.toNat : Int) > 57) : ref02_Of_l0 s i (ref02_Of_l0_x0 []) := by
  exact XLp.exit (by intro e; cases e) ⟨0, fun n hn => xCode_run (p := some _) [.b true, .byte b0, .b false, .byte b0, .b true] (by kernel_rfl) (And.intro h0 (And.intro (And.intro (h1 : 0 ≤ (i : Int)) h2) (And.intro h3 (And.intro (And.intro (h1 : 0 ≤ (i : Int)) h2) h4))))⟩
theorem ref02_Of_l0_s2 {s : ByteArray} {i : Int} {b0 : UInt8} (h0 : i < (s.size : Int)) (h1 : 0 ≤ i) (h2 : s[(i).toNat]? = some b0) (h3 : ¬ (b0.toNat : Int) < 48) (h4 : ¬ (b0.toNat : Int) > 57) (h5 : w64 (i + 1)) {r_ : Ex × XSt} (hk : ref02_Of_l0 s (i + 1) r_) : ref02_Of_l0 s i r_ := by
  exact XLp.step hk ⟨0, fun n hn => xRound_run (p := some _) [.b true, .byte b0, .b false, .byte b0, .b false, .z (di (i + 1))] (by kernel_rfl) (And.intro h0 (And.intro (And.intro (And.intro (h1 : 0 ≤ (i : Int)) h2) (And.intro h3 (And.intro (And.intro (h1 : 0 ≤ (i : Int)) h2) h4))) (z_add h5)))⟩
theorem ref02_Of_l0_e3 {s : ByteArray} {i : Int} (h0 : ¬ i < (s.size : Int)) : ref02_Of_l0 s i (ref02_Of_l0_x1 s i) := by
  exact XLp.exit (by intro e; cases e) ⟨0, fun n hn => xCode_run (p := some _) [.b false] (by kernel_rfl) h0⟩
def ref02_Of_l1 (out : List Int) (s : ByteArray) (outt : Bool) (end_ : Int) (x : Int) (i : Int) (r_ : Ex × XSt) : Prop :=
  XLp R (byrefOf tab) 0 [0, 5, 6, 7, 8] f25_l1 ⟨[(0, (.d (.str s))), (5, (.row 0 1 0 out.length outt)), (6, (ai end_)), (7, (.d (.int .u32 x))), (8, (ai i))], [(.w 1 (dl (D.int .u32) out) false)]⟩ r_
def ref02_Of_l1_x0 (out : List Int) (s : ByteArray) (outt : Bool) (end_ : Int) (x : Int) (i : Int) : Ex × XSt := ((.ext 4), ⟨[(0, (.d (.str s))), (5, (.row 0 1 0 out.length outt)), (6, (ai end_)), (7, (.d (.int .u32 x))), (8, (ai i)), (44, (ab false))], [(.w 1 (dl (D.int .u32) out) false)]⟩)
theorem ref02_Of_l1_s0 {out : List Int} {s : ByteArray} {outt : Bool} {end_ x i : Int} {b0 : UInt8} (h0 : i < end_) (h1 : wk .u32 (10 * x)) (h2 : 0 ≤ i) (h3 : s[(i).toNat]? = some b0) (h4 : wk .u8 ((b0.toNat : Int) - 48)) (h5 : wk .u32 ((b0.toNat : Int) - 48)) (h6 : wk .u32 ((10 * x) + ((b0.toNat : Int) - 48))) (h7 : w64 (i + 1)) {r_ : Ex × XSt} (hk : ref02_Of_l1 out s outt end_ ((10 * x) + ((b0.toNat : Int) - 48)) (i + 1) r_) : ref02_Of_l1 out s outt end_ x i r_ := by
  exact XLp.step hk ⟨0, fun n hn => xRound_run (p := some _) [.b true, .z (.int .u32 (10 * x)), .byte b0, .z (.int .u8 ((b0.toNat : Int) - 48)), .z (.int .u32 ((b0.toNat : Int) - 48)), .z (.int .u32 ((10 * x) + ((b0.toNat : Int) - 48))), .z (di (i + 1))] (by kernel_rfl) (And.intro h0 (And.intro (And.intro (z_mul h1) (And.intro (And.intro (h2 : 0 ≤ (i : Int)) h3) (And.intro (z_sub h4) (And.intro h5 (z_add h6))))) (z_add h7)))⟩
theorem ref02_Of_l1_e1 {out : List Int} {s : ByteArray} {outt : Bool} {end_ x i : Int} (h0 : ¬ i < end_) : ref02_Of_l1 out s outt end_ x i (ref02_Of_l1_x0 out s outt end_ x i) := by
  exact XLp.exit (by intro e; cases e) ⟨0, fun n hn => xCode_run (p := some _) [.b false] (by kernel_rfl) h0⟩
def ref02_Of_l2 (out : List Int) (s : ByteArray) (outt : Bool) (end_ : Int) (r_ : Ex × XSt) : Prop :=
  XLp R (byrefOf tab) 0 [0, 5, 6] f25_l2 ⟨[(0, (.d (.str s))), (5, (.row 0 1 0 out.length outt)), (6, (ai end_))], [(.w 1 (dl (D.int .u32) out) false)]⟩ r_
def ref02_Of_l2_x0 (out : List Int) (s : ByteArray) (outt : Bool) (end_ : Int) : Ex × XSt := ((.ext 2), ⟨[(0, (.d (.str s))), (5, (.row 0 1 0 out.length outt)), (6, (ai end_)), (36, (ab false))], [(.w 1 (dl (D.int .u32) out) false)]⟩)
theorem ref02_Of_l2_s0 {out : List Int} {s : ByteArray} {outt : Bool} {end_ z0 z1 : Int} (h0 : end_ > 0) (h1 : w64 (end_ - 9)) (h2 : ref02_Of_l1 out s outt end_ 0 (max 0 (end_ - 9)) (ref02_Of_l1_x0 out s outt end_ z0 z1)) (h3 : (out.length + 1) * 4 ≤ 140737488355328) {r_ : Ex × XSt} (hk : ref02_Of_l2 (out ++ [z0]) s false (end_ - 9) r_) : ref02_Of_l2 out s outt end_ r_ := by
  obtain ⟨h2_1, h2_2⟩ := h2
  exact XLp.step hk ⟨h2_1, fun n hn => xRound_run (p := some _) [.b true, .z (di (end_ - 9)), .z (.int .i64 (max 0 (end_ - 9))), .lp (ref02_Of_l1_x0 out s outt end_ z0 z1), .ap (dl (D.int .u32) [z0]) (dl (D.int .u32) (out ++ [z0])) (out ++ [z0]).length, .z (di (end_ - 9))] (by kernel_rfl) (And.intro h0 (And.intro (And.intro (And.intro (And.intro (z_sub h1) (mm_max (k := .i64) (a := 0) (b := end_ - 9))) (h2_2 n (by omega))) (ap_row (D.int .u32) out [z0] 4 (And.intro (rfl : 1 = 1) (And.intro (rfl : 1 = 1) (And.intro (by decide : 0 + 1 ≤ 1) (rfl : (([(.d (.int .u32 z0))] : List AV).drop 0).take 1 = (dl (D.int .u32) [z0]).map .d)))) h3)) (z_sub h1)))⟩
theorem ref02_Of_l2_e1 {out : List Int} {s : ByteArray} {outt : Bool} {end_ : Int} (h0 : ¬ end_ > 0) : ref02_Of_l2 out s outt end_ (ref02_Of_l2_x0 out s outt end_) := by
  exact XLp.exit (by intro e; cases e) ⟨0, fun n hn => xCode_run (p := some _) [.b false] (by kernel_rfl) h0⟩
/- caliper caliperref02.Trim -/
def ref02_Trim (a : SL Int) (q0 : SL Int) : Prop :=
  R 45 [(.d (slD 1 (D.int .u32) a))] (dens []) = some (.ret (.d (slD 1 (D.int .u32) q0)), dens [])
def ref02_Trim_l0 (a : SL Int) (n_ : Int) (r_ : Ex × XSt) : Prop :=
  XLp R (byrefOf tab) 0 [0, 3] f45_l0 ⟨[(0, (.d (slD 1 (D.int .u32) a))), (3, (ai n_))], []⟩ r_
def ref02_Trim_l0_x0 (a : SL Int) (n_ : Int) : Ex × XSt := ((.ext 0), ⟨[(0, (.d (slD 1 (D.int .u32) a))), (3, (ai n_)), (15, (ab false))], []⟩)
theorem ref02_Trim_l0_s0 {a : SL Int} {n_ y0 : Int} (h0 : n_ > 0) (h1 : w64 (n_ - 1)) (h2 : 0 ≤ (n_ - 1)) (h3 : a.xs[(n_ - 1).toNat]? = some y0) (h4 : y0 = 0) {r_ : Ex × XSt} (hk : ref02_Trim_l0 a (n_ - 1) r_) : ref02_Trim_l0 a n_ r_ := by
  exact XLp.step hk ⟨0, fun n hn => xRound_run (p := some _) [.b true, .z (di (n_ - 1)), .d (.int .u32 y0), .b true, .z (di (n_ - 1))] (by kernel_rfl) (And.intro (And.intro h0 (And.intro (z_sub h1) (And.intro (fetchE 1 (D.int .u32) a (n_ - 1) h2 h3) h4))) (z_sub h1))⟩
theorem ref02_Trim_l0_e1 {a : SL Int} {n_ y0 : Int} (h0 : n_ > 0) (h1 : w64 (n_ - 1)) (h2 : 0 ≤ (n_ - 1)) (h3 : a.xs[(n_ - 1).toNat]? = some y0) (h4 : ¬ y0 = 0) : ref02_Trim_l0 a n_ (ref02_Trim_l0_x0 a n_) := by
  exact XLp.exit (by intro e; cases e) ⟨0, fun n hn => xCode_run (p := some _) [.b true, .z (di (n_ - 1)), .d (.int .u32 y0), .b false] (by kernel_rfl) (And.intro h0 (And.intro (z_sub h1) (And.intro (fetchE 1 (D.int .u32) a (n_ - 1) h2 h3) h4)))⟩
theorem ref02_Trim_l0_e2 {a : SL Int} {n_ : Int} (h0 : ¬ n_ > 0) : ref02_Trim_l0 a n_ (ref02_Trim_l0_x0 a n_) := by
  exact XLp.exit (by intro e; cases e) ⟨0, fun n hn => xCode_run (p := some _) [.b false] (by kernel_rfl) h0⟩
theorem ref02_Trim_r0 {a : SL Int} {z0 : Int} (h0 : ref02_Trim_l0 a (a.xs.length : Int) (ref02_Trim_l0_x0 a z0)) (h1 : 0 ≤ z0) (h2 : (z0).toNat ≤ a.xs.length) (h3 : (0 + (a.xs.take ((z0).toNat)).length) * 4 ≤ 140737488355328) : ref02_Trim a ⟨1, a.xs.take ((z0).toNat), false⟩ := by
  obtain ⟨h0_1, h0_2⟩ := h0
  exact R_fn tab_45 rfl ⟨h0_1, fun n hn => xFn_run (p := some _) [.n a.xs.length, .lp (ref02_Trim_l0_x0 a z0), .bnd 0 ((z0).toNat) (a.t && decide ((z0).toNat = a.xs.length)) (slD 1 (D.int .u32) ⟨1, a.xs.take ((z0).toNat), (a.t && decide ((z0).toNat = a.xs.length))⟩), .ap (dl (D.int .u32) (a.xs.take ((z0).toNat))) (dl (D.int .u32) (a.xs.take ((z0).toNat))) (a.xs.take ((z0).toNat)).length, .snap (slD 1 (D.int .u32) ⟨1, a.xs.take ((z0).toNat), false⟩) [1]] (by kernel_rfl) (And.intro (And.intro (len_dl (D.int .u32) a.xs) (And.intro (h0_2 n (by omega)) (And.intro (sl_h (es := 1) (enc := (D.int .u32)) (s := a) (k := .i64) (hi := z0) h1 h2) (ap_o (D.int .u32) [] (a.xs.take ((z0).toNat)) 4 [] 0 rfl rfl rfl (elems_slD 1 (D.int .u32) (⟨1, a.xs.take ((z0).toNat), (a.t && decide ((z0).toNat = a.xs.length))⟩ : SL _)) h3)))) (snap_row 1 (D.int .u32) false 1 (a.xs.take ((z0).toNat))))⟩
theorem ref02_Of_r0 {s : ByteArray} (h0 : (s.size : Int) < 1) : ref02_Of s ⟨1, [], true⟩ 2 := by
  exact R_fn tab_25 rfl ⟨0, fun n hn => xFn_run (p := some _) [.b true, .snap (slD 1 (D.int .u32) ⟨1, [], true⟩) [1]] (by kernel_rfl) (And.intro h0 (snap_row 1 (D.int .u32) true 1 []))⟩
theorem ref02_Of_r1 {s : ByteArray} (h0 : ¬ (s.size : Int) < 1) (h1 : (s.size : Int) > 1048576) : ref02_Of s ⟨1, [], true⟩ 2 := by
  exact R_fn tab_25 rfl ⟨0, fun n hn => xFn_run (p := some _) [.b false, .b true, .snap (slD 1 (D.int .u32) ⟨1, [], true⟩) [1]] (by kernel_rfl) (And.intro (And.intro h0 h1) (snap_row 1 (D.int .u32) true 1 []))⟩
theorem ref02_Of_r2 {s : ByteArray} {z0 : List Int} (h0 : ¬ (s.size : Int) < 1) (h1 : ¬ (s.size : Int) > 1048576) (h2 : ref02_Of_l0 s 0 (ref02_Of_l0_x0 z0)) : ref02_Of s ⟨1, z0, true⟩ 2 := by
  obtain ⟨h2_1, h2_2⟩ := h2
  exact R_fn tab_25 rfl ⟨h2_1, fun n hn => xFn_run (p := some _) [.b false, .b false, .lp (ref02_Of_l0_x0 z0), .snap (slD 1 (D.int .u32) ⟨1, z0, true⟩) [0]] (by kernel_rfl) (And.intro (And.intro (And.intro h0 h1) (h2_2 n (by omega))) (snap_row 1 (D.int .u32) true 0 z0))⟩
theorem ref02_Of_r3 {s : ByteArray} {z0 : Int} {z1 : List Int} {z2 : Bool} {z3 : Int} {r0 : SL Int} (h0 : ¬ (s.size : Int) < 1) (h1 : ¬ (s.size : Int) > 1048576) (h2 : ref02_Of_l0 s 0 (ref02_Of_l0_x1 s z0)) (h3 : ref02_Of_l2 [] s true (s.size : Int) (ref02_Of_l2_x0 z1 s z2 z3)) (h4 : ref02_Trim ⟨1, z1, z2⟩ r0) : ref02_Of s r0 0 := by
  obtain ⟨h2_1, h2_2⟩ := h2
  obtain ⟨h3_1, h3_2⟩ := h3
  exact R_fn tab_25 rfl ⟨h2_1 + h3_1, fun n hn => xFn_run (p := some _) [.b false, .b false, .lp (ref02_Of_l0_x1 s z0), .lp (ref02_Of_l2_x0 z1 s z2 z3), .snap (slD 1 (D.int .u32) ⟨1, z1, z2⟩) [0], .out (.ret (.d (slD 1 (D.int .u32) r0))) []] (by kernel_rfl) (And.intro (And.intro h0 h1) (And.intro (h2_2 n (by omega)) (And.intro (h3_2 n (by omega)) (And.intro (snap_row 1 (D.int .u32) z2 0 z1) h4))))⟩
/- caliper caliperref02.Power -/
def ref02_Power (a : SL Int) (n_ : Int) (m : SL Int) (q0 : SL Int) (q1 : Int) : Prop :=
  R 26 [(.d (slD 1 (D.int .u32) a)), (ai n_), (.d (slD 1 (D.int .u32) m))] (dens []) = some (.ret (.tup [(.d (slD 1 (D.int .u32) q0)), (ai q1)]), dens [])
/- caliper caliperref02.Check -/
def ref02_Check (a : SL Int) (q0 : Int) : Prop :=
  R 46 [(.d (slD 1 (D.int .u32) a))] (dens []) = some (.ret (ai q0), dens [])
def ref02_Check_l0 (a : SL Int) (i : Int) (r_ : Ex × XSt) : Prop :=
  XLp R (byrefOf tab) 0 [0, 3] f46_l0 ⟨[(0, (.d (slD 1 (D.int .u32) a))), (3, (ai i))], []⟩ r_
def ref02_Check_l0_x0 : Ex × XSt := (.ret, ⟨[(2, (ai 2))], []⟩)
def ref02_Check_l0_x1 (a : SL Int) (i : Int) : Ex × XSt := ((.ext 0), ⟨[(0, (.d (slD 1 (D.int .u32) a))), (3, (ai i)), (7, (ab false))], []⟩)
/- caliper caliperref02.div -/
def ref02_div (a : SL Int) (b : SL Int) (q0 : SL Int) (q1 : SL Int) : Prop :=
  R 47 [(.d (slD 1 (D.int .u32) a)), (.d (slD 1 (D.int .u32) b))] (dens []) = some (.ret (.tup [(.d (slD 1 (D.int .u32) q0)), (.d (slD 1 (D.int .u32) q1))]), dens [])
/- caliper caliperref02.mul -/
def ref02_mul (a : SL Int) (b : SL Int) (q0 : SL Int) : Prop :=
  R 48 [(.d (slD 1 (D.int .u32) a)), (.d (slD 1 (D.int .u32) b))] (dens []) = some (.ret (.d (slD 1 (D.int .u32) q0)), dens [])
def ref02_mul_l0 (out : List Int) (a : SL Int) (b : SL Int) (outt : Bool) (outn : Nat) (i : Int) (carry : Int) (k : Int) (r_ : Ex × XSt) : Prop :=
  XLp R (byrefOf tab) 0 [0, 1, 5, 6, 7, 8] f48_l0 ⟨[(0, (.d (slD 1 (D.int .u32) a))), (1, (.d (slD 1 (D.int .u32) b))), (5, (.row 0 1 0 outn outt)), (6, (ai i)), (7, (.d (.int .u64 carry))), (8, (ai k))], [(.w 1 (dl (D.int .u32) out) false)]⟩ r_
def ref02_mul_l0_x0 (out : List Int) (a : SL Int) (b : SL Int) (outt : Bool) (outn : Nat) (i : Int) (carry : Int) (k : Int) : Ex × XSt := ((.ext 2), ⟨[(0, (.d (slD 1 (D.int .u32) a))), (1, (.d (slD 1 (D.int .u32) b))), (5, (.row 0 1 0 outn outt)), (6, (ai i)), (7, (.d (.int .u64 carry))), (8, (ai k)), (30, (ab false))], [(.w 1 (dl (D.int .u32) out) false)]⟩)
def ref02_mul_l1 (out : List Int) (a : SL Int) (b : SL Int) (outt : Bool) (outn : Nat) (i : Int) (r_ : Ex × XSt) : Prop :=
  XLp R (byrefOf tab) 0 [0, 1, 5, 6] f48_l1 ⟨[(0, (.d (slD 1 (D.int .u32) a))), (1, (.d (slD 1 (D.int .u32) b))), (5, (.row 0 1 0 outn outt)), (6, (ai i))], [(.w 1 (dl (D.int .u32) out) false)]⟩ r_
def ref02_mul_l1_x0 (out : List Int) (a : SL Int) (b : SL Int) (outt : Bool) (outn : Nat) (i : Int) : Ex × XSt := ((.ext 0), ⟨[(0, (.d (slD 1 (D.int .u32) a))), (1, (.d (slD 1 (D.int .u32) b))), (5, (.row 0 1 0 outn outt)), (6, (ai i)), (20, (ab false))], [(.w 1 (dl (D.int .u32) out) false)]⟩)
/- caliper caliperref02.compare -/
def ref02_compare (a : SL Int) (b : SL Int) (q0 : Int) : Prop :=
  R 71 [(.d (slD 1 (D.int .u32) a)), (.d (slD 1 (D.int .u32) b))] (dens []) = some (.ret (ai q0), dens [])
def ref02_compare_l0 (a : SL Int) (b : SL Int) (i : Int) (r_ : Ex × XSt) : Prop :=
  XLp R (byrefOf tab) 0 [0, 1, 5] f71_l0 ⟨[(0, (.d (slD 1 (D.int .u32) a))), (1, (.d (slD 1 (D.int .u32) b))), (5, (ai i))], []⟩ r_
def ref02_compare_l0_x0 : Ex × XSt := (.ret, ⟨[(4, (ai (-1)))], []⟩)
def ref02_compare_l0_x1 : Ex × XSt := (.ret, ⟨[(4, (ai 1))], []⟩)
def ref02_compare_l0_x2 (a : SL Int) (b : SL Int) (i : Int) : Ex × XSt := ((.ext 0), ⟨[(0, (.d (slD 1 (D.int .u32) a))), (1, (.d (slD 1 (D.int .u32) b))), (5, (ai i)), (20, (ab false))], []⟩)
def ref02_div_l0 (q : List Int) (a : SL Int) (b : SL Int) (qt : Bool) (qn : Nat) (rest : SL Int) (i : Int) (low : Int) (high : Int) (r_ : Ex × XSt) : Prop :=
  XLp R (byrefOf tab) 0 [0, 1, 6, 7, 8, 9, 10] f47_l0 ⟨[(0, (.d (slD 1 (D.int .u32) a))), (1, (.d (slD 1 (D.int .u32) b))), (6, (.row 0 1 0 qn qt)), (7, (.d (slD 1 (D.int .u32) rest))), (8, (ai i)), (9, (.d (.int .u32 low))), (10, (.d (.int .u32 high)))], [(.w 1 (dl (D.int .u32) q) false)]⟩ r_
def ref02_div_l0_x0 (q : List Int) (a : SL Int) (b : SL Int) (qt : Bool) (qn : Nat) (rest : SL Int) (i : Int) (low : Int) (high : Int) : Ex × XSt := ((.ext 2), ⟨[(0, (.d (slD 1 (D.int .u32) a))), (1, (.d (slD 1 (D.int .u32) b))), (6, (.row 0 1 0 qn qt)), (7, (.d (slD 1 (D.int .u32) rest))), (8, (ai i)), (9, (.d (.int .u32 low))), (10, (.d (.int .u32 high))), (32, (ab false))], [(.w 1 (dl (D.int .u32) q) false)]⟩)
/- caliper caliperref02.sub -/
def ref02_sub (a : SL Int) (b : SL Int) (q0 : SL Int) : Prop :=
  R 72 [(.d (slD 1 (D.int .u32) a)), (.d (slD 1 (D.int .u32) b))] (dens []) = some (.ret (.d (slD 1 (D.int .u32) q0)), dens [])
def ref02_sub_l0 (out : List Int) (a : SL Int) (b : SL Int) (outt : Bool) (borrow : Int) (i : Int) (r_ : Ex × XSt) : Prop :=
  XLp R (byrefOf tab) 0 [0, 1, 5, 6, 7] f72_l0 ⟨[(0, (.d (slD 1 (D.int .u32) a))), (1, (.d (slD 1 (D.int .u32) b))), (5, (.row 0 1 0 out.length outt)), (6, (.d (.int .u32 borrow))), (7, (ai i))], [(.w 1 (dl (D.int .u32) out) false)]⟩ r_
def ref02_sub_l0_x0 (out : List Int) (a : SL Int) (b : SL Int) (outt : Bool) (borrow : Int) (i : Int) : Ex × XSt := ((.ext 0), ⟨[(0, (.d (slD 1 (D.int .u32) a))), (1, (.d (slD 1 (D.int .u32) b))), (5, (.row 0 1 0 out.length outt)), (6, (.d (.int .u32 borrow))), (7, (ai i)), (12, (ab false))], [(.w 1 (dl (D.int .u32) out) false)]⟩)
def ref02_div_l1 (q : List Int) (rest : List Int) (a : SL Int) (b : SL Int) (qt : Bool) (qn : Nat) (restt : Bool) (restn : Nat) (i : Int) (r_ : Ex × XSt) : Prop :=
  XLp R (byrefOf tab) 0 [0, 1, 6, 7, 8] f47_l1 ⟨[(0, (.d (slD 1 (D.int .u32) a))), (1, (.d (slD 1 (D.int .u32) b))), (6, (.row 0 1 0 qn qt)), (7, (.row 1 1 0 restn restt)), (8, (ai i))], [(.w 1 (dl (D.int .u32) q) false), (.w 1 (dl (D.int .u32) rest) false)]⟩ r_
def ref02_div_l1_b (q : List Int) (a : SL Int) (b : SL Int) (qt : Bool) (qn : Nat) (rest : SL Int) (i : Int) (r_ : Ex × XSt) : Prop :=
  XLp R (byrefOf tab) 0 [0, 1, 6, 7, 8] f47_l1 ⟨[(0, (.d (slD 1 (D.int .u32) a))), (1, (.d (slD 1 (D.int .u32) b))), (6, (.row 0 1 0 qn qt)), (7, (.d (slD 1 (D.int .u32) rest))), (8, (ai i))], [(.w 1 (dl (D.int .u32) q) false)]⟩ r_
def ref02_div_l1_x0 (q : List Int) (rest : List Int) (a : SL Int) (b : SL Int) (qt : Bool) (qn : Nat) (restt : Bool) (restn : Nat) (i : Int) : Ex × XSt := ((.ext 0), ⟨[(0, (.d (slD 1 (D.int .u32) a))), (1, (.d (slD 1 (D.int .u32) b))), (6, (.row 0 1 0 qn qt)), (7, (.row 1 1 0 restn restt)), (8, (ai i)), (19, (ab false))], [(.w 1 (dl (D.int .u32) q) false), (.w 1 (dl (D.int .u32) rest) false)]⟩)
def ref02_div_l1_x1 (q : List Int) (a : SL Int) (b : SL Int) (qt : Bool) (qn : Nat) (rest : SL Int) (i : Int) : Ex × XSt := ((.ext 0), ⟨[(0, (.d (slD 1 (D.int .u32) a))), (1, (.d (slD 1 (D.int .u32) b))), (6, (.row 0 1 0 qn qt)), (7, (.d (slD 1 (D.int .u32) rest))), (8, (ai i)), (19, (ab false))], [(.w 1 (dl (D.int .u32) q) false)]⟩)
def ref02_Power_l0 (n_ : Int) (m : SL Int) (out : SL Int) (x : SL Int) (r_ : Ex × XSt) : Prop :=
  XLp R (byrefOf tab) 0 [1, 2, 9, 11] f26_l0 ⟨[(1, (ai n_)), (2, (.d (slD 1 (D.int .u32) m))), (9, (.d (slD 1 (D.int .u32) out))), (11, (.d (slD 1 (D.int .u32) x)))], []⟩ r_
def ref02_Power_l0_x0 (n_ : Int) (m : SL Int) (out : SL Int) (x : SL Int) : Ex × XSt := ((.ext 0), ⟨[(1, (ai n_)), (2, (.d (slD 1 (D.int .u32) m))), (9, (.d (slD 1 (D.int .u32) out))), (11, (.d (slD 1 (D.int .u32) x))), (38, (ab false))], []⟩)
/- caliper caliperref02.Mul -/
def ref02_Mul (a : SL Int) (b : SL Int) (q0 : SL Int) (q1 : Int) : Prop :=
  R 27 [(.d (slD 1 (D.int .u32) a)), (.d (slD 1 (D.int .u32) b))] (dens []) = some (.ret (.tup [(.d (slD 1 (D.int .u32) q0)), (ai q1)]), dens [])
/- caliper caliperref02.Div -/
def ref02_Div (a : SL Int) (b : SL Int) (q0 : SL Int) (q1 : SL Int) (q2 : Int) : Prop :=
  R 28 [(.d (slD 1 (D.int .u32) a)), (.d (slD 1 (D.int .u32) b))] (dens []) = some (.ret (.tup [(.d (slD 1 (D.int .u32) q0)), (.d (slD 1 (D.int .u32) q1)), (ai q2)]), dens [])
/- caliper caliperlaw03.DecTimes -/
def law_DecTimes (b : Dec) (k : SL Int) (q0 : Bool) : Prop :=
  R 7 [(.d (e_Dec b)), (.d (slD 1 (D.int .u32) k))] (dens []) = some (.ret (ab q0), dens [])
/- caliper nat.Check -/
def nat_Check (a : SL Int) (q0 : Int) : Prop :=
  R 16 [(.d (slD 1 (D.int .u32) a))] (dens []) = some (.ret (ai q0), dens [])
/- caliper nat.Text -/
def nat_Text (a : SL Int) (q0 : ByteArray) (q1 : Int) : Prop :=
  R 19 [(.d (slD 1 (D.int .u32) a))] (dens []) = some (.ret (.tup [(.d (.str q0)), (ai q1)]), dens [])
def nat_Text_l0 (b : List Int) (bt : Bool) (bn : Nat) (i : Int) (x : Int) (t16 : SL Int) (t17 : Int) (t18 : Int) (t23 : Int) (r_ : Ex × XSt) : Prop :=
  XLp R (byrefOf tab) 0 [4, 5, 6, 16, 17, 18, 23] f19_l0 ⟨[(4, (.row 0 1 0 bn bt)), (5, (ai i)), (6, (.d (.int .u32 x))), (16, (.d (slD 1 (D.int .u32) t16))), (17, (ai t17)), (18, (ai t18)), (23, (ai t23))], [(.w 1 (dl (D.int .u8) b) false)]⟩ r_
def nat_Text_l0_x0 (b : List Int) (bt : Bool) (bn : Nat) (i : Int) (x : Int) (t16 : SL Int) (t17 : Int) (t18 : Int) (t23 : Int) : Ex × XSt := ((.ext 2), ⟨[(4, (.row 0 1 0 bn bt)), (5, (ai i)), (6, (.d (.int .u32 x))), (16, (.d (slD 1 (D.int .u32) t16))), (17, (ai t17)), (18, (ai t18)), (23, (ai t23)), (24, (ab false))], [(.w 1 (dl (D.int .u8) b) false)]⟩)
def nat_Text_l1 (b : List Int) (bt : Bool) (bn : Nat) (t16 : SL Int) (t17 : Int) (t18 : Int) (r_ : Ex × XSt) : Prop :=
  XLp R (byrefOf tab) 0 [4, 16, 17, 18] f19_l1 ⟨[(4, (.row 0 1 0 bn bt)), (16, (.d (slD 1 (D.int .u32) t16))), (17, (ai t17)), (18, (ai t18))], [(.w 1 (dl (D.int .u8) b) false)]⟩ r_
def nat_Text_l1_x0 (b : List Int) (bt : Bool) (bn : Nat) (t16 : SL Int) (t17 : Int) (t18 : Int) : Ex × XSt := ((.ext 0), ⟨[(4, (.row 0 1 0 bn bt)), (16, (.d (slD 1 (D.int .u32) t16))), (17, (ai t17)), (18, (ai t18)), (19, (ab false))], [(.w 1 (dl (D.int .u8) b) false)]⟩)
/- strings.TrimLeft -/
def strings_TrimLeft (s : ByteArray) (cutset : ByteArray) (q0 : ByteArray) : Prop :=
  R 41 [(.d (.str s)), (.d (.str cutset))] (dens []) = some (.ret (.d (.str q0)), dens [])
def law_DecTimes_l0 (b : Dec) (a : Dec) (t : ByteArray) (r_ : Ex × XSt) : Prop :=
  XLp R (byrefOf tab) 0 [2, 9, 11] f7_l0 ⟨[(2, (.ptr 0 3 0 0)), (9, (.d (.str t))), (11, (.ptr 1 3 0 0))], [(.o (.row 3 [(.d (e_Dec b))] false)), (.o (.row 3 [(.d (e_Dec a))] false))]⟩ r_
def law_DecTimes_l0_x0 (b : Dec) (a : Dec) (t : ByteArray) : Ex × XSt := ((.ext 0), ⟨[(2, (.ptr 0 3 0 0)), (9, (.d (.str t))), (11, (.ptr 1 3 0 0)), (100, (ab false))], [(.o (.row 3 [(.d (e_Dec b))] false)), (.o (.row 3 [(.d (e_Dec a))] false))]⟩)
end Go.Proofs.YtkkekfehjbbhoaaGreatDoor.V

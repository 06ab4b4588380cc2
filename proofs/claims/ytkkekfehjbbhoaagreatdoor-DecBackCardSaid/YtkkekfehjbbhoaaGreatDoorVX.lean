/- What the functions do, without fuel; what comes at any rate by the kernel. -/
import Derived.Test.YtkkekfehjbbhoaaGreatDoorVE
import Derived.Test.YtkkekfehjbbhoaaGreatDoorVH
namespace Go.Proofs.YtkkekfehjbbhoaaGreatDoor.V
open Go
set_option linter.unusedVariables false
set_option linter.unnecessarySimpa false
set_option linter.unusedSimpArgs false
set_option linter.unusedSectionVars false
/-- What is known of functions besides their own text. -/
def XX : Calling := fun f args sto => match f with
  | 8 => (match args, sto with
    | [], [] => some (.ret (.d (.bool true)), [])
    | _, _ => none)
  | f => XB f args sto
theorem XX_sound : Sound Tryz.prog XX := by
  intro f args sto out sto' h w F β us hS hus
  unfold XX at h
  split at h
  · split at h
    · cases h
      exact callF_sound mixed tab_ok XB_sound 60 8 [] [] _ _ heads_run w F β us hS hus
    · cases h
  · exact XB_sound _ _ _ _ _ h w F β us hS hus
theorem R_clone {e : Nat} {t : Bool} : lim tab XX 67 [.d (.sl e [] t)] [] = some (.ret (.d (.sl 1 [] false)), []) := lim_x rfl
theorem R_trim {s c : ByteArray} (hc : okCut c = true) (hs : s.size ≤ 9223372036854775807) : lim tab XX 33 [.d (.str s), .d (.str c)] [] = some (.ret (.d (.str ⟨(Lib.trimS s.data.toList c.data.toList).toArray⟩)), []) := lim_x (by
  show (if okCut c = true ∧ s.size ≤ 9223372036854775807 then _ else _) = _
  rw [if_pos ⟨hc, hs⟩])
theorem R_trimLeft {s c : ByteArray} (hc : okCut c = true) : lim tab XX 41 [.d (.str s), .d (.str c)] [] = some (.ret (.d (.str ⟨(Lib.trimLeftS s.data.toList c.data.toList).toArray⟩)), []) := lim_x (by
  show (if okCut c = true then _ else _) = _
  rw [if_pos hc])
theorem R_trimRight {s c : ByteArray} (hc : okCut c = true) (hs : s.size ≤ 9223372036854775807) : lim tab XX 63 [.d (.str s), .d (.str c)] [] = some (.ret (.d (.str ⟨(Lib.trimRightS s.data.toList c.data.toList).toArray⟩)), []) := lim_x (by
  show (if okCut c = true ∧ s.size ≤ 9223372036854775807 then _ else _) = _
  rw [if_pos ⟨hc, hs⟩])
theorem R_itoa {n : Int} (h0 : -9223372036854775808 ≤ n) (h1 : n ≤ 9223372036854775807) : lim tab XX 34 [.d (.int .i64 n)] [] = some (.ret (.d (.str ⟨(Lib.itoa n).toArray⟩)), []) := lim_x (by
  show (if -9223372036854775808 ≤ n ∧ n ≤ 9223372036854775807 then _ else _) = _
  rw [if_pos ⟨h0, h1⟩])
theorem R_number {c : Int} : lim tab XX 36 [.d (.iface 95 (.ptr [.int .i64 c]))] [] = some (.ret (.d (.int .i64 c)), []) := lim_of (k := 10) (by kernel_rfl)
noncomputable abbrev R : Calling := lim tab XX
theorem R_fn {f : FuncId} {fn : VFn} (hV : tab f = some fn) {args : List AV} {sto : List Obj} {r : Out × List Obj} (hX : XX f args sto = none) (h : ∃ n0, ∀ n, n0 ≤ n → evalFn R (byrefOf tab) n fn args sto = some r) : R f args sto = some r := lim_fn hV hX h
theorem R_sound : Sound Tryz.prog R := lim_sound mixed tab_ok XX_sound
theorem R_heads : R 8 [] [] = some (.ret (.d (.bool true)), []) := lim_x rfl
theorem R_add {x y : Int} (h0 : 0 ≤ x) (h1 : 0 ≤ y) (h : x + y < 18446744073709551616) : R 86 [.d (.int .u64 x), .d (.int .u64 y), .d (.int .u64 0)] [] = some (.ret (.tup [.d (.int .u64 (x + y)), .d (.int .u64 0)]), []) := by
  refine lim_x ?_
  show (if 0 ≤ x ∧ 0 ≤ y ∧ (0 : Int) = 0 ∧ x + y < 18446744073709551616 then some (Out.ret (.tup [.d (.int .u64 (x + y)), .d (.int .u64 0)]), []) else none) = _
  rw [if_pos ⟨h0, h1, rfl, h⟩]
theorem tab_3 : tab 3 = some f3 := rfl
theorem tab_4 : tab 4 = some f4 := rfl
theorem tab_5 : tab 5 = some f5 := rfl
theorem tab_6 : tab 6 = some f6 := rfl
theorem tab_7 : tab 7 = some f7 := rfl
theorem tab_8 : tab 8 = some f8 := rfl
theorem tab_9 : tab 9 = some f9 := rfl
theorem tab_10 : tab 10 = some f10 := rfl
theorem tab_11 : tab 11 = some f11 := rfl
theorem tab_12 : tab 12 = some f12 := rfl
theorem tab_13 : tab 13 = some f13 := rfl
theorem tab_14 : tab 14 = some f14 := rfl
theorem tab_15 : tab 15 = some f15 := rfl
theorem tab_16 : tab 16 = some f16 := rfl
theorem tab_17 : tab 17 = some f17 := rfl
theorem tab_18 : tab 18 = some f18 := rfl
theorem tab_19 : tab 19 = some f19 := rfl
theorem tab_20 : tab 20 = some f20 := rfl
theorem tab_21 : tab 21 = some f21 := rfl
theorem tab_22 : tab 22 = some f22 := rfl
theorem tab_23 : tab 23 = some f23 := rfl
theorem tab_24 : tab 24 = some f24 := rfl
theorem tab_25 : tab 25 = some f25 := rfl
theorem tab_26 : tab 26 = some f26 := rfl
theorem tab_27 : tab 27 = some f27 := rfl
theorem tab_28 : tab 28 = some f28 := rfl
theorem tab_29 : tab 29 = some f29 := rfl
theorem tab_30 : tab 30 = some f30 := rfl
theorem tab_31 : tab 31 = some f31 := rfl
theorem tab_32 : tab 32 = some f32 := rfl
theorem tab_33 : tab 33 = some f33 := rfl
theorem tab_34 : tab 34 = some f34 := rfl
theorem tab_35 : tab 35 = some f35 := rfl
theorem tab_36 : tab 36 = some f36 := rfl
theorem tab_37 : tab 37 = some f37 := rfl
theorem tab_38 : tab 38 = some f38 := rfl
theorem tab_39 : tab 39 = some f39 := rfl
theorem tab_40 : tab 40 = some f40 := rfl
theorem tab_41 : tab 41 = some f41 := rfl
theorem tab_42 : tab 42 = some f42 := rfl
theorem tab_43 : tab 43 = some f43 := rfl
theorem tab_44 : tab 44 = some f44 := rfl
theorem tab_45 : tab 45 = some f45 := rfl
theorem tab_46 : tab 46 = some f46 := rfl
theorem tab_47 : tab 47 = some f47 := rfl
theorem tab_48 : tab 48 = some f48 := rfl
theorem tab_49 : tab 49 = some f49 := rfl
theorem tab_50 : tab 50 = some f50 := rfl
theorem tab_52 : tab 52 = some f52 := rfl
theorem tab_53 : tab 53 = some f53 := rfl
theorem tab_55 : tab 55 = some f55 := rfl
theorem tab_57 : tab 57 = some f57 := rfl
theorem tab_58 : tab 58 = some f58 := rfl
theorem tab_59 : tab 59 = some f59 := rfl
theorem tab_60 : tab 60 = some f60 := rfl
theorem tab_61 : tab 61 = some f61 := rfl
theorem tab_62 : tab 62 = some f62 := rfl
theorem tab_63 : tab 63 = some f63 := rfl
theorem tab_64 : tab 64 = some f64 := rfl
theorem tab_65 : tab 65 = some f65 := rfl
theorem tab_66 : tab 66 = some f66 := rfl
theorem tab_67 : tab 67 = some f67 := rfl
theorem tab_68 : tab 68 = some f68 := rfl
theorem tab_69 : tab 69 = some f69 := rfl
theorem tab_70 : tab 70 = some f70 := rfl
theorem tab_71 : tab 71 = some f71 := rfl
theorem tab_72 : tab 72 = some f72 := rfl
theorem tab_73 : tab 73 = some f73 := rfl
theorem tab_74 : tab 74 = some f74 := rfl
theorem tab_75 : tab 75 = some f75 := rfl
theorem tab_76 : tab 76 = some f76 := rfl
theorem tab_77 : tab 77 = some f77 := rfl
theorem tab_78 : tab 78 = some f78 := rfl
theorem tab_79 : tab 79 = some f79 := rfl
theorem tab_84 : tab 84 = some f84 := rfl
theorem tab_85 : tab 85 = some f85 := rfl
theorem tab_87 : tab 87 = some f87 := rfl
theorem tab_88 : tab 88 = some f88 := rfl
theorem tab_89 : tab 89 = some f89 := rfl
theorem tab_91 : tab 91 = some f91 := rfl
theorem tab_92 : tab 92 = some f92 := rfl
theorem tab_93 : tab 93 = some f93 := rfl
theorem tab_95 : tab 95 = some f95 := rfl
theorem tab_99 : tab 99 = some f99 := rfl
theorem tab_100 : tab 100 = some f100 := rfl
theorem tab_105 : tab 105 = some f105 := rfl
theorem tab_106 : tab 106 = some f106 := rfl
theorem tab_108 : tab 108 = some f108 := rfl
theorem tab_109 : tab 109 = some f109 := rfl
theorem tab_111 : tab 111 = some f111 := rfl
theorem tab_112 : tab 112 = some f112 := rfl
end Go.Proofs.YtkkekfehjbbhoaaGreatDoor.V

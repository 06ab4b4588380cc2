/- What the functions do, without fuel; sorting by the kit's theorem, what comes at any rate by the kernel. -/
import Derived.Test.YtjnfkifdgojdaaaGreatVZ
import Derived.Test.YtjnfkifdgojdaaaGreatVL
import Derived.Test.YtjnfkifdgojdaaaGreatVH
import Derived.Test.YtjnfkifdgojdaaaGreatV33
namespace Go.Proofs.YtjnfkifdgojdaaaGreat.V
open Go Go.Sort Go.Shelf
set_option linter.unusedVariables false
instance : Inhabited Range := ⟨⟨0, 0⟩⟩
def cells_R (r : Range) : List D := [di r.From, di r.To]
def vals_R (r : Range) : List Value := [.int .i64 r.From, .int .i64 r.To]
theorem plain_R : PlainEnc cells_R vals_R 2 := by
 refine ⟨fun _ => rfl, fun _ => rfl, fun t v hv => ?_, fun w F t j y u hy hu => ?_, fun w F t j y u hy hu => ?_⟩
 ·simp [vals_R] at hv
  rcases hv with rfl | rfl <;> rfl
 ·match j, hy, hu with
  | 0, hy, hu => simp [cells_R, vals_R] at hy hu; subst hy; subst hu; exact .int _ _
  | 1, hy, hu => simp [cells_R, vals_R] at hy hu; subst hy; subst hu; exact .int _ _
  | j + 2, hy, _ => simp [cells_R] at hy
 ·match j, hy with
  | 0, hy => simp [cells_R] at hy; subst hy; cases hu; rfl
  | 1, hy => simp [cells_R] at hy; subst hy; cases hu; rfl
  | j + 2, hy => simp [cells_R] at hy
def cmpI (a b : Int) : Int := if a < b then -1 else if a > b then 1 else 0
def cmpR (a b : Range) : Int := cmpI a.From b.From
theorem cmpI_run (a b : Int) : Z.cmp_Compare_int a b (cmpI a b) := by
 have n1 := Z.cmp_isNaN_int_r1 (x := a) rfl
 have n2 := Z.cmp_isNaN_int_r1 (x := b) rfl
 unfold cmpI
 by_cases h1 : a < b
 ·rw [if_pos h1]; exact Z.cmp_Compare_int_r3 n1 n2 h1
 ·rw [if_neg h1]
  by_cases h2 : a > b
  ·rw [if_pos h2]; exact Z.cmp_Compare_int_r4 n1 n2 h1 h2
  ·rw [if_neg h2]; exact Z.cmp_Compare_int_r5 n1 n2 h1 h2
theorem cmpR_run (a b : Range) : Z.R 79 [.d (eAgg cells_R a), .d (eAgg cells_R b)] [] = some (.ret (.d (.int .i64 (cmpR a b))), []) := Z.rx_Merge_f1_r0 (cmpI_run _ _)
theorem lt_R (a b : Range) : ltOf cmpR a b = decide (a.From < b.From) := by
 unfold ltOf cmpR cmpI
 by_cases h1 : a.From < b.From
 ·simp [h1]
 ·by_cases h2 : a.From > b.From <;> simp [h1, h2]
theorem swo_R : SWO (ltOf cmpR) where
 irrefl x := by rw [lt_R]; simp
 trans x y z h1 h2 := by rw [lt_R] at *; simp at *; omega
 ntrans x y z h1 h2 := by rw [lt_R] at *; simp at *; omega
def unR : List AV → Option (List Range)
 | [] => some []
 | .d (.agg [.int .i64 a, .int .i64 b]) :: r => match unR r with
  | some l => some (⟨a, b⟩ :: l)
  | none => none
 | _ => none
theorem unR_some : ∀ {xs : List AV} {l : List Range}, unR xs = some l → xs = xsOf cells_R l
 | [], l, h => by simp [unR] at h; subst h; rfl
 | x :: r, l, h => by
  unfold unR at h
  split at h
  ·cases ‹_ = []›
  ·rename_i a b r' heq
   cases heq
   split at h
   ·rename_i l' hl'
    cases h
    rw [unR_some hl']
    rfl
   ·cases h
  ·cases h
theorem unR_xs : ∀ l : List Range, unR (xsOf cells_R l) = some l
 | [] => rfl
 | x :: l => by
  show (match unR (xsOf cells_R l) with | some l => some ((⟨x.From, x.To⟩ : Range) :: l) | none => none) = _
  rw [unR_xs l]
def XX : Calling := fun f args sto => match f with
 | 12 => (match args, sto with
  | [], [] => some (.ret (.d (.bool true)), [])
  | _, _ => none)
 | 78 => (match args, sto with
  | [.row 0 2 0 n _, .d (.func (.func 79) [] [])], [.row 2 xs false] => (match unR xs with
   | some l => if n = l.length ∧ 0 < n ∧ n < 4611686018427387904 then some (.ret (.tup []), [.row 2 (xsOf cells_R (sortT cmpR l)) false]) else none
   | none => none)
  | _, _ => none)
 | 48 => xClone 2 args sto
 | _ => none
theorem fol : Tryz.prog.follows .mixedOrders = true := by kernel_rfl
theorem XX_sound : Sound Tryz.prog XX := by
 intro f args sto out sto' h w F β us hS hus
 unfold XX at h
 split at h
 ·split at h
  ·cases h
   exact callF_sound mixed tab_ok (XP_sound 80 80) 80 12 [] [] _ _ heads_run w F β us hS hus
  ·cases h
 ·split at h
  ·rename_i n t xs
   split at h
   ·rename_i l hl
    split at h
    ·rename_i hc
     cases h
     obtain ⟨rfl, h1, h2⟩ := hc
     have hxs := unR_some hl
     subst hxs
     exact sort_sound (P := Tryz.prog) sortRg (fun w => Tryz.isAgg76 w) (fun w => Tryz.sizeOf76 w) plain_R (by decide) swo_R (enters_of Tryz.func79 (by kernel_rfl) rfl)
      (@cmp_lays ⟨⟨True, []⟩⟩ _ _ _ _ _ _ _ trivial (fun _ h => by cases h) (@lim_sound ⟨⟨True, []⟩⟩ _ fol _ tab_ok _ (@noX_sound ⟨⟨True, []⟩⟩ _)) plain_R _ ⟨_, Tryz.func79, rfl⟩ _ cmpR_run) (fn := Tryz.f78) Tryz.func78 (by kernel_rfl) rfl h1 h2 hS hus
    ·cases h
   ·cases h
  ·cases h
 ·exact XCl_sound 48 _ _ _ _ (by unfold XCl; rw [if_pos rfl]; exact h) w F β us hS hus
 ·cases h
noncomputable abbrev R : Calling := lim tab XX
theorem R_fn {f : FuncId} {fn : VFn} (hV : tab f = some fn) {args : List AV} {sto : List Obj} {r : Out × List Obj} (hX : XX f args sto = none) (h : ∃ n0, ∀ n, n0 ≤ n → evalFn R (byrefOf tab) n fn args sto = some r) : R f args sto = some r := lim_fn hV hX h
theorem R_sound : Sound Tryz.prog R := lim_sound fol tab_ok XX_sound
theorem R_heads : R 12 [] [] = some (.ret (.d (.bool true)), []) := lim_x rfl
theorem R_sort {l : List Range} {t : Bool} (h1 : 0 < l.length) (h2 : l.length < 4611686018427387904) : R 78 [.row 0 2 0 l.length t, .d (.func (.func 79) [] [])] [.row 2 (xsOf cells_R l) false] = some (.ret (.tup []), [.row 2 (xsOf cells_R (sortT cmpR l)) false]) := by
 refine lim_x ?_
 show (match unR (xsOf cells_R l) with
   | some l' => if l.length = l'.length ∧ 0 < l.length ∧ l.length < 4611686018427387904 then some (Out.ret (.tup []), [Obj.row 2 (xsOf cells_R (sortT cmpR l')) false]) else none
   | none => none) = _
 rw [unR_xs]
 dsimp only
 rw [if_pos ⟨rfl, h1, h2⟩]
theorem tab_4 : tab 4 = some f4 := rfl
theorem tab_5 : tab 5 = some f5 := rfl
theorem tab_7 : tab 7 = some f7 := rfl
theorem tab_9 : tab 9 = some f9 := rfl
theorem tab_10 : tab 10 = some f10 := rfl
theorem tab_11 : tab 11 = some f11 := rfl
theorem tab_12 : tab 12 = some f12 := rfl
theorem tab_13 : tab 13 = some f13 := rfl
theorem tab_14 : tab 14 = some f14 := rfl
theorem tab_15 : tab 15 = some f15 := rfl
theorem tab_16 : tab 16 = some f16 := rfl
theorem tab_17 : tab 17 = some f17 := rfl
theorem tab_18 : tab 18 = some f18 := rfl
theorem tab_19 : tab 19 = some f19 := rfl
theorem tab_20 : tab 20 = some f20 := rfl
theorem tab_21 : tab 21 = some f21 := rfl
theorem tab_26 : tab 26 = some f26 := rfl
theorem tab_28 : tab 28 = some f28 := rfl
theorem tab_29 : tab 29 = some f29 := rfl
theorem tab_30 : tab 30 = some f30 := rfl
theorem tab_31 : tab 31 = some f31 := rfl
theorem tab_32 : tab 32 = some f32 := rfl
theorem tab_33 : tab 33 = some f33 := rfl
theorem tab_34 : tab 34 = some f34 := rfl
theorem tab_35 : tab 35 = some f35 := rfl
theorem tab_36 : tab 36 = some f36 := rfl
theorem tab_37 : tab 37 = some f37 := rfl
theorem tab_38 : tab 38 = some f38 := rfl
theorem tab_41 : tab 41 = some f41 := rfl
theorem tab_42 : tab 42 = some f42 := rfl
theorem tab_43 : tab 43 = some f43 := rfl
theorem tab_44 : tab 44 = some f44 := rfl
theorem tab_45 : tab 45 = some f45 := rfl
theorem tab_46 : tab 46 = some f46 := rfl
theorem tab_47 : tab 47 = some f47 := rfl
theorem tab_48 : tab 48 = some f48 := rfl
theorem tab_49 : tab 49 = some f49 := rfl
theorem tab_50 : tab 50 = some f50 := rfl
theorem tab_51 : tab 51 = some f51 := rfl
theorem tab_52 : tab 52 = some f52 := rfl
theorem tab_53 : tab 53 = some f53 := rfl
theorem tab_54 : tab 54 = some f54 := rfl
theorem tab_55 : tab 55 = some f55 := rfl
theorem tab_56 : tab 56 = some f56 := rfl
theorem tab_60 : tab 60 = some f60 := rfl
theorem tab_61 : tab 61 = some f61 := rfl
theorem tab_62 : tab 62 = some f62 := rfl
theorem tab_63 : tab 63 = some f63 := rfl
theorem tab_64 : tab 64 = some f64 := rfl
theorem tab_65 : tab 65 = some f65 := rfl
theorem tab_66 : tab 66 = some f66 := rfl
theorem tab_67 : tab 67 = some f67 := rfl
theorem tab_68 : tab 68 = some f68 := rfl
theorem tab_69 : tab 69 = some f69 := rfl
theorem tab_70 : tab 70 = some f70 := rfl
theorem tab_71 : tab 71 = some f71 := rfl
theorem tab_72 : tab 72 = some f72 := rfl
theorem tab_73 : tab 73 = some f73 := rfl
theorem tab_74 : tab 74 = some f74 := rfl
theorem tab_75 : tab 75 = some f75 := rfl
theorem tab_76 : tab 76 = some f76 := rfl
theorem tab_77 : tab 77 = some f77 := rfl
theorem tab_78 : tab 78 = some f78 := rfl
theorem tab_79 : tab 79 = some f79 := rfl
theorem tab_80 : tab 80 = some f80 := rfl
theorem tab_81 : tab 81 = some f81 := rfl
theorem tab_82 : tab 82 = some f82 := rfl
theorem tab_83 : tab 83 = some f83 := rfl
theorem tab_84 : tab 84 = some f84 := rfl
theorem tab_85 : tab 85 = some f85 := rfl
theorem tab_86 : tab 86 = some f86 := rfl
theorem tab_87 : tab 87 = some f87 := rfl
theorem tab_88 : tab 88 = some f88 := rfl
theorem tab_89 : tab 89 = some f89 := rfl
theorem tab_90 : tab 90 = some f90 := rfl
theorem tab_91 : tab 91 = some f91 := rfl
theorem tab_92 : tab 92 = some f92 := rfl
theorem tab_93 : tab 93 = some f93 := rfl
theorem tab_94 : tab 94 = some f94 := rfl
theorem tab_95 : tab 95 = some f95 := rfl
theorem tab_96 : tab 96 = some f96 := rfl
theorem tab_97 : tab 97 = some f97 := rfl
theorem tab_98 : tab 98 = some f98 := rfl
theorem tab_99 : tab 99 = some f99 := rfl
theorem tab_100 : tab 100 = some f100 := rfl
theorem tab_101 : tab 101 = some f101 := rfl
theorem tab_102 : tab 102 = some f102 := rfl
theorem tab_103 : tab 103 = some f103 := rfl
theorem tab_104 : tab 104 = some f104 := rfl
theorem tab_106 : tab 106 = some f106 := rfl
theorem tab_107 : tab 107 = some f107 := rfl
theorem tab_108 : tab 108 = some f108 := rfl
theorem tab_109 : tab 109 = some f109 := rfl
theorem tab_110 : tab 110 = some f110 := rfl
theorem tab_111 : tab 111 = some f111 := rfl
theorem tab_112 : tab 112 = some f112 := rfl
theorem tab_113 : tab 113 = some f113 := rfl
theorem tab_114 : tab 114 = some f114 := rfl
theorem tab_115 : tab 115 = some f115 := rfl
theorem tab_116 : tab 116 = some f116 := rfl
theorem tab_117 : tab 117 = some f117 := rfl
theorem tab_118 : tab 118 = some f118 := rfl
theorem tab_119 : tab 119 = some f119 := rfl
theorem tab_120 : tab 120 = some f120 := rfl
end Go.Proofs.YtjnfkifdgojdaaaGreat.V

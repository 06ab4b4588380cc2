/- Rules: what each path of each function does (printed). -/
import Derived.Test.YtjnfkifdgojdaaaGreatVE
import Derived.Test.YtjnfkifdgojdaaaGreatVT
namespace Go.Proofs.YtjnfkifdgojdaaaGreat.V.Z
open Go Go.Proofs.YtjnfkifdgojdaaaGreat.V
set_option linter.unusedSimpArgs false
set_option linter.unusedSectionVars false
noncomputable abbrev R : Calling := lim tab noX
theorem R_fn {f : FuncId} {fn : VFn} (hV : tab f = some fn) {args : List AV} {sto : List Obj} {r : Out × List Obj} (hX : noX f args sto = none) (h : ∃ n0, ∀ n, n0 ≤ n → evalFn R (byrefOf tab) n fn args sto = some r) : R f args sto = some r := lim_fn hV hX h
theorem tab_79 : tab 79 = some f79 := rfl
theorem tab_80 : tab 80 = some f80 := rfl
theorem tab_86 : tab 86 = some f86 := rfl
set_option linter.unusedVariables false
set_option maxRecDepth 10000
set_option maxHeartbeats 1000000
def rx_Merge_f1 (a : Range) (b : Range) (q0 : Int) : Prop :=
 R 79 [(.d (e_Range a)), (.d (e_Range b))] (dens []) = some (.ret (ai q0), dens [])
def cmp_Compare_int (x : Int) (y : Int) (q0 : Int) : Prop :=
 R 80 [(ai x), (ai y)] (dens []) = some (.ret (ai q0), dens [])
def cmp_isNaN_int (x : Int) (q0 : Bool) : Prop :=
 R 86 [(ai x)] (dens []) = some (.ret (ab q0), dens [])
theorem cmp_isNaN_int_r0 {x : Int} (h0 : x ≠ x) : cmp_isNaN_int x true := by
 exact R_fn tab_86 rfl ⟨0, fun n hn => xFn_run (p := some _) [.b true] (by kernel_rfl) h0⟩
theorem cmp_isNaN_int_r1 {x : Int} (h0 : x = x) : cmp_isNaN_int x false := by
 exact R_fn tab_86 rfl ⟨0, fun n hn => xFn_run (p := some _) [.b false] (by kernel_rfl) (Classical.not_not.2 h0)⟩
theorem cmp_Compare_int_r0 {x y : Int} (h0 : cmp_isNaN_int x true) (h1 : cmp_isNaN_int y true) : cmp_Compare_int x y 0 := by
 exact R_fn tab_80 rfl ⟨0, fun n hn => xFn_run (p := some _) [.out (.ret (ab true)) [], .out (.ret (ab true)) []] (by kernel_rfl) (And.intro h0 h1)⟩
theorem cmp_Compare_int_r1 {x y : Int} (h0 : cmp_isNaN_int x true) (h1 : cmp_isNaN_int y false) : cmp_Compare_int x y (-1) := by
 exact R_fn tab_80 rfl ⟨0, fun n hn => xFn_run (p := some _) [.out (.ret (ab true)) [], .out (.ret (ab false)) []] (by kernel_rfl) (And.intro h0 h1)⟩
theorem cmp_Compare_int_r2 {x y : Int} (h0 : cmp_isNaN_int x false) (h1 : cmp_isNaN_int y true) : cmp_Compare_int x y 1 := by
 exact R_fn tab_80 rfl ⟨0, fun n hn => xFn_run (p := some _) [.out (.ret (ab false)) [], .out (.ret (ab true)) []] (by kernel_rfl) (And.intro h0 h1)⟩
theorem cmp_Compare_int_r3 {x y : Int} (h0 : cmp_isNaN_int x false) (h1 : cmp_isNaN_int y false) (h2 : x < y) : cmp_Compare_int x y (-1) := by
 exact R_fn tab_80 rfl ⟨0, fun n hn => xFn_run (p := some _) [.out (.ret (ab false)) [], .out (.ret (ab false)) [], .b true] (by kernel_rfl) (And.intro h0 (And.intro h1 h2))⟩
theorem cmp_Compare_int_r4 {x y : Int} (h0 : cmp_isNaN_int x false) (h1 : cmp_isNaN_int y false) (h2 : ¬ x < y) (h3 : x > y) : cmp_Compare_int x y 1 := by
 exact R_fn tab_80 rfl ⟨0, fun n hn => xFn_run (p := some _) [.out (.ret (ab false)) [], .out (.ret (ab false)) [], .b false, .b true] (by kernel_rfl) (And.intro h0 (And.intro h1 (And.intro h2 h3)))⟩
theorem cmp_Compare_int_r5 {x y : Int} (h0 : cmp_isNaN_int x false) (h1 : cmp_isNaN_int y false) (h2 : ¬ x < y) (h3 : ¬ x > y) : cmp_Compare_int x y 0 := by
 exact R_fn tab_80 rfl ⟨0, fun n hn => xFn_run (p := some _) [.out (.ret (ab false)) [], .out (.ret (ab false)) [], .b false, .b false] (by kernel_rfl) (And.intro h0 (And.intro h1 (And.intro h2 h3)))⟩
theorem rx_Merge_f1_r0 {a b : Range} {r0 : Int} (h0 : cmp_Compare_int a.From b.From r0) : rx_Merge_f1 a b r0 := by
 exact R_fn tab_79 rfl ⟨0, fun n hn => xFn_run (p := some _) [.out (.ret (ai r0)) []] (by kernel_rfl) h0⟩
end Go.Proofs.YtjnfkifdgojdaaaGreat.V.Z

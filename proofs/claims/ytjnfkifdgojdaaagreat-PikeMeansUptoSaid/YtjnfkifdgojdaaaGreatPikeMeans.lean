/- PikeMeans returns true, and never panics, where what is handed in is of bulk at most 1048576. -/
import Derived.Test.YtjnfkifdgojdaaaGreatRows
import Derived.Test.YtjnfkifdgojdaaaGreatMC
import Derived.Test.YtjnfkifdgojdaaaGreatQ7
import Derived.Test.YtjnfkifdgojdaaaGreatVY
import Derived.WalkKit
import Derived.ProofKit
import Derived.OpenShut
import Derived.ShutString
import Derived.ChangeOld
import Derived.Below
import Derived.SizedLaws
import Derived.JoinedCond
import Derived.Deep.CondSized
namespace Go.Proofs.YtjnfkifdgojdaaaGreat.pikeMeans
open Go Go.ChangeShapes Go.WideShapes Go.ChangeAt Go.RowKit
open Go.ChangeMaps (open_string shut_string)
open Go.Proofs.YtjnfkifdgojdaaaGreat.V
set_option linter.unusedVariables false
theorem own : ownKnob Tryz.prog.godebug = none := by kernel_rfl
theorem laidOut : laidOutB Tryz.prog = true := by kernel_rfl
def T : List TypeId := [41, 37, 38, 76, 3, 4, 39, 9]
theorem typesOk : typesB Tryz.prog T = true := by kernel_rfl
set_option maxRecDepth 100000 in
theorem lifted (os : Os) (started : os.Started) (H : Type) (enc : TypeId × Value → H) (F : Stop.Interp) :
    ReturnsInHanded {} Tryz.checked os 4 .any ((Rows.OpenSpec.upto Rows.pikeMeansSpec).pre6 enc Tryz.prog Tryz.f4 Rows.pikeMeansUptoRow.domain false) (((Rows.OpenSpec.upto Rows.pikeMeansSpec).at F).post enc Tryz.prog Tryz.f4 false true false false) := by
  refine returnsInHanded_of_cond_sized (C := Tryz.checked) (s := Rows.OpenSpec.upto Rows.pikeMeansSpec) (k := Rows.uptoSmall) rfl own started (by kernel_rfl) Tryz.func4
    (OpenSpec.witness (enc := enc) (C := Tryz.checked) (s := Rows.OpenSpec.upto Rows.pikeMeansSpec) (k := Rows.uptoSmall) rfl false ⟨#[], #[.agg #[.int .i64 0, .slice none 0 0, .int .i64 0, .int .i64 0, .bool false, .slice none 0 0], .string ByteArray.empty], []⟩ 8 (by kernel_rfl) (by kernel_rfl) (by kernel_rfl)
      (x := ([.agg [.lit (.int .i64 0), .nil, .lit (.int .i64 0), .lit (.int .i64 0), .lit (.bool false), .nil], .lit (.string [])], [], [])) (by kernel_rfl) rfl (by kernel_rfl)) ?_
  intro W base args ds gs before hval0 hW hcnd hk hsz0 _
  have hsz : (DataW.weightsEach Tryz.prog (Tryz.f4.params.toList ++ Rows.pikeMeansSpec.plain.varTypes Tryz.prog) (ds ++ gs)).all (· ≤ reachBytes) = true := hsz0
  have hval : ∀ (j : Nat) t v, Tryz.f4.params[j]? = some t → args[j]? = some v → Value.okWide Tryz.prog W .any base t v := hval0
  have hW' := hW
  obtain ⟨p, q, hA0, hV, rfl, hfz, hnd⟩ := hW
  have hA : DataW.TrodAll enc Tryz.prog W 0 (fun _ => true) true Tryz.f4.params.toList args.toList ds p := hA0
  rw [Tryz.params4] at hA hval hsz
  obtain ⟨v0, vs0, d0, ds0, p0, q0, hargs, rfl, rfl, g0, r0⟩ := trodAll_cons hA
  obtain ⟨v1, vs1, d1, ds1, p1, q1, rfl, rfl, rfl, g1, r1⟩ := trodAll_cons r0
  obtain ⟨rfl, rfl, rfl⟩ := trodAll_nil r1
  obtain rfl : args = #[v0, v1] := by cases args; simp_all
  obtain ⟨rfl, rfl⟩ := trodVars_none hV
  have lt0 : ∀ x ∈ p0, x.block < W.heap.size := by obtain ⟨m, hm⟩ := g0; exact DataW.trod_lt m _ _ _ hm
  have lt1 : ∀ x ∈ p1, x.block < W.heap.size := by obtain ⟨m, hm⟩ := g1; exact DataW.trod_lt m _ _ _ hm
  obtain ⟨x0, n0, s0, y0⟩ := argD typesOk (t := 41) (by decide) (hval 0 41 v0 rfl rfl) g0 (lights hsz 0 41 d0 rfl rfl)
  obtain ⟨x1, n1, s1, y1⟩ := argD typesOk (t := 9) (by decide) (hval 1 9 v1 rfl rfl) g1 (lights hsz 1 9 d1 rfl rfl)
  obtain ⟨c0, h0, k0⟩ := arg_agg Tryz.underlying41 rfl y0
  obtain ⟨a0, e0, w0⟩ := dec_Rx k0
  subst h0
  subst e0
  obtain ⟨a1, e1, w1⟩ := (dec_str Tryz.underlying9 (arg_one Tryz.underlying9 rfl y1))
  simp only [List.cons.injEq, and_true] at e1
  subst e1
  have hbulk : Rows.uptoBulkAll [d0, d1] ≤ 1048576 := of_decide_eq_true hk
  clear hA0 hval0 hsz0 hsz
  refine (law_calls R_sound (show R 4 [_, _] [] = some (.ret (.d (.bool true)), []) from means_true w0 (Nat.le_trans (str_bulk s1 g1 Tryz.underlying9) (bulk_mem hbulk (by simp)))) (F := Old W) (fun b h => h) (argsD_cons s0 (argsD_one s1)) ⟨Tryz.f4, Tryz.func4, rfl⟩).mono fun e W' ⟨he, bel⟩ => ?_
  subst he
  exact ⟨_, rfl, _, _, _, [], _, [], hW', trodAll_mk1 (shut_bool Tryz.underlying4 _), (trodAll_cons_mk (Below.trod laidOut (by kernel_rfl) (of_decide_eq_true (by kernel_rfl)) g0 bel lt0) (trodAll_cons_mk (Below.trod laidOut (by kernel_rfl) (of_decide_eq_true (by kernel_rfl)) g1 bel lt1) trodAll_mk0)), rfl, bel.frame _, fun h => by cases h⟩
theorem over : Rows.pikeMeansUptoRow.holds Tryz.pinned (Rows.OpenSpec.upto Rows.pikeMeansSpec) :=
  OpenClaim.holds_of_cond 4 Tryz.f4 rfl rfl rfl rfl rfl rfl rfl ⟨rfl, rfl, rfl, rfl, rfl⟩ rfl rfl rfl rfl rfl (by kernel_rfl) Tryz.func4 (by kernel_rfl)
    (of_decide_eq_true (by kernel_rfl)) (by unfold Func.isWrapper; first | (rw [if_pos (by decide +kernel)]; kernel_rfl) | (rw [if_neg (by decide +kernel)]; exact ⟨rfl, rfl⟩))
    (fun os started H enc _ F0 => lifted os started H enc F0)
theorem proved : Rows.PikeMeansUptoSaid := over
end Go.Proofs.YtjnfkifdgojdaaaGreat.pikeMeans


/- RxGroups returns true, and never panics, where what is handed in is of bulk at most 1048576. -/
import Derived.Test.YtpghocjfmddpkaaRows
import Derived.Test.YtpghocjfmddpkaaKB
import Derived.Test.YtpghocjfmddpkaaMB
import Derived.Test.YtpghocjfmddpkaaVY
import Derived.WalkKit
import Derived.ProofKit
import Derived.OpenShut
import Derived.ShutString
import Derived.ChangeOld
import Derived.Below
import Derived.SizedLaws
import Derived.JoinedCond
import Derived.Deep.CondSized
namespace Go.Proofs.Ytpghocjfmddpkaa.rxGroups
open Go Go.ChangeShapes Go.WideShapes Go.ChangeAt Go.RowKit
open Go.ChangeMaps (open_string shut_string)
open Go.Proofs.Ytpghocjfmddpkaa.V
set_option linter.unusedVariables false
theorem own : ownKnob Try.prog.godebug = none := by kernel_rfl
theorem laidOut : laidOutB Try.prog = true := by kernel_rfl
def T : List TypeId := [9]
theorem typesOk : typesB Try.prog T = true := by kernel_rfl
set_option maxRecDepth 100000 in
theorem lifted (os : Os) (started : os.Started) (H : Type) (enc : TypeId × Value → H) (F : Stop.Interp) :
    ReturnsInHanded {} Try.checked os 5 .any ((Rows.OpenSpec.upto Rows.rxGroupsSpec).pre6 enc Try.prog Try.f5 Rows.rxGroupsUptoRow.domain false) (((Rows.OpenSpec.upto Rows.rxGroupsSpec).at F).post enc Try.prog Try.f5 false true false false) := by
  refine returnsInHanded_of_cond_sized (C := Try.checked) (s := Rows.OpenSpec.upto Rows.rxGroupsSpec) (k := Rows.uptoSmall) rfl own started (by kernel_rfl) Try.func5
    (OpenSpec.witness (enc := enc) (C := Try.checked) (s := Rows.OpenSpec.upto Rows.rxGroupsSpec) (k := Rows.uptoSmall) rfl false ⟨#[], #[.string ByteArray.empty, .string ByteArray.empty], []⟩ 8 (by kernel_rfl) (by kernel_rfl) (by kernel_rfl)
      (x := ([.lit (.string []), .lit (.string [])], [], [])) (by kernel_rfl) rfl (by kernel_rfl)) ?_
  intro W base args ds gs before hval0 hW hcnd hk hsz0 _
  have hsz : (DataW.weightsEach Try.prog (Try.f5.params.toList ++ Rows.rxGroupsSpec.plain.varTypes Try.prog) (ds ++ gs)).all (· ≤ reachBytes) = true := hsz0
  have hval : ∀ (j : Nat) t v, Try.f5.params[j]? = some t → args[j]? = some v → Value.okWide Try.prog W .any base t v := hval0
  have hW' := hW
  obtain ⟨p, q, hA0, hV, rfl, hfz, hnd⟩ := hW
  have hA : DataW.TrodAll enc Try.prog W 0 (fun _ => true) true Try.f5.params.toList args.toList ds p := hA0
  rw [Try.params5] at hA hval hsz
  obtain ⟨v0, vs0, d0, ds0, p0, q0, hargs, rfl, rfl, g0, r0⟩ := trodAll_cons hA
  obtain ⟨v1, vs1, d1, ds1, p1, q1, rfl, rfl, rfl, g1, r1⟩ := trodAll_cons r0
  obtain ⟨rfl, rfl, rfl⟩ := trodAll_nil r1
  obtain rfl : args = #[v0, v1] := by cases args; simp_all
  obtain ⟨rfl, rfl⟩ := trodVars_none hV
  have lt0 : ∀ x ∈ p0, x.block < W.heap.size := by obtain ⟨m, hm⟩ := g0; exact DataW.trod_lt m _ _ _ hm
  have lt1 : ∀ x ∈ p1, x.block < W.heap.size := by obtain ⟨m, hm⟩ := g1; exact DataW.trod_lt m _ _ _ hm
  obtain ⟨x0, n0, s0, y0⟩ := argD typesOk (t := 9) (by decide) (hval 0 9 v0 rfl rfl) g0 (lights hsz 0 9 d0 rfl rfl)
  obtain ⟨x1, n1, s1, y1⟩ := argD typesOk (t := 9) (by decide) (hval 1 9 v1 rfl rfl) g1 (lights hsz 1 9 d1 rfl rfl)
  obtain ⟨a0, e0, w0⟩ := (dec_str Try.underlying9 (arg_one Try.underlying9 rfl y0))
  simp only [List.cons.injEq, and_true] at e0
  subst e0
  obtain ⟨a1, e1, w1⟩ := (dec_str Try.underlying9 (arg_one Try.underlying9 rfl y1))
  simp only [List.cons.injEq, and_true] at e1
  subst e1
  have hbulk : Rows.uptoBulkAll [d0, d1] ≤ 1048576 := of_decide_eq_true hk
  clear hA0 hval0 hsz0 hsz
  refine (law_calls L.R_sound (show L.R 5 [_, _] [] = some (.ret (.d (.bool true)), []) from groups_true (Nat.le_trans (str_bulk s0 g0 Try.underlying9) (bulk_mem hbulk (by simp))) (Nat.le_trans (str_bulk s1 g1 Try.underlying9) (bulk_mem hbulk (by simp)))) (F := Old W) (fun b h => h) (argsD_cons s0 (argsD_one s1)) ⟨Try.f5, Try.func5, rfl⟩).mono fun e W' ⟨he, bel⟩ => ?_
  subst he
  exact ⟨_, rfl, _, _, _, [], _, [], hW', trodAll_mk1 (shut_bool Try.underlying4 _), (trodAll_cons_mk (Below.trod laidOut (by kernel_rfl) (of_decide_eq_true (by kernel_rfl)) g0 bel lt0) (trodAll_cons_mk (Below.trod laidOut (by kernel_rfl) (of_decide_eq_true (by kernel_rfl)) g1 bel lt1) trodAll_mk0)), rfl, bel.frame _, fun h => by cases h⟩
theorem over : Rows.rxGroupsUptoRow.holds Try.pinned (Rows.OpenSpec.upto Rows.rxGroupsSpec) :=
  OpenClaim.holds_of_cond 5 Try.f5 rfl rfl rfl rfl rfl rfl rfl ⟨rfl, rfl, rfl, rfl, rfl⟩ rfl rfl rfl rfl rfl (by kernel_rfl) Try.func5 (by kernel_rfl)
    (of_decide_eq_true (by kernel_rfl)) (by unfold Func.isWrapper; first | (rw [if_pos (by decide +kernel)]; kernel_rfl) | (rw [if_neg (by decide +kernel)]; exact ⟨rfl, rfl⟩))
    (fun os started H enc _ F0 => lifted os started H enc F0)
theorem proved : Rows.RxGroupsUptoSaid := over
end Go.Proofs.Ytpghocjfmddpkaa.rxGroups


/- heads: what must come at any rate, carried out; math/bits.Add64, which has no text. -/
import Derived.Test.YtlijicnknhopkaaDoorVT
import Derived.Test.YtlijicnknhopkaaDoorV36
namespace Go.Proofs.YtlijicnknhopkaaDoor.V
open Go
set_option linter.unusedVariables false
set_option linter.unnecessarySimpa false
set_option linter.unusedSimpArgs false
set_option linter.unusedSectionVars false
def addU : List AV → List Obj → Option (Out × List Obj)
  | [.d (.int .u64 x), .d (.int .u64 y), .d (.int .u64 c)], [] => if 0 ≤ x ∧ 0 ≤ y ∧ c = 0 ∧ x + y < 18446744073709551616 then some (.ret (.tup [.d (.int .u64 (x + y)), .d (.int .u64 0)]), []) else none
  | _, _ => none
def XB : Calling := fun f args sto => if f = 64 then addU args sto else none
theorem XB_sound : Sound Tryd.prog XB := by
  intro f args sto out sto' h w F β us hS hus
  unfold XB at h
  split at h
  · rename_i e
    subst e
    unfold addU at h
    split at h
    · rename_i x y c
      split at h
      · rename_i hc
        cases h
        have hsz : us.size = 3 := hus.1
        have e0 := hus.2 0 _ us[0] rfl (Array.getElem?_eq_getElem (by omega))
        have e1 := hus.2 1 _ us[1] rfl (Array.getElem?_eq_getElem (by omega))
        have e2 := hus.2 2 _ us[2] rfl (Array.getElem?_eq_getElem (by omega))
        have e : us = #[.int .u64 x, .int .u64 y, .int .u64 c] := by
          apply Array.ext
          · simp [hsz]
          · intro i h1 h2
            match i, h1, h2 with
            | 0, _, _ => simpa using inv_int e0
            | 1, _, _ => simpa using inv_int e1
            | 2, _, _ => simpa using inv_int e2
            | i + 3, h1, _ => omega
        subst e
        refine .inr ⟨.tuple #[.int .u64 (x + y), .int .u64 0], w, ext_run (fn := Tryd.f64) Tryd.func64 (by kernel_rfl) (by kernel_rfl) (by kernel_rfl) (e := (Go.Extern.MathBitsCarry.rows[0]'(by decide)).2) (by kernel_rfl) ?_, Res.same hS ?_⟩
        · obtain ⟨h1, h2, rfl, h3⟩ := hc
          have m : (x.toNat + y.toNat + 0) % Extern.MathBitsCarry.m64 = x.toNat + y.toNat := by
            unfold Extern.MathBitsCarry.m64
            rw [Nat.mod_eq_of_lt (by omega)]; rfl
          have d : (x.toNat + y.toNat + 0) / Extern.MathBitsCarry.m64 = 0 := by
            unfold Extern.MathBitsCarry.m64
            exact Nat.div_eq_of_lt (by omega)
          have e : ((x.toNat + y.toNat : Nat) : Int) = x + y := by omega
          have r : ((Go.Extern.MathBitsCarry.rows[0]'(by decide)).2 #[.int .u64 x, .int .u64 y, .int .u64 0]).run Tryd.prog w = .ok (.tuple #[.int .u64 (Int.ofNat ((x.toNat + y.toNat + 0) % Extern.MathBitsCarry.m64)), .int .u64 (Int.ofNat ((x.toNat + y.toNat + 0) / Extern.MathBitsCarry.m64))]) w := rfl
          rw [r, m, d]
          show Result.ok (Value.tuple #[.int .u64 ((x.toNat + y.toNat : Nat) : Int), .int .u64 0]) w = _
          rw [e]
        · refine .tup _ _ rfl fun j y u hy hu => ?_
          match j with
          | 0 => simp at hy hu; subst hy; subst hu; exact .d _ _ (.int _ _)
          | 1 => simp at hy hu; subst hy; subst hu; exact .d _ _ (.int _ _)
          | j + 2 => simp at hy
      · cases h
    · cases h
  · cases h
theorem heads_run : callF tab XB 60 10 [] [] = some (.ret (.d (.bool true)), []) := by kernel_rfl
end Go.Proofs.YtlijicnknhopkaaDoor.V

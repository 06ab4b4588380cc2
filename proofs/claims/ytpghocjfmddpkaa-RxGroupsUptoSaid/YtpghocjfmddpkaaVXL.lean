/- What the functions do, without fuel, rx.Parse among them: by what it defers. -/
import Derived.Test.YtpghocjfmddpkaaVX
namespace Go.Proofs.Ytpghocjfmddpkaa.V
open Go
set_option linter.unusedVariables false
/-- What a function that defers does, without fuel. -/
noncomputable def limD (args : List AV) (sto : List Obj) : Option (Out × List Obj) :=
  open Classical in if h : ∃ r, ∃ n0, ∀ n, n0 ≤ n → evalD R byT n d13 args sto = some r then some (Classical.choose h) else none
theorem limD_of {args : List AV} {sto : List Obj} {r : Out × List Obj} (h : ∃ n0, ∀ n, n0 ≤ n → evalD R byT n d13 args sto = some r) : limD args sto = some r := by
  have h' : ∃ r, ∃ n0, ∀ n, n0 ≤ n → evalD R byT n d13 args sto = some r := ⟨r, h⟩
  unfold limD
  rw [dif_pos h']
  obtain ⟨n0, h0⟩ := h
  obtain ⟨n1, h1⟩ := Classical.choose_spec h'
  have e0 := h0 (max n0 n1) (by omega)
  have e1 := h1 (max n0 n1) (by omega)
  rw [e0] at e1
  exact e1.symm
noncomputable def XL : Calling := fun f args sto => if f = 13 then limD args sto else XX f args sto
theorem XL_sound : Sound Try.prog XL := by
  intro f args sto out sto' h w F β us hS hus
  unfold XL at h
  split at h
  · rename_i e
    subst e
    unfold limD at h
    split at h
    · rename_i hx
      obtain ⟨n1, h1⟩ := Classical.choose_spec hx
      injection h with h
      rw [h] at h1
      exact defAt_sound R_sound mixed d13_ok (h1 n1 (Nat.le_refl _)) hS hus
    · cases h
  · exact XX_sound f args sto out sto' h w F β us hS hus
namespace L
noncomputable abbrev R : Calling := lim tab XL
theorem R_fn {f : FuncId} {fn : VFn} (hV : tab f = some fn) {args : List AV} {sto : List Obj} {r : Out × List Obj} (hX : XL f args sto = none) (h : ∃ n0, ∀ n, n0 ≤ n → evalFn R (byrefOf tab) n fn args sto = some r) : R f args sto = some r := lim_fn hV hX h
theorem R_sound : Sound Try.prog R := lim_sound fol tab_ok XL_sound
theorem R_heads : R 11 [] [] = some (.ret (.d (.bool true)), []) := lim_x (by unfold XL; rw [if_neg (by decide)]; rfl)
theorem R_parse {args : List AV} {sto : List Obj} {r : Out × List Obj} (h : ∃ n0, ∀ n, n0 ≤ n → evalD V.R byT n d13 args sto = some r) : R 13 args sto = some r := lim_x (by unfold XL; rw [if_pos rfl]; exact limD_of h)
theorem tab_5 : tab 5 = some f5 := rfl
theorem tab_6 : tab 6 = some f6 := rfl
theorem tab_7 : tab 7 = some f7 := rfl
theorem tab_9 : tab 9 = some f9 := rfl
theorem tab_11 : tab 11 = some f11 := rfl
theorem tab_14 : tab 14 = some f14 := rfl
theorem tab_15 : tab 15 = some f15 := rfl
theorem tab_16 : tab 16 = some f16 := rfl
theorem tab_17 : tab 17 = some f17 := rfl
theorem tab_18 : tab 18 = some f18 := rfl
theorem tab_19 : tab 19 = some f19 := rfl
theorem tab_20 : tab 20 = some f20 := rfl
theorem tab_21 : tab 21 = some f21 := rfl
theorem tab_22 : tab 22 = some f22 := rfl
theorem tab_23 : tab 23 = some f23 := rfl
theorem tab_24 : tab 24 = some f24 := rfl
theorem tab_25 : tab 25 = some f25 := rfl
theorem tab_26 : tab 26 = some f26 := rfl
theorem tab_27 : tab 27 = some f27 := rfl
theorem tab_28 : tab 28 = some f28 := rfl
theorem tab_29 : tab 29 = some f29 := rfl
theorem tab_30 : tab 30 = some f30 := rfl
theorem tab_31 : tab 31 = some f31 := rfl
theorem tab_32 : tab 32 = some f32 := rfl
theorem tab_33 : tab 33 = some f33 := rfl
theorem tab_34 : tab 34 = some f34 := rfl
theorem tab_35 : tab 35 = some f35 := rfl
theorem tab_36 : tab 36 = some f36 := rfl
theorem tab_37 : tab 37 = some f37 := rfl
theorem tab_38 : tab 38 = some f38 := rfl
theorem tab_39 : tab 39 = some f39 := rfl
theorem tab_40 : tab 40 = some f40 := rfl
theorem tab_41 : tab 41 = some f41 := rfl
theorem tab_42 : tab 42 = some f42 := rfl
theorem tab_43 : tab 43 = some f43 := rfl
theorem tab_44 : tab 44 = some f44 := rfl
theorem tab_45 : tab 45 = some f45 := rfl
theorem tab_46 : tab 46 = some f46 := rfl
theorem tab_47 : tab 47 = some f47 := rfl
theorem tab_48 : tab 48 = some f48 := rfl
theorem tab_49 : tab 49 = some f49 := rfl
theorem tab_50 : tab 50 = some f50 := rfl
theorem tab_51 : tab 51 = some f51 := rfl
theorem tab_52 : tab 52 = some f52 := rfl
theorem tab_53 : tab 53 = some f53 := rfl
theorem tab_54 : tab 54 = some f54 := rfl
theorem tab_55 : tab 55 = some f55 := rfl
theorem tab_56 : tab 56 = some f56 := rfl
theorem tab_57 : tab 57 = some f57 := rfl
theorem tab_58 : tab 58 = some f58 := rfl
theorem tab_59 : tab 59 = some f59 := rfl
theorem tab_61 : tab 61 = some f61 := rfl
theorem tab_62 : tab 62 = some f62 := rfl
theorem tab_63 : tab 63 = some f63 := rfl
theorem tab_64 : tab 64 = some f64 := rfl
theorem tab_65 : tab 65 = some f65 := rfl
theorem tab_66 : tab 66 = some f66 := rfl
theorem tab_67 : tab 67 = some f67 := rfl
theorem tab_68 : tab 68 = some f68 := rfl
theorem tab_69 : tab 69 = some f69 := rfl
end L
end Go.Proofs.Ytpghocjfmddpkaa.V

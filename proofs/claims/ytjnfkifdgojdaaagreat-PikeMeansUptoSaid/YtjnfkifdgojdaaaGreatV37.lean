/- Functions by the kit's own contracts: what a call leaves below; slices.Clone of nothing. -/
import Derived.Test.YtjnfkifdgojdaaaGreatV30
import Derived.Shelf.SlLaysE0
import Derived.Shelf.RegionOpenPlain
import Derived.WalkKit
import Derived.Deep.LoopGhost
import Derived.Lib.Walk
import Derived.Lib.SliceRun
namespace Go.Proofs.YtjnfkifdgojdaaaGreat.V
open Go Go.Shelf Go.RowKit Go.Lib
set_option linter.unusedVariables false
set_option linter.unusedSimpArgs false
set_option linter.unusedSectionVars false
variable [Inhabited Flag]
theorem below_rel (hq : ¬ drOn) {w w' : World} {F : Nat → Prop} {β : Bl} (hS : SRel w F β []) (h : Below w.heap.size w w') : SRel w' F β [] ∧ Ext w F β [] w' F β [] := by
 obtain ⟨h1, h2, h3, hsz, hk⟩ := h
 have hm : Mono w F β w' F β := ⟨fun _ hb => hb, fun b hb => hk b (hS.flt b hb), fun _ _ hb => hb, fun b c T fr hb => ⟨c, by rw [hk b (Array.getElem?_eq_some_iff.1 hb).1]; exact hb, rfl⟩⟩
 refine ⟨⟨fun id o ho => by simp at ho, hS.dom, fun id b hb => Nat.lt_of_lt_of_le (hS.lt id b hb) hsz, fun b hb => Nat.lt_of_lt_of_le (hS.flt b hb) hsz, fun id id' o o' b ho => by simp at ho, hS.gl.mono hm⟩, ?_⟩
 exact ⟨hm, h1, h2, h3, fun hd => absurd hd hq, hsz, fun b hb _ => hk b hb, Nat.le_refl _, fun _ _ => rfl, fun id b hid hb => (by rw [hS.dom id hid] at hb; cases hb), fun b hb => .inl hb, fun id o ho => (by simp at ho)⟩
variable {P : Program} {ρ : Ren}
set_option maxHeartbeats 2000000 in
set_option maxRecDepth 100000 in
theorem clone_zero (L : SlLaysE0.n41 P ρ) (i0 : TypeInfo) (z : Value) (size bytes : Nat) (hi : P.info? (ρ.t 23) = some i0) (hz0 : i0.zero = some z) (hz1 : i0.size = size) (hz2 : i0.bytes = bytes) (hzs : z.cells.size = size) (hsz : 0 < size)
  (z23 : ∀ w, (Go.sizeOf (ρ.t 23)).run P w = .ok size w) (ad : Addr) (c : Nat) (w : World) :
  Calls P (ρ.f 41) #[.slice (some ad) 0 c] w fun e w' => ∃ v', e = .returned v' ∧ w'.ownsRow w.heap.size (ρ.t 23) size v' 0 [] ∧ Below w.heap.size w w' := by
 have mixed := L.mixed; have t4 := L.t4; have a4 := L.a4; have z4 := L.z4; have v4 := L.v4; have t22 := L.t22; have a22 := L.a22; have z22 := L.z22; have v22 := L.v22
 have q22 : ∀ (w : World) (a : Option Addr) (n c n' c' : Nat), (binOp .eql (ρ.t 22) (.slice a n c) (.slice none n' c')).run P w = .ok (.bool a.isNone) w := fun w a n c n' c' => Lib.run_eql_slice_nil w _ _ a n c n' c' L.t22
 have u22 : ∀ w, Sem.run P (underlying (ρ.t 22)) w = .ok (TypeDesc.slice (ρ.t 23)) w := run_underlying t22
 obtain ⟨_, _, FG⟩ := L.f41
 go_enter FG, SlBodyN.n41_ntmps ρ
 go_wp2_with (at_builtin; refine wpList_append_own _ rfl _ _ (ρ.t 22) rfl w.heap.size (ρ.t 23) i0 z size bytes t22 hi hz0 hz1 hz2 hzs hsz _ _ _ rfl (World.ownsRow_made w #[] 0 (Nat.le_refl _) (Nat.zero_le _) (by simp)) ad 0 c [] rfl ?qc1 ?qc2 ?qc3 ?qc4 ?qc5 ?qc6 ?_)
 case qc1 => simp
 case qc2 =>
  intro j u hj
  simp at hj
 case qc3 => intro u hu; simp at hu
 case qc4 => simp [maxLen]
 case qc5 => simp
 case qc6 => simp
 intro v' w1 hown hgrow hnil
 go_wp2
 go_ret
 refine ⟨v', rfl, by simpa using hown, ?_⟩
 exact ((Below.refl _ w).alloc (Nat.le_refl _) _).grown hgrow (by simp) (by intro k hk; simp [Value.ownBlock] at hk; omega)
set_option maxHeartbeats 1000000 in
theorem clone_nil (L : SlLaysE0.n41 P ρ) (n c : Nat) (w : World) :
  Calls P (ρ.f 41) #[.slice none n c] w fun e w' => e = .returned (.slice none 0 0) ∧ w' = w := by
 have mixed := L.mixed; have t4 := L.t4; have a4 := L.a4; have z4 := L.z4; have v4 := L.v4; have t22 := L.t22; have a22 := L.a22; have z22 := L.z22; have v22 := L.v22
 have q22 : ∀ (w : World) (a : Option Addr) (n c n' c' : Nat), (binOp .eql (ρ.t 22) (.slice a n c) (.slice none n' c')).run P w = .ok (.bool a.isNone) w := fun w a n c n' c' => Lib.run_eql_slice_nil w _ _ a n c n' c' L.t22
 obtain ⟨_, _, FG⟩ := L.f41
 go_enter FG, SlBodyN.n41_ntmps ρ
 go_wp2
 go_ret
 exact ⟨rfl, rfl⟩
theorem empty_sl {w : World} {F : Nat → Prop} {es : Nat} {a : Option Addr} {cap : Nat} : DRel w F (.sl es [] false) (.slice a 0 cap) :=
 .sl es [] false a cap 0 0 (fun _ _ => undef) (Nat.zero_le _) (fun h => by cases h) (fun h => absurd h (Nat.lt_irrefl 0)) (fun h => absurd h (Nat.lt_irrefl 0)) (fun i x h => by simp at h) (fun i x j y h => by simp at h) (fun i x j y h => by simp at h) (fun i x j y h => by simp at h)
def xClone (es : Nat) : List AV → List Obj → Option (Out × List Obj)
 | [.d (.sl _ [] _)], [] => some (.ret (.d (.sl es [] false)), [])
 | _, _ => none
theorem xClone_sound (hq : ¬ drOn) (L : SlLaysE0.n41 P ρ) {z : Value} {size bytes : Nat} (hinfo : (P.info? (ρ.t 23)).map (fun i => (i.zero, i.size, i.bytes)) = some (some z, size, bytes)) (hzs : z.cells.size = size) (hsz : 0 < size)
  (z23 : ∀ w, (Go.sizeOf (ρ.t 23)).run P w = .ok size w) {fn : Func} (hfn : P.funcs[ρ.f 41]? = some fn) (hfn2 : (fn.name == "runtime.NumGoroutine") = false) (hfn3 : fn.body.isNone = false)
  {args : List AV} {sto : List Obj} {out : Out} {sto' : List Obj} (h : xClone size args sto = some (out, sto')) {w : World} {F : Nat → Prop} {β : Bl} {us : Array Value} (hS : SRel w F β sto) (hus : ARel w F β args us) :
  CallsF P (ρ.f 41) us w (Res w F β sto out sto') := by
 obtain ⟨i0, hi, hi2⟩ : ∃ i0, P.info? (ρ.t 23) = some i0 ∧ (i0.zero, i0.size, i0.bytes) = (some z, size, bytes) := by simpa only [Option.map_eq_some_iff] using hinfo
 simp only [Prod.mk.injEq] at hi2
 obtain ⟨hz0, hz1, hz2⟩ := hi2
 unfold xClone at h
 split at h
 ·rename_i e0 t0
  cases h
  refine .inl ⟨fn, hfn, hfn2, hfn3, ?_⟩
  obtain ⟨u0, rfl⟩ : ∃ u0, us = #[u0] := by
   have : us.size = 1 := hus.1
   exact ⟨us[0], by
    apply Array.ext
    ·simp [this]
    ·intro i h1 h2
     have : i = 0 := by omega
     subst this
     rfl⟩
  have v0 := hus.2 0 _ u0 rfl rfl
  cases v0 with | d _ _ hd =>
  cases hd with | sl _ _ _ a cap b off cell hlc ht ha hF hes hc h1 hr =>
  cases a with
  | none =>
   refine (clone_nil L _ cap w).mono fun e' w' ⟨h1, h2⟩ => ?_
   subst h1; subst h2
   exact ⟨F, β, .d _ _ empty_sl, hS, Ext.refl _ _ _ _ hS.dom⟩
  | some ad =>
   refine (clone_zero L i0 z size bytes hi hz0 hz1 hz2 hzs hsz z23 ad cap w).mono fun e' w' ⟨v', h1, h2, h3⟩ => ?_
   subst h1
   obtain ⟨r1, r2⟩ := below_rel hq hS h3
   refine ⟨F, β, .d _ _ ?_, r1, r2⟩
   rcases h2.2 with ⟨rfl, _⟩ | ⟨g, cap', cur, rfl, _⟩
   ·exact empty_sl
   ·exact empty_sl
 ·cases h
end Go.Proofs.YtjnfkifdgojdaaaGreat.V

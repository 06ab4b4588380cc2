/- strconv.Itoa, by the kit's own contract; its table is known. -/
import Derived.Test.YtkkekfehjbbhoaaGreatDoorVT
import Derived.Test.YtkkekfehjbbhoaaGreatDoorVG1
import Derived.Shelf.Strconv.Itoa3
namespace Go.Proofs.YtkkekfehjbbhoaaGreatDoor.V
open Go Go.Shelf Go.RowKit Go.Lib
set_option linter.unusedVariables false
set_option linter.unnecessarySimpa false
set_option linter.unusedSimpArgs false
set_option linter.unusedSectionVars false
section
set_option maxRecDepth 100000
def layItoa_ren : Go.Shelf.Ren := ⟨fun | 129 => 106 | 171 => 34 | 243 => 58 | 246 => 77 | 283 => 92 | 284 => 93 | 285 => 94 | 286 => 95 | 317 => 105 | 318 => 107 | 319 => 108 | 320 => 109 | 337 => 111 | 338 => 112 | n => n, fun | 0 => 0 | 2 => 2 | 3 => 3 | 4 => 4 | 5 => 5 | 9 => 9 | 20 => 20 | 37 => 72 | 46 => 78 | 51 => 51 | 53 => 104 | 171 => 131 | 173 => 134 | 212 => 159 | 213 => 160 | 232 => 163 | 233 => 164 | n => n, fun | 17 => 5 | 18 => 7 | 19 => 8 | n => n⟩
theorem layItoa : Go.Proofs.LaysM.n171 Tryz.prog layItoa_ren := {
  mixed := by kernel_rfl
  f129 := Tryz.func106.trans (congrArg some (by kernel_rfl))
  f171 := Tryz.func34.trans (congrArg some (by kernel_rfl))
  f243 := Tryz.func58.trans (congrArg some (by kernel_rfl))
  f246 := Tryz.func77.trans (congrArg some (by kernel_rfl))
  f283 := Tryz.func92.trans (congrArg some (by kernel_rfl))
  f284 := Tryz.func93.trans (congrArg some (by kernel_rfl))
  f285 := Tryz.func94.trans (congrArg some (by kernel_rfl))
  f286 := Tryz.func95.trans (congrArg some (by kernel_rfl))
  f317 := Tryz.func105.trans (congrArg some (by kernel_rfl))
  f318 := Tryz.func107.trans (congrArg some (by kernel_rfl))
  f319 := Tryz.func108.trans (congrArg some (by kernel_rfl))
  f320 := Tryz.func109.trans (congrArg some (by kernel_rfl))
  f337 := Tryz.func111.trans (congrArg some (by kernel_rfl))
  f338 := Tryz.func112.trans (congrArg some (by kernel_rfl))
  t0 := Tryz.underlying0
  a0 := Tryz.isAgg0
  z0 := Tryz.sizeOf0
  v0 := Tryz.zeroValue0
  t2 := Tryz.underlying2
  a2 := Tryz.isAgg2
  z2 := Tryz.sizeOf2
  v2 := Tryz.zeroValue2
  t3 := Tryz.underlying3
  a3 := Tryz.isAgg3
  z3 := Tryz.sizeOf3
  v3 := Tryz.zeroValue3
  t4 := Tryz.underlying4
  a4 := Tryz.isAgg4
  z4 := Tryz.sizeOf4
  v4 := Tryz.zeroValue4
  t5 := Tryz.underlying5
  a5 := Tryz.isAgg5
  z5 := Tryz.sizeOf5
  v5 := Tryz.zeroValue5
  t9 := Tryz.underlying9
  a9 := Tryz.isAgg9
  z9 := Tryz.sizeOf9
  v9 := Tryz.zeroValue9
  t20 := Tryz.underlying20
  a20 := Tryz.isAgg20
  z20 := Tryz.sizeOf20
  v20 := Tryz.zeroValue20
  t37 := Tryz.underlying72
  a37 := Tryz.isAgg72
  z37 := Tryz.sizeOf72
  v37 := Tryz.zeroValue72
  t46 := Tryz.underlying78
  a46 := Tryz.isAgg78
  z46 := Tryz.sizeOf78
  v46 := Tryz.zeroValue78
  t51 := Tryz.underlying51
  a51 := Tryz.isAgg51
  z51 := Tryz.sizeOf51
  v51 := Tryz.zeroValue51
  t53 := Tryz.underlying104
  a53 := Tryz.isAgg104
  z53 := Tryz.sizeOf104
  v53 := Tryz.zeroValue104
  t171 := Tryz.underlying131
  a171 := Tryz.isAgg131
  z171 := Tryz.sizeOf131
  v171 := Tryz.zeroValue131
  t173 := Tryz.underlying134
  a173 := Tryz.isAgg134
  z173 := Tryz.sizeOf134
  v173 := Tryz.zeroValue134
  t212 := Tryz.underlying159
  a212 := Tryz.isAgg159
  z212 := Tryz.sizeOf159
  v212 := Tryz.zeroValue159
  t213 := Tryz.underlying160
  a213 := Tryz.isAgg160
  z213 := Tryz.sizeOf160
  t232 := Tryz.underlying163
  a232 := Tryz.isAgg163
  z232 := Tryz.sizeOf163
  v232 := Tryz.zeroValue163
  t233 := Tryz.underlying164
  a233 := Tryz.isAgg164
  z233 := Tryz.sizeOf164
  v233 := Tryz.zeroValue164
  g17 := by kernel_rfl
  g18 := by kernel_rfl
  g19 := by kernel_rfl
  i0 := by kernel_rfl
  i2 := by kernel_rfl
  i3 := by kernel_rfl
  i4 := by kernel_rfl
  i5 := by kernel_rfl
  i9 := by kernel_rfl
  i20 := by kernel_rfl
  i37 := by kernel_rfl
  i46 := by kernel_rfl
  i51 := by kernel_rfl
  i53 := by kernel_rfl
  i171 := by kernel_rfl
  i173 := by kernel_rfl
  i212 := by kernel_rfl
  i232 := by kernel_rfl
  i233 := by kernel_rfl
  m17 := by kernel_rfl
  m18 := by kernel_rfl
  m19 := by kernel_rfl }
end
section
variable [Inhabited Flag] {w : World} {F : Nat → Prop} {β : Bl}
theorem grown_ext {sto : List Obj} (hS : SRel w F β sto) (os : Array Go.Obj) : SRel (Go.Sort.grow w os) F β sto ∧ Ext w F β sto (Go.Sort.grow w os) F β sto := by
  have hold : ∀ b, b < w.heap.size → (Go.Sort.grow w os).heap[b]? = w.heap[b]? := fun b hb => by
    show (w.heap ++ os)[b]? = _
    rw [Array.getElem?_append_left hb]
  have hsz : w.heap.size ≤ (Go.Sort.grow w os).heap.size := by show _ ≤ (w.heap ++ os).size; simp
  have hm : Mono w F β (Go.Sort.grow w os) F β := ⟨fun _ h => h, fun b hb => hold b (hS.flt b hb), fun _ _ h => h, fun b c T fr h => ⟨c, by rw [hold b (Array.getElem?_eq_some_iff.1 h).1]; exact h, rfl⟩⟩
  refine ⟨⟨fun id y hy => (hS.obj id y hy).mono hm rfl (fun b hb => hold b (hS.lt id b hb)) (fun _ _ _ hf => hf), hS.dom, fun id b hb => Nat.lt_of_lt_of_le (hS.lt id b hb) hsz, fun b hb => Nat.lt_of_lt_of_le (hS.flt b hb) hsz, hS.inj, hS.gl.mono hm⟩,
    ⟨hm, rfl, rfl, rfl, fun _ => Nat.le_refl _, hsz, fun b hb _ => hold b hb, Nat.le_refl _, fun _ _ => rfl, fun id b hid hb => (by rw [hS.dom id hid] at hb; cases hb), fun _ h => .inl h, fun _ y hy => ⟨y, hy, fun h => h⟩⟩⟩
end
/-- strconv.Itoa. -/
def xItoa : List AV → List Obj → Option (Out × List Obj)
  | [.d (.int .i64 n)], [] => if -9223372036854775808 ≤ n ∧ n ≤ 9223372036854775807 then some (.ret (.d (.str ⟨(Lib.itoa n).toArray⟩)), []) else none
  | _, _ => none
theorem xItoa_sound {args : List AV} {sto : List Obj} {out : Out} {sto' : List Obj} (h : xItoa args sto = some (out, sto')) {w : World} {F : Nat → Prop} {β : Bl} {us : Array Value} (hS : SRel w F β sto) (hus : ARel w F β args us) :
    CallsF Tryz.prog 34 us w (Res w F β sto out sto') := by
  unfold xItoa at h
  split at h
  · rename_i n
    split at h
    · rename_i hn
      cases h
      obtain ⟨u0, rfl⟩ : ∃ u0, us = #[u0] := by
        have : us.size = 1 := hus.1
        exact ⟨us[0], by
          apply Array.ext
          · simp [this]
          · intro i h1 h2
            have : i = 0 := by omega
            subst this
            rfl⟩
      have v0 := hus.2 0 _ u0 rfl rfl
      cases v0 with | d _ _ hd =>
      cases hd
      obtain ⟨_, T, fr, hb⟩ := hS.gl (5, (Lib.pow10Tab.map fun z => Value.int .u64 z).toArray) (.tail _ (.head _))
      have ht : Lib.TabIs Tryz.prog w "internal/strconv.uint64pow10" .u64 Lib.pow10Tab := by
        unfold Lib.TabIs World.var?
        rw [show Tryz.prog.globalNamed "internal/strconv.uint64pow10" = some 5 by kernel_rfl]
        simp only [Option.bind_some]
        rw [hb]
      refine .inl ⟨Tryz.f34, Tryz.func34, by kernel_rfl, by kernel_rfl, ?_⟩
      refine (Any.strconv_Itoa layItoa n hn.1 hn.2 w ht).mono fun e w' ⟨h1, k, os, h2⟩ => ?_
      subst h1
      subst h2
      have s1 : SRel (w.drewN k) F β [] := hS.heap rfl
      have e1 : Ext w F β [] (w.drewN k) F β [] := Ext.heap hS rfl rfl rfl rfl (fun hd => absurd hd flag_g)
      obtain ⟨s2, e2⟩ := grown_ext s1 os
      exact ⟨F, β, .d _ _ (.str _), s2, e1.trans e2⟩
    · cases h
  · cases h
end Go.Proofs.YtkkekfehjbbhoaaGreatDoor.V

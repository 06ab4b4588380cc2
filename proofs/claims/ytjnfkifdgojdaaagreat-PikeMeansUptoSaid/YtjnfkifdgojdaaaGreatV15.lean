/- Names renamed: what was told of values holds under their new names. -/
import Derived.Test.YtjnfkifdgojdaaaGreatV14
namespace Go.Proofs.YtjnfkifdgojdaaaGreat.V
open Go
set_option linter.unusedVariables false
set_option linter.unusedSimpArgs false
set_option linter.unusedSectionVars false
variable [Inhabited Flag]
section
variable {w : World} {F : Nat → Prop} {β β' : Bl} {f : Nat → Option Nat} {sto : List Obj}
theorem renL_eq (f : Nat → Option Nat) : ∀ xs : List AV, renL f xs = xs.map (renAV f)
 | [] => rfl
 | v :: r => by simp only [renL, List.map_cons, renL_eq f r]
theorem renKV_eq (f : Nat → Option Nat) : ∀ xs : List (D × AV), renKV f xs = xs.map fun x => (x.1, renAV f x.2)
 | [] => rfl
 | (k, v) :: r => by simp only [renKV, List.map_cons, renKV_eq f r]
theorem ren_cells (f : Nat → Option Nat) (x : AV) : (renAV f x).cells = x.cells.map (renAV f) := by
 cases x with
 | d x => cases x <;> simp [AV.cells, renAV]
 | row id a b c d => simp only [renAV]; cases h : f id <;> simp [AV.cells, renAV, h]
 | ptr id a b c => simp only [renAV]; cases h : f id <;> simp [AV.cells, renAV, h]
 | map id => simp only [renAV]; cases h : f id <;> simp [AV.cells, renAV, h]
 | iter id => simp only [renAV]; cases h : f id <;> simp [AV.cells, renAV, h]
 | stamp id i => simp only [renAV]; cases h : f id <;> simp [AV.cells, renAV, h]
 | agg cs => simp only [renAV, AV.cells, renL_eq]
 | tup cs => simp only [renAV, AV.cells, List.map_cons, List.map_nil]
 | func a b c => simp only [renAV, AV.cells, List.map_cons, List.map_nil]
 | iface t v => simp only [renAV, AV.cells, List.map_cons, List.map_nil]
 | box a => simp only [renAV, AV.cells, List.map_cons, List.map_nil]
 | undef => simp only [renAV, AV.cells, List.map_cons, List.map_nil]
theorem getElem?_renL {xs : List AV} {j : Nat} {y : AV} (h : (renL f xs)[j]? = some y) : ∃ z, xs[j]? = some z ∧ y = renAV f z := by
 rw [renL_eq, List.getElem?_map, Option.map_eq_some_iff] at h
 obtain ⟨z, h1, h2⟩ := h
 exact ⟨z, h1, h2.symm⟩
theorem VRel.ren (hf : ∀ id j b, f id = some j → β id = some b → β' j = some b) {v : AV} {u : Value} (h : VRel w F β v u) : VRel w F β' (renAV f v) u := by
 induction h with
 | d x v h => exact .d x v h
 | row id es lo len t a cap hlc ht hb =>
  simp only [renAV]
  split
  ·rename_i j hj
   refine .row j es lo len t a cap hlc ht fun hc => ?_
   obtain ⟨b, c, T, fr, h1, h2⟩ := hb hc
   exact ⟨b, c, T, fr, hf id j b hj h1, h2⟩
  ·exact .undef _
 | ptr id es i off b hb =>
  simp only [renAV]
  split
  ·rename_i j hj; exact .ptr j es i off b (hf id j b hj hb)
  ·exact .undef _
 | map id b hb =>
  simp only [renAV]
  split
  ·rename_i j hj; exact .map j b (hf id j b hj hb)
  ·exact .undef _
 | iter id b hb =>
  simp only [renAV]
  split
  ·rename_i j hj; exact .iter j b (hf id j b hj hb)
  ·exact .undef _
 | agg cs vs hs h1 hr ih =>
  refine .agg _ vs (by simp [renL_eq, hs]) h1 fun j y u hy hu => ?_
  obtain ⟨z, hz, rfl⟩ := getElem?_renL hy
  exact ih j z u hz hu
 | tup cs vs hs hr ih =>
  refine .tup _ vs (by simp [renL_eq, hs]) fun j y u hy hu => ?_
  obtain ⟨z, hz, rfl⟩ := getElem?_renL hy
  exact ih j z u hz hu
 | iface t x v hr ih => exact .iface t _ v ih
 | func fn a b us vs ha hb hra hrb iha ihb =>
  refine .func fn _ _ us vs (by simp [renL_eq, ha]) (by simp [renL_eq, hb]) (fun j y u hy hu => ?_) (fun j y u hy hu => ?_)
  ·obtain ⟨z, hz, rfl⟩ := getElem?_renL hy
   exact iha j z u hz hu
  ·obtain ⟨z, hz, rfl⟩ := getElem?_renL hy
   exact ihb j z u hz hu
 | box cs b off cell hb hc h1 hr ih =>
  have e : ∀ (j : Nat) (y : AV), (renL f cs)[j]? = some y → ∃ z, cs[j]? = some z ∧ y = renAV f z := fun j y hy => getElem?_renL hy
  refine .box _ b off cell hb (fun j y hy => ?_) (fun j y hy => ?_) (fun j y hy => ?_)
  ·obtain ⟨z, hz, _⟩ := e j y hy; exact hc j z hz
  ·obtain ⟨z, hz, _⟩ := e j y hy; exact h1 j z hz
  ·obtain ⟨z, hz, rfl⟩ := e j y hy; exact ih j z hz
 | undef v => exact .undef v
theorem ORel.ren (hf : ∀ id j b, f id = some j → β id = some b → β' j = some b) {id j : Nat} (hj : β' j = β id) {o : Obj} (h : ORel w F β id o) : ORel w F β' j (renObj f o) := by
 cases o with
 | row es xs z =>
  obtain ⟨h0, hes, h1⟩ := h
  refine ⟨fun hn => ?_, fun i x hx => ?_, fun b hb => ?_⟩
  ·rw [hj] at hn; rw [h0 hn]; rfl
  ·obtain ⟨y, hy, rfl⟩ := getElem?_renL hx
   rw [ren_cells, List.length_map]
   exact hes i y hy
  ·rw [hj] at hb
   obtain ⟨c, T, fr, h2, h3, h4, h5⟩ := h1 b hb
   refine ⟨c, T, fr, h2, by simpa [renL_eq] using h3, fun i x k y u hx hy hu => ?_, h5⟩
   obtain ⟨x', hx', rfl⟩ := getElem?_renL hx
   rw [ren_cells, List.getElem?_map, Option.map_eq_some_iff] at hy
   obtain ⟨y', hy', rfl⟩ := hy
   obtain ⟨h6, h7⟩ := h4 i x' k y' u hx' hy' hu
   exact ⟨h6.ren hf, h7⟩
 | mp kvs zz =>
  obtain ⟨b, es, clock, h1, h2, h3, h4, h4z, h5⟩ := h
  refine ⟨b, es, clock, by rw [hj]; exact h1, h2, h3, by simpa [renKV_eq] using h4, h4z, fun i e k v he hk => ?_⟩
  rw [renKV_eq, List.getElem?_map, Option.map_eq_some_iff] at hk
  obtain ⟨z, hz, hz2⟩ := hk
  cases hz2
  exact ⟨(h5 i e z.1 z.2 he hz).1, (h5 i e z.1 z.2 he hz).2.ren hf⟩
 | iter s p =>
  obtain ⟨b, h1, h2⟩ := h
  exact ⟨b, by rw [hj]; exact h1, h2⟩
 | dead => trivial
theorem renObj_live (f : Nat → Option Nat) (o : Obj) : (renObj f o).live = o.live := by cases o <;> rfl
theorem renObj_wr (f : Nat → Option Nat) (o : Obj) : (renObj f o).wr = o.wr := by cases o <;> rfl
def cmpB (β : Bl) (m : List Nat) : Bl := fun j => match m[j]? with
 | some id => β id
 | none => none
theorem cmpB_some {m : List Nat} {j id : Nat} (h : m[j]? = some id) : cmpB β m j = β id := by simp [cmpB, h]
theorem cmpB_ge {m : List Nat} {j : Nat} (h : m.length ≤ j) : cmpB β m j = none := by simp [cmpB, List.getElem?_eq_none h]
theorem cmpB_inv {m : List Nat} {j b : Nat} (h : cmpB β m j = some b) : ∃ id, m[j]? = some id ∧ β id = some b := by
 unfold cmpB at h
 split at h
 ·rename_i id hid; exact ⟨id, hid, h⟩
 ·cases h
theorem renId_spec : ∀ {m : List Nat} {id j : Nat}, renId m id = some j → m[j]? = some id
 | [], id, j, h => by cases h
 | x :: m, id, j, h => by
  simp only [renId, List.idxOf?_cons] at h
  split at h
  ·rename_i e
   cases h
   simp at e
   simp [e]
  ·simp only [Option.map_eq_some_iff] at h
   obtain ⟨k, hk, rfl⟩ := h
   simpa using renId_spec (m := m) hk
theorem renId_cmp (m : List Nat) : ∀ id j b, renId m id = some j → β id = some b → cmpB β m j = some b := by
 intro id j b h hb
 rw [cmpB_some (renId_spec h)]; exact hb
theorem pickS_eq (f : Nat → Option Nat) (sto : List Obj) : ∀ m : List Nat, pickS f sto m = m.map fun id => match sto[id]? with
  | some o => renObj f o
  | none => .dead
 | [] => rfl
 | id :: r => by
  rw [pickS, pickS_eq f sto r, List.map_cons]
  congr 1
theorem pickS_len (f : Nat → Option Nat) (sto : List Obj) (m : List Nat) : (pickS f sto m).length = m.length := by simp [pickS_eq]
theorem pickS_get {m : List Nat} {j : Nat} {o : Obj} (h : (pickS f sto m)[j]? = some o) : o = .dead ∨ ∃ id x, m[j]? = some id ∧ sto[id]? = some x ∧ o = renObj f x := by
 rw [pickS_eq, List.getElem?_map, Option.map_eq_some_iff] at h
 obtain ⟨id, h1, h2⟩ := h
 split at h2
 ·rename_i x hx
  exact .inr ⟨id, x, h1, hx, h2.symm⟩
 ·exact .inl h2.symm
theorem nodup_get {m : List Nat} (hn : m.Nodup) {i j id : Nat} (hi : m[i]? = some id) (hj : m[j]? = some id) : i = j := by
 obtain ⟨hi1, hi2⟩ := List.getElem?_eq_some_iff.1 hi
 obtain ⟨hj1, hj2⟩ := List.getElem?_eq_some_iff.1 hj
 rcases Nat.lt_trichotomy i j with h | h | h
 ·have := (List.pairwise_iff_getElem.1 hn) i j hi1 hj1 h
  rw [hi2, hj2] at this; exact absurd rfl this
 ·exact h
 ·have := (List.pairwise_iff_getElem.1 hn) j i hj1 hi1 h
  rw [hi2, hj2] at this; exact absurd rfl this
theorem SRel.pick (hS : SRel w F β sto) {m : List Nat} (hn : m.Nodup) : SRel w F (cmpB β m) (pickS (renId m) sto m) := by
 refine ⟨fun j o ho => ?_, fun j hj => cmpB_ge (by simpa [pickS_len] using hj), fun j b hb => ?_, hS.flt, fun i j o o' b ho ho' hl hl' hb hb' => ?_, hS.gl⟩
 ·rcases pickS_get ho with rfl | ⟨id, x, h1, h2, rfl⟩
  ·trivial
  ·exact (hS.obj id x h2).ren (renId_cmp m) (cmpB_some h1)
 ·obtain ⟨id, _, h⟩ := cmpB_inv hb
  exact hS.lt id b h
 ·rcases pickS_get ho with rfl | ⟨id, x, h1, h2, rfl⟩
  ·cases hl
  ·rcases pickS_get ho' with rfl | ⟨id', x', h1', h2', rfl⟩
   ·cases hl'
   ·rw [cmpB_some h1] at hb
    rw [cmpB_some h1'] at hb'
    rw [renObj_live] at hl hl'
    have := hS.inj id id' x x' b h2 h2' hl hl' hb hb'
    subst this
    exact nodup_get hn h1 h1'
theorem reach_spec (sto : List Obj) : ∀ (n : Nat) (l acc : List Nat), acc.Nodup → (reach sto n l acc).Nodup ∧ ∃ t, reach sto n l acc = acc ++ t
 | 0, l, acc, h => ⟨h, [], by simp [reach]⟩
 | n + 1, [], acc, h => ⟨h, [], by simp [reach]⟩
 | n + 1, id :: l, acc, h => by
  simp only [reach]
  split
  ·exact reach_spec sto n l acc h
  ·rename_i hc
   split
   ·have hn : (acc ++ [id]).Nodup := by
     rw [List.nodup_append]
     refine ⟨h, by simp, fun a ha b hb e => ?_⟩
     simp at hb
     subst hb; subst e
     exact hc (by simpa using ha)
    obtain ⟨h1, t, h2⟩ := reach_spec sto n (refsObj _ ++ l) _ hn
    exact ⟨h1, id :: t, by rw [h2]; simp⟩
   ·exact reach_spec sto n l acc h
theorem gc_ext {w0 : World} {F0 : Nat → Prop} {β0 : Bl} {sto0 : List Obj} (hd : ∀ id, sto0.length ≤ id → β0 id = none) (hE : Ext w0 F0 β0 sto0 w F β sto) {m : List Nat} (hn : m.Nodup) (hm : ∃ t, m = List.range sto0.length ++ t) :
  Ext w0 F0 β0 sto0 w F (cmpB β m) (pickS (renId m) sto m) := by
 obtain ⟨t, rfl⟩ := hm
 have hlo : ∀ id, id < sto0.length → (List.range sto0.length ++ t)[id]? = some id := fun id h => by
  rw [List.getElem?_append_left (by simpa using h), List.getElem?_range h]
 refine ⟨⟨hE.mono.hF, hE.mono.hw, fun id b hb => ?_, hE.mono.hsh⟩, hE.os, hE.tape, hE.output, hE.drew, hE.size, hE.keep, by simp [pickS_len], fun id hid => ?_, fun id b hid hb => ?_, hE.frz, fun id o ho => ?_⟩
 ·have hid : id < sto0.length := by
   apply Classical.byContradiction
   intro h
   rw [hd id (by omega)] at hb; cases hb
  rw [cmpB_some (hlo id hid)]
  exact hE.mono.hβ id b hb
 ·rw [cmpB_some (hlo id hid)]; exact hE.same id hid
 ·obtain ⟨k, hk, hb'⟩ := cmpB_inv hb
  refine hE.new k b ?_ hb'
  apply Classical.byContradiction
  intro h
  have := nodup_get hn hk (hlo k (by omega))
  omega
 ·have hid := (List.getElem?_eq_some_iff.1 ho).1
  obtain ⟨o', h1, h2⟩ := hE.wr id o ho
  refine ⟨renObj (renId (List.range sto0.length ++ t)) o', ?_, by rw [renObj_wr]; exact h2⟩
  rw [pickS_eq, List.getElem?_map, hlo id hid]
  simp [h1]
theorem look_renEnv : ∀ (env : Env) (n : Nat), look n (renEnv f env) = renAV f (look n env)
 | [], n => by simp [renEnv, look, renAV]
 | (m, v) :: r, n => by
  simp only [renEnv, look]
  split
  ·rfl
  ·exact look_renEnv r n
theorem look_restrict : ∀ (l : List Nat) (env : Env) (n : Nat), look n (restrict l env) = look n env ∨ look n (restrict l env) = .undef
 | [], env, n => .inr rfl
 | k :: r, env, n => by
  simp only [restrict, look]
  split
  ·rename_i e; subst e; exact .inl rfl
  ·exact look_restrict r env n
theorem ERel.restr {nt : Nat} {env : Env} {tmps : Array Value} (h : ERel w F β nt env tmps) (l : List Nat) : ERel w F β nt (restrict l env) tmps := by
 refine ⟨h.1, fun n => ?_⟩
 rcases look_restrict l env n with e | e <;> rw [e]
 ·exact h.2 n
 ·exact .undef _
theorem ERel.ren (hf : ∀ id j b, f id = some j → β id = some b → β' j = some b) {nt : Nat} {env : Env} {tmps : Array Value} (h : ERel w F β nt env tmps) : ERel w F β' nt (renEnv f env) tmps :=
 ⟨h.1, fun n => by rw [look_renEnv]; exact (h.2 n).ren hf⟩
end
end Go.Proofs.YtjnfkifdgojdaaaGreat.V

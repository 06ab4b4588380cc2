/- Calls: what the callee makes of the names handed in, put back. -/
import Derived.Test.YtjnfkifdgojdaaaGreatV16
namespace Go.Proofs.YtjnfkifdgojdaaaGreat.V
open Go
set_option linter.unusedVariables false
set_option linter.unusedSimpArgs false
set_option linter.unusedSectionVars false
variable [Inhabited Flag]
section
variable {w : World} {F : Nat → Prop} {β : Bl} {sto : List Obj}
def ERes (w : World) (F : Nat → Prop) (β : Bl) : Out → Ending → Prop
 | .ret v, .returned u => VRel w F β v u
 | .pan v, .panicked ch => ∃ u, ch = [{ v := u, recovered := false }] ∧ VRel w F β v u
 | _, _ => False
def ARel (w : World) (F : Nat → Prop) (β : Bl) (args : List AV) (us : Array Value) : Prop :=
 us.size = args.length ∧ ∀ (j : Nat) (y : AV) (u : Value), args[j]? = some y → us[j]? = some u → VRel w F β y u
def CallsF (P : Program) (f : FuncId) (us : Array Value) (w : World) (R : Ending → World → Prop) : Prop :=
 (∃ fn, P.funcs[f]? = some fn ∧ (fn.name == "runtime.NumGoroutine") = false ∧ fn.body.isNone = false ∧ Calls P f us w R) ∨ ∃ v w', (callFunc f us).run P w = .ok (.value v) w' ∧ R (.returned v) w'
theorem CallsF.mono {P : Program} {f : FuncId} {us : Array Value} {w : World} {R R' : Ending → World → Prop} (h : CallsF P f us w R) (hr : ∀ e w', R e w' → R' e w') : CallsF P f us w R' := by
 rcases h with ⟨fn, h1, h2, h3, h4⟩ | ⟨v, w', h1, h2⟩
 ·exact .inl ⟨fn, h1, h2, h3, h4.mono hr⟩
 ·exact .inr ⟨v, w', h1, hr _ _ h2⟩
def Res (w : World) (F : Nat → Prop) (β : Bl) (sto : List Obj) (out : Out) (sto' : List Obj) (e : Ending) (w' : World) : Prop :=
 ∃ (F' : Nat → Prop) (β' : Bl), ERes w' F' β' out e ∧ SRel w' F' β' sto' ∧ Ext w F β sto w' F' β' sto'
def Sound (P : Program) (C : Calling) : Prop :=
 ∀ (f : FuncId) (args : List AV) (sto : List Obj) (out : Out) (sto' : List Obj), C f args sto = some (out, sto') →
  ∀ (w : World) (F : Nat → Prop) (β : Bl) (us : Array Value), SRel w F β sto → ARel w F β args us → CallsF P f us w (Res w F β sto out sto')
theorem prep_sound {byref : List Nat} : ∀ (l : List AV) (i : Nat) (sto : List Obj) (F : Nat → Prop) (vs' : List AV) (sto' : List Obj), prep byref i l sto = some (vs', sto') → SRel w F β sto →
  ∃ F' : Nat → Prop, SRel w F' β sto' ∧ Ext w F β sto w F' β sto' ∧ vs'.length = l.length ∧ ∀ (j : Nat) (v' : AV), vs'[j]? = some v' → ∃ v, l[j]? = some v ∧ ∀ u, VRel w F β v u → VRel w F' β v' u
 | [], i, sto, F, vs', sto', h, hS => by
  simp only [prep] at h
  cases h
  exact ⟨F, hS, Ext.refl _ _ _ _ hS.dom, rfl, fun j v hv => by simp at hv⟩
 | v :: r, i, sto, F, vs', sto', h, hS => by
  simp only [prep] at h
  have fin : ∀ (v1 : AV) (sto1 : List Obj), (match prep byref (i + 1) r sto1 with
     | some (vs, sto'') => some (v1 :: vs, sto'')
     | none => none) = some (vs', sto') → (∃ F1 : Nat → Prop, SRel w F1 β sto1 ∧ Ext w F β sto w F1 β sto1 ∧ ∀ u, VRel w F β v u → VRel w F1 β v1 u) →
    ∃ F' : Nat → Prop, SRel w F' β sto' ∧ Ext w F β sto w F' β sto' ∧ vs'.length = (v :: r).length ∧ ∀ (j : Nat) (v' : AV), vs'[j]? = some v' → ∃ v0, (v :: r)[j]? = some v0 ∧ ∀ u, VRel w F β v0 u → VRel w F' β v' u := by
   intro v1 sto1 h ⟨F1, h1, h2, h3⟩
   split at h
   ·rename_i vs sto2 hp
    cases h
    obtain ⟨F2, h4, h5, h6, h7⟩ := prep_sound r (i + 1) sto1 F1 vs _ hp h1
    refine ⟨F2, h4, h2.trans h5, by simp [h6], fun j v' hv' => ?_⟩
    cases j with
    | zero =>
     simp at hv'
     subst hv'
     exact ⟨v, rfl, fun u hu => (h3 u hu).mono h5.mono⟩
    | succ j =>
     simp at hv'
     obtain ⟨v0, hv0, h8⟩ := h7 j v' hv'
     exact ⟨v0, by simpa using hv0, fun u hu => h8 u (hu.mono h2.mono)⟩
   ·cases h
  have same : ∃ F1 : Nat → Prop, SRel w F1 β sto ∧ Ext w F β sto w F1 β sto ∧ ∀ u, VRel w F β v u → VRel w F1 β v u := ⟨F, hS, Ext.refl _ _ _ _ hS.dom, fun _ h => h⟩
  split at h
  ·rename_i v1 sto1 hx
   refine fin v1 sto1 h ?_
   split at hx
   ·cases hx; exact same
   ·split at hx
    ·cases hx; exact same
    ·exact snap_sound hS hx
   ·exact snap_sound hS hx
   ·split at hx
    ·cases hx; exact same
    ·exact snap_sound hS hx
   ·cases hx; exact same
  ·cases h
theorem putBack_len (f : Nat → Option Nat) : ∀ (m : List Nat) (os sto : List Obj), m.length ≤ os.length → (putBack f m os sto).length = sto.length + (os.length - m.length)
 | [], os, sto, h => by cases os <;> simp [putBack]
 | id :: m, [], sto, h => by simp at h
 | id :: m, o :: os, sto, h => by
  simp only [putBack]
  rw [putBack_len f m os _ (by simpa using h)]
  simp
theorem putBack_get (f : Nat → Option Nat) : ∀ (m : List Nat) (os sto : List Obj), m.length ≤ os.length → m.Nodup → ∀ (k : Nat) (y : Obj), (putBack f m os sto)[k]? = some y → y = .dead ∨
  (∃ (j : Nat) (o x : Obj), m[j]? = some k ∧ os[j]? = some o ∧ sto[k]? = some x ∧ x.live = true ∧ y = renObj f o) ∨ (k ∉ m ∧ sto[k]? = some y) ∨ (∃ o : Obj, sto.length ≤ k ∧ os[m.length + (k - sto.length)]? = some o ∧ y = renObj f o)
 | [], os, sto, h, hn, k, y, hy => by
  have e : putBack f [] os sto = sto ++ os.map (renObj f) := by cases os <;> rfl
  rw [e] at hy
  rcases Nat.lt_or_ge k sto.length with hk | hk
  ·rw [List.getElem?_append_left hk] at hy
   exact .inr (.inr (.inl ⟨by simp, hy⟩))
  ·rw [List.getElem?_append_right hk, List.getElem?_map, Option.map_eq_some_iff] at hy
   obtain ⟨o, ho, rfl⟩ := hy
   exact .inr (.inr (.inr ⟨o, hk, by simpa using ho, rfl⟩))
 | id :: m, [], sto, h, hn, k, y, hy => by simp at h
 | id :: m, o :: os, sto, h, hn, k, y, hy => by
  simp only [putBack] at hy
  obtain ⟨hn1, hn2⟩ := List.nodup_cons.1 hn
  rcases putBack_get f m os _ (by simpa using h) hn2 k y hy with rfl | ⟨j, o', x, h1, h2, h3, h4, h5⟩ | ⟨h1, h2⟩ | ⟨o', h1, h2, h3⟩
  ·exact .inl rfl
  ·have hne : k ≠ id := fun e => hn1 (by subst e; exact List.mem_of_getElem? h1)
   rw [List.getElem?_set_ne (Ne.symm hne)] at h3
   exact .inr (.inl ⟨j + 1, o', x, by simpa using h1, by simpa using h2, h3, h4, h5⟩)
  ·by_cases e : k = id
   ·subst e
    have hk : k < sto.length := by
     have := (List.getElem?_eq_some_iff.1 h2).1
     simpa using this
    rw [List.getElem?_set_self hk] at h2
    cases h2
    have hx := List.getElem?_eq_getElem hk
    rw [hx]
    generalize sto[k] = x at hx ⊢
    cases x with
    | dead => exact .inl rfl
    | row a b c => exact .inr (.inl ⟨0, o, _, rfl, rfl, rfl, rfl, rfl⟩)
    | mp a => exact .inr (.inl ⟨0, o, _, rfl, rfl, rfl, rfl, rfl⟩)
    | iter a b => exact .inr (.inl ⟨0, o, _, rfl, rfl, rfl, rfl, rfl⟩)
   ·rw [List.getElem?_set_ne (Ne.symm e)] at h2
    exact .inr (.inr (.inl ⟨by simp [e, h1], h2⟩))
  ·simp only [List.length_set] at h1 h2
   refine .inr (.inr (.inr ⟨o', h1, ?_, h3⟩))
   rw [show (id :: m).length + (k - sto.length) = (m.length + (k - sto.length)) + 1 by simp; omega]
   simpa using h2
def backB (β : Bl) (base n : Nat) (β2 : Bl) : Bl := fun id => if id < base then β id else β2 (n + (id - base))
theorem putBack_sound (hS : SRel w F β sto) {m : List Nat} (hn : m.Nodup) {w2 : World} {F2 : Nat → Prop} {β2 : Bl} {sto2 : List Obj} (hlen : m.length ≤ sto2.length) (hS2 : SRel w2 F2 β2 sto2) (hE : Ext w F (cmpB β m) (pickS (renId m) sto m) w2 F2 β2 sto2) :
  SRel w2 F2 (backB β sto.length m.length β2) (putBack (backId m sto.length) m sto2 sto) ∧ Ext w F β sto w2 F2 (backB β sto.length m.length β2) (putBack (backId m sto.length) m sto2 sto) ∧
  ∀ id j b, backId m sto.length j = some id → β2 j = some b → backB β sto.length m.length β2 id = some b := by
 have hlo : ∀ id, id < sto.length → backB β sto.length m.length β2 id = β id := fun id h => by simp [backB, h]
 have hhi : ∀ id, sto.length ≤ id → backB β sto.length m.length β2 id = β2 (m.length + (id - sto.length)) := fun id h => by
  unfold backB; rw [if_neg (by omega)]
 have hsame : ∀ j k, m[j]? = some k → β2 j = β k := fun j k h => by
  rw [hE.same j (by rw [pickS_len]; exact (List.getElem?_eq_some_iff.1 h).1), cmpB_some h]
 have hback : ∀ id j b, backId m sto.length j = some id → β2 j = some b → backB β sto.length m.length β2 id = some b := by
  intro id j b h hb
  unfold backId at h
  split at h
  ·rename_i k hk
   cases h
   rw [hsame j _ hk] at hb
   rw [hlo _ (hS.βlt hb)]; exact hb
  ·rename_i hk
   cases h
   have hj : m.length ≤ j := by
    apply Classical.byContradiction
    intro h
    rw [List.getElem?_eq_getElem (by omega)] at hk; cases hk
   rw [hhi _ (Nat.le_add_right _ _), show m.length + (sto.length + (j - m.length) - sto.length) = j by omega]
   exact hb
 have wrp : ∀ (i : Nat) (o : Obj) (b : Nat), (pickS (renId m) sto m)[i]? = some o → o.wr = true → cmpB β m i = some b → ∃ id x, m[i]? = some id ∧ sto[id]? = some x ∧ x.wr = true ∧ β id = some b := by
  intro i o b ho hw hb
  rcases pickS_get ho with rfl | ⟨id, x, h1, h2, rfl⟩
  ·cases hw
  ·rw [renObj_wr] at hw
   rw [cmpB_some h1] at hb
   exact ⟨id, x, h1, h2, hw, hb⟩
 have wl : ∀ o : Obj, o.wr = true → o.live = true := fun o h => by cases o <;> first | rfl | cases h
 have hm : Mono w F β w2 F2 (backB β sto.length m.length β2) := ⟨hE.mono.hF, hE.mono.hw, fun id b hb => by rw [hlo id (hS.βlt hb)]; exact hb, hE.mono.hsh⟩
 have away : ∀ (k : Nat) (y : Obj) (b : Nat), k ∉ m → sto[k]? = some y → y.live = true → β k = some b → ∀ (i : Nat) (o : Obj), (pickS (renId m) sto m)[i]? = some o → o.wr = true → cmpB β m i ≠ some b := by
  intro k y b hk hy hl hb i o ho hw he
  obtain ⟨id, x, h1, h2, h3, h4⟩ := wrp i o b ho hw he
  have := hS.inj k id y x b hy h2 hl (wl x h3) hb h4
  subst this
  exact hk (List.mem_of_getElem? h1)
 refine ⟨⟨fun k y hy => ?_, fun k hk => ?_, fun k b hb => ?_, hS2.flt, fun k k' y y' b hy hy' hl hl' hb hb' => ?_, hS.gl.mono hm⟩, ⟨hm, hE.os, hE.tape, hE.output, hE.drew, hE.size, fun b hb hno => ?_, ?_, hlo, fun id b hid hb => ?_, fun b hb => ?_, fun k y hy => ?_⟩, hback⟩
 ·rcases putBack_get _ m sto2 sto hlen hn k y hy with rfl | ⟨j, o, x, h1, h2, h3, h4, rfl⟩ | ⟨h1, h2⟩ | ⟨o, h1, h2, rfl⟩
  ·trivial
  ·exact (hS2.obj j o h2).ren (fun id j b h1 h2 => hback j id b h1 h2) (by rw [hlo k (List.getElem?_eq_some_iff.1 h3).1]; exact (hsame j k h1).symm)
  ·have hk := (List.getElem?_eq_some_iff.1 h2).1
   cases hl : y.live with
   | false =>
    cases y <;> first | trivial | cases hl
   | true =>
    refine (hS.obj k y h2).mono hm (hlo k hk) (fun b hb => ?_) fun b hb hw hf => ?_
    ·exact hE.keep b (hS.lt k b hb) (away k y b h1 h2 hl hb)
    ·rcases hE.frz b hf with h | h | ⟨i, o, h3, h4, h5⟩
     ·exact h
     ·have := hS.lt k b hb; omega
     ·exact absurd h5 (away k y b h1 h2 hl hb i o h3 h4)
  ·exact (hS2.obj _ o h2).ren (fun id j b h1 h2 => hback j id b h1 h2) (hhi k h1)
 ·rw [putBack_len _ m sto2 sto hlen] at hk
  rw [hhi k (by omega)]
  exact hS2.dom _ (by omega)
 ·rcases Nat.lt_or_ge k sto.length with h | h
  ·rw [hlo k h] at hb
   exact Nat.lt_of_lt_of_le (hS.lt k b hb) hE.size
  ·rw [hhi k h] at hb
   exact hS2.lt _ b hb
 ·have src : ∀ (k : Nat) (y : Obj), (putBack (backId m sto.length) m sto2 sto)[k]? = some y → y.live = true → backB β sto.length m.length β2 k = some b →
    (∃ j o, sto2[j]? = some o ∧ o.live = true ∧ β2 j = some b ∧ (m[j]? = some k ∧ (∃ x, sto[k]? = some x ∧ x.live = true ∧ β k = some b) ∨ sto.length ≤ k ∧ j = m.length + (k - sto.length))) ∨ (k ∉ m ∧ sto[k]? = some y ∧ β k = some b) := by
   intro k y hy hl hb
   rcases putBack_get _ m sto2 sto hlen hn k y hy with rfl | ⟨j, o, x, h1, h2, h3, h4, rfl⟩ | ⟨h1, h2⟩ | ⟨o, h1, h2, rfl⟩
   ·cases hl
   ·rw [hlo k (List.getElem?_eq_some_iff.1 h3).1] at hb
    rw [renObj_live] at hl
    exact .inl ⟨j, o, h2, hl, by rw [hsame j k h1]; exact hb, .inl ⟨h1, x, h3, h4, hb⟩⟩
   ·rw [hlo k (List.getElem?_eq_some_iff.1 h2).1] at hb
    exact .inr ⟨h1, h2, hb⟩
   ·rw [hhi k h1] at hb
    rw [renObj_live] at hl
    exact .inl ⟨_, o, h2, hl, hb, .inr ⟨h1, rfl⟩⟩
  have cross : ∀ (k k' : Nat) (y : Obj), k ∉ m → sto[k]? = some y → y.live = true → β k = some b → (∃ j o, sto2[j]? = some o ∧ o.live = true ∧ β2 j = some b ∧ (m[j]? = some k' ∧ (∃ x, sto[k']? = some x ∧ x.live = true ∧ β k' = some b) ∨ sto.length ≤ k' ∧ j = m.length + (k' - sto.length))) → False := by
   intro k k' y hk hy hl hb ⟨j, o, h1, h2, h3, h4⟩
   rcases h4 with ⟨h5, x, h6, h7, h8⟩ | ⟨h5, h6⟩
   ·have := hS.inj k k' y x b hy h6 hl h7 hb h8
    subst this
    exact hk (List.mem_of_getElem? h5)
   ·rcases hE.new j b (by rw [pickS_len]; omega) h3 with h | ⟨i, o', h7, h8, h9⟩
    ·have := hS.lt k b hb; omega
    ·exact away k y b hk hy hl hb i o' h7 h8 h9
  rcases src k y hy hl hb with ⟨j, o, h1, h2, h3, h4⟩ | ⟨h1, h2, h3⟩
  ·rcases src k' y' hy' hl' hb' with ⟨j', o', h1', h2', h3', h4'⟩ | ⟨h1', h2', h3'⟩
   ·have hj := hS2.inj j j' o o' b h1 h1' h2 h2' h3 h3'
    subst hj
    rcases h4 with ⟨h5, _⟩ | ⟨h5, h6⟩ <;> rcases h4' with ⟨h5', _⟩ | ⟨h5', h6'⟩
    ·rw [h5] at h5'; cases h5'; rfl
    ·have := (List.getElem?_eq_some_iff.1 h5).1; omega
    ·have := (List.getElem?_eq_some_iff.1 h5').1; omega
    ·omega
   ·exact (cross k' k y' h1' h2' hl' h3' ⟨j, o, h1, h2, h3, h4⟩).elim
  ·rcases src k' y' hy' hl' hb' with h' | ⟨h1', h2', h3'⟩
   ·exact (cross k k' y h1 h2 hl h3 h').elim
   ·exact hS.inj k k' y y' b h2 h2' hl hl' h3 h3'
 ·refine hE.keep b hb fun i o ho hw he => ?_
  obtain ⟨id, x, h1, h2, h3, h4⟩ := wrp i o b ho hw he
  exact hno id x h2 h3 h4
 ·rw [putBack_len _ m sto2 sto hlen]; omega
 ·rw [hhi id hid] at hb
  rcases hE.new _ b (by rw [pickS_len]; omega) hb with h | ⟨i, o, h1, h2, h3⟩
  ·exact .inl h
  ·obtain ⟨id', x, _, h5, h6, h7⟩ := wrp i o b h1 h2 h3
   exact .inr ⟨id', x, h5, h6, h7⟩
 ·rcases hE.frz b hb with h | h | ⟨i, o, h1, h2, h3⟩
  ·exact .inl h
  ·exact .inr (.inl h)
  ·obtain ⟨id', x, _, h5, h6, h7⟩ := wrp i o b h1 h2 h3
   exact .inr (.inr ⟨id', x, h5, h6, h7⟩)
 ·have hk := (List.getElem?_eq_some_iff.1 hy).1
  have hk2 : k < (putBack (backId m sto.length) m sto2 sto).length := by rw [putBack_len _ m sto2 sto hlen]; omega
  refine ⟨_, List.getElem?_eq_getElem hk2, fun hw => ?_⟩
  rcases putBack_get _ m sto2 sto hlen hn k _ (List.getElem?_eq_getElem hk2) with h | ⟨j, o, x, h1, h2, h3, h4, h5⟩ | ⟨h1, h2⟩ | ⟨o, h1, h2, h3⟩
  ·rw [h]; rfl
  ·rw [h5, renObj_wr]
   rw [hy] at h3
   cases h3
   have hj : (pickS (renId m) sto m)[j]? = some (renObj (renId m) y) := by
    rw [pickS_eq, List.getElem?_map, h1]; simp [hy]
   obtain ⟨o', h6, h7⟩ := hE.wr j _ hj
   rw [h2] at h6
   cases h6
   exact h7 (by rw [renObj_wr]; exact hw)
  ·rw [hy] at h2
   rw [← Option.some.inj h2]; exact hw
  ·omega
theorem ERes.ren {w2 : World} {F2 : Nat → Prop} {β2 β' : Bl} {f : Nat → Option Nat} (hf : ∀ id j b, f j = some id → β2 j = some b → β' id = some b) {out : Out} {e : Ending} (h : ERes w2 F2 β2 out e) : ERes w2 F2 β' (renOut f out) e := by
 cases out <;> cases e <;> simp only [ERes] at h <;> simp only [renOut, ERes]
 ·exact h.ren fun id j b h1 h2 => hf j id b h1 h2
 ·obtain ⟨u, h1, h2⟩ := h
  exact ⟨u, h1, h2.ren fun id j b h1 h2 => hf j id b h1 h2⟩
def SoundK (K : FuncId → Array Value → World → (Ending → World → Prop) → Prop) (C : Calling) : Prop :=
 ∀ (f : FuncId) (args : List AV) (sto : List Obj) (out : Out) (sto' : List Obj), C f args sto = some (out, sto') →
  ∀ (w : World) (F : Nat → Prop) (β : Bl) (us : Array Value), SRel w F β sto → ARel w F β args us → K f us w (Res w F β sto out sto')
def MonoK (K : FuncId → Array Value → World → (Ending → World → Prop) → Prop) : Prop := ∀ f us w R R', K f us w R → (∀ e w', R e w' → R' e w') → K f us w R'
theorem goCall_soundK {K : FuncId → Array Value → World → (Ending → World → Prop) → Prop} (hm : MonoK K) {C : Calling} (hC : SoundK K C) {byref : List Nat} {g : FuncId} {vs vs' : List AV} {sto' sto2 : List Obj} {out : Out} (hp : prep byref 0 vs sto = some (vs', sto'))
  (hc : C g (renL (renId (reach sto' fuelR (refsL vs') [])) vs') (pickS (renId (reach sto' fuelR (refsL vs') [])) sto' (reach sto' fuelR (refsL vs') [])) = some (out, sto2)) (hlen : (reach sto' fuelR (refsL vs') []).length ≤ sto2.length)
  (hS : SRel w F β sto) {us : Array Value} (hus : ARel w F β vs us) :
  K g us w (Res w F β sto (renOut (backId (reach sto' fuelR (refsL vs') []) sto'.length) out) (putBack (backId (reach sto' fuelR (refsL vs') []) sto'.length) (reach sto' fuelR (refsL vs') []) sto2 sto')) := by
 obtain ⟨F1, h1, h2, h3, h4⟩ := prep_sound vs 0 sto F vs' sto' hp hS
 have hn := (reach_spec sto' fuelR (refsL vs') [] List.nodup_nil).1
 revert hc hlen hn
 generalize reach sto' fuelR (refsL vs') [] = m
 intro hc hlen hn
 have harg : ARel w F1 (cmpB β m) (renL (renId m) vs') us := by
  refine ⟨by rw [hus.1, renL_eq, List.length_map, h3], fun j y u hy hu => ?_⟩
  obtain ⟨z, hz, rfl⟩ := getElem?_renL hy
  obtain ⟨v, hv, h5⟩ := h4 j z hz
  exact (h5 u (hus.2 j v u hv hu)).ren (renId_cmp m)
 refine hm g us w _ _ (hC g _ _ out sto2 hc w F1 (cmpB β m) us (h1.pick hn) harg) fun e w' hR => ?_
 obtain ⟨F2, β2, h5, h6, h7⟩ := hR
 obtain ⟨h8, h9, h10⟩ := putBack_sound h1 hn hlen h6 h7
 exact ⟨F2, _, h5.ren h10, h8, h2.trans h9⟩
theorem callOp_soundK {K : FuncId → Array Value → World → (Ending → World → Prop) → Prop} (hm : MonoK K) {C : Calling} (hC : SoundK K C) {byref : FuncId → List Nat} {f : AV} {args : List AV} {out : Out} {sto' : List Obj} (h : callOp C byref f args sto = some (out, sto')) (hS : SRel w F β sto)
  {uf : Value} (hf : VRel w F β f uf) {us : Array Value} (hus : ARel w F β args us) : ∃ g first cap, uf = .func (.func g) first cap ∧ K g (first ++ us ++ cap) w (Res w F β sto out sto') := by
 have app : ∀ (l1 l2 l3 : List AV) (u1 u2 u3 : Array Value), ARel w F β l1 u1 → ARel w F β l2 u2 → ARel w F β l3 u3 → ARel w F β (l1 ++ l2 ++ l3) (u1 ++ u2 ++ u3) := by
  have two : ∀ (l1 l2 : List AV) (u1 u2 : Array Value), ARel w F β l1 u1 → ARel w F β l2 u2 → ARel w F β (l1 ++ l2) (u1 ++ u2) := by
   intro l1 l2 u1 u2 h1 h2
   refine ⟨by simp [h1.1, h2.1], fun j y u hy hu => ?_⟩
   rcases Nat.lt_or_ge j l1.length with hj | hj
   ·rw [List.getElem?_append_left hj] at hy
    rw [Array.getElem?_append_left (by rw [h1.1]; exact hj)] at hu
    exact h1.2 j y u hy hu
   ·rw [List.getElem?_append_right hj] at hy
    rw [Array.getElem?_append_right (by rw [h1.1]; exact hj), h1.1] at hu
    exact h2.2 _ y u hy hu
  intro l1 l2 l3 u1 u2 u3 h1 h2 h3
  exact two _ _ _ _ (two _ _ _ _ h1 h2) h3
 unfold callOp at h
 split at h
 ·rename_i g a b
  cases hf with | d _ _ hd => cases hd with | func _ _ _ ua ub ha hb hra hrb =>
  refine ⟨g, ua, ub, rfl, ?_⟩
  have h1 : ARel w F β (a.map .d) ua := ⟨by simp [ha], fun j y u hy hu => by
   rw [List.getElem?_map, Option.map_eq_some_iff] at hy
   obtain ⟨z, hz, rfl⟩ := hy
   exact .d _ _ (hra j z u hz hu)⟩
  have h2 : ARel w F β (b.map .d) ub := ⟨by simp [hb], fun j y u hy hu => by
   rw [List.getElem?_map, Option.map_eq_some_iff] at hy
   obtain ⟨z, hz, rfl⟩ := hy
   exact .d _ _ (hrb j z u hz hu)⟩
  dsimp only at h
  split at h
  ·rename_i vs' sto1 hp
   split at h
   ·rename_i out1 sto2 hc
    split at h
    ·rename_i hlen
     cases h
     exact goCall_soundK hm hC hp hc hlen hS (app _ _ _ _ _ _ h1 hus h2)
    ·cases h
   ·cases h
  ·cases h
 ·rename_i g a b
  cases hf with | func _ _ _ ua ub ha hb hra hrb =>
  refine ⟨g, ua, ub, rfl, ?_⟩
  dsimp only at h
  split at h
  ·rename_i vs' sto1 hp
   split at h
   ·rename_i out1 sto2 hc
    split at h
    ·rename_i hlen
     cases h
     exact goCall_soundK hm hC hp hc hlen hS (app _ _ _ _ _ _ ⟨ha, hra⟩ hus ⟨hb, hrb⟩)
    ·cases h
   ·cases h
  ·cases h
 ·cases h
theorem callOp_sound {P : Program} {C : Calling} (hC : Sound P C) {byref : FuncId → List Nat} {f : AV} {args : List AV} {out : Out} {sto' : List Obj} (h : callOp C byref f args sto = some (out, sto')) (hS : SRel w F β sto)
  {uf : Value} (hf : VRel w F β f uf) {us : Array Value} (hus : ARel w F β args us) : ∃ g first cap, uf = .func (.func g) first cap ∧ CallsF P g (first ++ us ++ cap) w (Res w F β sto out sto') :=
 callOp_soundK (K := CallsF P) (fun f us w R R' h hr => h.mono hr) hC h hS hf hus
end
end Go.Proofs.YtjnfkifdgojdaaaGreat.V

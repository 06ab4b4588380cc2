/- Steps of the world and what they do to the store: a new block, a written block. -/
import Derived.Test.YtjnfkifdgojdaaaGreatV2
namespace Go.Proofs.YtjnfkifdgojdaaaGreat.V
open Go
set_option linter.unusedVariables false
set_option linter.unusedSimpArgs false
set_option linter.unusedSectionVars false
variable [Inhabited Flag]
theorem Known.mono {w w' : World} {F F' : Nat → Prop} {β β' : Bl} (h : Known w F) (hm : Mono w F β w' F' β') : Known w' F' := fun x hx => by
 obtain ⟨h1, T, fr, h2⟩ := h x hx
 exact ⟨hm.hF _ h1, T, fr, by rw [hm.hw _ h1]; exact h2⟩
structure Ext (w : World) (F : Nat → Prop) (β : Bl) (sto : List Obj) (w' : World) (F' : Nat → Prop) (β' : Bl) (sto' : List Obj) : Prop where
 mono : Mono w F β w' F' β'
 os : w'.os = w.os
 tape : w'.tape = w.tape
 output : w'.output = w.output
 drew : drOn → w.drawn ≤ w'.drawn
 size : w.heap.size ≤ w'.heap.size
 keep : ∀ b, b < w.heap.size → (∀ (id : Nat) (o : Obj), sto[id]? = some o → o.wr = true → β id ≠ some b) → w'.heap[b]? = w.heap[b]?
 len : sto.length ≤ sto'.length
 same : ∀ id, id < sto.length → β' id = β id
 new : ∀ id b, sto.length ≤ id → β' id = some b → w.heap.size ≤ b ∨ ∃ (i : Nat) (o : Obj), sto[i]? = some o ∧ o.wr = true ∧ β i = some b
 frz : ∀ b, F' b → F b ∨ w.heap.size ≤ b ∨ ∃ (i : Nat) (o : Obj), sto[i]? = some o ∧ o.wr = true ∧ β i = some b
 wr : ∀ (id : Nat) (o : Obj), sto[id]? = some o → ∃ o', sto'[id]? = some o' ∧ (o.wr = false → o'.wr = false)
theorem Ext.refl (w : World) (F : Nat → Prop) (β : Bl) (sto : List Obj) (hd : ∀ id, sto.length ≤ id → β id = none) : Ext w F β sto w F β sto :=
 ⟨Mono.refl _ _ _, rfl, rfl, rfl, fun _ => Nat.le_refl _, Nat.le_refl _, fun _ _ _ => rfl, Nat.le_refl _, fun _ _ => rfl, fun id b h hb => (by rw [hd id h] at hb; cases hb), fun _ h => .inl h, fun _ o h => ⟨o, h, fun h => h⟩⟩
theorem Ext.trans {w : World} {F : Nat → Prop} {β : Bl} {sto : List Obj} {w1 : World} {F1 : Nat → Prop} {β1 : Bl} {sto1 : List Obj} {w2 : World} {F2 : Nat → Prop} {β2 : Bl} {sto2 : List Obj}
  (h : Ext w F β sto w1 F1 β1 sto1) (k : Ext w1 F1 β1 sto1 w2 F2 β2 sto2) : Ext w F β sto w2 F2 β2 sto2 := by
 have back : ∀ b, b < w.heap.size → (∀ (id : Nat) (o : Obj), sto[id]? = some o → o.wr = true → β id ≠ some b) → ∀ (id : Nat) (o : Obj), sto1[id]? = some o → o.wr = true → β1 id ≠ some b := by
  intro b hb hn id o ho hw he
  rcases Nat.lt_or_ge id sto.length with hl | hl
  ·obtain ⟨o0, h0⟩ : ∃ o0, sto[id]? = some o0 := ⟨_, List.getElem?_eq_getElem hl⟩
   obtain ⟨o1, h1, h2⟩ := h.wr id o0 h0
   rw [ho] at h1
   cases h1
   rw [h.same id hl] at he
   cases hw0 : o0.wr with
   | true => exact hn id o0 h0 hw0 he
   | false => rw [h2 hw0] at hw; cases hw
  ·rcases h.new id b hl he with h3 | ⟨i, oi, h3, h4, h5⟩
   ·omega
   ·exact hn i oi h3 h4 h5
 have fwd : ∀ b, w1.heap.size ≤ b ∨ (∃ (i : Nat) (o : Obj), sto1[i]? = some o ∧ o.wr = true ∧ β1 i = some b) → w.heap.size ≤ b ∨ ∃ (i : Nat) (o : Obj), sto[i]? = some o ∧ o.wr = true ∧ β i = some b := by
  intro b hb
  by_cases hlt : b < w.heap.size
  ·by_cases hn : ∀ (id : Nat) (o : Obj), sto[id]? = some o → o.wr = true → β id ≠ some b
   ·rcases hb with hb | ⟨i, o, h1, h2, h3⟩
    ·have := h.size; omega
    ·exact absurd h3 (back b hlt hn i o h1 h2)
   ·refine .inr ?_
    apply Classical.byContradiction
    intro hc
    exact hn fun id o h1 h2 h3 => hc ⟨id, o, h1, h2, h3⟩
  ·exact .inl (by omega)
 refine ⟨h.mono.trans k.mono, k.os.trans h.os, k.tape.trans h.tape, k.output.trans h.output, fun hq => Nat.le_trans (h.drew hq) (k.drew hq), Nat.le_trans h.size k.size, fun b hb hn => ?_, Nat.le_trans h.len k.len, fun id hid => ?_, fun id b hid hb => ?_, fun b hb => ?_, fun id o ho => ?_⟩
 ·rw [k.keep b (Nat.lt_of_lt_of_le hb h.size) (back b hb hn), h.keep b hb hn]
 ·rw [k.same id (Nat.lt_of_lt_of_le hid h.len), h.same id hid]
 ·rcases Nat.lt_or_ge id sto1.length with hl | hl
  ·rw [k.same id hl] at hb
   exact h.new id b hid hb
  ·exact fwd b (k.new id b hl hb)
 ·rcases k.frz b hb with h1 | h1
  ·exact h.frz b h1
  ·exact .inr (fwd b h1)
 ·obtain ⟨o1, h1, h2⟩ := h.wr id o ho
  obtain ⟨o2, h3, h4⟩ := k.wr id o1 h1
  exact ⟨o2, h3, fun h0 => h4 (h2 h0)⟩
theorem Mono.heap {w w' : World} (F : Nat → Prop) (β : Bl) (h : w'.heap = w.heap) : Mono w F β w' F β :=
 ⟨fun _ h => h, fun _ _ => by rw [h], fun _ _ h => h, fun b c T fr hb => ⟨c, by rw [h]; exact hb, rfl⟩⟩
theorem SRel.heap {w w' : World} {F : Nat → Prop} {β : Bl} {sto : List Obj} (hS : SRel w F β sto) (h : w'.heap = w.heap) : SRel w' F β sto :=
 ⟨fun id o ho => (hS.obj id o ho).mono (Mono.heap F β h) rfl (fun _ _ => by rw [h]) (fun _ _ _ hf => hf), hS.dom, fun id b hb => by rw [h]; exact hS.lt id b hb, fun b hb => by rw [h]; exact hS.flt b hb, hS.inj, hS.gl.mono (Mono.heap F β h)⟩
theorem Ext.heap {w w' : World} {F : Nat → Prop} {β : Bl} {sto : List Obj} (hS : SRel w F β sto) (h : w'.heap = w.heap) (ho : w'.os = w.os) (ht : w'.tape = w.tape) (hp : w'.output = w.output) (hd : drOn → w.drawn ≤ w'.drawn) : Ext w F β sto w' F β sto :=
 ⟨Mono.heap F β h, ho, ht, hp, hd, by rw [h]; exact Nat.le_refl _, fun _ _ _ => by rw [h], Nat.le_refl _, fun _ _ => rfl, fun id b hi hb => (by rw [hS.dom id hi] at hb; cases hb), fun _ h => .inl h, fun _ o h => ⟨o, h, fun h => h⟩⟩
def upB (β : Bl) (n b : Nat) : Bl := fun id => if id = n then some b else β id
theorem upB_self (β : Bl) (n b : Nat) : upB β n b n = some b := by simp [upB]
theorem upB_lt (β : Bl) (n b id : Nat) (h : id < n) : upB β n b id = β id := by simp [upB, Nat.ne_of_lt h]
theorem heap_alloc_lt (w : World) (o : Go.Obj) (b : Nat) (h : b < w.heap.size) : (w.alloc o).heap[b]? = w.heap[b]? := heap_alloc_old w o b h
theorem heap_alloc_eq (w : World) (o : Go.Obj) : (w.alloc o).heap[w.heap.size]? = some o := heap_alloc_new w o
theorem SRel.βlt {w : World} {F : Nat → Prop} {β : Bl} {sto : List Obj} (hS : SRel w F β sto) {id b : Nat} (h : β id = some b) : id < sto.length := by
 apply Classical.byContradiction
 intro hn
 rw [hS.dom id (by omega)] at h
 cases h
theorem Mono.alloc {w : World} {F : Nat → Prop} {β : Bl} {sto : List Obj} (hS : SRel w F β sto) (o : Go.Obj) : Mono w F β (w.alloc o) F (upB β sto.length w.heap.size) :=
 ⟨fun _ h => h, fun b hb => heap_alloc_lt w o b (hS.flt b hb), fun id b hb => by rw [upB_lt _ _ _ _ (hS.βlt hb)]; exact hb, fun b c T fr hb => ⟨c, by rw [heap_alloc_lt w o b (Array.getElem?_eq_some_iff.1 hb).1]; exact hb, rfl⟩⟩
theorem alloc_obj {w : World} {F : Nat → Prop} {β : Bl} {sto : List Obj} (hS : SRel w F β sto) (o : Go.Obj) (x : Obj) (hx : ORel (w.alloc o) F (upB β sto.length w.heap.size) sto.length x) :
  SRel (w.alloc o) F (upB β sto.length w.heap.size) (sto ++ [x]) ∧ Ext w F β sto (w.alloc o) F (upB β sto.length w.heap.size) (sto ++ [x]) := by
 have hm := Mono.alloc hS o
 have hget : ∀ (id : Nat) (y : Obj), (sto ++ [x])[id]? = some y → (id < sto.length ∧ sto[id]? = some y) ∨ (id = sto.length ∧ y = x) := by
  intro id y hy
  rcases Nat.lt_trichotomy id sto.length with h | h | h
  ·rw [List.getElem?_append_left h] at hy; exact .inl ⟨h, hy⟩
  ·subst h; simp at hy; exact .inr ⟨rfl, hy.symm⟩
  ·rw [List.getElem?_eq_none (by simp; omega)] at hy; cases hy
 refine ⟨⟨fun id y hy => ?_, fun id hid => ?_, fun id b hb => ?_, fun b hb => ?_, fun id id' y y' b hy hy' hl hl' hb hb' => ?_, hS.gl.mono hm⟩, ⟨hm, rfl, rfl, rfl, fun _ => Nat.le_refl _, by simp, fun b hb _ => heap_alloc_lt w o b hb, by simp, fun id hid => upB_lt _ _ _ _ hid, fun id b hid hb => ?_, fun _ h => .inl h, fun id y hy => ⟨y, by rw [List.getElem?_append_left (List.getElem?_eq_some_iff.1 hy).1]; exact hy, fun h => h⟩⟩⟩
 ·rcases hget id y hy with ⟨hl, h⟩ | ⟨rfl, rfl⟩
  ·exact (hS.obj id y h).mono hm (upB_lt _ _ _ _ hl) (fun b hb => heap_alloc_lt w o b (hS.lt id b hb)) (fun _ _ _ hf => hf)
  ·exact hx
 ·simp only [List.length_append, List.length_singleton] at hid
  simp only [upB]
  rw [if_neg (by omega)]
  exact hS.dom id (by omega)
 ·simp only [World.size_alloc]
  simp only [upB] at hb
  split at hb
  ·cases hb; omega
  ·have := hS.lt id b hb; omega
 ·have := hS.flt b hb; simp only [World.size_alloc]; omega
 ·simp only [upB] at hb hb'
  split at hb <;> split at hb'
  ·omega
  ·cases hb; have := hS.lt id' _ hb'; omega
  ·cases hb'; have := hS.lt id _ hb; omega
  ·rcases hget id y hy with ⟨hi, h⟩ | ⟨rfl, _⟩
   ·rcases hget id' y' hy' with ⟨hi', h'⟩ | ⟨rfl, _⟩
    ·exact hS.inj id id' y y' b h h' hl hl' hb hb'
    ·contradiction
   ·contradiction
 ·simp only [upB] at hb
  split at hb
  ·cases hb; exact .inl (Nat.le_refl _)
  ·rw [hS.dom id hid] at hb; cases hb
theorem alloc_row {w : World} {F : Nat → Prop} {β : Bl} {sto : List Obj} (hS : SRel w F β sto) (c : Array Value) (T : TypeId) (es : Nat) (xs : List AV)
  (hes : ∀ (i : Nat) (x : AV), xs[i]? = some x → x.cells.length = es) (hsz : xs.length * es ≤ c.size)
  (hr : ∀ (i : Nat) (x : AV) (j : Nat) (y : AV) (u : Value), xs[i]? = some x → x.cells[j]? = some y → c[i * es + j]? = some u → VRel w F β y u ∧ u.oneCell' = true) :
  SRel (w.alloc (.cells c T)) F (upB β sto.length w.heap.size) (sto ++ [.row es xs false]) ∧ Ext w F β sto (w.alloc (.cells c T)) F (upB β sto.length w.heap.size) (sto ++ [.row es xs false]) := by
 refine alloc_obj hS _ _ ⟨fun h => (by rw [upB_self] at h; cases h), hes, fun b hb => ?_⟩
 rw [upB_self] at hb
 cases hb
 refine ⟨c, T, (0, 0), heap_alloc_eq _ _, hsz, fun i x j y u hx hy hu => ⟨((hr i x j y u hx hy hu).1).mono (Mono.alloc hS _), (hr i x j y u hx hy hu).2⟩, fun h => (by cases h), fun _ => ⟨fun hf => ?_, rfl⟩⟩
 have := hS.flt _ hf
 omega
theorem write_obj {w w' : World} {F : Nat → Prop} {β : Bl} {sto : List Obj} (hS : SRel w F β sto) (id b : Nat) (o x : Obj) (ho : sto[id]? = some o) (hw : o.wr = true) (hb : β id = some b)
  (hx1 : x.wr = true) (hos : w'.os = w.os) (htp : w'.tape = w.tape) (hout : w'.output = w.output) (hdr : drOn → w.drawn ≤ w'.drawn) (hsz : w'.heap.size = w.heap.size) (hoth : ∀ k, k ≠ b → w'.heap[k]? = w.heap[k]?)
  (hsh : ∀ (c : Array Value) (T : TypeId) (fr : Nat × Nat), w.heap[b]? = some (.cells c T fr) → ∃ c' : Array Value, w'.heap[b]? = some (.cells c' T fr) ∧ c'.size = c.size)
  (hnF : ¬ F b) (hx : Mono w F β w' F β → ORel w' F β id x) : SRel w' F β (sto.set id x) ∧ Ext w F β sto w' F β (sto.set id x) := by
 have hm : Mono w F β w' F β := ⟨fun _ h => h, fun k hk => hoth k (fun e => hnF (e ▸ hk)), fun _ _ h => h, fun k c T fr hk => by
  by_cases e : k = b
  ·subst e; exact hsh c T fr hk
  ·exact ⟨c, by rw [hoth k e]; exact hk, rfl⟩⟩
 have hlt := (List.getElem?_eq_some_iff.1 ho).1
 have hget : ∀ (i : Nat) (y : Obj), (sto.set id x)[i]? = some y → (i ≠ id ∧ sto[i]? = some y) ∨ (i = id ∧ y = x) := by
  intro i y hy
  by_cases e : i = id
  ·subst e; rw [List.getElem?_set_self hlt] at hy; cases hy; exact .inr ⟨rfl, rfl⟩
  ·rw [List.getElem?_set_ne (Ne.symm e)] at hy; exact .inl ⟨e, hy⟩
 have hol : o.live = true := by cases o <;> simp_all [Obj.live, Obj.wr]
 have hxl : x.live = true := by cases x <;> simp_all [Obj.live, Obj.wr]
 refine ⟨⟨fun i y hy => ?_, fun i hi => hS.dom i (by simpa using hi), fun i k hk => by rw [hsz]; exact hS.lt i k hk, fun k hk => by rw [hsz]; exact hS.flt k hk, fun i i' y y' k hy hy' hl hl' hk hk' => ?_, hS.gl.mono hm⟩, ⟨hm, hos, htp, hout, hdr, by rw [hsz]; exact Nat.le_refl _, fun k hk hn => hoth k (fun e => hn id o ho hw (e ▸ hb)), by simp, fun _ _ => rfl, fun i k hi hk => (by rw [hS.dom i hi] at hk; cases hk), fun _ h => .inl h, fun i y hy => ?_⟩⟩
 ·rcases hget i y hy with ⟨e, h⟩ | ⟨rfl, rfl⟩
  ·by_cases hyl : y.live = true
   ·refine (hS.obj i y h).mono hm rfl (fun k hk => hoth k fun hkb => e ?_) (fun _ _ _ hf => hf)
    exact hS.inj i id y o b h ho hyl hol (hkb ▸ hk) hb
   ·cases y <;> simp_all [Obj.live, ORel]
  ·exact hx hm
 ·rcases hget i y hy with ⟨e, h⟩ | ⟨rfl, rfl⟩ <;> rcases hget i' y' hy' with ⟨e', h'⟩ | ⟨rfl, rfl⟩
  ·exact hS.inj i i' y y' k h h' hl hl' hk hk'
  ·exact hS.inj i i' y o k h ho hl hol hk hk'
  ·exact hS.inj i i' o y' k ho h' hol hl' hk hk'
  ·rfl
 ·by_cases e : i = id
  ·subst e
   rw [ho] at hy
   cases hy
   exact ⟨x, List.getElem?_set_self hlt, fun h => by rw [hw] at h; cases h⟩
  ·exact ⟨y, by rw [List.getElem?_set_ne (Ne.symm e)]; exact hy, fun h => h⟩
end Go.Proofs.YtjnfkifdgojdaaaGreat.V

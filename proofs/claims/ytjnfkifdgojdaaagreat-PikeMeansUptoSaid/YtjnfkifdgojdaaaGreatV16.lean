/- A value by its contents: what it is of is written no more. -/
import Derived.Test.YtjnfkifdgojdaaaGreatV15
namespace Go.Proofs.YtjnfkifdgojdaaaGreat.V
open Go
set_option linter.unusedVariables false
set_option linter.unusedSimpArgs false
set_option linter.unusedSectionVars false
variable [Inhabited Flag]
section
variable {w : World} {F : Nat → Prop} {β : Bl} {sto : List Obj}
def IsRow (sto : List Obj) (id : Nat) : Prop := ∃ (es : Nat) (xs : List AV) (z : Bool), sto[id]? = some (.row es xs z)
theorem freeze_one (hS : SRel w F β sto) (id : Nat) : ∃ F' : Nat → Prop, SRel w F' β (freezeAt sto id) ∧ Ext w F β sto w F' β (freezeAt sto id) ∧ (IsRow sto id → ∀ b, β id = some b → F' b) ∧ ∀ k, IsRow sto k → IsRow (freezeAt sto id) k := by
 unfold freezeAt
 split
 ·rename_i es xs z hx
  have hid := (List.getElem?_eq_some_iff.1 hx).1
  have hF' : ∀ b, (F b ∨ β id = some b) → F b ∨ (z = false ∧ β id = some b) := by
   intro b hb
   rcases hb with hb | hb
   ·exact .inl hb
   ·cases z with
    | false => exact .inr ⟨rfl, hb⟩
    | true =>
     obtain ⟨_, _, h1⟩ := hS.obj id _ hx
     obtain ⟨c, T, fr, _, _, _, h5, _⟩ := h1 b hb
     exact .inl (h5 rfl)
  have hm : Mono w F β w (fun b => F b ∨ β id = some b) β := ⟨fun _ h => .inl h, fun _ _ => rfl, fun _ _ h => h, fun b c T fr h => ⟨c, h, rfl⟩⟩
  have hget : ∀ (k : Nat) (y : Obj), (sto.set id (.row es xs true))[k]? = some y → (k ≠ id ∧ sto[k]? = some y) ∨ (k = id ∧ y = .row es xs true) := by
   intro k y hy
   by_cases e : k = id
   ·subst e
    rw [List.getElem?_set_self hid] at hy
    cases hy; exact .inr ⟨rfl, rfl⟩
   ·rw [List.getElem?_set_ne (Ne.symm e)] at hy; exact .inl ⟨e, hy⟩
  have hlive : ∀ (k : Nat) (y : Obj), (sto.set id (.row es xs true))[k]? = some y → y.live = true → ∃ y', sto[k]? = some y' ∧ y'.live = true := by
   intro k y hy hl
   rcases hget k y hy with ⟨_, h⟩ | ⟨rfl, rfl⟩
   ·exact ⟨y, h, hl⟩
   ·exact ⟨_, hx, rfl⟩
  refine ⟨fun b => F b ∨ β id = some b, ⟨fun k y hy => ?_, fun k hk => hS.dom k (by simpa using hk), hS.lt, fun b hb => ?_, fun k k' y y' b hy hy' hl hl' hb hb' => ?_, hS.gl.mono hm⟩, ⟨hm, rfl, rfl, rfl, fun _ => Nat.le_refl _, Nat.le_refl _, fun _ _ _ => rfl, by simp, fun _ _ => rfl, fun k b hk hb => (by rw [hS.dom k hk] at hb; cases hb), fun b hb => ?_, fun k y hy => ?_⟩, fun _ b hb => .inr hb, fun k hk => ?_⟩
  ·rcases hget k y hy with ⟨hne, h⟩ | ⟨rfl, rfl⟩
   ·refine (hS.obj k y h).mono hm rfl (fun _ _ => rfl) fun b hb hw hf => ?_
    rcases hf with hf | hf
    ·exact hf
    ·exact absurd (hS.inj k id y _ b h hx (by cases y <;> first | rfl | cases hw) rfl hb hf) hne
   ·obtain ⟨h0, h1, h2⟩ := (hS.obj k _ hx).mono (β' := β) (F' := F) (w' := w) (Mono.refl w F β) rfl (fun _ _ => rfl) (fun _ _ _ h => h)
    refine ⟨h0, h1, fun b hb => ?_⟩
    obtain ⟨c, T, fr, h3, h4, h5, h6, h7⟩ := h2 b hb
    exact ⟨c, T, fr, h3, h4, fun i x j y u hx hy hu => ⟨(h5 i x j y u hx hy hu).1.mono hm, (h5 i x j y u hx hy hu).2⟩, fun _ => .inr hb, fun h => (by cases h)⟩
  ·rcases hb with hb | hb
   ·exact hS.flt b hb
   ·exact hS.lt id b hb
  ·obtain ⟨z1, e1, l1⟩ := hlive k y hy hl
   obtain ⟨z2, e2, l2⟩ := hlive k' y' hy' hl'
   exact hS.inj k k' z1 z2 b e1 e2 l1 l2 hb hb'
  ·rcases hF' b hb with h | ⟨rfl, h⟩
   ·exact .inl h
   ·exact .inr (.inr ⟨id, _, hx, rfl, h⟩)
  ·by_cases e : k = id
   ·subst e
    exact ⟨.row es xs true, List.getElem?_set_self hid, fun _ => rfl⟩
   ·exact ⟨y, by rw [List.getElem?_set_ne (Ne.symm e)]; exact hy, fun h => h⟩
  ·by_cases e : k = id
   ·subst e
    exact ⟨es, xs, true, List.getElem?_set_self hid⟩
   ·obtain ⟨a, b, c, h⟩ := hk
    exact ⟨a, b, c, by rw [List.getElem?_set_ne (Ne.symm e)]; exact h⟩
 ·rename_i hx
  exact ⟨F, hS, Ext.refl _ _ _ _ hS.dom, fun ⟨a, b, c, h⟩ => absurd h (hx a b c), fun _ h => h⟩
theorem freeze_all : ∀ (ids : List Nat) (sto : List Obj) (F : Nat → Prop), SRel w F β sto → ∃ F' : Nat → Prop, SRel w F' β (freezeAll sto ids) ∧ Ext w F β sto w F' β (freezeAll sto ids) ∧ ∀ id ∈ ids, IsRow sto id → ∀ b, β id = some b → F' b
 | [], sto, F, hS => ⟨F, hS, Ext.refl _ _ _ _ hS.dom, fun _ h => by cases h⟩
 | id :: r, sto, F, hS => by
  obtain ⟨F1, h1, h2, h3, h4⟩ := freeze_one hS id
  obtain ⟨F2, h5, h6, h7⟩ := freeze_all r (freezeAt sto id) F1 h1
  refine ⟨F2, h5, h2.trans h6, fun k hk hr b hb => ?_⟩
  rcases List.mem_cons.1 hk with rfl | hk
  ·exact h6.mono.hF b (h3 hr b hb)
  ·exact h7 k hk (h4 k hr) b hb
def Rows' (sto : List Obj) (ids : List Nat) : Prop := ∀ id ∈ ids, IsRow sto id
def Good (w : World) (F F' : Nat → Prop) (β : Bl) (v : AV) (x : D) : Prop :=
 x.cells.length = v.cells.length ∧ (∀ u, VRel w F β v u → DRel w F' x u) ∧ ∀ (j : Nat) (y : D), x.cells[j]? = some y → ∃ y0, v.cells[j]? = some y0 ∧ ∀ u, VRel w F β y0 u → DRel w F' y u
def GoodL (w : World) (F F' : Nat → Prop) (β : Bl) (vs : List AV) (xs : List D) : Prop :=
 xs.length = vs.length ∧ ∀ (j : Nat) (y : D), xs[j]? = some y → ∃ v, vs[j]? = some v ∧ Good w F F' β v y
def Fz (F' : Nat → Prop) (β : Bl) (ids : List Nat) : Prop := ∀ id ∈ ids, ∀ b, β id = some b → F' b
theorem Good.one {F' : Nat → Prop} {v : AV} {x : D} (hv : v.cells = [v]) (hx : x.cells = [x]) (h : ∀ u, VRel w F β v u → DRel w F' x u) : Good w F F' β v x := by
 refine ⟨by rw [hv, hx]; rfl, h, fun j y hy => ?_⟩
 rw [hx] at hy
 cases j with
 | zero => simp at hy; subst hy; exact ⟨v, by rw [hv]; rfl, h⟩
 | succ j => simp at hy
theorem Good.data {F' : Nat → Prop} (hF : ∀ b, F b → F' b) (x : D) : Good w F F' β (.d x) x := by
 have hc : (AV.d x).cells = x.cells.map .d := by cases x <;> rfl
 refine ⟨by rw [hc]; simp, fun u hu => ?_, fun j y hy => ⟨.d y, by rw [hc, List.getElem?_map, hy]; rfl, fun u hu => ?_⟩⟩
 ·cases hu with | d _ _ h => exact h.mono' hF (fun _ _ => rfl)
 ·cases hu with | d _ _ h => exact h.mono' hF (fun _ _ => rfl)
theorem toD_all (hS : SRel w F β sto) {F' : Nat → Prop} (hF : ∀ b, F b → F' b) : ∀ f : Nat,
  (∀ v x ids, toD sto f v = some (x, ids) → Rows' sto ids ∧ (Fz F' β ids → Good w F F' β v x)) ∧
  (∀ vs xs ids, toDs sto f vs = some (xs, ids) → Rows' sto ids ∧ (Fz F' β ids → GoodL w F F' β vs xs)) ∧
  (∀ vs xs ids, toDl sto f vs = some (xs, ids) → Rows' sto ids ∧ (Fz F' β ids → GoodL w F F' β vs xs))
 | 0 => ⟨fun v x ids h => by simp [toD] at h, fun v x ids h => by simp [toDs] at h, fun v x ids h => by simp [toDl] at h⟩
 | f + 1 => by
  obtain ⟨ih1, ih2, ih3⟩ := toD_all hS hF f
  refine ⟨fun v x ids h => ?_, fun vs xs ids h => ?_, fun vs xs ids h => ?_⟩
  ·simp only [toD] at h
   split at h
   ·cases h
    exact ⟨fun _ h => (by cases h), fun _ => Good.data hF _⟩
   ·rename_i id es lo len t
    split at h
    ·rename_i es' xs z hx
     split at h
     ·rename_i hc
      obtain ⟨rfl, hlen⟩ := hc
      split at h
      ·rename_i ys ids' hy
       cases h
       obtain ⟨h1, h2⟩ := ih2 _ _ _ hy
       refine ⟨fun k hk => ?_, fun hz => ?_⟩
       ·rcases List.mem_cons.1 hk with rfl | hk
        ·exact ⟨_, _, _, hx⟩
        ·exact h1 k hk
       ·obtain ⟨hl, hg⟩ := h2 fun k hk => hz k (List.mem_cons_of_mem _ hk)
        have hl' : ys.length = len := by rw [hl]; simp; omega
        have hget : ∀ (i : Nat) (y : D), ys[i]? = some y → ∃ v, xs[lo + i]? = some v ∧ Good w F F' β v y := by
         intro i y hy
         obtain ⟨v, hv, hg'⟩ := hg i y hy
         rw [List.getElem?_take] at hv
         split at hv
         ·rw [List.getElem?_drop] at hv; exact ⟨v, hv, hg'⟩
         ·cases hv
        refine Good.one rfl rfl fun u hu => ?_
        cases hu with | row _ _ _ _ _ a cap hlc ht hb =>
        rcases Nat.eq_zero_or_pos len with h0 | h0
        ·have hy0 : ys = [] := List.length_eq_zero_iff.1 (by omega)
         subst hy0
         have := DRel.sl (w := w) (F := F') es' [] t a cap 0 0 (fun _ _ => undef) (Nat.zero_le _) (fun h => by rw [ht h, h0]; rfl) (fun h => by simp at h) (fun h => by simp at h) (fun _ _ h => by simp at h) (fun _ _ _ _ h => by simp at h) (fun _ _ _ _ h => by simp at h) (fun _ _ _ _ h => by simp at h)
         rw [h0]; exact this
        ·obtain ⟨b, c, T, fr, hβ, ha, hh, hsz⟩ := hb (by omega)
         have key : ∀ (i : Nat) (y : D) (j : Nat) (q : D), ys[i]? = some y → y.cells[j]? = some q → ∃ u, c[lo * es' + i * es' + j]? = some u ∧ u.oneCell' = true ∧ DRel w F' q u := by
          intro i y j q hy hq
          obtain ⟨v, hv, hg1, hg2, hg3⟩ := hget i y hy
          obtain ⟨q0, hq0, hg4⟩ := hg3 j q hq
          obtain ⟨c', T', fr', h3, h4, h5⟩ := row_elem (hS.obj id _ hx) hβ hv
          rw [hh] at h3; cases h3
          have hj : j < v.cells.length := (List.getElem?_eq_some_iff.1 hq0).1
          have hsz' := h5.1
          have hjlt : j < (c.extract ((lo + i) * es') ((lo + i) * es' + es')).size := by rw [hsz']; exact hj
          obtain ⟨h6, h7⟩ := h5.2
          have hu := Array.getElem?_eq_getElem hjlt
          refine ⟨_, ?_, h7 j _ hu, hg4 _ (h6 j q0 _ hq0 hu)⟩
          rw [← hu, Array.getElem?_extract]
          simp only [Array.size_extract] at hjlt
          rw [if_pos (by omega), Nat.add_mul, Nat.add_assoc]
         have hlen0 : 0 < ys.length := by omega
         have := DRel.sl (w := w) (F := F') es' ys t a cap b (lo * es') (fun i j => c[lo * es' + i * es' + j]?.getD undef) (by omega) (fun h => by rw [ht h, hl']) (fun _ => ha) (fun _ => hz id (List.mem_cons_self) b hβ)
          (fun i x hx' => by
           obtain ⟨v, hv, hg1, _⟩ := hget i x hx'
           rw [hg1]
           exact (hS.obj id _ hx).2.1 _ v hv)
          (fun i x j y hx' hy' => by
           obtain ⟨u, h1, h2, h3⟩ := key i x j y hx' hy'
           simp [World.cell?, hh, h1])
          (fun i x j y hx' hy' => by
           obtain ⟨u, h1, h2, h3⟩ := key i x j y hx' hy'
           rw [h1]; exact h2)
          (fun i x j y hx' hy' => by
           obtain ⟨u, h1, h2, h3⟩ := key i x j y hx' hy'
           rw [h1]; exact h3)
         rw [hl'] at this
         exact this
      ·cases h
     ·cases h
    ·cases h
   ·rename_i id es k off
    split at h
    ·rename_i es' xs z hx
     split at h
     ·rename_i hes
      subst hes
      split at h
      ·rename_i e hk
       split at h
       ·rename_i hoff
        split at h
        ·rename_i ys ids' hy
         cases h
         obtain ⟨h1, h2⟩ := ih2 _ _ _ hy
         refine ⟨fun k hk => ?_, fun hz => ?_⟩
         ·rcases List.mem_cons.1 hk with rfl | hk
          ·exact ⟨_, _, _, hx⟩
          ·exact h1 k hk
         ·obtain ⟨hl, hg⟩ := h2 fun k hk => hz k (List.mem_cons_of_mem _ hk)
          refine Good.one rfl rfl fun u hu => ?_
          obtain ⟨b, hβ, rfl⟩ := inv_ptr hu
          obtain ⟨c, T, fr, h3, h4, h5⟩ := row_elem (hS.obj id _ hx) hβ hk
          have key : ∀ (j : Nat) (q : D), ys[j]? = some q → ∃ u, c[k * es' + off + j]? = some u ∧ u.oneCell' = true ∧ DRel w F' q u := by
           intro j q hq
           obtain ⟨v, hv, hg1, hg2, _⟩ := hg j q hq
           rw [List.getElem?_drop] at hv
           have hj : off + j < e.cells.length := (List.getElem?_eq_some_iff.1 hv).1
           have hjlt : off + j < (c.extract (k * es') (k * es' + es')).size := by rw [h5.1]; exact hj
           have hu := Array.getElem?_eq_getElem hjlt
           refine ⟨_, ?_, h5.2.2 _ _ hu, hg2 _ (h5.2.1 _ v _ hv hu)⟩
           rw [← hu, Array.getElem?_extract]
           simp only [Array.size_extract] at hjlt
           rw [if_pos (by omega), Nat.add_assoc]
          refine DRel.ptr ys b (k * es' + off) (fun j => c[k * es' + off + j]?.getD undef) (hz id (List.mem_cons_self) b hβ) (fun j y hy' => ?_) (fun j y hy' => ?_) (fun j y hy' => ?_)
          ·obtain ⟨u, h1, h2, h3'⟩ := key j y hy'
           simp [World.cell?, h3, h1]
          ·obtain ⟨u, h1, h2, h3'⟩ := key j y hy'
           rw [h1]; exact h2
          ·obtain ⟨u, h1, h2, h3'⟩ := key j y hy'
           rw [h1]; exact h3'
        ·cases h
       ·cases h
      ·cases h
     ·cases h
    ·cases h
   ·rename_i cs
    split at h
    ·rename_i ys ids' hy
     cases h
     obtain ⟨h1, h2⟩ := ih2 _ _ _ hy
     refine ⟨h1, fun hz => ?_⟩
     obtain ⟨hl, hg⟩ := h2 hz
     refine ⟨hl, fun u hu => ?_, fun j y hy' => ?_⟩
     ·cases hu with | agg _ vs hs h1 hr =>
      refine .agg ys vs (by rw [hs]; exact hl.symm) h1 fun j y u hy' hu => ?_
      obtain ⟨v, hv, hg1, hg2, _⟩ := hg j y hy'
      exact hg2 u (hr j v u hv hu)
     ·obtain ⟨v, hv, hg1, hg2, _⟩ := hg j y hy'
      exact ⟨v, hv, hg2⟩
    ·cases h
   ·rename_i fn a b
    split at h
    ·rename_i xs i ys j hxa hyb
     cases h
     obtain ⟨h1, h2⟩ := ih2 _ _ _ hxa
     obtain ⟨h3, h4⟩ := ih2 _ _ _ hyb
     refine ⟨fun k hk => ?_, fun hz => ?_⟩
     ·rcases List.mem_append.1 hk with hk | hk
      ·exact h1 k hk
      ·exact h3 k hk
     ·obtain ⟨hl1, hg1⟩ := h2 fun k hk => hz k (List.mem_append_left _ hk)
      obtain ⟨hl2, hg2⟩ := h4 fun k hk => hz k (List.mem_append_right _ hk)
      refine Good.one rfl rfl fun u hu => ?_
      cases hu with | func _ _ _ us vs ha hb hra hrb =>
      refine .func fn xs ys us vs (by rw [ha, hl1]) (by rw [hb, hl2]) (fun j y u hy' hu => ?_) (fun j y u hy' hu => ?_)
      ·obtain ⟨v, hv, _, hg, _⟩ := hg1 j y hy'
       exact hg u (hra j v u hv hu)
      ·obtain ⟨v, hv, _, hg, _⟩ := hg2 j y hy'
       exact hg u (hrb j v u hv hu)
    ·cases h
   ·rename_i t v
    split at h
    ·rename_i y ids' hy
     cases h
     obtain ⟨h1, h2⟩ := ih1 _ _ _ hy
     refine ⟨h1, fun hz => ?_⟩
     obtain ⟨_, hg, _⟩ := h2 hz
     refine Good.one rfl rfl fun u hu => ?_
     cases hu with | iface _ _ v hr => exact .iface t _ _ (hg _ hr)
    ·cases h
   ·cases h
  ·simp only [toDs] at h
   split at h
   ·rename_i ys hy
    cases h
    have e := allD_spec _ _ hy
    subst e
    refine ⟨fun _ h => (by cases h), fun _ => ⟨by simp, fun j y hy' => ⟨.d y, by simp [hy'], Good.data hF y⟩⟩⟩
   ·exact ih3 _ _ _ h
  ·cases vs with
   | nil =>
    simp only [toDl] at h
    cases h
    exact ⟨fun _ h => (by cases h), fun _ => ⟨rfl, fun j y hy => by simp at hy⟩⟩
   | cons v r =>
    simp only [toDl] at h
    split at h
    ·rename_i x i ys j hx hy
     cases h
     obtain ⟨h1, h2⟩ := ih1 _ _ _ hx
     obtain ⟨h3, h4⟩ := ih3 _ _ _ hy
     refine ⟨fun k hk => ?_, fun hz => ?_⟩
     ·rcases List.mem_append.1 hk with hk | hk
      ·exact h1 k hk
      ·exact h3 k hk
     ·have hg1 := h2 fun k hk => hz k (List.mem_append_left _ hk)
      obtain ⟨hl2, hg2⟩ := h4 fun k hk => hz k (List.mem_append_right _ hk)
      refine ⟨by simp [hl2], fun k y hy' => ?_⟩
      cases k with
      | zero => simp at hy'; subst hy'; exact ⟨v, rfl, hg1⟩
      | succ k => simp at hy'; exact hg2 k y hy'
    ·cases h
theorem snap_sound (hS : SRel w F β sto) {v v' : AV} {sto' : List Obj} (h : snap sto v = some (v', sto')) : ∃ F' : Nat → Prop, SRel w F' β sto' ∧ Ext w F β sto w F' β sto' ∧ ∀ u, VRel w F β v u → VRel w F' β v' u := by
 unfold snap at h
 split at h
 ·cases h
  exact ⟨F, hS, Ext.refl _ _ _ _ hS.dom, fun _ h => h⟩
 ·split at h
  ·rename_i x ids hx
   cases h
   obtain ⟨F', h1, h2, h3⟩ := freeze_all ids sto F hS
   obtain ⟨h4, h5⟩ := (toD_all hS h2.mono.hF _).1 _ _ _ hx
   refine ⟨F', h1, h2, fun u hu => .d _ _ ((h5 fun id hid b hb => h3 id hid (h4 id hid) b hb).2.1 u hu)⟩
  ·cases h
theorem boxAt_sound (hS : SRel w F β sto) {v v' : AV} {sto' : List Obj} (h : boxAt sto v = some (v', sto')) : ∃ F' : Nat → Prop, SRel w F' β sto' ∧ Ext w F β sto w F' β sto' ∧ ∀ u, VRel w F β v u → VRel w F' β v' u := by
 unfold boxAt at h
 split at h
 ·rename_i id es
  split at h
  ·rename_i es' e z hs
   split at h
   ·rename_i he
    obtain ⟨he, _⟩ := he
    subst he
    cases h
    obtain ⟨F', h1, h2, h3⟩ := freeze_all [id] sto F hS
    have hid : id < sto.length := (List.getElem?_eq_some_iff.1 hs).1
    have hs' : (freezeAll sto [id])[id]? = some (.row es' [e] true) := by
     simp only [freezeAll, freezeAt, hs]
     exact List.getElem?_set_self hid
    refine ⟨F', h1, h2, fun u hu => ?_⟩
    cases hu with | ptr _ _ _ _ b hb =>
    obtain ⟨_, hes, ho⟩ := h1.obj id _ hs'
    obtain ⟨c, T, fr, k1, k2, k3, k4, k5⟩ := ho b hb
    have hl := hes 0 e rfl
    have hcj : ∀ (j : Nat) (y : AV), e.cells[j]? = some y → ∃ u, c[j]? = some u := fun j y hy => by
     have hj := (List.getElem?_eq_some_iff.1 hy).1
     refine ⟨_, Array.getElem?_eq_getElem ?_⟩
     simp at k2
     omega
    have hz : (0 * es' + 0) = 0 := by omega
    refine .box _ b _ (fun j => (c[j]?).getD (.bool false)) (k4 rfl) (fun j y hy => ?_) (fun j y hy => ?_) (fun j y hy => ?_)
    ·obtain ⟨u, hu⟩ := hcj j y hy
     simp [World.cell?, k1, hz, hu]
    ·obtain ⟨u, hu⟩ := hcj j y hy
     show ((c[j]?).getD (.bool false)).oneCell' = true
     rw [hu]
     exact (k3 0 e j y u rfl hy (by rw [Nat.zero_mul, Nat.zero_add]; exact hu)).2
    ·obtain ⟨u, hu⟩ := hcj j y hy
     show VRel w F' β y ((c[j]?).getD (.bool false))
     rw [hu]
     exact (k3 0 e j y u rfl hy (by rw [Nat.zero_mul, Nat.zero_add]; exact hu)).1
   ·cases h
  ·cases h
 ·cases h
theorem frzAV_sound (hS : SRel w F β sto) {v v' : AV} {sto' : List Obj} (h : frzAV sto v = some (v', sto')) : ∃ F' : Nat → Prop, SRel w F' β sto' ∧ Ext w F β sto w F' β sto' ∧ ∀ u, VRel w F β v u → VRel w F' β v' u := by
 unfold frzAV at h
 split at h
 ·rename_i r hr
  cases h
  exact boxAt_sound hS hr
 ·exact snap_sound hS h
end
end Go.Proofs.YtjnfkifdgojdaaaGreat.V

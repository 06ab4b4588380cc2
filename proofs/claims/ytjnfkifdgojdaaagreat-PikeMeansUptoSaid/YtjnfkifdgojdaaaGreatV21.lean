/- Code, functions: what the evaluator says of a function is what calls of it do. -/
import Derived.Test.YtjnfkifdgojdaaaGreatV20
import Derived.LoopN
import Derived.Laws.Sem
namespace Go.Proofs.YtjnfkifdgojdaaaGreat.V
open Go
set_option linter.unusedVariables false
set_option linter.unusedSimpArgs false
set_option linter.unusedSectionVars false
variable [Inhabited Flag]
section
variable {P : Program} {ds0 : List Deferred} {w0 : World} {F0 : Nat → Prop} {β0 : Bl} {sto0 : List Obj} {nt : Nat}
theorem Inv.restr {st : St} {a : Act} {w : World} {F : Nat → Prop} {β : Bl} (h : Inv ds0 w0 F0 β0 sto0 nt st a w F β) (l : List Nat) : Inv ds0 w0 F0 β0 sto0 nt ⟨restrict l st.env, st.sto⟩ a w F β :=
 ⟨h.env.restr l, h.sto, h.ext, h.def0⟩
theorem Inv.gc (hd : ∀ id, sto0.length ≤ id → β0 id = none) {st : St} {a : Act} {w : World} {F : Nat → Prop} {β : Bl} (h : Inv ds0 w0 F0 β0 sto0 nt st a w F β) (l : List Nat) : ∃ β', Inv ds0 w0 F0 β0 sto0 nt (gcSt sto0.length l st) a w F β' := by
 obtain ⟨h1, h2⟩ := reach_spec st.sto fuelR (refsEnv (restrict l st.env) ++ refsObjs (st.sto.take sto0.length)) (List.range sto0.length) List.nodup_range
 exact ⟨_, (h.env.restr l).ren (renId_cmp _), h.sto.pick h1, gc_ext hd h.ext h1 h2, h.def0⟩
theorem virt_sound {w : World} {F : Nat → Prop} {β : Bl} {sto sto' : List Obj} (hS : SRel w F β sto) {off es : Nat} {v : AV} (h : virtAt sto off es v = some sto') : SRel w F β sto' ∧ Ext w F β sto w F β sto' := by
 unfold virtAt at h
 split at h
 ·rename_i id es' i o
  split at h
  ·rename_i es'' xs hx
   split at h
   ·rename_i hes
    subst hes
    split at h
    ·rename_i e he
     split at h
     ·rename_i es0 hcell
      cases h
      have hid := (List.getElem?_eq_some_iff.1 hx).1
      have hn : β sto.length = none := hS.dom _ (Nat.le_refl _)
      have hget : ∀ (k : Nat) (y : Obj), (sto.set id (.row es' (xs.set i (mk1 (e.cells.set (o + off) (.row sto.length es 0 0 true)))) false) ++ [Obj.row es [] false])[k]? = some y →
        (k ≠ id ∧ sto[k]? = some y) ∨ (k = id ∧ y = .row es' (xs.set i (mk1 (e.cells.set (o + off) (.row sto.length es 0 0 true)))) false) ∨ (k = sto.length ∧ y = .row es [] false) := by
       intro k y hy
       rcases Nat.lt_or_ge k sto.length with hk | hk
       ·rw [List.getElem?_append_left (by simpa using hk)] at hy
        by_cases ek : k = id
        ·subst ek
         rw [List.getElem?_set_self hid] at hy
         cases hy; exact .inr (.inl ⟨rfl, rfl⟩)
        ·rw [List.getElem?_set_ne (Ne.symm ek)] at hy; exact .inl ⟨ek, hy⟩
       ·rw [List.getElem?_append_right (by simpa using hk)] at hy
        simp only [List.length_set] at hy
        have : k - sto.length = 0 := by
         apply Classical.byContradiction
         intro h0
         rw [List.getElem?_eq_none (by simp; omega)] at hy; cases hy
        rw [this] at hy
        simp at hy
        exact .inr (.inr ⟨by omega, hy.symm⟩)
      refine ⟨⟨fun k y hy => ?_, fun k hk => hS.dom k (by simp at hk; omega), hS.lt, hS.flt, fun k k' y y' b hy hy' hl hl' hb hb' => ?_, hS.gl⟩, ⟨Mono.refl _ _ _, rfl, rfl, rfl, fun _ => Nat.le_refl _, Nat.le_refl _, fun _ _ _ => rfl, by simp, fun _ _ => rfl, fun k b hk hb => (by rw [hS.dom k hk] at hb; cases hb), fun _ h => .inl h, fun k y hy => ?_⟩⟩
      ·rcases hget k y hy with ⟨_, h⟩ | ⟨rfl, rfl⟩ | ⟨rfl, rfl⟩
       ·exact hS.obj k y h
       ·obtain ⟨h0, hcs, h1⟩ := hS.obj k _ hx
        refine ⟨fun hnn => (by rw [h0 hnn] at he; simp at he), fun j x hj => ?_, fun b hb => ?_⟩
        ·by_cases ej : i = j
         ·subst ej
          rw [List.getElem?_set_self (List.getElem?_eq_some_iff.1 he).1] at hj
          cases hj
          rw [mk1_cells, List.length_set]
          exact hcs i e he
         ·rw [List.getElem?_set_ne ej] at hj
          exact hcs j x hj
        ·obtain ⟨c, T, fr, h2, h3, h4, h5⟩ := h1 b hb
         refine ⟨c, T, fr, h2, by simpa using h3, fun j x q y u hj hq hu => ?_, h5⟩
         by_cases ej : i = j
         ·subst ej
          rw [List.getElem?_set_self (List.getElem?_eq_some_iff.1 he).1] at hj
          cases hj
          rw [mk1_cells] at hq
          by_cases eq : o + off = q
          ·subst eq
           rw [List.getElem?_set_self (List.getElem?_eq_some_iff.1 hcell).1] at hq
           cases hq
           obtain ⟨h6, h7⟩ := h4 i e _ _ u he hcell hu
           refine ⟨?_, h7⟩
           cases h6 with | d _ _ h8 => cases h8 with | sl _ _ _ a cap _ _ _ hlc ht =>
           exact .row _ _ _ _ _ a cap (Nat.zero_le _) ht (fun hc => by have := ht rfl; simp at this; omega)
          ·rw [List.getElem?_set_ne eq] at hq
           exact h4 i e q y u he hq hu
         ·rw [List.getElem?_set_ne ej] at hj
          exact h4 j x q y u hj hq hu
       ·exact ⟨fun _ => rfl, fun i x h => by simp at h, fun b hb => by rw [hn] at hb; cases hb⟩
      ·have src : ∀ (k : Nat) (y : Obj), (sto.set id (.row es' (xs.set i (mk1 (e.cells.set (o + off) (.row sto.length es 0 0 true)))) false) ++ [Obj.row es [] false])[k]? = some y → y.live = true → β k = some b → ∃ y', sto[k]? = some y' ∧ y'.live = true := by
        intro k y hy hl hb
        rcases hget k y hy with ⟨_, h⟩ | ⟨rfl, rfl⟩ | ⟨rfl, rfl⟩
        ·exact ⟨y, h, hl⟩
        ·exact ⟨_, hx, rfl⟩
        ·rw [hn] at hb; cases hb
       obtain ⟨z, h1, h2⟩ := src k y hy hl hb
       obtain ⟨z', h1', h2'⟩ := src k' y' hy' hl' hb'
       exact hS.inj k k' z z' b h1 h1' h2 h2' hb hb'
      ·have hk := (List.getElem?_eq_some_iff.1 hy).1
       rw [List.getElem?_append_left (by simpa using hk)]
       by_cases ek : k = id
       ·subst ek
        rw [List.getElem?_set_self hid]
        rw [hx] at hy
        cases hy
        exact ⟨_, rfl, fun h => by cases h⟩
       ·rw [List.getElem?_set_ne (Ne.symm ek)]
        exact ⟨y, hy, fun h => h⟩
     ·cases h
    ·cases h
   ·cases h
  ·cases h
 ·cases h
variable {C : Calling} {byref : FuncId → List Nat}
theorem virts_sound {n : Nat} {c : Code} : ∀ {h : Hints} {id : Nat} {vc : VCode} {st : St} {a : Act} {w : World},
  (∀ (ex : Ex) (st' : St), eval C byref sto0.length n vc st = some (ex, st') → c.wp P (QRel ds0 w0 F0 β0 sto0 nt ex st') a w) →
  ∀ (ex : Ex) (st' : St), eval C byref sto0.length n (virts h id vc) st = some (ex, st') → c.wp P (QRel ds0 w0 F0 β0 sto0 nt ex st') a w
 | [], id, vc, st, a, w, hv => hv
 | (r, t, off, es) :: h, id, vc, st, a, w, hv => by
  intro ex st' he
  have ih := virts_sound (h := h) (id := id) hv
  simp only [virts] at he
  split at he
  ·simp only [eval] at he
   split at he
   ·rename_i st1 h1
    split at he
    ·simp only [eval] at he
     split at he
     ·rename_i v sto' h2
      cases he
      refine wp_mono (ih _ _ h1) fun e a' w' hq => ?_
      obtain ⟨F, β, h3, h4⟩ := hq
      obtain ⟨F', h5, h6, h7⟩ := frzAV_sound h4.sto h2
      refine ⟨F', β, ?_, ⟨(h4.env.1), fun n => ?_⟩, h5, h4.ext.trans h6, h4.def0⟩
      ·cases e <;> exact h3
      ·simp only [look]
       split
       ·rename_i e0; subst e0; exact h7 _ (h4.env.2 _)
       ·exact (h4.env.2 n).mono h6.mono
     ·cases he
    ·simp only [eval] at he
     split at he
     ·rename_i sto' h2
      cases he
      refine wp_mono (ih _ _ h1) fun e a' w' hq => ?_
      obtain ⟨F, β, h3, h4⟩ := hq
      obtain ⟨h5, h6⟩ := virt_sound h4.sto h2
      exact ⟨F, β, h3, h4.env, h5, h4.ext.trans h6, h4.def0⟩
     ·cases he
   ·rename_i e st1 hne h1
    cases he
    exact ih _ _ h1
   ·cases he
  ·exact ih _ _ he
theorem ExRel.nrm_of {w : World} {F : Nat → Prop} {β : Bl} {ex : Ex} (h : ExRel w F β ex .normal) : ex = .nrm := by
 cases ex <;> first | rfl | exact h.elim
theorem QRel.thenQ {ex : Ex} {st1 : St} {ex' : Ex} {st' : St} {K : Act → World → Prop} (hK : ex = .nrm → ∀ a w, QRel ds0 w0 F0 β0 sto0 nt .nrm st1 .normal a w → K a w) (hE : ex ≠ .nrm → ex = ex' ∧ st1 = st') {e : Exit} {a : Act} {w : World}
  (h : QRel ds0 w0 F0 β0 sto0 nt ex st1 e a w) : Exit.then K (QRel ds0 w0 F0 β0 sto0 nt ex' st') e a w := by
 by_cases hx : ex = .nrm
 ·subst hx
  obtain ⟨F, β, h1, h2⟩ := h
  cases e <;> first | exact h1.elim | skip
  exact hK rfl a w ⟨F, β, h1, h2⟩
 ·obtain ⟨rfl, rfl⟩ := hE hx
  cases e with
  | normal =>
   obtain ⟨F, β, h1, h2⟩ := h
   exact absurd (ExRel.nrm_of h1) hx
  | _ => exact h
theorem code_sound (hC : Sound P C) (hm : P.follows .mixedOrders = true) (hd : ∀ id, sto0.length ≤ id → β0 id = none) {n : Nat} {hints : Hints} {rl : List Nat} : ∀ (c : Code) (l : List Nat) (exs : List (Nat × List Nat)) (vc : VCode), lowC P nt hints rl c l exs = some vc →
  ∀ (st : St) (ex : Ex) (st' : St), eval C byref sto0.length n vc st = some (ex, st') → ∀ (a : Act) (w : World) (F : Nat → Prop) (β : Bl), Inv ds0 w0 F0 β0 sto0 nt st a w F β → c.wp P (QRel ds0 w0 F0 β0 sto0 nt ex st') a w
 | .skip, l, exs, vc, hl, st, ex, st', he, a, w, F, β, hI => by
  simp only [lowC] at hl
  cases hl
  simp only [eval] at he
  cases he
  exact wp_skip ⟨F, β, trivial, hI⟩
 | .region id ops dr, l, exs, vc, hl, st, ex, st', he, a, w, F, β, hI => by
  simp only [lowC] at hl
  split at hl
  ·rename_i vs hvs
   split at hl
   ·rename_i hdt
    subst hdt
    split at hl
    ·rename_i hdr
     split at hl
     ·rename_i hlast
      cases hl
      refine virts_sound (fun ex st' he => ?_) ex st' he
      simp only [eval] at he
      split at he
      ·rename_i st1 h1
       split at h1
       ·rename_i st0 h0
        cases h1
        split at he
        ·rename_i e st2 h2
         cases he
         refine wp_mono (drawZ_sound hC hm (lowered_fix hvs _ _) hdr hlast h0 h2 (fun h => h.restr _) hI) fun e a' w' hq => ?_
         obtain ⟨F', β', h3, h4⟩ := hq
         exact ⟨F', β', h3, h4.restr l⟩
        ·cases he
       ·cases h1
      ·rename_i e1 st1 hne h1
       split at h1
       ·cases h1; exact (hne rfl).elim
       ·cases h1
      ·cases he
     cases hl
     refine virts_sound (fun ex st' he => ?_) ex st' he
     simp only [eval] at he
     split at he
     ·rename_i st1 h1
      cases he
      refine wp_mono (draw_sound hC hm (lowered_fix hvs _ _) hdr h1 hI) fun e a' w' hq => ?_
      obtain ⟨F', β', h2, h3⟩ := hq
      exact ⟨F', β', h2, h3.restr l⟩
     ·cases he
    ·cases hl; simp only [eval] at he; cases he
   ·rename_i hdf
    have hdf' : dr = false := by simpa using hdf
    subst hdf'
    cases hl
    refine virts_sound (fun ex st' he => ?_) ex st' he
    simp only [eval] at he
    split at he
    ·rename_i e st1 h1
     cases he
     have := ops_sound hC ops.toList 0 (fun j => by simp) vs hvs st _ st1 h1 a w F β hI
     rw [Array.length_toList, ← List.range_eq_range'] at this
     refine wp_mono (wp_region this) fun e a' w' hq => ?_
     obtain ⟨F', β', h2, h3⟩ := hq
     exact ⟨F', β', h2, h3.restr l⟩
    ·cases he
  ·cases hl; simp only [eval] at he; cases he
 | .seq x y, l, exs, vc, hl, st, ex, st', he, a, w, F, β, hI => by
  simp only [lowC] at hl
  split at hl
  ·rename_i vx vy hx hy
   cases hl
   simp only [eval] at he
   refine wp_seq ?_
   split at he
   ·rename_i st1 h1
    refine wp_mono (code_sound hC hm hd x _ _ _ hx st _ _ h1 a w F β hI) fun e a' w' hq => ?_
    exact hq.thenQ (fun _ a2 w2 ⟨F2, β2, _, h3⟩ => code_sound hC hm hd y _ _ _ hy st1 _ _ he a2 w2 F2 β2 h3) (fun h => absurd rfl h)
   ·rename_i e st1 hne h1
    cases he
    refine wp_mono (code_sound hC hm hd x _ _ _ hx st _ _ h1 a w F β hI) fun e' a' w' hq => ?_
    exact hq.thenQ (fun h => (hne h).elim) (fun _ => ⟨rfl, rfl⟩)
   ·cases he
  ·cases hl
 | .cond c x y, l, exs, vc, hl, st, ex, st', he, a, w, F, β, hI => by
  simp only [lowC] at hl
  split at hl
  ·rename_i c' vx vy hc hx hy
   cases hl
   simp only [eval] at he
   split at he
   ·rename_i t ht
    have hv := RRel.of hI.env c c' hc
    rw [ht] at hv
    refine wp_cond (inv_bool hv) ?_
    split at he
    ·rename_i h; rw [if_pos h]; exact code_sound hC hm hd x _ _ _ hx st _ _ he a w F β hI
    ·rename_i h; rw [if_neg h]; exact code_sound hC hm hd y _ _ _ hy st _ _ he a w F β hI
   ·cases he
  ·cases hl
 | .block id x, l, exs, vc, hl, st, ex, st', he, a, w, F, β, hI => by
  simp only [lowC] at hl
  split at hl
  ·rename_i vx hx
   cases hl
   simp only [eval] at he
   refine wp_block ?_
   have key : ∀ (e1 : Ex) (s1 : St), eval C byref sto0.length n vx st = some (e1, s1) → (∀ i, e1 = .ext i → i = id → ex = .nrm ∧ st' = s1) → ((∀ i, e1 = .ext i → i ≠ id) → ex = e1 ∧ st' = s1) → x.wp P (Exit.inBlock id (QRel ds0 w0 F0 β0 sto0 nt ex st')) a w := by
    intro e1 s1 h1 hA hB
    refine wp_mono (code_sound hC hm hd x _ _ _ hx st _ _ h1 a w F β hI) fun e a' w' hq => ?_
    obtain ⟨F', β', h2, h3⟩ := hq
    by_cases hex : ∃ i, e1 = .ext i ∧ i = id
    ·obtain ⟨i, rfl, rfl⟩ := hex
     obtain ⟨rfl, rfl⟩ := hA i rfl rfl
     cases e <;> first | exact h2.elim | skip
     rename_i j
     simp only [ExRel] at h2
     subst h2
     simp only [Exit.inBlock, if_true]
     exact ⟨F', β', trivial, h3⟩
    ·obtain ⟨rfl, rfl⟩ := hB (fun i h1 h2 => hex ⟨i, h1, h2⟩)
     cases e with
     | exit j =>
      cases ex <;> first | exact h2.elim | skip
      rename_i i
      simp only [ExRel] at h2
      subst h2
      simp only [Exit.inBlock]
      rw [if_neg (fun h => hex ⟨i, rfl, h⟩)]
      exact ⟨F', β', rfl, h3⟩
     | _ => exact ⟨F', β', h2, h3⟩
   split at he
   ·rename_i i s1 h1
    split at he
    ·rename_i hi
     cases he
     exact key _ _ h1 (fun _ _ _ => ⟨rfl, rfl⟩) (fun h => absurd hi (h i rfl))
    ·rename_i hi
     cases he
     exact key _ _ h1 (fun j h h2 => by cases h; exact absurd h2 hi) (fun _ => ⟨rfl, rfl⟩)
   ·rename_i e s1 hne h1
    cases he
    exact key _ _ h1 (fun j h h2 => (hne j h).elim) (fun _ => ⟨rfl, rfl⟩)
   ·cases he
  ·cases hl
 | .loop x, l, exs, vc, hl, st, ex, st', he, a, w, F, β, hI => by
  simp only [lowC] at hl
  split at hl
  ·rename_i vx hx
   cases hl
   simp only [eval] at he
   refine wp_loop_rounds n ?_
   have key : ∀ (m : Nat) (st : St) (a : Act) (w : World) (F : Nat → Prop) (β : Bl), iter (fun st => eval C byref sto0.length n vx (gcSt sto0.length (liveC rl x.loop l exs) st)) m st = some (ex, st') → Inv ds0 w0 F0 β0 sto0 nt st a w F β → Code.rounds P x (QRel ds0 w0 F0 β0 sto0 nt ex st') m a w := by
    intro m
    induction m with
    | zero => intro st a w F β he; simp [iter] at he
    | succ m ih =>
     intro st a w F β he hI
     simp only [iter] at he
     obtain ⟨β', hI'⟩ := hI.gc hd _
     simp only [Code.rounds]
     split at he
     ·rename_i s1 h1
      refine wp_mono (code_sound hC hm hd x _ _ _ hx _ _ _ h1 a w F β' hI') fun e a' w' hq => ?_
      exact hq.thenQ (fun _ a2 w2 ⟨F2, β2, _, h3⟩ => ih s1 a2 w2 F2 β2 he h3) (fun h => absurd rfl h)
     ·rename_i e s1 hne h1
      cases he
      refine wp_mono (code_sound hC hm hd x _ _ _ hx _ _ _ h1 a w F β' hI') fun e' a' w' hq => ?_
      exact hq.thenQ (fun h => (hne h).elim) (fun _ => ⟨rfl, rfl⟩)
     ·cases he
   exact key n st a w F β he hI
  ·cases hl
 | .exit id, l, exs, vc, hl, st, ex, st', he, a, w, F, β, hI => by
  simp only [lowC] at hl
  cases hl
  simp only [eval] at he
  cases he
  exact wp_exit ⟨F, β, rfl, hI⟩
 | .ret, l, exs, vc, hl, st, ex, st', he, a, w, F, β, hI => by
  simp only [lowC] at hl
  cases hl
  simp only [eval] at he
  cases he
  exact wp_ret ⟨F, β, trivial, hI⟩
 | .rangeFunc _ _ _ _, l, exs, vc, hl, _, _, _, _, _, _, _, _, _ => by simp only [lowC] at hl; cases hl
 | .scope _, l, exs, vc, hl, _, _, _, _, _, _, _, _, _ => by simp only [lowC] at hl; cases hl
 | .label _, l, exs, vc, hl, _, _, _, _, _, _, _, _, _ => by simp only [lowC] at hl; cases hl
 | .goto _, l, exs, vc, hl, _, _, _, _, _, _, _, _, _ => by simp only [lowC] at hl; cases hl
 | .refuse _, l, exs, vc, hl, _, _, _, _, _, _, _, _, _ => by simp only [lowC] at hl; cases hl
end
end Go.Proofs.YtjnfkifdgojdaaaGreat.V

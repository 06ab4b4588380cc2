/- Functions: what the evaluator says of a function is what calls of it do. -/
import Derived.Test.YtjnfkifdgojdaaaGreatV21
namespace Go.Proofs.YtjnfkifdgojdaaaGreat.V
open Go
set_option linter.unusedVariables false
set_option linter.unusedSimpArgs false
set_option linter.unusedSectionVars false
variable [Inhabited Flag]
section
variable {P : Program} {ds0 : List Deferred} {w0 : World} {F0 : Nat → Prop} {β0 : Bl} {sto0 : List Obj} {nt : Nat}
theorem load_cell {w : World} {F : Nat → Prop} {β : Bl} {sto : List Obj} (hS : SRel w F β sto) {t : TypeId} {d : TypeDesc} {i : TypeInfo} (ht : P.underlying t = some d) (hi : P.info? t = some i) {id es k off : Nat} {xs : List AV} {z : Bool} {e v' : AV} {b : Nat} (hb : β id = some b)
  (hs : sto[id]? = some (.row es xs z)) (hk : xs[k]? = some e) (hr : readCells (if isAggD d then some i.size else none) off e = some v') : ∃ u, (loadVar t ⟨b, k * es + off, none⟩).run P w = .ok u w ∧ VRel w F β v' u := by
 obtain ⟨c, T, fr, h1, h2, h3⟩ := row_elem (hS.obj id _ hs) hb hk
 cases hd : isAggD d with
 | false =>
  rw [hd] at hr
  obtain ⟨u, hu1, hu2, _⟩ := readCells_one (u := .agg (c.extract (k * es) (k * es + es))) hr h3
  simp only [Value.cells] at hu1
  rw [Array.getElem?_extract] at hu1
  split at hu1
  ·exact ⟨u, run_loadVar_at ht hi b _ c T fr h1 (fun _ => hu1) (fun h => by rw [hd] at h; cases h), hu2⟩
  ·cases hu1
 | true =>
  rw [hd] at hr
  rcases readCells_many hr h3 with ⟨h4, h5⟩ | ⟨h4, h5, rfl, h6⟩
  ·simp only [Array.size_extract] at h4
   refine ⟨_, run_loadVar_at ht hi b _ c T fr h1 (fun h => by rw [hd] at h; cases h) (fun _ => ⟨by omega, rfl⟩), ?_⟩
   rw [Array.extract_extract] at h5
   rw [show k * es + off + i.size = min (k * es + (off + i.size)) (k * es + es) by omega]
   exact h5
  ·simp only [Array.size_extract] at h5
   subst h4
   refine ⟨_, run_loadVar_at ht hi b _ c T fr h1 (fun h => by rw [hd] at h; cases h) (fun _ => ⟨by omega, rfl⟩), ?_⟩
   rw [Nat.add_zero, show k * es + i.size = k * es + es by omega]
   have := mkAgg_rel h3
   cases v' <;> simp only [AV.isAgg] at h6 <;> try (cases h6; done)
   ·rename_i x
    cases x <;> simp only at h6 <;> try (cases h6; done)
    rename_i cs
    simpa [mkAgg, AV.cells, allD_map] using this
   ·exact .agg _ _ h3.1 h3.2.2 h3.2.1
def resM (tmps : Array Value) : ResultVar → Sem Value
 | .tmp t => pure (tmps.getD t undef)
 | .cell a t => do loadVar t (← asAddr (tmps.getD a undef))
theorem reads_sound {st : St} {a : Act} {w : World} {F : Nat → Prop} {β : Bl} (hI : Inv ds0 w0 F0 β0 sto0 nt st a w F β) : ∀ (rs : List ResultVar) (rvs : List RV), lowRes P rs = some rvs → ∀ vs, reads st rvs = some vs →
  ∃ us : List Value, (rs.mapM (resM a.tmps)).run P w = .ok us w ∧ us.length = vs.length ∧ ∀ (j : Nat) (y : AV) (u : Value), vs[j]? = some y → us[j]? = some u → VRel w F β y u
 | [], rvs, hl, vs, hr => by
  simp only [lowRes] at hl
  cases hl
  simp only [reads] at hr
  cases hr
  exact ⟨[], by simp, rfl, fun j y u h => by simp at h⟩
 | r :: rs, rvs, hl, vs, hr => by
  have one : ∀ (rv : RV) (rvs' : List RV), rvs = rv :: rvs' → lowRes P rs = some rvs' → (∀ v, rv.read st = some v → ∃ u, (resM a.tmps r).run P w = .ok u w ∧ VRel w F β v u) →
    ∃ us : List Value, ((r :: rs).mapM (resM a.tmps)).run P w = .ok us w ∧ us.length = vs.length ∧ ∀ (j : Nat) (y : AV) (u : Value), vs[j]? = some y → us[j]? = some u → VRel w F β y u := by
   intro rv rvs' e hl' h1
   subst e
   simp only [reads] at hr
   split at hr
   ·rename_i v vs' hv hvs
    cases hr
    obtain ⟨u, h2, h3⟩ := h1 v hv
    obtain ⟨us, h4, h5, h6⟩ := reads_sound hI rs rvs' hl' vs' hvs
    refine ⟨u :: us, by simp [h2, h4], by simp [h5], fun j y z hy hz => ?_⟩
    cases j with
    | zero => simp at hy hz; subst hy; subst hz; exact h3
    | succ j => simp at hy hz; exact h6 j y z hy hz
   ·cases hr
  cases r with
  | tmp t =>
   simp only [lowRes, Option.map_eq_some_iff] at hl
   obtain ⟨rvs', h1, h2⟩ := hl
   refine one _ rvs' h2.symm h1 fun v hv => ?_
   simp only [RV.read] at hv
   cases hv
   exact ⟨a.tmps.getD t undef, by simp [resM], hI.env.2 t⟩
  | cell ad t =>
   simp only [lowRes] at hl
   split at hl
   ·rename_i ag rvs' hag h1
    cases hl
    refine one _ rvs' rfl h1 fun v hv => ?_
    unfold agOf at hag
    split at hag
    ·rename_i d i hd hi
     cases hag
     simp only [RV.read] at hv
     split at hv
     ·rename_i id es k off hp
      have hvr := hI.env.2 ad
      rw [hp] at hvr
      obtain ⟨b, hb, hu⟩ := inv_ptr hvr
      split at hv
      ·rename_i es' xs z hx
       split at hv
       ·rename_i hes
        subst hes
        split at hv
        ·rename_i e he
         obtain ⟨u, h2, h3⟩ := load_cell (P := P) hI.sto hd hi hb hx he hv
         exact ⟨u, by simp [resM, hu, asAddr, h2], h3⟩
        ·cases hv
       ·cases hv
      ·cases hv
     ·cases hv
    ·cases hag
   ·cases hl
theorem results_run {fn : Func} {tmps : Array Value} {w : World} {us : List Value} (h : (fn.results.toList.mapM (resM tmps)).run P w = .ok us w) : (results fn tmps).run P w = .ok (if h : us.length = 1 then us[0] else .tuple us.toArray) w := by
 have e : results fn tmps = (do
   let vs ← fn.results.mapM (resM tmps)
   pure (if h : vs.size = 1 then vs[0] else .tuple vs)) := rfl
 rw [e, Array.mapM_eq_mapM_toList]
 simp [h]
theorem snaps_sound {w : World} {β : Bl} : ∀ (l : List AV) (sto : List Obj) (F : Nat → Prop) (vs : List AV) (sto' : List Obj), snaps l sto = some (vs, sto') → SRel w F β sto →
  ∃ F' : Nat → Prop, SRel w F' β sto' ∧ Ext w F β sto w F' β sto' ∧ vs.length = l.length ∧ ∀ (j : Nat) (v' : AV), vs[j]? = some v' → ∃ v, l[j]? = some v ∧ ∀ u, VRel w F β v u → VRel w F' β v' u
 | [], sto, F, vs, sto', h, hS => by
  simp only [snaps] at h
  cases h
  exact ⟨F, hS, Ext.refl _ _ _ _ hS.dom, rfl, fun j v hv => by simp at hv⟩
 | v :: r, sto, F, vs, sto', h, hS => by
  simp only [snaps] at h
  split at h
  ·rename_i v1 sto1 h1
   split at h
   ·rename_i vs2 sto2 h2
    cases h
    obtain ⟨F1, a1, a2, a3⟩ := snap_sound hS h1
    obtain ⟨F2, b1, b2, b3, b4⟩ := snaps_sound r sto1 F1 _ _ h2 a1
    refine ⟨F2, b1, a2.trans b2, by simp [b3], fun j v' hv' => ?_⟩
    cases j with
    | zero => simp at hv'; subst hv'; exact ⟨v, rfl, fun u hu => (a3 u hu).mono b2.mono⟩
    | succ j =>
     simp at hv'
     obtain ⟨v0, hv0, h8⟩ := b4 j v' hv'
     exact ⟨v0, by simpa using hv0, fun u hu => h8 u (hu.mono a2.mono)⟩
   ·cases h
  ·cases h
theorem look_numbered : ∀ (l : List AV) (i n : Nat), look n (numbered i l) = if n < i then .undef else (l[n - i]?).getD .undef
 | [], i, n => by simp [numbered, look]
 | v :: r, i, n => by
  simp only [numbered, look]
  split
  ·rename_i e; subst e; simp
  ·rename_i e
   rw [look_numbered r (i + 1) n]
   rcases Nat.lt_trichotomy n i with h | h | h
   ·rw [if_pos (by omega), if_pos h]
   ·exact absurd h.symm e
   ·rw [if_neg (by omega), if_neg (by omega), show n - i = (n - (i + 1)) + 1 by omega]
    simp
theorem finish_sound (hd : ∀ id, sto0.length ≤ id → β0 id = none) {fn : Func} {vf : VFn} (hres : lowRes P fn.results.toList = some vf.res) {st : St} {out : Out} {sto' : List Obj} (h : finish sto0.length vf st = some (out, sto')) {a : Act} {w : World} {F : Nat → Prop} {β : Bl} (hI : Inv ds0 w0 F0 β0 sto0 nt st a w F β) :
  ∃ v, (results fn a.tmps).run P w = .ok v w ∧ Res w0 F0 β0 sto0 out sto' (.returned v) w := by
 unfold finish at h
 split at h
 ·rename_i vs hvs
  obtain ⟨us, h1, h2, h3⟩ := reads_sound hI _ _ hres vs hvs
  refine ⟨_, results_run h1, ?_⟩
  have fin : ∀ (vs' : List AV) (sto1 : List Obj), (∃ F' : Nat → Prop, SRel w F' β sto1 ∧ Ext w F β st.sto w F' β sto1 ∧ vs'.length = vs.length ∧ ∀ (j : Nat) (v' : AV), vs'[j]? = some v' → ∃ v, vs[j]? = some v ∧ ∀ u, VRel w F β v u → VRel w F' β v' u) →
    Res w0 F0 β0 sto0 (.ret (tupled (renL (renId (reach sto1 fuelR (refsL vs' ++ refsObjs (sto1.take sto0.length)) (List.range sto0.length))) vs'))) (pickS (renId (reach sto1 fuelR (refsL vs' ++ refsObjs (sto1.take sto0.length)) (List.range sto0.length))) sto1 (reach sto1 fuelR (refsL vs' ++ refsObjs (sto1.take sto0.length)) (List.range sto0.length))) (.returned (if h : us.length = 1 then us[0] else .tuple us.toArray)) w := by
   intro vs' sto1 ⟨F', g1, g2, g3, g4⟩
   obtain ⟨r1, r2⟩ := reach_spec sto1 fuelR (refsL vs' ++ refsObjs (sto1.take sto0.length)) (List.range sto0.length) List.nodup_range
   revert r1 r2
   generalize reach sto1 fuelR (refsL vs' ++ refsObjs (sto1.take sto0.length)) (List.range sto0.length) = m
   intro r1 r2
   have pw : ∀ (j : Nat) (y : AV) (u : Value), (renL (renId m) vs')[j]? = some y → us[j]? = some u → VRel w F' (cmpB β m) y u := by
    intro j y u hy hu
    obtain ⟨z, hz, rfl⟩ := getElem?_renL hy
    obtain ⟨v, hv, g5⟩ := g4 j z hz
    exact (g5 u (h3 j v u hv hu)).ren (renId_cmp m)
   have hlen : us.length = (renL (renId m) vs').length := by rw [renL_eq, List.length_map, g3, h2]
   refine ⟨F', cmpB β m, ?_, g1.pick r1, gc_ext hd (hI.ext.trans g2) r1 r2⟩
   simp only [ERes]
   revert pw hlen
   generalize renL (renId m) vs' = l
   intro pw hlen
   split
   ·rename_i h1
    match l, hlen, pw with
    | [v], hlen, pw =>
     simp only [tupled]
     exact pw 0 v _ rfl (List.getElem?_eq_getElem (show 0 < us.length by omega))
    | [], hlen, pw => rw [h1] at hlen; cases hlen
    | _ :: _ :: _, hlen, pw => rw [h1] at hlen; simp at hlen
   ·rename_i h1
    have e : tupled l = .tup l := by
     match l, hlen with
     | [], _ => rfl
     | [_], hlen => exact absurd hlen h1
     | _ :: _ :: _, _ => rfl
    rw [e]
    exact .tup _ _ (by simp [hlen]) fun j y u hy hu => pw j y u hy (by simpa using hu)
  split at h
  ·rename_i vs' sto1 hsn
   cases h
   refine fin vs' sto1 ?_
   split at hsn
   ·exact snaps_sound vs st.sto F vs' sto1 hsn hI.sto
   ·cases hsn
    exact ⟨F, hI.sto, Ext.refl _ _ _ _ hI.sto.dom, rfl, fun j v' hv' => ⟨v', hv', fun u hu => hu⟩⟩
  ·cases h
 ·cases h
theorem fn_sound {C : Calling} (hC : Sound P C) (hm : P.follows .mixedOrders = true) {byref : FuncId → List Nat} {n : Nat} {hints : Hints} {frz : Bool} {br : List Nat} {f : FuncId} {fn : Func} (hf : P.funcs[f]? = some fn) {vf : VFn} (hl : lowFn P hints frz br fn = some vf)
  {args : List AV} {sto : List Obj} {out : Out} {sto' : List Obj} (he : evalFn C byref n vf args sto = some (out, sto')) {w : World} {F : Nat → Prop} {β : Bl} {us : Array Value} (hS : SRel w F β sto) (hus : ARel w F β args us) : CallsF P f us w (Res w F β sto out sto') := by
 unfold lowFn at hl
 split at hl
 ·cases hl
 ·rename_i hname
  split at hl
  ·cases hl
  ·rename_i hnt
   split at hl
   ·rename_i c hbody
    dsimp only at hl
    split at hl
    ·rename_i vc rvs hvc hrs
     cases hl
     refine .inl ⟨fn, hf, by simpa using hname, by rw [hbody]; rfl, ?_⟩
     unfold evalFn at he
     split at he
     ·rename_i hargs
      dsimp only at hargs
      refine calls_of_wp hf hbody ?_
      have hI : Inv [] w F β sto fn.ntmps ⟨numbered 0 args, sto⟩ { tmps := us ++ Array.replicate (fn.ntmps - us.size) undef, defers := [] } w F β := by
       refine ⟨⟨by simp [hus.1, hargs]; omega, fun k => ?_⟩, hS, Ext.refl _ _ _ _ hS.dom, rfl⟩
       rw [look_numbered, if_neg (by omega), Nat.sub_zero]
       rcases Nat.lt_or_ge k args.length with hk | hk
       ·have e1 := List.getElem?_eq_getElem hk
        have hk' : k < us.size := by rw [hus.1]; exact hk
        have e2 := Array.getElem?_eq_getElem hk'
        rw [e1, Array.getD_eq_getD_getElem?, Array.getElem?_append_left hk', e2]
        exact hus.2 k _ _ e1 e2
       ·rw [List.getElem?_eq_none hk]
        exact .undef _
      have fin : ∀ (ex : Ex) (st : St), eval C byref sto.length n vc ⟨numbered 0 args, sto⟩ = some (ex, st) → (∀ e a w', QRel [] w F β sto fn.ntmps ex st e a w' → bodyPost P fn (Res w F β sto out sto') e a w') →
        c.wp P (bodyPost P fn (Res w F β sto out sto')) { tmps := us ++ Array.replicate (fn.ntmps - us.size) undef, defers := [] } w :=
       fun ex st h1 h2 => wp_mono (code_sound hC hm hS.dom c _ _ _ hvc _ ex st h1 _ w F β hI) h2
      split at he
      ·rename_i st h1
       refine fin _ _ h1 fun e a w' hq => ?_
       obtain ⟨F', β', h2, h3⟩ := hq
       cases e <;> first | exact h2.elim | skip
       obtain ⟨v, h4, h5⟩ := finish_sound hS.dom hrs he h3
       exact ⟨h3.def0, v, h4, h5⟩
      ·rename_i st h1
       refine fin _ _ h1 fun e a w' hq => ?_
       obtain ⟨F', β', h2, h3⟩ := hq
       cases e <;> first | exact h2.elim | skip
       obtain ⟨v, h4, h5⟩ := finish_sound hS.dom hrs he h3
       exact ⟨h3.def0, v, h4, h5⟩
      ·rename_i x st h1
       cases he
       refine fin _ _ h1 fun e a w' hq => ?_
       obtain ⟨F', β', h2, h3⟩ := hq
       cases e <;> first | exact h2.elim | skip
       refine ⟨h3.def0, F', cmpB β' (List.range sto.length), ?_, h3.sto.pick List.nodup_range, gc_ext hS.dom h3.ext List.nodup_range ⟨[], by simp⟩⟩
       obtain ⟨u, h4, h5⟩ := h2
       refine ⟨u, h4, ?_⟩
       cases h5 with | d _ _ h => exact .d _ _ h
      ·cases he
     ·cases he
    ·cases hl
   ·cases hl
def TableOk (P : Program) (V : FuncId → Option VFn) : Prop := ∀ (f : FuncId) (vf : VFn), V f = some vf → ∃ (fn : Func) (hints : Hints) (frz : Bool) (br : List Nat), P.funcs[f]? = some fn ∧ lowFn P hints frz br fn = some vf
theorem callF_sound (hm : P.follows .mixedOrders = true) {V : FuncId → Option VFn} (hV : TableOk P V) {X : Calling} (hX : Sound P X) : ∀ k, Sound P (callF V X k)
 | 0 => fun f args sto out sto' h w F β us hS hus => hX f args sto out sto' h w F β us hS hus
 | k + 1 => fun f args sto out sto' h w F β us hS hus => by
  simp only [callF] at h
  split at h
  ·rename_i r hr
   cases h
   exact hX f args sto out sto' hr w F β us hS hus
  ·split at h
   ·rename_i vf hvf
    obtain ⟨fn, hints, frz, br, h1, h2⟩ := hV f vf hvf
    exact fn_sound (callF_sound hm hV hX k) hm h1 h2 h hS hus
   ·cases h
end
end Go.Proofs.YtjnfkifdgojdaaaGreat.V

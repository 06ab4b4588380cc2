/- Functions that defer a closure, which recovers. -/
import Derived.Test.YtjnfkifdgojdaaaGreatV22
import Derived.Recover
namespace Go.Proofs.YtjnfkifdgojdaaaGreat.V
open Go
set_option linter.unusedVariables false
set_option linter.unusedSimpArgs false
set_option linter.unusedSectionVars false
variable [Inhabited Flag]
structure VDef where
 pre : List VCode
 clo : VOp
 t : Nat
 rest : VCode
 fn : VFn
 g : FuncId
 rt : Nat
 gc : VCode
 gfn : VFn
def isDef (ops : Array Oper) : Bool := match ops.toList with
 | [_, o] => (match o.op with
  | .defer _ => true
  | _ => false)
 | _ => false
def splitD : Code → Option (List Code × Array Oper × Nat × Code)
 | .seq (.region id ops false) b => if isDef ops = true then some ([], ops, id, b) else match splitD b with
  | some (p, r) => some (.region id ops false :: p, r)
  | none => none
 | .seq a b => match splitD b with
  | some (p, r) => some (a :: p, r)
  | none => none
 | _ => none
def lowL (P : Program) (nt : Nat) (h : Hints) (rl tail : List Nat) : List Code → Option (List VCode × List Nat)
 | [] => some ([], tail)
 | c :: r => match lowL P nt h rl tail r with
  | some (vs, l) => (match lowC P nt h rl c l [] with
   | some v => some (v :: vs, liveC rl c l [])
   | none => none)
  | none => none
def resL (fn : Func) : List Nat := fn.results.toList.foldl (fun s r => insN (resT r) s) []
def lowG (P : Program) (h : Hints) (gfn : Func) : Option (Nat × VCode × VFn) := match gfn.body with
 | some (.seq (.region _ ops false) rest) => (match ops.toList with
  | [⟨some rt, .call ⟨.builtin .recover, _, _⟩, _, _, _, none⟩] =>
   if gfn.params.size + gfn.nfree ≤ gfn.ntmps ∧ rt < gfn.ntmps then (match lowC P gfn.ntmps h (resL gfn) rest (resL gfn) [], lowRes P gfn.results.toList with
    | some v, some rs => some (rt, v, ⟨gfn.params.size + gfn.nfree, gfn.ntmps, .skip, rs, true, []⟩)
    | _, _ => none) else none
  | _ => none)
 | _ => none
def lowD (P : Program) (h : Hints) (frz : Bool) (fn : Func) (g : FuncId) (gfn : Func) : Option VDef :=
 if (fn.name == "runtime.NumGoroutine") = false ∧ (gfn.name == "runtime.NumGoroutine") = false ∧ fn.params.size + fn.nfree ≤ fn.ntmps then (match fn.body with
  | some c => (match splitD c with
   | some (pre, ops, id, rest) => (match ops.toList with
    | [⟨some t, .makeFunc mf ma mb, _, _, _, none⟩, ⟨none, .defer ⟨.value (.tmp t'), das, _⟩, _, _, _, none⟩] =>
     if t = t' ∧ t < fn.ntmps ∧ das.size = 0 then (match opds ma.toList, opds mb.toList, lowL P fn.ntmps h (resL fn) (liveC (resL fn) (.seq (.region id ops false) rest) (resL fn) []) pre, lowC P fn.ntmps h (resL fn) rest (resL fn) [], lowRes P fn.results.toList, lowG P h gfn with
      | some xs, some ys, some (vpre, _), some vrest, some rs, some (rt, gc, gv) => some ⟨vpre, .mkfunc mf xs ys, t, vrest, ⟨fn.params.size + fn.nfree, fn.ntmps, .skip, rs, frz, []⟩, g, rt, gc, gv⟩
      | _, _, _, _, _, _ => none) else none
    | _ => none)
   | none => none)
  | none => none) else none
def evalL (C : Calling) (byref : FuncId → List Nat) (pin n : Nat) : List VCode → St → Option (Ex × St)
 | [], st => some (.nrm, st)
 | c :: r, st => match eval C byref pin n c st with
  | some (.nrm, st') => evalL C byref pin n r st'
  | some (e, st') => some (e, st')
  | none => none
def evalG (C : Calling) (byref : FuncId → List Nat) (n : Nat) (d : VDef) : Calling := fun f args sto => match args with
 | rv :: as => if f = d.g ∧ as.length = d.gfn.np then (match eval C byref sto.length n d.gc ⟨(d.rt, rv) :: numbered 0 as, sto⟩ with
  | some (.nrm, st) => finish sto.length d.gfn st
  | some (.ret, st) => finish sto.length d.gfn st
  | _ => none) else none
 | [] => none
def noFirst : AV → Bool
 | .d (.func (.func _) [] _) => true
 | .func (.func _) [] _ => true
 | _ => false
def evalD (C : Calling) (byref : FuncId → List Nat) (n : Nat) (d : VDef) (args : List AV) (sto : List Obj) : Option (Out × List Obj) :=
 if args.length = d.fn.np then (match evalL C byref sto.length n d.pre ⟨numbered 0 args, sto⟩ with
  | some (.ret, st) => finish sto.length d.fn st
  | some (.nrm, st) => (match evalOp st.env st.sto d.clo with
   | some (v, sto1) => if noFirst v = true ∧ sto1.length = sto1.length then (
    let fin (rv : D) (st2 : St) : Option (Out × List Obj) := (match callOp (evalG C byref n d) (fun _ => []) v [.d rv] st2.sto with
     | some (.ret _, sto3) => finish sto.length d.fn ⟨st2.env, sto3⟩
     | _ => none)
    match eval C byref sto1.length n d.rest ⟨put (some d.t) v st.env, sto1⟩ with
    | some (.nrm, st2) => fin .nili st2
    | some (.ret, st2) => fin .nili st2
    | some (.pan (.d x), st2) => fin x st2
    | _ => none) else none
   | none => none)
  | _ => none) else none
section
variable {P : Program}
def wpL (P : Program) : List Code → (Act → World → Prop) → (Exit → Act → World → Prop) → Act → World → Prop
 | [], K, Q, a, w => K a w
 | c :: r, K, Q, a, w => c.wp P (Exit.then (fun a w => wpL P r K Q a w) Q) a w
theorem wp_split : ∀ {c : Code} {pre : List Code} {ops : Array Oper} {id : Nat} {rest : Code}, splitD c = some (pre, ops, id, rest) → ∀ {Q : Exit → Act → World → Prop} {a : Act} {w : World},
  wpL P pre (fun a w => (Code.seq (.region id ops false) rest).wp P Q a w) Q a w → c.wp P Q a w
 | .seq x b, pre, ops, id, rest, h, Q, a, w, hw => by
  have other : ∀ {p r} (h2 : splitD b = some (p, r)) (e : (x :: p, r) = (pre, ops, id, rest)), (Code.seq x b).wp P Q a w := by
   intro p r h2 e
   cases e
   simp only [wpL] at hw
   refine wp_seq (wp_mono hw fun e a' w' hq => ?_)
   cases e <;> first | exact wp_split h2 hq | exact hq
  unfold splitD at h
  split at h
  ·rename_i i2 ops2 b2 e
   cases e
   split at h
   ·cases h; exact hw
   ·split at h
    ·rename_i p r h2; cases h; exact other h2 rfl
    ·cases h
  ·rename_i a2 b2 hn e
   cases e
   split at h
   ·rename_i p r h2; cases h; exact other h2 rfl
   ·cases h
  ·rename_i hn; exact absurd rfl (hn _ _)
 | .skip, _, _, _, _, h, _, _, _, _ => by simp [splitD] at h
 | .region _ _ _, _, _, _, _, h, _, _, _, _ => by simp [splitD] at h
 | .cond _ _ _, _, _, _, _, h, _, _, _, _ => by simp [splitD] at h
 | .block _ _, _, _, _, _, h, _, _, _, _ => by simp [splitD] at h
 | .loop _, _, _, _, _, h, _, _, _, _ => by simp [splitD] at h
 | .exit _, _, _, _, _, h, _, _, _, _ => by simp [splitD] at h
 | .ret, _, _, _, _, h, _, _, _, _ => by simp [splitD] at h
 | .rangeFunc _ _ _ _, _, _, _, _, h, _, _, _, _ => by simp [splitD] at h
 | .scope _, _, _, _, _, h, _, _, _, _ => by simp [splitD] at h
 | .label _, _, _, _, _, h, _, _, _, _ => by simp [splitD] at h
 | .goto _, _, _, _, _, h, _, _, _, _ => by simp [splitD] at h
 | .refuse _, _, _, _, _, h, _, _, _, _ => by simp [splitD] at h
theorem init_inv {w : World} {F : Nat → Prop} {β : Bl} {sto : List Obj} {args : List AV} {us : Array Value} {nt : Nat} (hS : SRel w F β sto) (hus : ARel w F β args us) (hnt : args.length ≤ nt) :
  Inv [] w F β sto nt ⟨numbered 0 args, sto⟩ { tmps := us ++ Array.replicate (nt - us.size) undef, defers := [] } w F β := by
 refine ⟨⟨by simp [hus.1]; omega, fun k => ?_⟩, hS, Ext.refl _ _ _ _ hS.dom, rfl⟩
 rw [look_numbered, if_neg (by omega), Nat.sub_zero]
 rcases Nat.lt_or_ge k args.length with hk | hk
 ·have e1 := List.getElem?_eq_getElem hk
  have hk' : k < us.size := by rw [hus.1]; exact hk
  have e2 := Array.getElem?_eq_getElem hk'
  rw [e1, Array.getD_eq_getD_getElem?, Array.getElem?_append_left hk', e2]
  exact hus.2 k _ _ e1 e2
 ·rw [List.getElem?_eq_none hk]
  exact .undef _
section
variable {C : Calling} {byref : FuncId → List Nat} {ds0 : List Deferred} {w0 : World} {F0 : Nat → Prop} {β0 : Bl} {sto0 : List Obj} {nt : Nat}
theorem evalL_sound (hC : Sound P C) (hm : P.follows .mixedOrders = true) (hd : ∀ id, sto0.length ≤ id → β0 id = none) {n : Nat} {hints : Hints} {rl tail : List Nat} : ∀ (pre : List Code) (vs : List VCode) (l : List Nat), lowL P nt hints rl tail pre = some (vs, l) →
  ∀ (st : St) (ex : Ex) (st' : St), evalL C byref sto0.length n vs st = some (ex, st') → ∀ (a : Act) (w : World) (F : Nat → Prop) (β : Bl), Inv ds0 w0 F0 β0 sto0 nt st a w F β → ∀ {K : Act → World → Prop} {Q : Exit → Act → World → Prop},
   (ex = .nrm → ∀ a' w' F' β', Inv ds0 w0 F0 β0 sto0 nt st' a' w' F' β' → K a' w') → (ex ≠ .nrm → ∀ e a' w', QRel ds0 w0 F0 β0 sto0 nt ex st' e a' w' → Q e a' w') → wpL P pre K Q a w
 | [], vs, l, hl, st, ex, st', he, a, w, F, β, hI, K, Q, hK, hQ => by
  simp only [lowL] at hl
  cases hl
  simp only [evalL] at he
  cases he
  exact hK rfl a w F β hI
 | c :: r, vs, l, hl, st, ex, st', he, a, w, F, β, hI, K, Q, hK, hQ => by
  simp only [lowL] at hl
  split at hl
  ·rename_i vs1 l1 h1
   split at hl
   ·rename_i v hv
    cases hl
    simp only [evalL] at he
    simp only [wpL]
    split at he
    ·rename_i st1 h2
     refine wp_mono (code_sound hC hm hd c _ _ _ hv st _ _ h2 a w F β hI) fun e a' w' hq => ?_
     obtain ⟨F', β', h3, h4⟩ := hq
     cases e <;> first | exact h3.elim | skip
     exact evalL_sound hC hm hd r vs1 _ h1 st1 _ _ he a' w' F' β' h4 hK hQ
    ·rename_i e1 st1 hne h2
     cases he
     refine wp_mono (code_sound hC hm hd c _ _ _ hv st _ _ h2 a w F β hI) fun e a' w' hq => ?_
     have hq' := hQ (fun h => hne h) e a' w' hq
     cases e with
     | normal =>
      obtain ⟨F', β', h3, h4⟩ := hq
      exact (hne (ExRel.nrm_of h3)).elim
     | _ => exact hq'
    ·cases he
   ·cases hl
  ·cases hl
end
def RecAs (u : FrameMode) (uv : Value) : Prop := ∃ u', settle u' = .returning ∧ ∀ (c₀ : Frame) (cs : List Frame), c₀.mode = u → (match recoverD (c₀ :: cs) with
 | some (v, cs') => v = uv ∧ cs' = { c₀ with mode := u' } :: cs
 | none => uv = .nilIface ∧ u' = u)
def KG (P : Program) (g : FuncId) (u : FrameMode) : FuncId → Array Value → World → (Ending → World → Prop) → Prop := fun f us w R => f = g ∧
 ∃ (uv : Value) (cap : Array Value), us = #[uv] ++ cap ∧ (RecAs u uv → CallsD P f cap u w fun e u' w' => (∃ v, e = .returned v) ∧ settle u' = .returning ∧ R e w')
theorem KG_mono (P : Program) (g : FuncId) (u : FrameMode) : MonoK (KG P g u) := by
 intro f us w R R' ⟨h0, uv, cap, h1, h2⟩ hr
 exact ⟨h0, uv, cap, h1, fun h => (h2 h).mono fun e u' w' ⟨h3, h4, h5⟩ => ⟨h3, h4, hr _ _ h5⟩⟩
theorem one_of {α : Type} {xs : Array α} {x : α} (h : xs.toList = [x]) : xs = #[x] := by
 cases xs; simp at h; subst h; rfl
theorem two_of {α : Type} {xs : Array α} {x y : α} (h : xs.toList = [x, y]) : xs = #[x, y] := by
 cases xs; simp at h; subst h; rfl
theorem G_sound {C : Calling} (hC : Sound P C) (hm : P.follows .mixedOrders = true) {byref : FuncId → List Nat} {n : Nat} {hints : Hints} {d : VDef} {gfn : Func} (hg : P.funcs[d.g]? = some gfn) (hl : lowG P hints gfn = some (d.rt, d.gc, d.gfn)) (u : FrameMode) :
  SoundK (KG P d.g u) (evalG C byref n d) := by
 intro f args sto out sto' he w F β us hS hus
 unfold lowG at hl
 split at hl
 case h_2 => cases hl
 rename_i id ops rest hbody
 split at hl
 case h_2 => cases hl
 rename_i rt das ts ty pos aft hops
 split at hl
 case isFalse => cases hl
 rename_i hn
 split at hl
 case h_2 => cases hl
 rename_i v rs hv hrs
 simp only [Option.some.injEq, Prod.mk.injEq] at hl
 obtain ⟨e1, e2, e3⟩ := hl
 unfold evalG at he
 split at he
 case h_2 => cases he
 rename_i rv as
 split at he
 case isFalse => cases he
 rename_i hc
 obtain ⟨rfl, hlen⟩ := hc
 have hsz : us.size = as.length + 1 := by rw [hus.1]; rfl
 refine ⟨rfl, us[0], us.extract 1 us.size, ?_, fun hrec => ?_⟩
 ·apply Array.ext
  ·simp; omega
  ·intro i h1 h2
   cases i with
   | zero => simp
   | succ i => simp [Nat.add_comm]
 have h0 : VRel w F β rv us[0] := hus.2 0 rv us[0] rfl (Array.getElem?_eq_getElem (by omega))
 have has : ARel w F β as (us.extract 1 us.size) := by
  refine ⟨by simp; omega, fun j y u' hy hu => ?_⟩
  rw [Array.getElem?_extract] at hu
  split at hu
  ·exact hus.2 (j + 1) y u' (by simpa using hy) (by rw [Nat.add_comm]; exact hu)
  ·cases hu
 rw [← e3] at hlen
 dsimp only at hlen
 have hI0 := init_inv (nt := gfn.ntmps) hS has (by omega)
 obtain ⟨u', hset, hr⟩ := hrec
 refine callsD_of_wpS hg hbody fun c₀ cs hmode => ?_
 have hr := hr c₀ cs hmode
 refine wpS_seq (wpS_region ?_)
 rw [one_of hops]
 have hrun : ∀ (a : Act), (execOp a.eval ⟨some rt, .call ⟨.builtin .recover, das, ts⟩, ty, pos, aft, none⟩).run P w = .ok .recover w := by
  intro a
  unfold execOp
  simp [resolve, invoke, builtin]
 have hrange : List.range (#[(⟨some rt, .call ⟨.builtin .recover, das, ts⟩, ty, pos, aft, none⟩ : Oper)]).size = [0] := rfl
 rw [hrange]
 simp only [wpOpsS, List.getElem?_toArray, List.getElem?_cons_zero, Region.wanted, if_true, hrun]
 have go : ∀ cs', cs' = { c₀ with mode := u' } :: cs → rest.wpS P (bodyPostS P gfn c₀ cs (fun e u' w' => (∃ v, e = .returned v) ∧ settle u' = .returning ∧ Res w F β sto out sto' e w')) (Act.put { tmps := us.extract 1 us.size ++ Array.replicate (gfn.ntmps - (us.extract 1 us.size).size) undef, defers := [] } (some rt) us[0]) cs' w := by
  intro cs' ecs
  have hI1 : Inv [] w F β sto gfn.ntmps ⟨(rt, rv) :: numbered 0 as, sto⟩ (Act.put { tmps := us.extract 1 us.size ++ Array.replicate (gfn.ntmps - (us.extract 1 us.size).size) undef, defers := [] } (some rt) us[0]) w F β :=
   hI0.step (dst := some rt) (by simp [dstOk, hn.2]) h0 hS (Ext.refl _ _ _ _ hS.dom)
  have fin : ∀ (ex : Ex) (st : St), eval C byref sto.length n v ⟨(rt, rv) :: numbered 0 as, sto⟩ = some (ex, st) → finish sto.length d.gfn st = some (out, sto') → (ex = .nrm ∨ ex = .ret) → rest.wpS P (bodyPostS P gfn c₀ cs (fun e u' w' => (∃ v, e = .returned v) ∧ settle u' = .returning ∧ Res w F β sto out sto' e w')) (Act.put { tmps := us.extract 1 us.size ++ Array.replicate (gfn.ntmps - (us.extract 1 us.size).size) undef, defers := [] } (some rt) us[0]) cs' w := by
   intro ex st h1 h2 h3
   refine wpS_of_wp (wp_mono (code_sound hC hm hS.dom rest _ _ _ hv _ ex st h1 _ w F β hI1) fun e a' w' hq => ?_)
   obtain ⟨F', β', h4, h5⟩ := hq
   obtain ⟨v', h6, h7⟩ := finish_sound (vf := d.gfn) hS.dom (by rw [← e3]; exact hrs) h2 h5
   rcases h3 with rfl | rfl <;> cases e <;> first | exact h4.elim | skip
   ·exact ⟨h5.def0, u', ecs, v', h6, ⟨v', rfl⟩, hset, h7⟩
   ·exact ⟨h5.def0, u', ecs, v', h6, ⟨v', rfl⟩, hset, h7⟩
  rw [← e1, ← e2] at he
  split at he
  ·rename_i st h1; exact fin _ _ h1 he (.inl rfl)
  ·rename_i st h1; exact fin _ _ h1 he (.inr rfl)
  ·cases he
 split at hr
 ·rename_i v' cs' hrd
  obtain ⟨rfl, ecs⟩ := hr
  rw [hrd]
  exact go _ ecs
 ·rename_i hrd
  obtain ⟨e4, e5⟩ := hr
  rw [hrd]
  have hcs : c₀ :: cs = { c₀ with mode := u' } :: cs := by subst e5; subst hmode; rfl
  have := go _ hcs
  rw [e4] at this
  exact this
theorem noFirst_inv {w : World} {F : Nat → Prop} {β : Bl} {v : AV} {uf : Value} (h : noFirst v = true) (hv : VRel w F β v uf) : ∃ g ub, uf = .func (.func g) #[] ub := by
 unfold noFirst at h
 split at h
 ·cases hv with | d _ _ hd => cases hd with | func _ _ _ ua ub ha hb hra hrb =>
  have : ua = #[] := Array.eq_empty_of_size_eq_zero (by simpa using ha)
  subst this
  exact ⟨_, ub, rfl⟩
 ·cases hv with | func _ _ _ ua ub ha hb hra hrb =>
  have : ua = #[] := Array.eq_empty_of_size_eq_zero (by simpa using ha)
  subst this
  exact ⟨_, ub, rfl⟩
 ·cases h
theorem rec_ret : RecAs .returning .nilIface := ⟨.returning, rfl, fun c₀ cs h => by simp [recoverD, h]⟩
theorem rec_pan (uv : Value) : RecAs (.panicking [{ v := uv, recovered := false }]) uv :=
 ⟨.panicking [{ v := uv, recovered := true }], rfl, fun c₀ cs h => by simp [recoverD, h]⟩
set_option maxHeartbeats 1000000 in
theorem def_sound {C : Calling} (hC : Sound P C) (hm : P.follows .mixedOrders = true) {byref : FuncId → List Nat} {n : Nat} {hints : Hints} {frz : Bool} {f g : FuncId} {fn gfn : Func} (hf : P.funcs[f]? = some fn) (hg : P.funcs[g]? = some gfn) {d : VDef} (hl : lowD P hints frz fn g gfn = some d)
  {args : List AV} {sto : List Obj} {out : Out} {sto' : List Obj} (he : evalD C byref n d args sto = some (out, sto')) {w : World} {F : Nat → Prop} {β : Bl} {us : Array Value} (hS : SRel w F β sto) (hus : ARel w F β args us) : CallsF P f us w (Res w F β sto out sto') := by
 unfold lowD at hl
 split at hl
 case isFalse => cases hl
 rename_i hn
 obtain ⟨hname, hgname, hnt⟩ := hn
 split at hl
 case h_2 => cases hl
 rename_i c hbody
 split at hl
 case h_2 => cases hl
 rename_i pre ops id rest hsp
 split at hl
 case h_2 => cases hl
 rename_i t mf ma mb ty1 pos1 aft1 t' das ats ty2 pos2 aft2 hops
 split at hl
 case isFalse => cases hl
 rename_i ht
 obtain ⟨rfl, htn, hda⟩ := ht
 split at hl
 case h_2 => cases hl
 rename_i xs ys vpre lpre vrest rs rt gc gv hxs hys hpre hrest hrs hG
 cases hl
 have hda' : das = #[] := Array.eq_empty_of_size_eq_zero hda
 subst hda'
 have hgb : gfn.body.isNone = false := by
  unfold lowG at hG
  split at hG
  ·rename_i e; rw [e]; rfl
  ·cases hG
 unfold evalD at he
 split at he
 case isFalse => cases he
 rename_i hargs
 dsimp only at hargs he
 have hI0 := init_inv (nt := fn.ntmps) hS hus (by omega)
 refine .inl ⟨fn, hf, hname, by rw [hbody]; rfl, calls_of_wp_defers hf hbody (wp_split hsp ?_)⟩
 split at he
 ·-- an early return
  rename_i st h1
  refine evalL_sound hC hm hS.dom pre vpre _ hpre _ _ _ h1 _ _ _ _ hI0 (fun h => by cases h) fun _ e a' w' hq => ?_
  obtain ⟨F', β', h2, h3⟩ := hq
  cases e <;> first | exact h2.elim | skip
  obtain ⟨v, h4, h5⟩ := finish_sound (vf := ⟨fn.params.size + fn.nfree, fn.ntmps, .skip, rs, frz, []⟩) hS.dom hrs he h3
  show Leaves P fn a'.tmps _ a'.defers .returning w'
  rw [h3.def0]
  exact ⟨v, h4, h5⟩
 ·rename_i st h1
  split at he
  case h_2 => cases he
  rename_i v sto1 hclo
  split at he
  case isFalse => cases he
  rename_i hnf
  have hnf := hnf.1
  refine evalL_sound hC hm hS.dom pre vpre _ hpre _ _ _ h1 _ _ _ _ hI0 (fun _ a1 w1 F1 β1 hI1 => ?_) fun h => absurd rfl h
  have hlow : lowOp P ⟨some t, .makeFunc mf ma mb, ty1, pos1, aft1, none⟩ = some (.mkfunc mf xs ys) := by
   simp only [lowOp, hxs, hys]
  refine wp_seq (wp_region ?_)
  rw [two_of hops]
  have hrange : List.range (#[(⟨some t, .makeFunc mf ma mb, ty1, pos1, aft1, none⟩ : Oper), ⟨none, .defer ⟨.value (.tmp t), #[], ats⟩, ty2, pos2, aft2, none⟩]).size = [0, 1] := rfl
  rw [hrange]
  simp only [wpOps, List.getElem?_toArray, List.getElem?_cons_zero, List.getElem?_cons_succ, Region.wanted, if_true]
  refine .inl (op_step hlow hclo hI1 (by simpa [dstOk] using htn) fun a2 w2 F2 β2 hI2 => ?_)
  have hv2 : VRel w2 F2 β2 v (a2.tmps.getD t undef) := by
   have := hI2.env.2 t
   simpa [V.put, look] using this
  obtain ⟨g0, ub, euf⟩ := noFirst_inv hnf hv2
  refine .inl ?_
  have hdef : (execOp a2.eval ⟨none, .defer ⟨.value (.tmp t), #[], ats⟩, ty2, pos2, aft2, none⟩).run P w2 = .ok (.defer { target := .fn (.func g0) ub, args := #[] }) w2 := by
   have e1 : a2.eval (.tmp t) = .func (.func g0) #[] ub := euf
   unfold execOp
   simp [resolve, e1, Deferred.ofValue]
  unfold Oper.wp
  rw [hdef, Oper.upon_defer]
  have ed : a2.defers = [] := hI2.def0
  have hI3 : Inv [{ target := .fn (.func g0) ub, args := #[] }] w2 F2 β2 sto1 fn.ntmps ⟨V.put (some t) v st.env, sto1⟩ (Act.put { a2 with defers := { target := .fn (.func g0) ub, args := #[] } :: a2.defers } none undef) w2 F2 β2 :=
   ⟨hI2.env, hI2.sto, Ext.refl _ _ _ _ hI2.sto.dom, by simp [Act.put, ed]⟩
  show Exit.then (rest.wp P _) _ .normal _ _
  -- what comes at the end
  have fin : ∀ (u : FrameMode) (rv : D) (uv : Value) (st2 : St) (a3 : Act) (w3 : World) (F3 : Nat → Prop) (β3 : Bl), u ≠ .run → RecAs u uv → DRel w3 F3 rv uv → Inv [{ target := .fn (.func g0) ub, args := #[] }] w2 F2 β2 sto1 fn.ntmps st2 a3 w3 F3 β3 →
    (match callOp (evalG C byref n ⟨vpre, .mkfunc mf xs ys, t, vrest, ⟨fn.params.size + fn.nfree, fn.ntmps, .skip, rs, frz, []⟩, g, rt, gc, gv⟩) (fun _ => []) v [.d rv] st2.sto with
     | some (.ret _, sto3) => finish sto.length ⟨fn.params.size + fn.nfree, fn.ntmps, .skip, rs, frz, []⟩ ⟨st2.env, sto3⟩
     | _ => none) = some (out, sto') → Leaves P fn a3.tmps (Res w F β sto out sto') a3.defers u w3 := by
   intro u rv uv st2 a3 w3 F3 β3 hu hrec hrv hI4 hfin
   rw [hI4.def0]
   split at hfin
   case h_2 => cases hfin
   rename_i rr sto3 hcall
   have hv3 := hv2.mono hI4.ext.mono
   have harg : ARel w3 F3 β3 [.d rv] #[uv] := ⟨rfl, fun j y u hy hu => by
    match j with
    | 0 => simp at hy hu; subst hy; subst hu; exact .d _ _ hrv
    | j + 1 => simp at hy⟩
   obtain ⟨g1, first, cap, e1, e2, uv', cap', e3, hK⟩ := callOp_soundK (KG_mono P g u) (G_sound hC hm hg hG u) hcall hI4.sto hv3 harg
   rw [euf] at e1
   cases e1
   subst e2
   have e4 : #[uv] ++ ub = #[uv'] ++ cap' := by simpa using e3
   have e5 : uv' = uv ∧ cap' = ub := by
    have := congrArg Array.toList e4
    simp at this
    exact ⟨this.1.symm, this.2.symm⟩
   obtain ⟨rfl, rfl⟩ := e5
   refine leaves_cons hu (by simp only [invoke]; simpa using callFunc_enter hg hgname hgb cap' w3) ((hK hrec).mono fun e u' w' h => ?_)
   obtain ⟨⟨v', rfl⟩, hset, F4, β4, h6, h7, h8⟩ := h
   show Leaves P fn a3.tmps _ [] (settle u') w'
   rw [hset]
   have hI5 : Inv a3.defers w F β sto fn.ntmps ⟨st2.env, sto3⟩ a3 w' F4 β4 :=
    ⟨hI4.env.mono h8.mono, h7, (hI2.ext.trans hI4.ext).trans h8, rfl⟩
   exact finish_sound (vf := ⟨fn.params.size + fn.nfree, fn.ntmps, .skip, rs, frz, []⟩) hS.dom hrs hfin hI5
  split at he
  ·rename_i st2 h2
   refine wp_mono (code_sound hC hm hI2.sto.dom rest _ _ _ hrest _ _ _ h2 _ _ _ _ hI3) fun e a3 w3 hq => ?_
   obtain ⟨F3, β3, h3, h4⟩ := hq
   cases e <;> first | exact h3.elim | skip
   exact fin .returning .nili .nilIface st2 a3 w3 F3 β3 (by simp) rec_ret .nili h4 he
  ·rename_i st2 h2
   refine wp_mono (code_sound hC hm hI2.sto.dom rest _ _ _ hrest _ _ _ h2 _ _ _ _ hI3) fun e a3 w3 hq => ?_
   obtain ⟨F3, β3, h3, h4⟩ := hq
   cases e <;> first | exact h3.elim | skip
   exact fin .returning .nili .nilIface st2 a3 w3 F3 β3 (by simp) rec_ret .nili h4 he
  ·rename_i x st2 h2
   refine wp_mono (code_sound hC hm hI2.sto.dom rest _ _ _ hrest _ _ _ h2 _ _ _ _ hI3) fun e a3 w3 hq => ?_
   obtain ⟨F3, β3, h3, h4⟩ := hq
   cases e <;> first | exact h3.elim | skip
   obtain ⟨uv, rfl, huv⟩ := h3
   refine fin _ x uv st2 a3 w3 F3 β3 (by simp) (rec_pan uv) ?_ h4 he
   cases huv with | d _ _ h => exact h
  ·cases he
 ·cases he
def lowDAt (P : Program) (f g : FuncId) : Option VDef := match P.funcs[f]?, P.funcs[g]? with
 | some fn, some gfn => lowD P [] true fn g gfn
 | _, _ => none
theorem defAt_sound {C : Calling} (hC : Sound P C) (hm : P.follows .mixedOrders = true) {byref : FuncId → List Nat} {n : Nat} {f g : FuncId} {d : VDef} (hl : lowDAt P f g = some d)
  {args : List AV} {sto : List Obj} {out : Out} {sto' : List Obj} (he : evalD C byref n d args sto = some (out, sto')) {w : World} {F : Nat → Prop} {β : Bl} {us : Array Value} (hS : SRel w F β sto) (hus : ARel w F β args us) : CallsF P f us w (Res w F β sto out sto') := by
 unfold lowDAt at hl
 split at hl
 ·rename_i fn gfn hf hg; exact def_sound hC hm hf hg hl he hS hus
 ·cases hl
end
end Go.Proofs.YtjnfkifdgojdaaaGreat.V

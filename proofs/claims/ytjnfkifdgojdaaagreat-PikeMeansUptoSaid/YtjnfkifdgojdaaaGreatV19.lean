/- Regions: what the evaluator says of a row of operations is what the machine does. -/
import Derived.Test.YtjnfkifdgojdaaaGreatV18
namespace Go.Proofs.YtjnfkifdgojdaaaGreat.V
open Go
set_option linter.unusedVariables false
set_option linter.unusedSimpArgs false
set_option linter.unusedSectionVars false
variable [Inhabited Flag]
section
variable {P : Program} {ds0 : List Deferred} {w0 : World} {F0 : Nat → Prop} {β0 : Bl} {sto0 : List Obj} {nt : Nat}
def ExRel (w : World) (F : Nat → Prop) (β : Bl) : Ex → Exit → Prop
 | .nrm, .normal => True
 | .ext i, .exit j => i = j
 | .ret, .ret => True
 | .pan v, .panic ch => ∃ u, ch = [{ v := u, recovered := false }] ∧ VRel w F β v u
 | _, _ => False
structure Inv (ds0 : List Deferred) (w0 : World) (F0 : Nat → Prop) (β0 : Bl) (sto0 : List Obj) (nt : Nat) (st : St) (a : Act) (w : World) (F : Nat → Prop) (β : Bl) : Prop where
 env : ERel w F β nt st.env a.tmps
 sto : SRel w F β st.sto
 ext : Ext w0 F0 β0 sto0 w F β st.sto
 def0 : a.defers = ds0
def QRel (ds0 : List Deferred) (w0 : World) (F0 : Nat → Prop) (β0 : Bl) (sto0 : List Obj) (nt : Nat) (ex : Ex) (st : St) : Exit → Act → World → Prop :=
 fun e a w => ∃ (F : Nat → Prop) (β : Bl), ExRel w F β ex e ∧ Inv ds0 w0 F0 β0 sto0 nt st a w F β
theorem ERel.put {w : World} {F : Nat → Prop} {β : Bl} {env : Env} {a : Act} (h : ERel w F β nt env a.tmps) {dst : Option Nat} (hd : dstOk nt dst = true) {v : AV} {u : Value} (hv : VRel w F β v u) : ERel w F β nt (V.put dst v env) (a.put dst u).tmps := by
 cases dst with
 | none => exact h
 | some d =>
  simp only [dstOk, decide_eq_true_eq] at hd
  refine ⟨by simp [Act.put, h.1], fun n => ?_⟩
  simp only [V.put, look, Act.put]
  split
  ·rename_i e
   subst e
   have : d < a.tmps.size := by rw [h.1]; exact hd
   simp [Array.getD, this]
   exact hv
  ·rename_i e
   have := h.2 n
   have e2 : (a.tmps.setIfInBounds d u).getD n undef = a.tmps.getD n undef := by
    simp only [Array.getD_eq_getD_getElem?]
    rw [Array.getElem?_setIfInBounds_ne e]
   rw [e2]; exact this
theorem put_defers (a : Act) (dst : Option Nat) (u : Value) : (a.put dst u).defers = a.defers := by cases dst <;> rfl
theorem Inv.step {st : St} {a : Act} {w : World} {F : Nat → Prop} {β : Bl} (hI : Inv ds0 w0 F0 β0 sto0 nt st a w F β) {dst : Option Nat} (hd : dstOk nt dst = true) {v : AV} {u : Value} {w' : World} {F' : Nat → Prop} {β' : Bl} {sto' : List Obj}
  (hv : VRel w' F' β' v u) (hS : SRel w' F' β' sto') (hE : Ext w F β st.sto w' F' β' sto') : Inv ds0 w0 F0 β0 sto0 nt ⟨V.put dst v st.env, sto'⟩ (a.put dst u) w' F' β' :=
 ⟨(hI.env.mono hE.mono).put hd hv, hS, hI.ext.trans hE, by rw [put_defers]; exact hI.def0⟩
theorem eval_const (a : Act) (c : Value) : a.eval (.const c) = c := rfl
theorem op_step {o : Oper} {vo : VOp} (hlow : lowOp P o = some vo) {st : St} {v : AV} {sto' : List Obj} (he : evalOp st.env st.sto vo = some (v, sto')) {a : Act} {w : World} {F : Nat → Prop} {β : Bl} (hI : Inv ds0 w0 F0 β0 sto0 nt st a w F β) (hd : dstOk nt o.dst = true)
  {K : Act → World → Prop} {Q : Exit → Act → World → Prop} (hK : ∀ a' w' F' β', Inv ds0 w0 F0 β0 sto0 nt ⟨V.put o.dst v st.env, sto'⟩ a' w' F' β' → K a' w') : o.wp P a w K Q := by
 obtain ⟨u, w', F', β', hr, hv, hS, hE⟩ := op_sound hlow he (RRel.of hI.env) (eval_const a) hI.sto
 unfold Oper.wp
 rcases hr with hr | ⟨hr, rfl⟩ <;> rw [hr]
 ·exact hK _ _ F' β' (hI.step hd hv hS hE)
 ·exact hK _ _ F' β' (hI.step hd hv hS hE)
theorem callFunc_enter {f : FuncId} {fn : Func} (h1 : P.funcs[f]? = some fn) (h2 : (fn.name == "runtime.NumGoroutine") = false) (h3 : fn.body.isNone = false) (us : Array Value) (w : World) : (callFunc f us).run P w = .ok (.enter f us) w := by
 have h2' : ¬ fn.name = "runtime.NumGoroutine" := by simpa using h2
 have h3' : ¬ fn.body = none := by
  intro e
  rw [e] at h3
  cases h3
 unfold callFunc
 simp [h1, h2', h3']
theorem low_call {o : Oper} {f' : Opd} {xs : List Opd} (h : lowOp P o = some (.call f' xs)) : ∃ f args ts, o.op = .call ⟨.value f, args, ts⟩ ∧ opd f = some f' ∧ opds args.toList = some xs := by
 obtain ⟨dst, op, type, pos, after, guard⟩ := o
 cases op
 case call c =>
  obtain ⟨callee, args, ts⟩ := c
  cases callee with
  | value f =>
   simp only [lowOp] at h
   split at h
   ·rename_i g ys hg hys
    cases h
    exact ⟨f, args, ts, rfl, hg, hys⟩
   ·cases h
  | builtin b =>
   simp only [lowOp] at h
   unfold lowBuiltin bindO at h
   repeat' (split at h; try dsimp only at h)
   all_goals first
    | (cases h; done)
    | (simp only [Option.map_eq_some_iff] at h; obtain ⟨_, _, h⟩ := h; cases h)
  | invoke a b => simp only [lowOp] at h; cases h
 case next x str =>
  cases str
  ·simp only [lowOp] at h; cases h
  ·simp only [lowOp, Option.map_eq_some_iff] at h; obtain ⟨_, _, h⟩ := h; cases h
 all_goals
  simp only [lowOp, lowBin, lowConv, lowEq, bindO] at h
  repeat' (split at h; try dsimp only at h)
 all_goals first
  | (cases h; done)
  | (simp only [Option.map_eq_some_iff] at h; obtain ⟨_, _, h⟩ := h; cases h)
  | (split at h <;> first | (cases h; done) | (simp only [Option.map_eq_some_iff] at h; obtain ⟨_, _, h⟩ := h; cases h))
theorem low_panic {o : Oper} {x' : Opd} (h : lowOp P o = some (.panic x')) : ∃ x, o.op = .panic x ∧ opd x = some x' := by
 obtain ⟨dst, op, type, pos, after, guard⟩ := o
 cases op
 case panic x =>
  simp only [lowOp, Option.map_eq_some_iff] at h
  obtain ⟨y, hy, h⟩ := h
  cases h
  exact ⟨x, rfl, hy⟩
 case call c =>
  obtain ⟨callee, args, ts⟩ := c
  cases callee with
  | value f =>
   simp only [lowOp] at h
   split at h
   ·cases h
   ·cases h
  | builtin b =>
   simp only [lowOp] at h
   unfold lowBuiltin bindO at h
   repeat' (split at h; try dsimp only at h)
   all_goals first
    | (cases h; done)
    | (simp only [Option.map_eq_some_iff] at h; obtain ⟨_, _, h⟩ := h; cases h)
  | invoke a b => simp only [lowOp] at h; cases h
 case next x str =>
  cases str
  ·simp only [lowOp] at h; cases h
  ·simp only [lowOp, Option.map_eq_some_iff] at h; obtain ⟨_, _, h⟩ := h; cases h
 all_goals
  simp only [lowOp, lowBin, lowConv, lowEq, bindO] at h
  repeat' (split at h; try dsimp only at h)
 all_goals first
  | (cases h; done)
  | (simp only [Option.map_eq_some_iff] at h; obtain ⟨_, _, h⟩ := h; cases h)
  | (split at h <;> first | (cases h; done) | (simp only [Option.map_eq_some_iff] at h; obtain ⟨_, _, h⟩ := h; cases h))
theorem call_wp {o : Oper} {f : Operand} {args : Array Operand} {ts : Array TypeId} (ho : o.op = .call ⟨.value f, args, ts⟩) {a : Act} {w : World} {g : FuncId} {first cap : Array Value} (hf : a.eval f = .func (.func g) first cap)
  {R : Ending → World → Prop} (hc : CallsF P g (first ++ args.map a.eval ++ cap) w R) {K : Act → World → Prop} {Q : Exit → Act → World → Prop} (hR : ∀ e w', R e w' → match e with
   | .returned v => K (a.put o.dst v) w'
   | .panicked ch => Q (.panic ch) a w'
   | .outgrown => False) : o.wp P a w K Q := by
 have hrun : (execOp a.eval o).run P w = (callFunc g (first ++ args.map a.eval ++ cap)).run P w := by
  unfold execOp
  rw [ho]
  simp [resolve, Deferred.ofValue, hf, invoke]
 unfold Oper.wp
 rw [hrun]
 rcases hc with ⟨fn, h1, h2, h3, h4⟩ | ⟨v, w', h1, h2⟩
 ·rw [callFunc_enter h1 h2 h3]
  refine h4.mono fun e w' hr => ?_
  have := hR e w' hr
  cases e with
  | returned v => exact this
  | panicked ch => exact this
  | outgrown => exact this.elim
 ·rw [h1]
  exact hR _ _ h2
theorem wanted_of {ops : Array Oper} {o : Oper} {g : Option (Nat × Bool)} (hg : guardT ops o.guard = some g) {env : Env} {b : Bool} (hb : wantedV g env = some b) {w : World} {F : Nat → Prop} {β : Bl} {tmps : Array Value} (hE : ERel w F β nt env tmps) : Region.wanted o (yielded ops tmps) = b := by
 unfold Region.wanted
 unfold guardT at hg
 split at hg
 ·rename_i e
  cases hg
  simp only [wantedV] at hb
  cases hb
  rw [e]
 ·rename_i j want e
  rw [e]
  split at hg
  ·rename_i t ht
   cases hg
   simp only [wantedV] at hb
   have hv := hE.2 t
   simp only [yielded, ht, Option.bind_some]
   rw [Array.getD_eq_getD_getElem?] at hv
   split at hb
   ·rename_i c hl
    cases hb
    rw [hl] at hv
    have := inv_bool hv
    cases hx : tmps[t]? with
    | none => rw [hx] at this; cases this
    | some x =>
     rw [hx] at this
     simp only [Option.getD_some] at this
     subst this
     cases c <;> cases want <;> rfl
   ·rename_i hl
    cases hb
    rw [hl] at hv
    obtain ⟨vs, h1, h2, _⟩ := inv_tup hv
    cases hx : tmps[t]? with
    | none => rfl
    | some x =>
     rw [hx] at h1
     simp only [Option.getD_some] at h1
     subst h1
     rfl
   ·cases hb
  ·cases hg
theorem undef_rel (w : World) (F : Nat → Prop) (β : Bl) : VRel w F β (.tup []) undef := .tup [] #[] rfl (fun _ _ _ h => by simp at h)
theorem ops_sound {C : Calling} (hC : Sound P C) {byref : FuncId → List Nat} {ops : Array Oper} : ∀ (l : List Oper) (k : Nat), (∀ j, l[j]? = ops[k + j]?) → ∀ vs, lowOps P nt ops l = some vs → ∀ (st : St) (ex : Ex) (st' : St), evalOps C byref vs st = some (ex, st') →
  ∀ (a : Act) (w : World) (F : Nat → Prop) (β : Bl), Inv ds0 w0 F0 β0 sto0 nt st a w F β → wpOps P ops (QRel ds0 w0 F0 β0 sto0 nt ex st') (List.range' k l.length) a w
 | [], k, hl, vs, hlow, st, ex, st', he, a, w, F, β, hI => by
  simp only [lowOps] at hlow
  cases hlow
  simp only [evalOps] at he
  cases he
  exact ⟨F, β, trivial, hI⟩
 | o :: l, k, hl, vs, hlow, st, ex, st', he, a, w, F, β, hI => by
  simp only [lowOps] at hlow
  split at hlow
  ·rename_i vo g vr hvo hg hvr
   split at hlow
   ·rename_i hd
    cases hlow
    have ho : ops[k]? = some o := by simpa using (hl 0).symm
    have hl' : ∀ j, l[j]? = ops[k + 1 + j]? := fun j => by have := hl (j + 1); simpa [Nat.add_assoc, Nat.add_comm 1 j] using this
    have ih := fun (st1 : St) (h : evalOps C byref vr st1 = some (ex, st')) (a1 : Act) (w1 : World) (F1 : Nat → Prop) (β1 : Bl) (hI1 : Inv ds0 w0 F0 β0 sto0 nt st1 a1 w1 F1 β1) => ops_sound hC l (k + 1) hl' vr hvr st1 ex st' h a1 w1 F1 β1 hI1
    simp only [List.length_cons, List.range'_succ, wpOps, ho]
    simp only [evalOps] at he
    split at he
    ·cases he
    ·rename_i b hb
     have hw := wanted_of hg hb hI.env
     rw [hw]
     split at he
     ·rename_i hbt
      rw [if_pos hbt]
      refine .inl ?_
      split at he
      ·rename_i f args
       split at he
       ·rename_i v sto1 hcall
        obtain ⟨f0, args0, ts, hop, hf0, hargs0⟩ := low_call hvo
        obtain ⟨_, hn, hr⟩ := opds_rel (RRel.of hI.env) _ _ hargs0
        obtain ⟨g, first, cap, hfv, hcs⟩ := callOp_sound hC hcall hI.sto (RRel.of hI.env f0 f hf0) (us := args0.map a.eval) ⟨by simp [hn], fun j y u hy hu => hr j y u hy (by rw [← Array.toList_map, Array.getElem?_toList]; exact hu)⟩
        refine call_wp hop hfv hcs fun e w' hR => ?_
        obtain ⟨F', β', h1, h2, h3⟩ := hR
        cases e with
        | returned u => exact ih _ he _ _ F' β' (hI.step hd h1 h2 h3)
        | panicked ch => exact h1.elim
        | outgrown => exact h1.elim
       ·rename_i v sto1 hcall
        cases he
        obtain ⟨f0, args0, ts, hop, hf0, hargs0⟩ := low_call hvo
        obtain ⟨_, hn, hr⟩ := opds_rel (RRel.of hI.env) _ _ hargs0
        obtain ⟨g, first, cap, hfv, hcs⟩ := callOp_sound hC hcall hI.sto (RRel.of hI.env f0 f hf0) (us := args0.map a.eval) ⟨by simp [hn], fun j y u hy hu => hr j y u hy (by rw [← Array.toList_map, Array.getElem?_toList]; exact hu)⟩
        refine call_wp hop hfv hcs fun e w' hR => ?_
        obtain ⟨F', β', h1, h2, h3⟩ := hR
        cases e with
        | returned u => exact h1.elim
        | panicked ch => exact ⟨F', β', h1, ⟨hI.env.mono h3.mono, h2, hI.ext.trans h3, hI.def0⟩⟩
        | outgrown => exact h1.elim
       ·cases he
      ·rename_i x
       split at he
       ·rename_i t z hx
        cases he
        obtain ⟨x0, hop, hx0⟩ := low_panic hvo
        have hv := RRel.of hI.env x0 x hx0
        rw [hx] at hv
        have hrun : (execOp a.eval o).run P w = .halt (.panic (a.eval x0)) w := by
         unfold execOp
         rw [hop]
         cases hv with | d _ _ h =>
         cases h' : a.eval x0 <;> rw [h'] at h <;> cases h
         simp [h', Instr.panic, goPanic]
        unfold Oper.wp
        rw [hrun]
        exact ⟨F, β, ⟨_, rfl, hv⟩, hI⟩
       ·cases he
      ·split at he
       ·rename_i v sto1 hev
        exact op_step hvo hev hI hd fun a' w' F' β' hI' => ih _ he a' w' F' β' hI'
       ·cases he
     ·rename_i hbt
      rw [if_neg hbt]
      exact ih _ he _ _ F β (hI.step hd (undef_rel _ _ _) hI.sto (Ext.refl _ _ _ _ hI.sto.dom))
   ·cases hlow
  ·cases hlow
end
end Go.Proofs.YtjnfkifdgojdaaaGreat.V

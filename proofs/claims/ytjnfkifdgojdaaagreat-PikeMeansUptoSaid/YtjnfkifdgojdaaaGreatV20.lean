/- Regions whose operations may come in whatever order. -/
import Derived.Test.YtjnfkifdgojdaaaGreatV19
import Derived.Orders
namespace Go.Proofs.YtjnfkifdgojdaaaGreat.V
open Go
set_option linter.unusedVariables false
set_option linter.unusedSimpArgs false
set_option linter.unusedSectionVars false
variable [Inhabited Flag]
theorem mem_insN {j n : Nat} : ∀ {l : List Nat}, j ∈ unions.insN' n l → j = n ∨ j ∈ l
 | [], h => by simp [unions.insN'] at h; exact .inl h
 | m :: r, h => by
  simp only [unions.insN'] at h
  split at h
  ·rcases List.mem_cons.1 h with h | h
   ·exact .inl h
   ·exact .inr h
  ·split at h
   ·exact .inr h
   ·rcases List.mem_cons.1 h with h | h
    ·exact .inr (by rw [h]; exact List.mem_cons_self)
    ·rcases mem_insN h with h | h
     ·exact .inl h
     ·exact .inr (List.mem_cons_of_mem _ h)
theorem mem_uni {j : Nat} : ∀ {a b : List Nat}, j ∈ unions.uni a b → j ∈ a ∨ j ∈ b
 | [], b, h => .inr h
 | x :: a, b, h => by
  simp only [unions.uni] at h
  rcases mem_uni h with h | h
  ·exact .inl (List.mem_cons_of_mem _ h)
  ·rcases mem_insN h with h | h
   ·exact .inl (by rw [h]; exact List.mem_cons_self)
   ·exact .inr h
theorem mem_unions {acc : List (List Nat)} {j : Nat} : ∀ {ds : List Nat}, j ∈ unions acc ds → ∃ d ∈ ds, j = d ∨ j ∈ lookL acc d
 | [], h => by simp [unions] at h
 | d :: r, h => by
  simp only [unions] at h
  rcases mem_uni h with h | h
  ·exact ⟨d, List.mem_cons_self, mem_insN h⟩
  ·obtain ⟨e, he, h⟩ := mem_unions h
   exact ⟨e, List.mem_cons_of_mem _ he, h⟩
theorem lookL_lt {acc : List (List Nat)} {i j : Nat} (h : j ∈ lookL acc i) : i < acc.length := by
 unfold lookL at h
 split at h
 ·rename_i x hx; exact (List.getElem?_eq_some_iff.1 hx).1
 ·cases h
def Closed (ops : Array Oper) (L : Nat → Prop) : Prop := ∀ (k : Nat) (o : Oper), ops[k]? = some o → L k → ∀ d ∈ directs o, L d
def AncOk (ops : Array Oper) (L : Nat → Prop) (acc : List (List Nat)) : Prop := ∀ (i : Nat) (o : Oper), ops[i]? = some o → (∀ d ∈ directs o, L d) → ∀ j ∈ lookL acc i, L j
theorem ancs_ok {ops : Array Oper} {L : Nat → Prop} (hc : Closed ops L) : ∀ (l : List Oper) (acc : List (List Nat)), (∀ j, l[j]? = ops[acc.length + j]?) → AncOk ops L acc → AncOk ops L (ancs l acc)
 | [], acc, _, h => h
 | o :: r, acc, hl, h => by
  simp only [ancs]
  have h0 : ops[acc.length]? = some o := by simpa using (hl 0).symm
  refine ancs_ok hc r _ (fun j => by have := hl (j + 1); simpa [Nat.add_assoc, Nat.add_comm 1 j] using this) fun i oi hi hd j hj => ?_
  rcases Nat.lt_trichotomy i acc.length with hlt | rfl | hgt
  ·refine h i oi hi hd j ?_
   simpa [lookL, List.getElem?_append_left hlt] using hj
  ·rw [h0] at hi
   cases hi
   simp only [lookL, List.getElem?_concat_length] at hj
   obtain ⟨d, hd1, hd2⟩ := mem_unions hj
   rcases hd2 with rfl | hd2
   ·exact hd _ hd1
   ·have hlt := lookL_lt hd2
    have hdn : ∃ od, ops[d]? = some od := by
     have := (Array.getElem?_eq_some_iff.1 h0).1
     exact ⟨_, Array.getElem?_eq_getElem (by omega)⟩
    obtain ⟨od, hod⟩ := hdn
    exact h d od hod (hc d od hod (hd d hd1)) j hd2
  ·have := lookL_lt hj
   simp at this
   omega
theorem earlier_spec {an : List Nat} {y : VOper} : ∀ {l : List VOper} {k : Nat}, earlier an y l k = true → ∀ j x, l[j]? = some x → commB x y = true ∨ k + j ∈ an
 | [], k, _, j, x, hx => by simp at hx
 | z :: r, k, h, j, x, hx => by
  simp only [earlier, Bool.and_eq_true, Bool.or_eq_true] at h
  cases j with
  | zero =>
   simp at hx
   subst hx
   rcases h.1 with h | h
   ·exact .inl h
   ·exact .inr (by simpa using h)
  | succ j =>
   simp at hx
   rcases earlier_spec h.2 j x hx with h | h
   ·exact .inl h
   ·exact .inr (by rw [show k + (j + 1) = k + 1 + j by omega]; exact h)
theorem pairsOk_spec {anc : List (List Nat)} : ∀ {rem done : List VOper}, pairsOk anc rem done done.length = true → ∀ i j x y, (done ++ rem)[i]? = some y → done.length ≤ i → j < i → (done ++ rem)[j]? = some x → commB x y = true ∨ j ∈ lookL anc i
 | [], done, _, i, j, x, y, hy, hi, hj, hx => by
  rw [List.getElem?_eq_none (by simpa using hi)] at hy; cases hy
 | z :: r, done, h, i, j, x, y, hy, hi, hj, hx => by
  simp only [pairsOk, Bool.and_eq_true] at h
  rcases Nat.lt_or_ge done.length i with hlt | hge
  ·have h2 := h.2
   rw [show done.length + 1 = (done ++ [z]).length by simp] at h2
   exact pairsOk_spec h2 i j x y (by simpa using hy) (by simp; omega) hj (by simpa using hx)
  ·have e : i = done.length := by omega
   subst e
   rw [List.getElem?_append_right (Nat.le_refl _)] at hy
   simp at hy
   subst hy
   rw [List.getElem?_append_left hj] at hx
   have := earlier_spec h.1 j x hx
   simpa using this
theorem aheadOk_spec : ∀ {l : List Oper} {i : Nat}, aheadOk l i = true → ∀ k o, l[k]? = some o → ∀ j ∈ directs o, j < i + k
 | [], i, _, k, o, ho => by simp at ho
 | z :: r, i, h, k, o, ho => by
  simp only [aheadOk, Bool.and_eq_true, List.all_eq_true, decide_eq_true_eq] at h
  cases k with
  | zero => simp at ho; subst ho; intro j hj; have := h.1 j hj; omega
  | succ k =>
   simp at ho
   intro j hj
   have := aheadOk_spec h.2 k o ho j hj
   omega
theorem directs_mem {o : Oper} {d : Nat} : d ∈ directs o ↔ ∃ e ∈ o.after, Region.binds .any e = true ∧ e.on = d := by
 simp only [directs, List.mem_map, List.mem_filter, Array.mem_toList_iff]
 constructor
 ·rintro ⟨e, ⟨h1, h2⟩, h3⟩; exact ⟨e, h1, h2, h3⟩
 ·rintro ⟨e, h1, h2, h3⟩; exact ⟨e, ⟨h1, h2⟩, h3⟩
section
variable {P : Program} {ds0 : List Deferred} {w0 : World} {F0 : Nat → Prop} {β0 : Bl} {sto0 : List Obj} {nt : Nat}
theorem lowOps_get {ops : Array Oper} : ∀ {l : List Oper} {vs : List VOper}, lowOps P nt ops l = some vs → vs.length = l.length ∧ ∀ (j : Nat) (o : Oper), l[j]? = some o → ∃ vo : VOper, vs[j]? = some vo ∧ lowOp P o = some vo.op ∧ guardT ops o.guard = some vo.guard ∧ vo.dst = o.dst ∧ dstOk nt o.dst = true
 | [], vs, h => by simp only [lowOps] at h; cases h; exact ⟨rfl, fun j o ho => by simp at ho⟩
 | o :: r, vs, h => by
  simp only [lowOps] at h
  split at h
  ·rename_i v g vr h1 h2 h3
   split at h
   ·rename_i hd
    cases h
    obtain ⟨h4, h5⟩ := lowOps_get h3
    refine ⟨by simp [h4], fun j o' ho => ?_⟩
    cases j with
    | zero => simp at ho; subst ho; exact ⟨_, rfl, h1, h2, rfl, hd⟩
    | succ j => simp at ho; simpa using h5 j o' ho
   ·cases h
  ·cases h
theorem fixA_get {anc : List (List Nat)} {mk : Nat → Bool} : ∀ {vs done : List VOper} {i : Nat}, (fixA anc mk vs done i).length = vs.length ∧ ∀ (j : Nat) (v : VOper), vs[j]? = some v → ∃ v' : VOper, (fixA anc mk vs done i)[j]? = some v' ∧ v'.op = v.op ∧ v'.guard = v.guard ∧ v'.dst = v.dst
 | [], done, i => ⟨rfl, fun j v h => by simp at h⟩
 | y :: r, done, i => by
  obtain ⟨h1, h2⟩ := fixA_get (anc := anc) (mk := mk) (vs := r) (done := done ++ [y]) (i := i + 1)
  refine ⟨by simp [fixA, h1], fun j v hv => ?_⟩
  cases j with
  | zero =>
   simp at hv
   subst hv
   refine ⟨fixOne (lookL anc i) done (loadsBehind anc i r (i + 1)) (mk i) y, rfl, ?_⟩
   unfold fixOne
   repeat' split
   all_goals exact ⟨rfl, rfl, rfl⟩
  | succ j => simp at hv; simpa [fixA] using h2 j v hv
def Lowered (P : Program) (nt : Nat) (ops : Array Oper) (vs : List VOper) : Prop := vs.length = ops.size ∧ ∀ (j : Nat) (o : Oper), ops[j]? = some o → ∃ vo : VOper, vs[j]? = some vo ∧ lowOp P o = some vo.op ∧ guardT ops o.guard = some vo.guard ∧ vo.dst = o.dst ∧ dstOk nt o.dst = true
theorem lowered_fix {ops : Array Oper} {vs : List VOper} (h : lowOps P nt ops ops.toList = some vs) (anc : List (List Nat)) (mk : Nat → Bool) : Lowered P nt ops (fixA anc mk vs [] 0) := by
 obtain ⟨h1, h2⟩ := lowOps_get h
 obtain ⟨h3, h4⟩ := fixA_get (anc := anc) (mk := mk) (vs := vs) (done := []) (i := 0)
 refine ⟨by rw [h3, h1]; simp, fun j o ho => ?_⟩
 obtain ⟨v, g1, g2, g3, g4, g5⟩ := h2 j o (by simpa using ho)
 obtain ⟨v', g6, g7, g8, g9⟩ := h4 j v g1
 exact ⟨v', g6, by rw [g7]; exact g2, by rw [g8]; exact g3, by rw [g9]; exact g4, g5⟩
theorem allDV_spec : ∀ {l : List AV}, allDV l = true → ∃ xs : List D, l = xs.map .d
 | [], _ => ⟨[], rfl⟩
 | v :: r, h => by
  cases v <;> simp only [allDV] at h <;> try (cases h; done)
  rename_i x
  obtain ⟨xs, rfl⟩ := allDV_spec h
  exact ⟨x :: xs, rfl⟩
theorem forget {w w' : World} {F F' : Nat → Prop} {β β1 β' : Bl} {sto sto' : List Obj} (hS : SRel w F β sto) (hS' : SRel w' F' β' sto') (hE : Ext w F β1 [] w' F' β' sto') : SRel w' F' β sto ∧ Ext w F β sto w' F' β sto := by
 have hold : ∀ b, b < w.heap.size → w'.heap[b]? = w.heap[b]? := fun b hb => hE.keep b hb (fun id o h => by simp at h)
 have hnew : ∀ b, F' b → F b ∨ w.heap.size ≤ b := fun b hb => by
  rcases hE.frz b hb with h | h | ⟨i, o, h, _⟩
  ·exact .inl h
  ·exact .inr h
  ·simp at h
 have hm : Mono w F β w' F' β := ⟨hE.mono.hF, fun b hb => hold b (hS.flt b hb), fun _ _ h => h, hE.mono.hsh⟩
 refine ⟨⟨fun id y hy => (hS.obj id y hy).mono hm rfl (fun b hb => hold b (hS.lt id b hb)) (fun b hb _ hf => ?_), hS.dom, fun id b hb => Nat.lt_of_lt_of_le (hS.lt id b hb) hE.size, hS'.flt, hS.inj, hS.gl.mono hm⟩, ⟨hm, hE.os, hE.tape, hE.output, hE.drew, hE.size, fun b hb _ => hold b hb, Nat.le_refl _, fun _ _ => rfl, fun id b hid hb => (by rw [hS.dom id hid] at hb; cases hb), fun b hb => ?_, fun _ y hy => ⟨y, hy, fun h => h⟩⟩⟩
 ·rcases hnew b hf with h | h
  ·exact h
  ·have := hS.lt id b hb; omega
 ·rcases hnew b hb with h | h
  ·exact .inl h
  ·exact .inr (.inl h)
theorem pureCall_sound {C : Calling} (hC : Sound P C) {f : AV} {args : List AV} {v : AV} (h : pureCall C f args = some v) {w : World} {F : Nat → Prop} {β : Bl} {sto : List Obj} (hS : SRel w F β sto) {uf : Value} (hf : VRel w F β f uf) {us : Array Value} (hus : ARel w F β args us) :
  ∃ g first cap, uf = .func (.func g) first cap ∧ CallsF P g (first ++ us ++ cap) w (Res w F β sto (.ret v) sto) := by
 unfold pureCall at h
 split at h
 ·rename_i g a b
  split at h
  ·rename_i hall
   obtain ⟨xs, rfl⟩ := allDV_spec hall
   split at h
   ·rename_i v0 sto1 hc
    obtain ⟨x, stx, hsn, rfl⟩ : ∃ x stx, snap sto1 v0 = some (.d x, stx) ∧ v = .d x := by
     split at h
     ·rename_i x stx e; cases h; exact ⟨x, stx, e, rfl⟩
     ·cases h
    cases hf with | d _ _ hd => cases hd with | func _ _ _ ua ub ha hb hra hrb =>
    refine ⟨g, ua, ub, rfl, ?_⟩
    have hd : ∀ (l : List D) (β' : Bl) (u : Array Value), u.size = l.length → (∀ (j : Nat) (y : D) (z : Value), l[j]? = some y → u[j]? = some z → DRel w F y z) → ARel w F β' (l.map .d) u := by
     intro l β' u h1 h2
     refine ⟨by simp [h1], fun j y z hy hz => ?_⟩
     rw [List.getElem?_map, Option.map_eq_some_iff] at hy
     obtain ⟨y', hy', rfl⟩ := hy
     exact .d _ _ (h2 j y' z hy' hz)
    have hx : us.size = xs.length ∧ ∀ (j : Nat) (y : D) (z : Value), xs[j]? = some y → us[j]? = some z → DRel w F y z := by
     refine ⟨by simpa using hus.1, fun j y z hy hz => ?_⟩
     have := hus.2 j (.d y) z (by simp [hy]) hz
     cases this with | d _ _ h => exact h
    have harg : ARel w F (cmpB β []) (a.map .d ++ xs.map .d ++ b.map .d) (ua ++ us ++ ub) := by
     have := hd (a ++ xs ++ b) (cmpB β []) (ua ++ us ++ ub) (by simp [ha, hx.1, hb]) (fun j y z hy hz => by
      rcases Nat.lt_or_ge j (a ++ xs).length with h1 | h1
      ·rw [List.getElem?_append_left h1] at hy
       rw [Array.getElem?_append_left (by simp [ha, hx.1]; simpa using h1)] at hz
       rcases Nat.lt_or_ge j a.length with h2 | h2
       ·rw [List.getElem?_append_left h2] at hy
        rw [Array.getElem?_append_left (by rw [ha]; exact h2)] at hz
        exact hra j y z hy hz
       ·rw [List.getElem?_append_right h2] at hy
        rw [Array.getElem?_append_right (by rw [ha]; exact h2), ha] at hz
        exact hx.2 _ y z hy hz
      ·rw [List.getElem?_append_right h1] at hy
       have e : (ua ++ us).size = (a ++ xs).length := by simp [ha, hx.1]
       rw [Array.getElem?_append_right (by rw [e]; exact h1), e] at hz
       exact hrb _ y z hy hz)
     simpa using this
    refine (hC g _ _ _ _ hc w F (cmpB β []) _ (hS.pick List.nodup_nil) harg).mono fun e w' hR => ?_
    obtain ⟨F2, β2, h1, h2, h3⟩ := hR
    cases e with
    | returned u =>
     obtain ⟨F3, h4, h5, h6⟩ := snap_sound h2 hsn
     obtain ⟨h7, h8⟩ := forget hS h4 (h3.trans h5)
     refine ⟨F3, β, ?_, h7, h8⟩
     have := h6 u h1
     cases this with | d _ _ h => exact .d _ _ h
    | panicked ch => exact h1.elim
    | outgrown => exact h1.elim
   ·cases h
  ·cases h
 ·cases h
theorem dataEnv_rel {w : World} {F : Nat → Prop} {β β' : Bl} {env : Env} {ρ : Operand → Value} (h : RRel w F β env ρ) : RRel w F β' (dataEnv env) ρ := by
 intro x x' hx
 have h1 := h x x' hx
 cases x' with
 | c d => cases h1 with | d _ _ hd => exact .d _ _ hd
 | t n =>
  simp only [Opd.ev] at h1 ⊢
  rw [look_dataEnv]
  generalize look n env = v at h1
  cases v <;> first | exact .undef _ | skip
  cases h1 with | d _ _ hd => exact .d _ _ hd
theorem buildQ_sound {o : Oper} {vo : VOp} (hlow : lowOp P o = some vo) {env : Env} {ρ : Operand → Value} {v : AV} (h : buildQ env vo = some v) {w : World} {F : Nat → Prop} {β : Bl} {sto : List Obj} (hR : RRel w F β env ρ) (hρ : ∀ c, ρ (.const c) = c) (hS : SRel w F β sto) : OK P o ρ w F β sto v sto := by
 unfold buildQ at h
 split at h
 ·rename_i v0 sto1 he
  split at h
  ·rename_i x stx hsn
   cases h
   obtain ⟨u, w', F', β', hr, hv, hS1, hE⟩ := op_sound hlow he (dataEnv_rel (β' := cmpB β []) hR) hρ (hS.pick List.nodup_nil)
   obtain ⟨F3, h4, h5, h6⟩ := snap_sound hS1 hsn
   obtain ⟨h7, h8⟩ := forget hS h4 (hE.trans h5)
   refine ⟨u, w', F3, β, hr, ?_, h7, h8⟩
   have := h6 u hv
   cases this with | d _ _ h => exact .d _ _ h
  ·cases h
 ·cases h
theorem stepQ_sound {C : Calling} (hC : Sound P C) {ops : Array Oper} {o : Oper} {vo : VOper} (hlow : lowOp P o = some vo.op) (hg : guardT ops o.guard = some vo.guard) (hdst : vo.dst = o.dst) (hd : dstOk nt o.dst = true) {st st1 : St} (h : stepQ C vo st = some st1)
  {a : Act} {w : World} {F : Nat → Prop} {β : Bl} (hI : Inv ds0 w0 F0 β0 sto0 nt st a w F β) {K : Act → World → Prop} {Q : Exit → Act → World → Prop} (hK : ∀ a' w' F' β', Inv ds0 w0 F0 β0 sto0 nt st1 a' w' F' β' → K a' w') :
  if Region.wanted o (yielded ops a.tmps) then o.wp P a w K Q ∨ (o.asks P a w ∧ LetsOut Q) else K (a.put o.dst undef) w := by
 unfold stepQ at h
 split at h
 ·rename_i v sto' hv
  cases h
  unfold valE at hv
  split at hv
  case h_2 =>
   unfold effQ at hv
   split at hv
   case h_2 => cases hv
   rename_i f xs e
   split at hv
   case isFalse => cases hv
   rename_i hmk
   split at hv
   case h_2 => cases hv
   rename_i x stx hcall
   split at hv
   case isFalse => cases hv
   simp only [Option.some.injEq, Prod.mk.injEq] at hv
   obtain ⟨rfl, rfl⟩ := hv
   rw [wanted_of hg hmk.2.1 hI.env, if_pos rfl]
   refine .inl ?_
   rw [e] at hlow
   obtain ⟨f0, args0, ts, hop, hf0, hargs0⟩ := low_call hlow
   obtain ⟨_, hn, hr⟩ := opds_rel (RRel.of hI.env) _ _ hargs0
   obtain ⟨g, first, cap, hfv, hcs⟩ := callOp_sound hC hcall hI.sto (RRel.of hI.env f0 f hf0) (us := args0.map a.eval) ⟨by simp [hn], fun j y u hy hu => hr j y u hy (by rw [← Array.toList_map, Array.getElem?_toList]; exact hu)⟩
   refine call_wp hop hfv hcs fun e w' hR => ?_
   obtain ⟨F', β', h1, h2, h3⟩ := hR
   cases e with
   | returned u => exact hK _ _ F' β' (by rw [hdst]; exact hI.step hd h1 h2 h3)
   | panicked ch => exact h1.elim
   | outgrown => exact h1.elim
  rename_i r hv'
  cases hv
  replace hv := hv'
  unfold valQ at hv
  split at hv
  ·cases hv
  ·rename_i b hb
   rw [wanted_of hg hb hI.env]
   split at hv
   ·rename_i hbt
    rw [if_pos hbt]
    refine .inl ?_
    split at hv
    case isFalse => cases hv
    by_cases hc : ∃ f xs, vo.op = .call f xs
    ·obtain ⟨f, xs, e⟩ := hc
     rw [e] at hv hlow
     simp only [evalQop] at hv
     split at hv
     ·rename_i v' hp
      cases hv
      obtain ⟨f0, args0, ts, hop, hf0, hargs0⟩ := low_call hlow
      obtain ⟨_, hn, hr⟩ := opds_rel (RRel.of hI.env) _ _ hargs0
      obtain ⟨g, first, cap, hfv, hcs⟩ := pureCall_sound hC hp hI.sto (RRel.of hI.env f0 f hf0) (us := args0.map a.eval) ⟨by simp [hn], fun j y u hy hu => hr j y u hy (by rw [← Array.toList_map, Array.getElem?_toList]; exact hu)⟩
      refine call_wp hop hfv hcs fun e w' hR => ?_
      obtain ⟨F', β', h1, h2, h3⟩ := hR
      cases e with
      | returned u => exact hK _ _ F' β' (by rw [hdst]; exact hI.step hd h1 h2 h3)
      | panicked ch => exact h1.elim
      | outgrown => exact h1.elim
     ·cases hv
    ·rcases evalQop_cases (C := C) vo.op with ⟨f, xs, e⟩ | ⟨ag, es, n, z, ps, e⟩ | e
     ·exact absurd ⟨f, xs, e⟩ hc
     ·rw [e] at hv
      simp only [evalQop] at hv
      split at hv
      ·rename_i v' hb
       cases hv
       rw [← e] at hb
       obtain ⟨u, w', F', β', hr, hv, hS, hE⟩ := buildQ_sound hlow hb (RRel.of hI.env) (eval_const a) hI.sto
       unfold Oper.wp
       rcases hr with hr | ⟨hr, rfl⟩ <;> rw [hr]
       ·exact hK _ _ F' β' (by rw [hdst]; exact hI.step hd hv hS hE)
       ·exact hK _ _ F' β' (by rw [hdst]; exact hI.step hd hv hS hE)
      ·cases hv
     ·rw [e] at hv
      exact op_step hlow hv hI hd fun a' w' F' β' hI' => hK a' w' F' β' (by rw [hdst]; exact hI')
   ·rename_i hbt
    rw [if_neg hbt]
    cases hv
    exact hK _ _ F β (by rw [hdst]; exact hI.step hd (undef_rel _ _ _) hI.sto (Ext.refl _ _ _ _ hI.sto.dom))
 ·cases h
theorem Inv.like {st st' : St} (hl : Like st st') {a : Act} {w : World} {F : Nat → Prop} {β : Bl} (h : Inv ds0 w0 F0 β0 sto0 nt st a w F β) : Inv ds0 w0 F0 β0 sto0 nt st' a w F β :=
 ⟨⟨h.env.1, fun n => by rw [← hl.2 n]; exact h.env.2 n⟩, by rw [← hl.1]; exact h.sto, by rw [← hl.1]; exact h.ext, h.def0⟩
theorem any_sound {C : Calling} (hC : Sound P C) {ops : Array Oper} {vs : List VOper} (hlow : Lowered P nt ops vs) (hdr : drawOk ops vs = true) {s0 : St} : ∀ (n : Nat) (rem : List Nat), rem.length = n → ∀ (listed : Array Bool) (st s : St) (a : Act) (w : World) (F : Nat → Prop) (β : Bl),
  listed.size = ops.size → rem.Pairwise (· < ·) → (∀ i, i ∈ rem ↔ listed.getD i true = false) → Closed ops (fun k => listed.getD k false = true) → evalQ C (rem.filterMap fun i => vs[i]?) st = some s → Like s s0 → Inv ds0 w0 F0 β0 sto0 nt st a w F β → wpAny P .any ops (QRel ds0 w0 F0 β0 sto0 nt .nrm s0) n listed a w
 | 0, rem, hn, listed, st, s, a, w, F, β, hsize, hp, hrem, hcl, he, hs, hI => by
  have : rem = [] := List.length_eq_zero_iff.1 hn
  subst this
  refine ⟨?_, F, β, trivial, ?_⟩
  ·rw [List.eq_nil_iff_forall_not_mem]
   intro j hj
   have := (mem_ready.1 hj).1
   exact absurd ((hrem j).2 this) (by simp)
  ·simp only [List.filterMap_nil, evalQ] at he
   cases he
   exact hI.like hs
 | n + 1, rem, hn, listed, st, s, a, w, F, β, hsize, hp, hrem, hcl, he, hs, hI => by
  simp only [drawOk, Bool.and_eq_true] at hdr
  obtain ⟨hah, hpairs⟩ := hdr
  have hvl := hlow.1
  have inb : ∀ i, i ∈ rem → i < listed.size := by
   intro i hi
   have := (hrem i).1 hi
   apply Classical.byContradiction
   intro h
   rw [Array.getD_eq_getD_getElem?, Array.getElem?_eq_none (by omega)] at this
   cases this
  refine ⟨fun hr => ?_, fun i hi => ?_⟩
  ·exfalso
   cases rem with
   | nil => simp at hn
   | cons i0 r =>
    cases ho : ops[i0]? with
    | none =>
     have h1 := inb i0 List.mem_cons_self
     rw [Array.getElem?_eq_getElem (by omega)] at ho
     cases ho
    | some o =>
     have hmem : i0 ∈ Region.ready .any ops listed := by
      refine mem_ready.2 ⟨(hrem i0).1 List.mem_cons_self, o, ho, fun e he hb => ?_⟩
      have hlt := aheadOk_spec hah i0 o (by simpa using ho) e.on (directs_mem.2 ⟨e, he, hb, rfl⟩)
      simp only [Nat.zero_add] at hlt
      have hnot : e.on ∉ (i0 :: r) := by
       intro hm
       rcases List.mem_cons.1 hm with h | h
       ·omega
       ·have := (List.pairwise_cons.1 hp).1 _ h; omega
      have h1 : listed.getD e.on true ≠ false := fun h => hnot ((hrem e.on).2 h)
      have hsz := inb i0 List.mem_cons_self
      have h2 : e.on < listed.size := by omega
      simp only [Array.getD_eq_getD_getElem?, Array.getElem?_eq_getElem h2, Option.getD_some] at h1 ⊢
      simpa using h1
     rw [hr] at hmem
     cases hmem
  ·obtain ⟨hun, o, ho, hall⟩ := mem_ready.1 hi
   have hmem := (hrem i).2 hun
   obtain ⟨vo, hvo, hlo, hgo, hdo, hdk⟩ := hlow.2 i o ho
   obtain ⟨l1, l2, rfl⟩ := List.append_of_mem hmem
   have hL : ∀ d ∈ directs o, listed.getD d false = true := fun d hd => by
    obtain ⟨e, h1, h2, h3⟩ := directs_mem.1 hd
    rw [← h3]; exact hall e h1 h2
   have hanc := ancs_ok hcl ops.toList [] (fun j => by simp) (fun i o _ _ j hj => by simp [lookL] at hj)
   rw [List.pairwise_append] at hp
   obtain ⟨hp1, hp2, hp3⟩ := hp
   obtain ⟨hp4, hp5⟩ := List.pairwise_cons.1 hp2
   have hcomm : ∀ x ∈ l1.filterMap (fun i => vs[i]?), commB x vo = true := by
    intro x hx
    obtain ⟨j, hj, hxj⟩ := List.mem_filterMap.1 hx
    have hji : j < i := hp3 j hj i List.mem_cons_self
    have hpo := pairsOk_spec (done := []) hpairs i j x vo (by simpa using hvo) (Nat.zero_le _) hji (by simpa using hxj)
    rcases hpo with h | h
    ·exact h
    ·have h1 := hanc i o ho hL j h
     have h2 := (hrem j).1 (List.mem_append_left _ hj)
     have hsz := inb j (List.mem_append_left _ hj)
     simp only [Array.getD_eq_getD_getElem?, Array.getElem?_eq_getElem hsz, Option.getD_some] at h1 h2
     rw [h1] at h2; cases h2
   rw [List.filterMap_append, List.filterMap_cons, hvo] at he
   obtain ⟨s', he', hs'⟩ := evalQ_bubble hcomm he
   rw [← List.filterMap_append] at he'
   simp only [evalQ] at he'
   split at he'
   ·rename_i st1 hst1
    unfold wpOp
    rw [ho]
    refine stepQ_sound hC hlo hgo hdo hdk hst1 hI fun a' w' F' β' hI' => ?_
    have hni : ∀ j, j ∈ l1 ++ l2 → j ≠ i := by
     intro j hj e
     subst e
     rcases List.mem_append.1 hj with h | h
     ·have := hp3 j h j List.mem_cons_self; omega
     ·have := hp4 j h; omega
    have hset : ∀ (j : Nat) (b : Bool), j ≠ i → (listed.setIfInBounds i true).getD j b = listed.getD j b := by
     intro j b hj
     simp only [Array.getD_eq_getD_getElem?]
     rw [Array.getElem?_setIfInBounds_ne (Ne.symm hj)]
    have hself : ∀ b, (listed.setIfInBounds i true).getD i b = true := by
     intro b
     have := inb i hmem
     simp [Array.getD_eq_getD_getElem?, this]
    refine any_sound hC hlow (by simp only [drawOk, Bool.and_eq_true]; exact ⟨hah, hpairs⟩) n (l1 ++ l2) (by simp at hn ⊢; omega) _ st1 s' a' w' F' β' (by simpa using hsize) ?_ (fun j => ?_) (fun k ok hok hk d hd => ?_) he' (hs'.symm.trans hs) hI'
    ·rw [List.pairwise_append]
     exact ⟨hp1, hp5, fun x hx y hy => hp3 x hx y (List.mem_cons_of_mem _ hy)⟩
    ·constructor
     ·intro hj
      rw [hset j true (hni j hj)]
      refine (hrem j).1 ?_
      rcases List.mem_append.1 hj with h | h
      ·exact List.mem_append_left _ h
      ·exact List.mem_append_right _ (List.mem_cons_of_mem _ h)
     ·intro hj
      have hji : j ≠ i := by
       intro e; subst e; rw [hself] at hj; cases hj
      rw [hset j true hji] at hj
      rcases List.mem_append.1 ((hrem j).2 hj) with h | h
      ·exact List.mem_append_left _ h
      ·rcases List.mem_cons.1 h with h | h
       ·exact absurd h hji
       ·exact List.mem_append_right _ h
    ·have up : ∀ d, listed.getD d false = true → (listed.setIfInBounds i true).getD d false = true := by
      intro d hd
      by_cases e : d = i
      ·subst e; exact hself _
      ·rw [hset d false e]; exact hd
     by_cases e : k = i
     ·subst e
      rw [ho] at hok
      cases hok
      exact up d (hL d hd)
     ·have hk' : listed.getD k false = true := by rw [← hset k false e]; exact hk
      exact up d (hcl k ok hok hk' d hd)
   ·cases he'
theorem any_soundZ {C : Calling} (hC : Sound P C) {ops : Array Oper} {vs : List VOper} (hlow : Lowered P nt ops vs) (hdr : drawOk ops vs = true) {z : Nat} (hz : z + 1 = ops.size) (hzan : ∀ j, j < z → j ∈ lookL (ancs ops.toList []) z) {s0 : St} {Q : Exit → Act → World → Prop}
  (hQ : ∀ (st : St) (a : Act) (w : World) (F : Nat → Prop) (β : Bl), Like st s0 → Inv ds0 w0 F0 β0 sto0 nt st a w F β → ∀ K : Act → World → Prop, (∀ a' w', Q .normal a' w' → K a' w') → wpOp P ops Q z K a w) : ∀ (n : Nat) (rem : List Nat), rem.length = n → ∀ (listed : Array Bool) (st s : St) (a : Act) (w : World) (F : Nat → Prop) (β : Bl),
  listed.size = ops.size → rem.Pairwise (· < ·) → (∀ i, (i ∈ rem ∨ i = z) ↔ listed.getD i true = false) → (∀ i ∈ rem, i < z) → Closed ops (fun k => listed.getD k false = true) → evalQ C (rem.filterMap fun i => vs[i]?) st = some s → Like s s0 → Inv ds0 w0 F0 β0 sto0 nt st a w F β → wpAny P .any ops Q (n + 1) listed a w
 | 0, rem, hn, listed, st, s, a, w, F, β, hsize, hp, hrem, hlt, hcl, he, hs, hI => by
  have : rem = [] := List.length_eq_zero_iff.1 hn
  subst this
  simp only [drawOk, Bool.and_eq_true] at hdr
  obtain ⟨hah, hpairs⟩ := hdr
  have hzl : listed.getD z true = false := (hrem z).1 (.inr rfl)
  have huniq : ∀ i, listed.getD i true = false → i = z := fun i h => by
   rcases (hrem i).2 h with h | h
   ·cases h
   ·exact h
  refine ⟨fun hr => ?_, fun i hi => ?_⟩
  ·exfalso
   have hzs : z < ops.size := by omega
   have hmem : z ∈ Region.ready .any ops listed := by
    refine mem_ready.2 ⟨hzl, ops[z], Array.getElem?_eq_getElem hzs, fun e he hb => ?_⟩
    have hlt := aheadOk_spec hah z ops[z] (by simp [hzs]) e.on (directs_mem.2 ⟨e, he, hb, rfl⟩)
    simp only [Nat.zero_add] at hlt
    have h1 : listed.getD e.on true ≠ false := fun h => by have := huniq _ h; omega
    have h2 : e.on < listed.size := by omega
    simp only [Array.getD_eq_getD_getElem?, Array.getElem?_eq_getElem h2, Option.getD_some] at h1 ⊢
    simpa using h1
   rw [hr] at hmem
   cases hmem
  ·have hiz := huniq i (mem_ready.1 hi).1
   subst hiz
   simp only [List.filterMap_nil, evalQ] at he
   cases he
   refine hQ st a w F β hs hI _ fun a' w' hq => ⟨?_, hq⟩
   rw [List.eq_nil_iff_forall_not_mem]
   intro j hj
   have h1 := (mem_ready.1 hj).1
   by_cases e : j = i
   ·subst e
    have h2 : j < listed.size := by omega
    simp [Array.getD_eq_getD_getElem?, h2] at h1
   ·rw [Array.getD_eq_getD_getElem?, Array.getElem?_setIfInBounds_ne (Ne.symm e), ← Array.getD_eq_getD_getElem?] at h1
    exact e (huniq j h1)
 | n + 1, rem, hn, listed, st, s, a, w, F, β, hsize, hp, hrem, hlt, hcl, he, hs, hI => by
  simp only [drawOk, Bool.and_eq_true] at hdr
  obtain ⟨hah, hpairs⟩ := hdr
  have hvl := hlow.1
  have inb : ∀ i, i ∈ rem → i < listed.size := by
   intro i hi
   have := (hrem i).1 (.inl hi)
   apply Classical.byContradiction
   intro h
   rw [Array.getD_eq_getD_getElem?, Array.getElem?_eq_none (by omega)] at this
   cases this
  refine ⟨fun hr => ?_, fun i hi => ?_⟩
  ·exfalso
   cases rem with
   | nil => simp at hn
   | cons i0 r =>
    cases ho : ops[i0]? with
    | none =>
     have h1 := inb i0 List.mem_cons_self
     rw [Array.getElem?_eq_getElem (by omega)] at ho
     cases ho
    | some o =>
     have hmem : i0 ∈ Region.ready .any ops listed := by
      refine mem_ready.2 ⟨(hrem i0).1 (.inl List.mem_cons_self), o, ho, fun e he hb => ?_⟩
      have hlt2 := aheadOk_spec hah i0 o (by simpa using ho) e.on (directs_mem.2 ⟨e, he, hb, rfl⟩)
      simp only [Nat.zero_add] at hlt2
      have hnot : ¬ (e.on ∈ (i0 :: r) ∨ e.on = z) := by
       intro hm
       have hi0 := hlt i0 List.mem_cons_self
       rcases hm with hm | hm
       case inr => omega
       rcases List.mem_cons.1 hm with h | h
       ·omega
       ·have := (List.pairwise_cons.1 hp).1 _ h; omega
      have h1 : listed.getD e.on true ≠ false := fun h => hnot ((hrem e.on).2 h)
      have hsz := inb i0 List.mem_cons_self
      have h2 : e.on < listed.size := by omega
      simp only [Array.getD_eq_getD_getElem?, Array.getElem?_eq_getElem h2, Option.getD_some] at h1 ⊢
      simpa using h1
     rw [hr] at hmem
     cases hmem
  ·obtain ⟨hun, o, ho, hall⟩ := mem_ready.1 hi
   have hanc := ancs_ok hcl ops.toList [] (fun j => by simp) (fun i o _ _ j hj => by simp [lookL] at hj)
   have hL0 : ∀ d ∈ directs o, listed.getD d false = true := fun d hd => by
    obtain ⟨e, h1, h2, h3⟩ := directs_mem.1 hd
    rw [← h3]; exact hall e h1 h2
   have hmem : i ∈ rem := by
    rcases (hrem i).2 hun with h | h
    ·exact h
    ·exfalso
     subst h
     cases rem with
     | nil => simp at hn
     | cons i0 r =>
      have h1 := hlt i0 List.mem_cons_self
      have h2 := hanc i o ho hL0 i0 (hzan i0 h1)
      have h3 := (hrem i0).1 (.inl List.mem_cons_self)
      have h4 := inb i0 List.mem_cons_self
      simp only [Array.getD_eq_getD_getElem?, Array.getElem?_eq_getElem h4, Option.getD_some] at h2 h3
      rw [h2] at h3; cases h3
   obtain ⟨vo, hvo, hlo, hgo, hdo, hdk⟩ := hlow.2 i o ho
   obtain ⟨l1, l2, rfl⟩ := List.append_of_mem hmem
   have hL : ∀ d ∈ directs o, listed.getD d false = true := fun d hd => by
    obtain ⟨e, h1, h2, h3⟩ := directs_mem.1 hd
    rw [← h3]; exact hall e h1 h2
   rw [List.pairwise_append] at hp
   obtain ⟨hp1, hp2, hp3⟩ := hp
   obtain ⟨hp4, hp5⟩ := List.pairwise_cons.1 hp2
   have hcomm : ∀ x ∈ l1.filterMap (fun i => vs[i]?), commB x vo = true := by
    intro x hx
    obtain ⟨j, hj, hxj⟩ := List.mem_filterMap.1 hx
    have hji : j < i := hp3 j hj i List.mem_cons_self
    have hpo := pairsOk_spec (done := []) hpairs i j x vo (by simpa using hvo) (Nat.zero_le _) hji (by simpa using hxj)
    rcases hpo with h | h
    ·exact h
    ·have h1 := hanc i o ho hL j h
     have h2 := (hrem j).1 (.inl (List.mem_append_left _ hj))
     have hsz := inb j (List.mem_append_left _ hj)
     simp only [Array.getD_eq_getD_getElem?, Array.getElem?_eq_getElem hsz, Option.getD_some] at h1 h2
     rw [h1] at h2; cases h2
   rw [List.filterMap_append, List.filterMap_cons, hvo] at he
   obtain ⟨s', he', hs'⟩ := evalQ_bubble hcomm he
   rw [← List.filterMap_append] at he'
   simp only [evalQ] at he'
   split at he'
   ·rename_i st1 hst1
    unfold wpOp
    rw [ho]
    refine stepQ_sound hC hlo hgo hdo hdk hst1 hI fun a' w' F' β' hI' => ?_
    have hni : ∀ j, j ∈ l1 ++ l2 → j ≠ i := by
     intro j hj e
     subst e
     rcases List.mem_append.1 hj with h | h
     ·have := hp3 j h j List.mem_cons_self; omega
     ·have := hp4 j h; omega
    have hset : ∀ (j : Nat) (b : Bool), j ≠ i → (listed.setIfInBounds i true).getD j b = listed.getD j b := by
     intro j b hj
     simp only [Array.getD_eq_getD_getElem?]
     rw [Array.getElem?_setIfInBounds_ne (Ne.symm hj)]
    have hself : ∀ b, (listed.setIfInBounds i true).getD i b = true := by
     intro b
     have := inb i hmem
     simp [Array.getD_eq_getD_getElem?, this]
    refine any_soundZ hC hlow (by simp only [drawOk, Bool.and_eq_true]; exact ⟨hah, hpairs⟩) hz hzan hQ n (l1 ++ l2) (by simp at hn ⊢; omega) _ st1 s' a' w' F' β' (by simpa using hsize) ?_ (fun j => ?_) (fun j hj => hlt j (by rcases List.mem_append.1 hj with h | h; exact List.mem_append_left _ h; exact List.mem_append_right _ (List.mem_cons_of_mem _ h))) (fun k ok hok hk d hd => ?_) he' (hs'.symm.trans hs) hI'
    ·rw [List.pairwise_append]
     exact ⟨hp1, hp5, fun x hx y hy => hp3 x hx y (List.mem_cons_of_mem _ hy)⟩
    ·constructor
     ·intro hj
      rcases hj with hj | hj
      ·rw [hset j true (hni j hj)]
       refine (hrem j).1 (.inl ?_)
       rcases List.mem_append.1 hj with h | h
       ·exact List.mem_append_left _ h
       ·exact List.mem_append_right _ (List.mem_cons_of_mem _ h)
      ·rw [hset j true (by have := hlt i (by simp); omega)]
       exact (hrem j).1 (.inr hj)
     ·intro hj
      have hji : j ≠ i := by
       intro e; subst e; rw [hself] at hj; cases hj
      rw [hset j true hji] at hj
      rcases (hrem j).2 hj with hj | hj
      ·refine .inl ?_
       rcases List.mem_append.1 hj with h | h
       ·exact List.mem_append_left _ h
       ·rcases List.mem_cons.1 h with h | h
        ·exact absurd h hji
        ·exact List.mem_append_right _ h
      ·exact .inr hj
    ·have up : ∀ d, listed.getD d false = true → (listed.setIfInBounds i true).getD d false = true := by
      intro d hd
      by_cases e : d = i
      ·subst e; exact hself _
      ·rw [hset d false e]; exact hd
     by_cases e : k = i
     ·subst e
      rw [ho] at hok
      cases hok
      exact up d (hL d hd)
     ·have hk' : listed.getD k false = true := by rw [← hset k false e]; exact hk
      exact up d (hcl k ok hok hk' d hd)
   ·cases he'
theorem range_pick (pre : List VOper) : ∀ (vs : List VOper), (List.range' pre.length vs.length).filterMap (fun i => (pre ++ vs)[i]?) = vs
 | [] => rfl
 | v :: r => by
  have h := range_pick (pre ++ [v]) r
  simp only [List.length_cons, List.range'_succ, List.filterMap_cons]
  rw [List.getElem?_append_right (Nat.le_refl _)]
  simp only [Nat.sub_self, List.getElem?_cons_zero]
  congr 1
  simpa using h
theorem draw_sound {C : Calling} (hC : Sound P C) (hm : P.follows .mixedOrders = true) {ops : Array Oper} {vs : List VOper} (hlow : Lowered P nt ops vs) (hdr : drawOk ops vs = true) {st s : St} (he : evalQ C vs st = some s) {id : Nat}
  {a : Act} {w : World} {F : Nat → Prop} {β : Bl} (hI : Inv ds0 w0 F0 β0 sto0 nt st a w F β) : (Code.region id ops true).wp P (QRel ds0 w0 F0 β0 sto0 nt .nrm s) a w := by
 have hvl := hlow.1
 refine wp_region_any hm ?_
 have e := range_pick [] vs
 simp only [List.length_nil, List.nil_append] at e
 rw [← List.range_eq_range', hvl] at e
 refine any_sound hC hlow hdr ops.size (List.range ops.size) (by simp) _ st s a _ F β (by simp) List.pairwise_lt_range (fun i => ?_) (fun k o _ hk => ?_) (by rw [e]; exact he) (Like.refl s) ?_
 ·simp only [List.mem_range, Array.getD_eq_getD_getElem?, Array.getElem?_replicate]
  constructor
  ·intro h; simp [h]
  ·intro h
   apply Classical.byContradiction
   intro h2
   rw [if_neg h2] at h; cases h
 ·simp only [Array.getD_eq_getD_getElem?, Array.getElem?_replicate] at hk
  split at hk <;> cases hk
 ·have hE : Ext w F β st.sto { w with drawn := w.drawn + 1 } F β st.sto := Ext.heap hI.sto rfl rfl rfl rfl (fun _ => Nat.le_succ _)
  exact ⟨hI.env.mono hE.mono, SRel.heap hI.sto rfl, hI.ext.trans hE, hI.def0⟩
theorem range_take (vs : List VOper) : ∀ n, n ≤ vs.length → (List.range n).filterMap (fun i => vs[i]?) = vs.take n
 | 0, _ => by simp
 | n + 1, h => by
  rw [List.range_succ, List.filterMap_append, range_take vs n (by omega)]
  rw [List.take_add_one]
  cases e : vs[n]? <;> simp [e]
theorem range_pickL (vs : List VOper) : (List.range (vs.length - 1)).filterMap (fun i => vs[i]?) = vs.dropLast := by
 rw [range_take vs _ (by omega), List.dropLast_eq_take]
theorem drawZ_sound {C : Calling} (hC : Sound P C) (hm : P.follows .mixedOrders = true) {byref : FuncId → List Nat} {ops : Array Oper} {vs : List VOper} (hlow : Lowered P nt ops vs) (hdr : drawOk ops vs = true) (hlast : lastOk ops vs = true) {st s1 : St} (he : evalQ C vs.dropLast st = some s1)
  {kA : List Nat} {ex : Ex} {st' : St} (he2 : evalOps C byref (lastOf vs) ⟨restrict kA s1.env, s1.sto⟩ = some (ex, st')) (hrestr : ∀ {st : St} {a : Act} {w : World} {F : Nat → Prop} {β : Bl}, Inv ds0 w0 F0 β0 sto0 nt st a w F β → Inv ds0 w0 F0 β0 sto0 nt ⟨restrict kA st.env, st.sto⟩ a w F β) {id : Nat}
  {a : Act} {w : World} {F : Nat → Prop} {β : Bl} (hI : Inv ds0 w0 F0 β0 sto0 nt st a w F β) : (Code.region id ops true).wp P (QRel ds0 w0 F0 β0 sto0 nt ex st') a w := by
 unfold lastOk at hlast
 split at hlast
 case h_2 => cases hlast
 rename_i zv hzv
 simp only [Bool.and_eq_true, beq_iff_eq] at hlast
 obtain ⟨⟨hcall, hlen⟩, hall⟩ := hlast
 have hne : vs ≠ [] := by rintro rfl; simp at hzv
 have hpos : 0 < vs.length := List.length_pos_iff.2 hne
 have hzs : (ops.size - 1) + 1 = ops.size := by omega
 have hzan : ∀ j, j < ops.size - 1 → j ∈ lookL (ancs ops.toList []) (ops.size - 1) := fun j hj => by
  have := List.all_eq_true.1 hall j (List.mem_range.2 hj)
  simpa using this
 have hzget : vs[ops.size - 1]? = some zv := by
  rw [← hlen, ← List.getLast?_eq_getElem?]; exact hzv
 have hzlt : ops.size - 1 < ops.size := by omega
 obtain ⟨vo, h1, hlo, hgo, hdo, hdk⟩ := hlow.2 (ops.size - 1) ops[ops.size - 1] (Array.getElem?_eq_getElem hzlt)
 rw [hzget] at h1
 cases h1
 have hl1 : lowOps P nt ops [ops[ops.size - 1]] = some [⟨zv.dst, zv.op, zv.guard, []⟩] := by
  simp only [lowOps, hlo, hgo, hdk, if_true, hdo]
 have he3 : evalOps C byref [⟨zv.dst, zv.op, zv.guard, []⟩] ⟨restrict kA s1.env, s1.sto⟩ = some (ex, st') := by
  rw [← he2]
  unfold lastOf
  rw [hzv]
  obtain ⟨d, o, g, ap⟩ := zv
  rfl
 refine wp_region_any hm ?_
 have e := range_pickL vs
 rw [hlen] at e
 have e2 : ops.size = (ops.size - 1) + 1 := by omega
 have key := any_soundZ (ds0 := ds0) (w0 := w0) (F0 := F0) (β0 := β0) (sto0 := sto0) (s0 := s1) (Q := QRel ds0 w0 F0 β0 sto0 nt ex st') hC hlow hdr hzs hzan (fun st1 a1 w1 F1 β1 hlike hI1 K hK => by
   have h3 := ops_sound hC (byref := byref) (ops := ops) [ops[ops.size - 1]] (ops.size - 1) (fun j => by
    cases j with
    | zero => simp [hzlt]
    | succ j => simp; omega) _ hl1 _ _ _ he3 a1 w1 F1 β1 (hrestr (hI1.like hlike))
   simp only [List.length_singleton, List.range'_one] at h3
   rw [wpOps_cons] at h3
   exact wpOp_mono (fun a w h => hK a w h) h3)
  (ops.size - 1) (List.range (ops.size - 1)) (by simp) (Array.replicate ops.size false) st s1 a { w with drawn := w.drawn + 1 } F β (by simp) List.pairwise_lt_range (fun i => ?_) (fun i hi => List.mem_range.1 hi) (fun k o _ hk => ?_) (by rw [e]; exact he) (Like.refl s1) ?_
 ·rw [← e2] at key; exact key
 ·simp only [List.mem_range, Array.getD_eq_getD_getElem?, Array.getElem?_replicate]
  constructor
  ·intro h
   have : i < ops.size := by omega
   simp [this]
  ·intro h
   apply Classical.byContradiction
   intro h2
   rw [if_neg (by omega)] at h; cases h
 ·simp only [Array.getD_eq_getD_getElem?, Array.getElem?_replicate] at hk
  split at hk <;> cases hk
 ·have hE : Ext w F β st.sto { w with drawn := w.drawn + 1 } F β st.sto := Ext.heap hI.sto rfl rfl rfl rfl (fun _ => Nat.le_succ _)
  exact ⟨hI.env.mono hE.mono, SRel.heap hI.sto rfl, hI.ext.trans hE, hI.def0⟩
end
end Go.Proofs.YtjnfkifdgojdaaaGreat.V

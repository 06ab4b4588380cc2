/- Single operations: what the evaluator says of them is what the machine does. -/
import Derived.Test.YtjnfkifdgojdaaaGreatV3
namespace Go.Proofs.YtjnfkifdgojdaaaGreat.V
open Go
set_option linter.unusedVariables false
set_option linter.unusedSimpArgs false
set_option linter.unusedSectionVars false
variable [Inhabited Flag]

section
variable {w : World} {F : Nat → Prop} {β : Bl}

theorem inv_bool {b : Bool} {v : Value} (h : VRel w F β (.d (.bool b)) v) : v = .bool b := by cases h with | d x v h => cases h; rfl
theorem inv_int {k : IntKind} {n : Int} {v : Value} (h : VRel w F β (.d (.int k n)) v) : v = .int k n := by cases h with | d x v h => cases h; rfl
theorem inv_str {s : ByteArray} {v : Value} (h : VRel w F β (.d (.str s)) v) : v = .string s := by cases h with | d x v h => cases h; rfl
theorem inv_agg {cs : List D} {v : Value} (h : VRel w F β (.d (.agg cs)) v) : ∃ vs : Array Value, v = .agg vs ∧ vs.size = cs.length ∧ (∀ (j : Nat) (u : Value), vs[j]? = some u → u.oneCell' = true) ∧ (∀ (j : Nat) (y : D) (u : Value), cs[j]? = some y → vs[j]? = some u → DRel w F y u) := by
  cases h with | d x v h => cases h with | agg cs vs hs h1 hr => exact ⟨vs, rfl, hs, h1, hr⟩
theorem inv_tup {cs : List AV} {v : Value} (h : VRel w F β (.tup cs) v) : ∃ vs : Array Value, v = .tuple vs ∧ vs.size = cs.length ∧ (∀ (j : Nat) (y : AV) (u : Value), cs[j]? = some y → vs[j]? = some u → VRel w F β y u) := by
  cases h with | tup cs vs hs hr => exact ⟨vs, rfl, hs, hr⟩
theorem inv_ptr {id es i off : Nat} {v : Value} (h : VRel w F β (.ptr id es i off) v) : ∃ b, β id = some b ∧ v = .pointer (some ⟨b, i * es + off, none⟩) := by
  cases h with | ptr id es i off b hb => exact ⟨b, hb, rfl⟩
theorem intOf_inv {x : AV} {n : Int} {v : Value} (hx : intOf x = some n) (h : VRel w F β x v) : ∃ k, v = .int k n := by
  unfold intOf at hx
  split at hx
  · cases hx; exact ⟨_, inv_int h⟩
  · cases hx

def CRel (w : World) (F : Nat → Prop) (β : Bl) (cs : List AV) (vs : Array Value) : Prop :=
  vs.size = cs.length ∧ (∀ (j : Nat) (y : AV) (u : Value), cs[j]? = some y → vs[j]? = some u → VRel w F β y u) ∧ ∀ (j : Nat) (u : Value), vs[j]? = some u → u.oneCell' = true
theorem VRel.cr {x : AV} {v : Value} (h : VRel w F β x v) (hs : x.solid = true) : CRel w F β x.cells v.cells :=
  h.cellsOf (by intro e; subst e; cases hs) (by intro cs e; subst e; cases hs)

theorem allD_spec : ∀ (vs : List AV) (xs : List D), allD vs = some xs → vs = xs.map .d
  | [], xs, h => by cases h; rfl
  | v :: r, xs, h => by
    cases v <;> simp only [allD] at h <;> try (cases h; done)
    split at h
    · rename_i ys hy
      cases h
      rw [allD_spec r ys hy]; rfl
    · cases h
theorem mkAgg_rel {cs : List AV} {vs : Array Value} (h : CRel w F β cs vs) : VRel w F β (mkAgg cs) (.agg vs) := by
  unfold mkAgg
  split
  · rename_i xs hx
    have e := allD_spec _ _ hx
    subst e
    refine .d _ _ (.agg xs vs (by rw [h.1]; simp) h.2.2 fun j y u hy hu => ?_)
    have := h.2.1 j (.d y) u (by simp [hy]) hu
    cases this with | d x v h => exact h
  · exact .agg cs vs h.1 h.2.2 h.2.1

theorem constC_one {v : Value} {x : D} (h : constC v = some x) : x.cells = [x] ∧ (AV.d x).cells = [.d x] ∧ v.oneCell' = true ∧ v.cells = #[v] := by
  unfold constC at h
  split at h <;> first | (cases h; exact ⟨rfl, rfl, rfl, rfl⟩) | cases h
theorem constC_rel {v : Value} {x : D} (h : constC v = some x) : DRel w F x v := by
  unfold constC at h
  split at h <;> first | cases h | skip
  · exact .bool _
  · exact .int _ _
  · exact .str _
  · exact .nilp
  · exact .sl 0 [] true none 0 0 0 (fun _ _ => undef) (Nat.le_refl _) (fun _ => rfl) (fun h => by simp at h) (fun h => by simp at h) (fun _ _ h => by simp at h) (fun _ _ _ _ h => by simp at h) (fun _ _ _ _ h => by simp at h) (fun _ _ _ _ h => by simp at h)
  · exact .nili
  · exact .nilf
  · exact .nilm
theorem constCs_rel : ∀ (vs : List Value) (xs : List D), constCs vs = some xs → vs.length = xs.length ∧ ∀ (j : Nat) (y : D) (u : Value), xs[j]? = some y → vs[j]? = some u → constC u = some y
  | [], xs, h => by cases h; exact ⟨rfl, fun j y u hy => by simp at hy⟩
  | v :: r, xs, h => by
    simp only [constCs] at h
    split at h
    · rename_i x ys hx hy
      cases h
      obtain ⟨h1, h2⟩ := constCs_rel r ys hy
      refine ⟨by simp [h1], fun j y u hyj hu => ?_⟩
      cases j with
      | zero => simp at hyj hu; subst hyj; subst hu; exact hx
      | succ j => simp at hyj hu; exact h2 j y u hyj hu
    · cases h
theorem constD_rel {v : Value} {x : D} (h : constD v = some x) : DRel w F x v := by
  unfold constD at h
  split at h
  · rename_i cs
    simp only [Option.map_eq_some_iff] at h
    obtain ⟨xs, hx, rfl⟩ := h
    obtain ⟨h1, h2⟩ := constCs_rel _ _ hx
    refine .agg xs cs (by simpa using h1) (fun j u hu => ?_) (fun j y u hy hu => constC_rel (h2 j y u hy (by simpa using hu)))
    have hj : j < xs.length := by
      have := (Array.getElem?_eq_some_iff.1 hu).1
      simp at h1
      omega
    exact (constC_one (h2 j _ u (List.getElem?_eq_getElem hj) (by simpa using hu))).2.2.1
  · exact constC_rel h
end

def RRel (w : World) (F : Nat → Prop) (β : Bl) (env : Env) (ρ : Operand → Value) : Prop := ∀ (x : Operand) (x' : Opd), opd x = some x' → VRel w F β (x'.ev env) (ρ x)
theorem RRel.of {w : World} {F : Nat → Prop} {β : Bl} {nt : Nat} {env : Env} {a : Act} (h : ERel w F β nt env a.tmps) : RRel w F β env a.eval := by
  intro x x' hx
  cases x with
  | tmp t => cases hx; exact h.2 t
  | const v =>
    simp only [opd, Option.map_eq_some_iff] at hx
    obtain ⟨y, hy, rfl⟩ := hx
    exact .d _ _ (constD_rel hy)
  | global g => cases hx
  | func f =>
    cases hx
    exact .d _ _ (.func _ [] [] #[] #[] rfl rfl (fun _ _ _ h => by simp at h) (fun _ _ _ h => by simp at h))
theorem opds_rel {w : World} {F : Nat → Prop} {β : Bl} {env : Env} {ρ : Operand → Value} (hR : RRel w F β env ρ) : ∀ (l : List Operand) (l' : List Opd), opds l = some l' →
    l'.length = l.length ∧ (evs env l').length = l.length ∧ ∀ (j : Nat) (y : AV) (u : Value), (evs env l')[j]? = some y → (l.map ρ)[j]? = some u → VRel w F β y u
  | [], l', h => by cases h; exact ⟨rfl, rfl, fun j y u hy => by simp [evs] at hy⟩
  | x :: r, l', h => by
    simp only [opds] at h
    split at h
    · rename_i y ys hy hys
      cases h
      obtain ⟨h1, h2, h3⟩ := opds_rel hR r ys hys
      refine ⟨by simp [h1], by simp [evs, h2], fun j z u hz hu => ?_⟩
      cases j with
      | zero => simp [evs] at hz hu; subst hz; subst hu; exact hR x y hy
      | succ j => simp [evs] at hz hu; exact h3 j z u hz (by simpa using hu)
    · cases h

def OK (P : Program) (o : Oper) (ρ : Operand → Value) (w : World) (F : Nat → Prop) (β : Bl) (sto : List Obj) (v : AV) (sto' : List Obj) : Prop :=
  ∃ (u : Value) (w' : World) (F' : Nat → Prop) (β' : Bl), ((execOp ρ o).run P w = .ok (.value u) w' ∨ ((execOp ρ o).run P w = .ok .skip w' ∧ u = undef)) ∧ VRel w' F' β' v u ∧ SRel w' F' β' sto' ∧ Ext w F β sto w' F' β' sto'
theorem OK.same {P : Program} {o : Oper} {ρ : Operand → Value} {w : World} {F : Nat → Prop} {β : Bl} {sto : List Obj} {v : AV} (hS : SRel w F β sto) (u : Value) (hr : (execOp ρ o).run P w = .ok (.value u) w) (hv : VRel w F β v u) : OK P o ρ w F β sto v sto :=
  ⟨u, w, F, β, .inl hr, hv, hS, Ext.refl _ _ _ _ hS.dom⟩

section
variable {P : Program} {w : World} {F : Nat → Prop} {β : Bl}
@[simp] theorem run_sizeOf' {t : TypeId} {i : TypeInfo} (h : P.info? t = some i) (w : World) : (sizeOf t).run P w = .ok i.size w := by simp [sizeOf, typeInfo, h]
theorem run_isAgg' {t : TypeId} {d : TypeDesc} (h : P.underlying t = some d) (w : World) : (isAgg t).run P w = .ok (isAggD d) w := by
  unfold isAgg
  simp only [Sem.run_bind, run_underlying h, Result.andThen_ok]
  cases d <;> simp [isAggD]

theorem ok_bin {o : Oper} {ρ : Operand → Value} {sto : List Obj} (hS : SRel w F β sto) {op : BinOp} {xt : TypeId} {x y : Operand} {yt : TypeId} (ho : o.op = .binOp op xt x y yt) {a b z : D}
    (ha : VRel w F β (.d a) (ρ x)) (hb : VRel w F β (.d b) (ρ y)) (hz : binD op a b = some z) : OK P o ρ w F β sto (.d z) sto := by
  have key : ∀ (u : Value), (binOp op xt (ρ x) (ρ y)).run P w = .ok u w → (∀ w, (eqGuard op xt x y (ρ x) (ρ y)).run P w = .ok () w) → DRel w F z u → OK P o ρ w F β sto (.d z) sto := by
    intro u hr hg hv
    refine .same hS u ?_ (.d _ _ hv)
    unfold execOp
    rw [ho]
    simp [hg, hr]
  unfold binD at hz
  split at hz
  · rename_i k a k' b
    have e1 := inv_int ha
    have e2 := inv_int hb
    rw [e1, e2] at key
    have hg : ∀ w, (eqGuard op xt x y (.int k a) (.int k' b)).run P w = .ok () w := by
      intro w; unfold eqGuard; cases op <;> simp
    split at hz
    · rename_i hop; subst hop
      split at hz
      · cases hz
      · cases hz
        refine key _ ?_ hg (.int _ _)
        simp [binOp, Op.shift, *]
    · split at hz
      · rename_i hop; subst hop
        split at hz
        · cases hz
        · cases hz
          refine key _ ?_ hg (.int _ _)
          simp [binOp, Op.shift, *]
      · split at hz
        · rename_i h1 h2 hk
          subst hk
          cases op <;> simp only [intOp] at hz <;> first
            | (cases hz; done)
            | (exact absurd rfl h1)
            | (exact absurd rfl h2)
            | (cases hz; refine key _ ?_ hg (by first | exact .int _ _ | exact .bool _); simp [binOp, Op.intArith, Op.intBits, Op.intCmp]; done)
            | (split at hz; · cases hz
               · cases hz; refine key _ ?_ hg (.int _ _); simp [binOp, Op.intDiv, *])
        · cases hz
  · rename_i s t
    have e1 := inv_str ha
    have e2 := inv_str hb
    rw [e1, e2] at key
    have hg : ∀ w, (eqGuard op xt x y (.string s) (.string t)).run P w = .ok () w := by
      intro w; unfold eqGuard; cases op <;> simp
    cases op <;> simp only [strOp] at hz <;> first
      | (cases hz; done)
      | (split at hz
         · cases hz
           refine key _ ?_ hg (.str _)
           have : ¬ (((s.size + t.size : Nat) : Int) > IntKind.i64.max) := by
             have : IntKind.i64.max = 9223372036854775807 := by decide
             omega
           simp only [binOp, Op.stringOp]
           rw [if_neg this]
           rfl
         · cases hz)
      | (cases hz; refine key _ ?_ hg (.bool _); simp [binOp, Op.stringOp]; done)
  · cases hz
end
end Go.Proofs.YtjnfkifdgojdaaaGreat.V

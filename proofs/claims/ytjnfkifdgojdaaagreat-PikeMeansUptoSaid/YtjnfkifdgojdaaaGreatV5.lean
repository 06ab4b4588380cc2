/- Comparisons with nil, of bools, of structs. -/
import Derived.Test.YtjnfkifdgojdaaaGreatV4
namespace Go.Proofs.YtjnfkifdgojdaaaGreat.V
open Go
set_option linter.unusedVariables false
set_option linter.unusedSimpArgs false
set_option linter.unusedSectionVars false
variable [Inhabited Flag]
section
variable {P : Program} {w : World} {F : Nat → Prop} {β : Bl}
theorem equal_eq (t : TypeId) (x y : Value) : ∃ n, Op.equal t x y = Op.equalIn (n + 1) t x y := ⟨9999, rfl⟩
theorem ok_eqb {o : Oper} {ρ : Operand → Value} {sto : List Obj} (hS : SRel w F β sto) {neg : Bool} {xt : TypeId} {x y : Operand} {yt : TypeId} (ho : o.op = .binOp (if neg then .neq else .eql) xt x y yt) {a b : Bool}
  (ha : VRel w F β (.d (.bool a)) (ρ x)) (hb : VRel w F β (.d (.bool b)) (ρ y)) (hd : P.underlying xt = some .bool) : OK P o ρ w F β sto (.d (.bool (if neg then !(a == b) else a == b))) sto := by
 have e1 := inv_bool ha
 have e2 := inv_bool hb
 refine .same hS (.bool (if neg then !(a == b) else a == b)) ?_ (.d _ _ (.bool _))
 have he : (Op.equal xt (.bool a) (.bool b)).run P w = .ok (a == b) w := by
  obtain ⟨n, hn⟩ := equal_eq xt (.bool a) (.bool b)
  rw [hn]
  simp [Op.equalIn, run_underlying hd]
 unfold execOp
 rw [ho]
 cases neg <;> simp [e1, e2, eqGuard, binOp, he]
def IsNilV : NK → Value → Prop
 | .ptr, v => v = .pointer none
 | .slice, v => ∃ l c, v = .slice none l c
 | .iface, v => v = .nilIface
 | .func, v => v = .nilFunc
 | .map, v => v = .map none
theorem nilC_spec {y : Operand} {k : NK} (h : nilC y = some k) : ∃ c, y = .const c ∧ IsNilV k c := by
 unfold nilC at h
 split at h <;> cases h
 ·exact ⟨_, rfl, rfl⟩
 ·exact ⟨_, rfl, _, _, rfl⟩
 ·exact ⟨_, rfl, rfl⟩
 ·exact ⟨_, rfl, rfl⟩
 ·exact ⟨_, rfl, rfl⟩
def EqNeq (u c : Value) : Prop := (∀ t, binOp .eql t u c = (do pure (.bool (← Op.equal t u c)))) ∧ ∀ t, binOp .neq t u c = (do pure (.bool (!(← Op.equal t u c))))
theorem exec_binOp {o : Oper} {ρ : Operand → Value} {op : BinOp} {xt : TypeId} {x y : Operand} {yt : TypeId} (ho : o.op = .binOp op xt x y yt) {z : Value}
  (hg : (eqGuard op xt x y (ρ x) (ρ y)).run P w = .ok () w) (hb : (binOp op xt (ρ x) (ρ y)).run P w = .ok z w) : (execOp ρ o).run P w = .ok (.value z) w := by
 unfold execOp
 rw [ho]
 simp [hg, hb]
set_option maxHeartbeats 4000000 in
theorem nil_equal {k : NK} {v : AV} {b : Bool} {u c : Value} {d : TypeDesc} {xt : TypeId} (hb : isNil k v = some b) (hv : VRel w F β v u) (hc : IsNilV k c) (hk : fitsNK d k = true) (hd : P.underlying xt = some d) :
  (Op.equal xt u c).run P w = .ok b w ∧ (Op.equal xt c u).run P w = .ok b w ∧ EqNeq u c ∧ EqNeq c u ∧ (∀ cs, u ≠ .agg cs) ∧ (∀ cs, c ≠ .agg cs) := by
 obtain ⟨n, hn⟩ := equal_eq xt u c
 obtain ⟨m, hm⟩ := equal_eq xt c u
 rw [hn, hm]
 cases k <;> simp only [IsNilV] at hc <;> cases d <;> simp only [fitsNK] at hk <;> (try (cases hk; done)) <;> unfold isNil at hb <;> split at hb <;> (try (cases hb; done)) <;> (try contradiction)
 case h_1 => cases hb; cases hv with | d x v h => cases h; subst hc; exact ⟨(by simp only [Op.equalIn, Sem.run_bind, run_underlying hd, Result.andThen_ok, Sem.run_pure, Option.isNone]), (by simp only [Op.equalIn, Sem.run_bind, run_underlying hd, Result.andThen_ok, Sem.run_pure, Option.isNone]), ⟨fun _ => rfl, fun _ => rfl⟩, ⟨fun _ => rfl, fun _ => rfl⟩, (fun _ h => by cases h), fun _ h => by cases h⟩
 case h_5 => cases hb; cases hv with | d x v h => cases h; subst hc; exact ⟨(by simp only [Op.equalIn, Sem.run_bind, run_underlying hd, Result.andThen_ok, Sem.run_pure, Option.isNone]), (by simp only [Op.equalIn, Sem.run_bind, run_underlying hd, Result.andThen_ok, Sem.run_pure, Option.isNone]), ⟨fun _ => rfl, fun _ => rfl⟩, ⟨fun _ => rfl, fun _ => rfl⟩, (fun _ h => by cases h), fun _ h => by cases h⟩
 case h_9 => cases hb; cases hv; subst hc; exact ⟨(by simp only [Op.equalIn, Sem.run_bind, run_underlying hd, Result.andThen_ok, Sem.run_pure, Option.isNone]), (by simp only [Op.equalIn, Sem.run_bind, run_underlying hd, Result.andThen_ok, Sem.run_pure, Option.isNone]), ⟨fun _ => rfl, fun _ => rfl⟩, ⟨fun _ => rfl, fun _ => rfl⟩, (fun _ h => by cases h), fun _ h => by cases h⟩
 case h_3 => cases hb; cases hv with | d x v h => cases h; subst hc; exact ⟨(by simp only [Op.equalIn, Sem.run_bind, run_underlying hd, Result.andThen_ok, Sem.run_pure, Option.isNone]), (by simp only [Op.equalIn, Sem.run_bind, run_underlying hd, Result.andThen_ok, Sem.run_pure, Option.isNone]), ⟨fun _ => rfl, fun _ => rfl⟩, ⟨fun _ => rfl, fun _ => rfl⟩, (fun _ h => by cases h), fun _ h => by cases h⟩
 case h_6 => cases hb; cases hv with | d x v h => cases h; subst hc; exact ⟨(by simp only [Op.equalIn, Sem.run_bind, run_underlying hd, Result.andThen_ok, Sem.run_pure, Option.isNone]), (by simp only [Op.equalIn, Sem.run_bind, run_underlying hd, Result.andThen_ok, Sem.run_pure, Option.isNone]), ⟨fun _ => rfl, fun _ => rfl⟩, ⟨fun _ => rfl, fun _ => rfl⟩, (fun _ h => by cases h), fun _ h => by cases h⟩
 case h_10 => cases hb; cases hv; subst hc; exact ⟨(by simp only [Op.equalIn, Sem.run_bind, run_underlying hd, Result.andThen_ok, Sem.run_pure, Option.isNone]), (by simp only [Op.equalIn, Sem.run_bind, run_underlying hd, Result.andThen_ok, Sem.run_pure, Option.isNone]), ⟨fun _ => rfl, fun _ => rfl⟩, ⟨fun _ => rfl, fun _ => rfl⟩, (fun _ h => by cases h), fun _ h => by cases h⟩
 case h_2 => cases hb; cases hv with | d x v h => cases h; subst hc; exact ⟨(by simp only [Op.equalIn, Sem.run_bind, run_underlying hd, Result.andThen_ok, Sem.run_pure, Option.isNone]), (by simp only [Op.equalIn, Sem.run_bind, run_underlying hd, Result.andThen_ok, Sem.run_pure, Option.isNone]), ⟨fun _ => rfl, fun _ => rfl⟩, ⟨fun _ => rfl, fun _ => rfl⟩, (fun _ h => by cases h), fun _ h => by cases h⟩
 case h_7 => cases hb; cases hv with | d x v h => cases h; subst hc; exact ⟨(by simp only [Op.equalIn, Sem.run_bind, run_underlying hd, Result.andThen_ok, Sem.run_pure, Option.isNone]), (by simp only [Op.equalIn, Sem.run_bind, run_underlying hd, Result.andThen_ok, Sem.run_pure, Option.isNone]), ⟨fun _ => rfl, fun _ => rfl⟩, ⟨fun _ => rfl, fun _ => rfl⟩, (fun _ h => by cases h), fun _ h => by cases h⟩
 case h_11 => cases hb; cases hv; subst hc; exact ⟨(by simp only [Op.equalIn, Sem.run_bind, run_underlying hd, Result.andThen_ok, Sem.run_pure, Option.isNone]), (by simp only [Op.equalIn, Sem.run_bind, run_underlying hd, Result.andThen_ok, Sem.run_pure, Option.isNone]), ⟨fun _ => rfl, fun _ => rfl⟩, ⟨fun _ => rfl, fun _ => rfl⟩, (fun _ h => by cases h), fun _ h => by cases h⟩
 case h_4 => cases hb; cases hv with | d x v h => cases h; subst hc; exact ⟨(by simp only [Op.equalIn, Sem.run_bind, run_underlying hd, Result.andThen_ok, Sem.run_pure, Option.isNone]), (by simp only [Op.equalIn, Sem.run_bind, run_underlying hd, Result.andThen_ok, Sem.run_pure, Option.isNone]), ⟨fun _ => rfl, fun _ => rfl⟩, ⟨fun _ => rfl, fun _ => rfl⟩, (fun _ h => by cases h), fun _ h => by cases h⟩
 case h_12 => cases hb; cases hv; subst hc; exact ⟨(by simp only [Op.equalIn, Sem.run_bind, run_underlying hd, Result.andThen_ok, Sem.run_pure, Option.isNone]), (by simp only [Op.equalIn, Sem.run_bind, run_underlying hd, Result.andThen_ok, Sem.run_pure, Option.isNone]), ⟨fun _ => rfl, fun _ => rfl⟩, ⟨fun _ => rfl, fun _ => rfl⟩, (fun _ h => by cases h), fun _ h => by cases h⟩
 case h_8 =>
  cases hb
  obtain ⟨l, cc, rfl⟩ := hc
  cases hv with | d x v h => cases h with | sl es xs t a cap b off cell hlc ht ha hF hes hcc h1 hr =>
   rw [ha (by simp)]
   exact ⟨(by simp only [Op.equalIn, Sem.run_bind, run_underlying hd, Result.andThen_ok, Sem.run_pure, Option.isNone]), (by simp only [Op.equalIn, Sem.run_bind, run_underlying hd, Result.andThen_ok, Sem.run_pure, Option.isNone]), ⟨fun _ => rfl, fun _ => rfl⟩, ⟨fun _ => rfl, fun _ => rfl⟩, (fun _ h => by cases h), fun _ h => by cases h⟩
 case h_13 =>
  split at hb
  ·cases hb
   rename_i hlen
   obtain ⟨l, cc, rfl⟩ := hc
   cases hv with | row id es lo len t a cap hlc ht hb =>
    obtain ⟨b, c, T, fr, _, rfl, _⟩ := hb (by omega)
    exact ⟨(by simp only [Op.equalIn, Sem.run_bind, run_underlying hd, Result.andThen_ok, Sem.run_pure, Option.isNone]), (by simp only [Op.equalIn, Sem.run_bind, run_underlying hd, Result.andThen_ok, Sem.run_pure, Option.isNone]), ⟨fun _ => rfl, fun _ => rfl⟩, ⟨fun _ => rfl, fun _ => rfl⟩, (fun _ h => by cases h), fun _ h => by cases h⟩
  ·cases hb
theorem eqGuard_const {op : BinOp} {t : TypeId} {x y : Operand} {a b : Value} (hc : (∃ c, x = .const c) ∨ (∃ c, y = .const c)) (h : (∀ cs, a ≠ .agg cs) ∨ ∀ cs, b ≠ .agg cs) : (eqGuard op t x y a b).run P w = .ok () w := by
 rcases hc with ⟨c, rfl⟩ | ⟨c, rfl⟩ <;> cases op <;> (try (simp [eqGuard]; done)) <;> (cases a <;> cases b <;> first | (simp [eqGuard]; done) | (exfalso; rcases h with h | h <;> exact h _ rfl))
theorem ok_isnil {o : Oper} {ρ : Operand → Value} {sto : List Obj} (hS : SRel w F β sto) {neg : Bool} {xt : TypeId} {x y : Operand} {yt : TypeId} (ho : o.op = .binOp (if neg then .neq else .eql) xt x y yt) {k : NK} {d : TypeDesc} {v : AV} {b : Bool}
  (hd : P.underlying xt = some d) (hk : fitsNK d k = true) (hb : isNil k v = some b) (hρ : ∀ c, ρ (.const c) = c)
  (hv : (nilC y = some k ∧ VRel w F β v (ρ x)) ∨ (nilC x = some k ∧ VRel w F β v (ρ y))) : OK P o ρ w F β sto (.d (.bool (if neg then !b else b))) sto := by
 refine .same hS (.bool (if neg then !b else b)) ?_ (.d _ _ (.bool _))
 rcases hv with ⟨hc, hv⟩ | ⟨hc, hv⟩
 ·obtain ⟨c, rfl, hcn⟩ := nilC_spec hc
  obtain ⟨h1, _, h3, _, h5, h6⟩ := nil_equal hb hv hcn hk hd
  rw [← hρ c] at h1 h3 h6
  refine exec_binOp ho (eqGuard_const (.inr ⟨c, rfl⟩) (.inr h6)) ?_
  cases neg
  ·simp only [Bool.false_eq_true, if_false, h3.1, Sem.run_bind, h1, Result.andThen_ok, Sem.run_pure]
  ·simp only [if_true, h3.2, Sem.run_bind, h1, Result.andThen_ok, Sem.run_pure]
 ·obtain ⟨c, rfl, hcn⟩ := nilC_spec hc
  obtain ⟨_, h2, _, h4, h5, h6⟩ := nil_equal hb hv hcn hk hd
  rw [← hρ c] at h2 h4 h6
  refine exec_binOp ho (eqGuard_const (.inl ⟨c, rfl⟩) (.inl h6)) ?_
  cases neg
  ·simp only [Bool.false_eq_true, if_false, h4.1, Sem.run_bind, h2, Result.andThen_ok, Sem.run_pure]
  ·simp only [if_true, h4.2, Sem.run_bind, h2, Result.andThen_ok, Sem.run_pure]
end
end Go.Proofs.YtjnfkifdgojdaaaGreat.V

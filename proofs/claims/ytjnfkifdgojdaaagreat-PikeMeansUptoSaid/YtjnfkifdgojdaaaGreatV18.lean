/- Operations that may change places. -/
import Derived.Test.YtjnfkifdgojdaaaGreatV17
namespace Go.Proofs.YtjnfkifdgojdaaaGreat.V
open Go
set_option linter.unusedVariables false
set_option linter.unusedSimpArgs false
set_option linter.unusedSectionVars false
section
variable {env env' : Env}
def Same (l : List Nat) (env env' : Env) : Prop := ∀ n ∈ l, look n env = look n env'
theorem Same.left {a b : List Nat} (h : Same (a ++ b) env env') : Same a env env' := fun n hn => h n (List.mem_append_left _ hn)
theorem Same.right {a b : List Nat} (h : Same (a ++ b) env env') : Same b env env' := fun n hn => h n (List.mem_append_right _ hn)
theorem ev_congr {x : Opd} (h : Same (oT x) env env') : x.ev env = x.ev env' := by
 cases x with
 | t n => exact h n (List.mem_singleton.2 rfl)
 | c x => rfl
theorem optEv_congr {x : Option Opd} (h : Same (oTo x) env env') : optEv env x = optEv env' x := by
 cases x with
 | none => rfl
 | some x => simp only [optEv, ev_congr (x := x) h]
theorem evs_congr : ∀ {l : List Opd}, Same (oTs l) env env' → evs env l = evs env' l
 | [], _ => rfl
 | x :: r, h => by simp only [evs, ev_congr h.left, evs_congr h.right]
theorem build_congr : ∀ {l : List (Nat × Nat × Opd)} {cs : List AV}, Same (oTp l) env env' → buildCells env cs l = buildCells env' cs l
 | [], _, _ => rfl
 | (a, b, x) :: r, cs, h => by
  simp only [buildCells, ev_congr (x := x) (Same.left h)]
  split
  ·exact build_congr (Same.right h)
  ·rfl
theorem fill_congr {es : Nat} : ∀ {l : List (Nat × Opd)} {xs : List AV}, Same (oTq l) env env' → fillRow env es xs l = fillRow env' es xs l
 | [], _, _ => rfl
 | (a, x) :: r, xs, h => by
  simp only [fillRow, ev_congr (x := x) (Same.left h)]
  split
  ·exact fill_congr (Same.right h)
  ·rfl
theorem evalOp_congr {sto : List Obj} {op : VOp} (h : Same op.uses env env') : evalOp env sto op = evalOp env' sto op := by
 cases op
 case mov x => simp only [evalOp, ev_congr (x := x) h]
 case box a b x => simp only [evalOp, ev_congr (x := x) h]
 case load a x => simp only [evalOp, ev_congr (x := x) h]
 case nilck x => simp only [evalOp, ev_congr (x := x) h]
 case isnil a b x => simp only [evalOp, ev_congr (x := x) h]
 case un a x => simp only [evalOp, ev_congr (x := x) h]
 case conv a x => simp only [evalOp, ev_congr (x := x) h]
 case mkiface a x => simp only [evalOp, ev_congr (x := x) h]
 case faddr a x => simp only [evalOp, ev_congr (x := x) h]
 case fld a b x => simp only [evalOp, ev_congr (x := x) h]
 case extract x i => simp only [evalOp, ev_congr (x := x) h]
 case range x => simp only [evalOp, ev_congr (x := x) h]
 case next x => simp only [evalOp, ev_congr (x := x) h]
 case assert t z x ok => simp only [evalOp, ev_congr (x := x) h]
 case len x => simp only [evalOp, ev_congr (x := x) h]
 case lens x => simp only [evalOp, ev_congr (x := x) h]
 case cap x => simp only [evalOp, ev_congr (x := x) h]
 case pick c a b => simp only [evalOp, ev_congr (x := c) (Same.left (Same.left h)), ev_congr (x := a) (Same.right (Same.left h)), ev_congr (x := b) (Same.right h)]
 case build z ps => simp only [evalOp, build_congr (l := ps) h]
 case buildRow a es n z ps => simp only [evalOp, fill_congr (l := ps) h]
 case store ag es a x => simp only [evalOp, ev_congr (x := a) (Same.left h), ev_congr (x := x) (Same.right h)]
 case bin op a x => simp only [evalOp, ev_congr (x := a) (Same.left h), ev_congr (x := x) (Same.right h)]
 case eqb op a x => simp only [evalOp, ev_congr (x := a) (Same.left h), ev_congr (x := x) (Same.right h)]
 case eqs op ks a x => simp only [evalOp, ev_congr (x := a) (Same.left h), ev_congr (x := x) (Same.right h)]
 case iaddr es a x => simp only [evalOp, ev_congr (x := a) (Same.left h), ev_congr (x := x) (Same.right h)]
 case iaddra n es a x => simp only [evalOp, ev_congr (x := a) (Same.left h), ev_congr (x := x) (Same.right h)]
 case idxa ag n es a x => simp only [evalOp, ev_congr (x := a) (Same.left h), ev_congr (x := x) (Same.right h)]
 case lookup ag ks z a x ok => simp only [evalOp, ev_congr (x := a) (Same.left h), ev_congr (x := x) (Same.right h)]
 case mapent ag ks z a x => simp only [evalOp, ev_congr (x := a) (Same.left h), ev_congr (x := x) (Same.right h)]
 case delete ag ks a x => simp only [evalOp, ev_congr (x := a) (Same.left h), ev_congr (x := x) (Same.right h)]
 case mapupd ag ks a x y => simp only [evalOp, ev_congr (x := a) (Same.left (Same.left h)), ev_congr (x := x) (Same.right (Same.left h)), ev_congr (x := y) (Same.right h)]
 case entst a x y => simp only [evalOp, ev_congr (x := a) (Same.left (Same.left h)), ev_congr (x := x) (Same.right (Same.left h)), ev_congr (x := y) (Same.right h)]
 case idxs a x => simp only [evalOp, ev_congr (x := a) (Same.left h), ev_congr (x := x) (Same.right h)]
 case append es b a x => simp only [evalOp, ev_congr (x := a) (Same.left h), ev_congr (x := x) (Same.right h)]
 case mkslice ag es b z a x => simp only [evalOp, ev_congr (x := a) (Same.left h), ev_congr (x := x) (Same.right h)]
 case mkfunc fn a b => simp only [evalOp, evs_congr (l := a) (Same.left h), evs_congr (l := b) (Same.right h)]
 case slstr x lo hi => simp only [evalOp, ev_congr (x := x) (Same.left (Same.left h)), optEv_congr (x := lo) (Same.right (Same.left h)), optEv_congr (x := hi) (Same.right h)]
 case sl es x lo hi mx => simp only [evalOp, ev_congr (x := x) (Same.left (Same.left (Same.left h))), optEv_congr (x := lo) (Same.right (Same.left (Same.left h))), optEv_congr (x := hi) (Same.right (Same.left h)), optEv_congr (x := mx) (Same.right h)]
 case min xs => simp only [evalOp, evs_congr (l := xs) h]
 case max xs => simp only [evalOp, evs_congr (l := xs) h]
 all_goals rfl
theorem look_dataEnv (n : Nat) : ∀ env : Env, look n (dataEnv env) = match look n env with
  | .d x => .d x
  | _ => .undef
 | [] => rfl
 | (m, v) :: r => by
  simp only [dataEnv, look]
  split
  ·rfl
  ·exact look_dataEnv n r
theorem Same.data {l : List Nat} (h : Same l env env') : Same l (dataEnv env) (dataEnv env') := fun n hn => by
 rw [look_dataEnv, look_dataEnv, h n hn]
theorem buildQ_congr {op : VOp} (h : Same op.uses env env') : buildQ env op = buildQ env' op := by
 unfold buildQ
 rw [evalOp_congr (Same.data h)]
theorem evalQop_cases {C : Calling} (op : VOp) : (∃ f xs, op = .call f xs) ∨ (∃ ag es n z ps, op = .buildRow ag es n z ps) ∨ ∀ env sto, evalQop C env sto op = evalOp env sto op := by
 cases op
 case call f xs => exact .inl ⟨f, xs, rfl⟩
 case buildRow ag es n z ps => exact .inr (.inl ⟨ag, es, n, z, ps, rfl⟩)
 all_goals exact .inr (.inr fun _ _ => rfl)
theorem evalQop_congr {C : Calling} {sto : List Obj} {op : VOp} (h : Same op.uses env env') : evalQop C env sto op = evalQop C env' sto op := by
 rcases evalQop_cases (C := C) op with ⟨f, xs, rfl⟩ | ⟨ag, es, n, z, ps, rfl⟩ | e
 ·simp only [evalQop, ev_congr (x := f) (Same.left h), evs_congr (l := xs) (Same.right h)]
 ·simp only [evalQop, buildQ_congr h]
 ·rw [e, e, evalOp_congr h]
theorem valQ_congr {C : Calling} {sto : List Obj} {o : VOper} (h : Same o.uses env env') : valQ C o env sto = valQ C o env' sto := by
 unfold valQ
 have hg : wantedV o.guard env = wantedV o.guard env' := by
  unfold wantedV
  split
  ·rfl
  ·rename_i t w e
   rw [h t (by simp [VOper.uses, e])]
 have ha : apartOk o env = apartOk o env' := by
  unfold apartOk
  split
  ·rename_i ag n a x e
   have h1 : a.ev env = a.ev env' := ev_congr (x := a) fun m hm => h m (by
    unfold VOper.uses
    refine List.mem_append_right _ ?_
    split <;> simp [e, VOp.uses, hm])
   rw [h1]
   have : ∀ l : List Nat, (∀ m ∈ l, look m env = look m env') → (l.all fun t => apartAV (look t env) (a.ev env')) = l.all fun t => apartAV (look t env') (a.ev env') := by
    intro l hl
    induction l with
    | nil => rfl
    | cons m r ih => simp only [List.all_cons]; rw [hl m List.mem_cons_self, ih fun k hk => hl k (List.mem_cons_of_mem _ hk)]
   exact this _ fun m hm => h m (by unfold VOper.uses; exact List.mem_append_left _ hm)
  ·rfl
  ·rfl
 have ho : Same o.op.uses env env' := fun n hn => h n (by
  unfold VOper.uses
  refine List.mem_append_right _ ?_
  split
  ·exact List.mem_cons_of_mem _ hn
  ·exact hn)
 rw [hg, evalQop_congr ho, ha]
theorem evalOp_pure {sto sto' : List Obj} {op : VOp} {v : AV} (hk : opK op = .pure) (hnb : ∀ ag es n z ps, op ≠ .buildRow ag es n z ps) (h : evalOp env sto op = some (v, sto')) : sto' = sto ∧ ∀ s, evalOp env s op = some (v, s) := by
 cases op
 case buildRow ag es n z ps => exact absurd rfl (hnb ag es n z ps)
 case conv c x =>
  cases c <;> simp only [opK] at hk <;> first | cases hk | skip
  all_goals
   simp only [evalOp] at h ⊢
   split at h
   ·cases h; exact ⟨rfl, fun _ => rfl⟩
   ·cases h
 all_goals (simp only [opK] at hk; try cases hk)
 all_goals (simp only [evalOp] at h ⊢)
 all_goals (repeat' (split at h; try dsimp only at h))
 all_goals (first | (cases h; done) | skip)
 all_goals (cases h)
 all_goals (first | exact ⟨rfl, fun _ => rfl⟩ | (refine ⟨rfl, fun _ => ?_⟩; simp only [*, if_true, if_false, and_self, Bool.false_eq_true]))
theorem get_more {sto : List Obj} {x o : Obj} {id : Nat} (h : sto[id]? = some o) : (sto ++ [x])[id]? = some o := by
 rw [List.getElem?_append_left (List.getElem?_eq_some_iff.1 h).1]; exact h
theorem elems_more {sto : List Obj} {x : Obj} {es : Nat} {v : AV} {vs : List AV} (h : elems sto es v = some vs) : elems (sto ++ [x]) es v = some vs := by
 unfold elems at h ⊢
 split at h
 ·exact h
 ·split at h
  ·rename_i hx
   simp only [get_more hx]; exact h
  ·cases h
 ·cases h
theorem evalOp_read {sto sto' : List Obj} {op : VOp} {v : AV} (hk : opK op = .read) (h : evalOp env sto op = some (v, sto')) : sto' = sto ∧ ∀ x, evalOp env (sto ++ [x]) op = some (v, sto ++ [x]) := by
 cases op
 case conv c y =>
  cases c <;> simp only [opK] at hk <;> first | (cases hk; done) | skip
  simp only [evalOp] at h ⊢
  split at h
  ·rename_i vs hvs
   split at h
   ·rename_i bs hbs
    cases h
    exact ⟨rfl, fun x => by simp only [elems_more hvs, hbs]⟩
   ·cases h
  ·cases h
 case load ag a =>
  simp only [evalOp] at h ⊢
  split at h
  ·rename_i cs hcs
   split at h
   ·split at h
    ·cases h; exact ⟨rfl, fun _ => rfl⟩
    ·cases h
   ·split at h
    ·rename_i hle
     cases h; exact ⟨rfl, fun _ => by simp only [hle, if_true]⟩
    ·cases h
  ·rename_i cs hcs
   split at h
   ·split at h
    ·cases h; exact ⟨rfl, fun _ => rfl⟩
    ·cases h
   ·cases h
  ·rename_i id es i off hp
   split at h
   ·rename_i es' xs z hx
    split at h
    ·rename_i hes
     split at h
     ·rename_i e he
      split at h
      ·rename_i u hu
       cases h
       refine ⟨rfl, fun x => ?_⟩
       simp only [get_more hx, hes, if_true, he, hu]
      ·cases h
     ·cases h
    ·cases h
   ·cases h
  ·cases h
 all_goals (simp only [opK] at hk; try cases hk)
theorem evalOp_alloc {sto sto' : List Obj} {op : VOp} {v : AV} (hk : opK op = .alloc) (h : evalOp env sto op = some (v, sto')) : ∃ x, sto' = sto ++ [x] := by
 cases op
 case conv c x => cases c <;> simp only [opK] at hk <;> cases hk
 all_goals (simp only [opK] at hk; try cases hk)
 all_goals (simp only [evalOp] at h)
 all_goals (repeat' (split at h; try dsimp only at h))
 all_goals (first | (cases h; done) | (cases h; exact ⟨_, rfl⟩))
theorem valQ_pure {C : Calling} {o : VOper} {sto sto' : List Obj} {v : AV} (hk : opK o.op = .pure) (h : valQ C o env sto = some (v, sto')) : sto' = sto ∧ ∀ s, valQ C o env s = some (v, s) := by
 unfold valQ at h ⊢
 split at h
 ·cases h
 ·split at h
  ·rename_i hw
   simp only [hw, if_true]
   split at h
   case isFalse => cases h
   rename_i hap
   simp only [hap, if_true]
   rcases evalQop_cases (C := C) o.op with ⟨f, xs, e⟩ | ⟨ag, es, n, z, ps, e⟩ | e
   ·rw [e] at h
    simp only [evalQop] at h
    split at h
    ·rename_i v' hv
     cases h
     exact ⟨rfl, fun s => by simp only [e, evalQop, hv]⟩
    ·cases h
   ·rw [e] at h
    simp only [evalQop] at h
    split at h
    ·rename_i v' hv
     cases h
     exact ⟨rfl, fun s => by simp only [e, evalQop, hv]⟩
    ·cases h
   ·rw [e] at h
    by_cases hb : ∀ ag es n z ps, o.op ≠ .buildRow ag es n z ps
    ·obtain ⟨h1, h2⟩ := evalOp_pure hk hb h
     exact ⟨h1, fun s => by rw [e]; exact h2 s⟩
    ·exfalso
     have : ∃ ag es n z ps, o.op = .buildRow ag es n z ps := by
      apply Classical.byContradiction
      intro hn
      exact hb fun ag es n z ps he => hn ⟨ag, es, n, z, ps, he⟩
     obtain ⟨ag, es, n, z, ps, e2⟩ := this
     have h1 := e [] []
     have h2 := e [] [.dead]
     rw [e2] at h1 h2
     simp only [evalQop] at h1 h2
     cases hq : buildQ [] (.buildRow ag es n z ps) with
     | none =>
      rw [hq] at h1 h2
      rw [e2] at h
      have h3 := e env sto
      rw [e2] at h3
      simp only [evalQop] at h3
      rw [h] at h3
      cases hq2 : buildQ env (.buildRow ag es n z ps) with
      | none => rw [hq2] at h3; cases h3
      | some v2 =>
       rw [hq2] at h3
       simp only [Option.some.injEq, Prod.mk.injEq] at h3
       simp only [evalOp] at h
       split at h
       ·simp only [Option.some.injEq, Prod.mk.injEq] at h
        have h4 := congrArg List.length (h3.2.trans h.2.symm)
        simp at h4
       ·cases h
     | some v2 =>
      rw [hq] at h1
      simp only [evalOp] at h1
      split at h1
      ·simp only [Option.some.injEq, Prod.mk.injEq] at h1
       have := h1.2
       simp at this
      ·cases h1
  ·rename_i hw
   cases h
   refine ⟨rfl, fun s => ?_⟩
   simp only [hw, if_false, Bool.false_eq_true]
theorem evalQop_other {C : Calling} {sto : List Obj} {op : VOp} (h : opK op ≠ .pure) : evalQop C env sto op = evalOp env sto op := by
 cases op <;> first | rfl | exact absurd rfl h
theorem valQ_read {C : Calling} {o : VOper} {sto sto' : List Obj} {v : AV} (hk : opK o.op = .read) (h : valQ C o env sto = some (v, sto')) : sto' = sto ∧ ∀ x, valQ C o env (sto ++ [x]) = some (v, sto ++ [x]) := by
 have hne : opK o.op ≠ .pure := by rw [hk]; intro h; cases h
 unfold valQ at h ⊢
 split at h
 ·cases h
 ·split at h
  ·rename_i hw
   simp only [hw, if_true]
   split at h
   case isFalse => cases h
   rename_i hap
   simp only [hap, if_true]
   rw [evalQop_other hne] at h
   obtain ⟨h1, h2⟩ := evalOp_read hk h
   exact ⟨h1, fun s => by rw [evalQop_other hne]; exact h2 s⟩
  ·rename_i hw
   cases h
   refine ⟨rfl, fun s => ?_⟩
   simp only [hw, if_false, Bool.false_eq_true]
theorem valQ_alloc {C : Calling} {o : VOper} {sto sto' : List Obj} {v : AV} (hk : opK o.op = .alloc) (h : valQ C o env sto = some (v, sto')) : sto' = sto ∨ ∃ x, sto' = sto ++ [x] := by
 have hne : opK o.op ≠ .pure := by rw [hk]; intro h; cases h
 unfold valQ at h
 split at h
 ·cases h
 ·split at h
  ·split at h
   ·rw [evalQop_other hne] at h
    exact .inr (evalOp_alloc hk h)
   ·cases h
  ·cases h; exact .inl rfl
theorem apart_uses {o : VOper} {t : Nat} (h : t ∈ o.apart) : t ∈ o.uses := by unfold VOper.uses; exact List.mem_append_left _ h
theorem wanted_congr {o : VOper} (h : Same o.uses env env') : wantedV o.guard env = wantedV o.guard env' := by
 unfold wantedV
 split
 ·rfl
 ·rename_i t w e
  rw [h t (by simp [VOper.uses, e])]
theorem all_congr {l : List Nat} {f g : Nat → Bool} (h : ∀ t ∈ l, f t = g t) : l.all f = l.all g := by
 induction l with
 | nil => rfl
 | cons m r ih => simp only [List.all_cons]; rw [h m List.mem_cons_self, ih fun k hk => h k (List.mem_cons_of_mem _ hk)]
theorem effQ_congr {C : Calling} {sto : List Obj} {o : VOper} (h : Same o.uses env env') : effQ C o env sto = effQ C o env' sto := by
 unfold effQ
 split
 ·rename_i f args e
  have ho : Same (VOp.call f args).uses env env' := fun n hn => h n (by
   unfold VOper.uses
   refine List.mem_append_right _ ?_
   rw [e]
   split
   ·exact List.mem_cons_of_mem _ hn
   ·exact hn)
  rw [wanted_congr h, ev_congr (x := f) (Same.left ho), evs_congr (l := args) (Same.right ho)]
  have ha : (o.apart.all fun t => t == effMark || t == mapMark || freeOf (callM (f.ev env') (evs env' args) sto) sto.length (look t env)) = o.apart.all fun t => t == effMark || t == mapMark || freeOf (callM (f.ev env') (evs env' args) sto) sto.length (look t env') :=
   all_congr fun t ht => by rw [h t (apart_uses ht)]
  rw [ha]
 ·rfl
theorem valE_congr {C : Calling} {sto : List Obj} {o : VOper} (h : Same o.uses env env') : valE C o env sto = valE C o env' sto := by
 unfold valE
 rw [valQ_congr h, effQ_congr h]
theorem valE_unmarked {C : Calling} {sto : List Obj} {o : VOper} (h : marked o = false) : valE C o env sto = valQ C o env sto := by
 unfold valE effQ
 unfold marked at h
 cases valQ C o env sto with
 | some r => rfl
 | none =>
  dsimp only
  split
  ·rename_i f args e
   rw [e] at h
   dsimp only at h
   rw [if_neg (by rw [h]; simp)]
  ·rfl
theorem valE_of {C : Calling} {sto : List Obj} {o : VOper} {r : AV × List Obj} (h : valQ C o env sto = some r) : valE C o env sto = some r := by
 unfold valE; rw [h]
def SameF (o o' : Obj) : Prop := o' = o ∨ ∃ es xs z, o = .row es xs z ∧ o' = .row es xs true
def SameFs (sto sto' : List Obj) : Prop := sto'.length = sto.length ∧ ∀ (id : Nat) (o o' : Obj), sto[id]? = some o → sto'[id]? = some o' → SameF o o'
theorem SameF.trans {a b c : Obj} (h : SameF a b) (k : SameF b c) : SameF a c := by
 rcases h with rfl | ⟨es, xs, z, rfl, rfl⟩
 ·exact k
 ·rcases k with rfl | ⟨es', xs', z', h1, rfl⟩
  ·exact .inr ⟨es, xs, z, rfl, rfl⟩
  ·cases h1; exact .inr ⟨es, xs, z, rfl, rfl⟩
theorem SameFs.refl (sto : List Obj) : SameFs sto sto := ⟨rfl, fun id o o' h h' => by rw [h] at h'; cases h'; exact .inl rfl⟩
theorem SameFs.trans {a b c : List Obj} (h : SameFs a b) (k : SameFs b c) : SameFs a c := by
 refine ⟨k.1.trans h.1, fun id o o' ho ho' => ?_⟩
 have hl : id < b.length := by rw [h.1]; exact (List.getElem?_eq_some_iff.1 ho).1
 have hb := List.getElem?_eq_getElem hl
 exact (h.2 id o _ ho hb).trans (k.2 id _ o' hb ho')
theorem freezeAt_same (sto : List Obj) (id : Nat) : SameFs sto (freezeAt sto id) := by
 unfold freezeAt
 split
 ·rename_i es xs z h
  refine ⟨by simp, fun k o o' ho ho' => ?_⟩
  by_cases e : k = id
  ·subst e
   rw [List.getElem?_set_self (List.getElem?_eq_some_iff.1 ho).1] at ho'
   rw [h] at ho
   cases ho; cases ho'
   exact .inr ⟨es, xs, z, rfl, rfl⟩
  ·rw [List.getElem?_set_ne (Ne.symm e), ho] at ho'
   cases ho'
   exact .inl rfl
 ·exact SameFs.refl _
theorem freezeAll_same : ∀ (ids : List Nat) (sto : List Obj), SameFs sto (freezeAll sto ids)
 | [], sto => SameFs.refl _
 | id :: r, sto => by
  simp only [freezeAll]
  exact (freezeAt_same sto id).trans (freezeAll_same r _)
theorem snap_same {sto sto' : List Obj} {v v' : AV} (h : snap sto v = some (v', sto')) : SameFs sto sto' := by
 unfold snap at h
 split at h
 ·cases h; exact SameFs.refl _
 ·split at h
  ·cases h; exact freezeAll_same _ _
  ·cases h
theorem prep_same {br : List Nat} : ∀ (l : List AV) (i : Nat) (sto : List Obj) (vs : List AV) (sto' : List Obj), prep br i l sto = some (vs, sto') → SameFs sto sto'
 | [], i, sto, vs, sto', h => by simp only [prep] at h; cases h; exact SameFs.refl _
 | v :: r, i, sto, vs, sto', h => by
  simp only [prep] at h
  split at h
  ·rename_i v1 sto1 hx
   split at h
   ·rename_i vs2 sto2 hp
    cases h
    refine SameFs.trans ?_ (prep_same r (i + 1) sto1 vs2 _ hp)
    split at hx
    ·cases hx; exact SameFs.refl _
    ·split at hx
     ·cases hx; exact SameFs.refl _
     ·exact snap_same hx
    ·exact snap_same hx
    ·split at hx
     ·cases hx; exact SameFs.refl _
     ·exact snap_same hx
    ·cases hx; exact SameFs.refl _
   ·cases h
  ·cases h
theorem putBack_other (f : Nat → Option Nat) : ∀ (m : List Nat) (os sto : List Obj) (k : Nat) (y : Obj), k ∉ m → sto[k]? = some y → (putBack f m os sto)[k]? = some y
 | [], os, sto, k, y, hk, h => by
  have e : putBack f [] os sto = sto ++ os.map (renObj f) := by cases os <;> rfl
  rw [e, List.getElem?_append_left (List.getElem?_eq_some_iff.1 h).1]; exact h
 | id :: m, [], sto, k, y, hk, h => by
  simp only [putBack, List.map_nil, List.append_nil]; exact h
 | id :: m, o :: os, sto, k, y, hk, h => by
  simp only [putBack]
  refine putBack_other f m os _ k y (fun hm => hk (List.mem_cons_of_mem _ hm)) ?_
  rw [List.getElem?_set_ne (fun e => hk (by rw [e]; exact List.mem_cons_self))]; exact h
theorem callOp_other {C : Calling} {f : AV} {args : List AV} {sto sto' : List Obj} {out : Out} (h : callOp C (fun _ => []) f args sto = some (out, sto')) {id : Nat} (hid : id ∉ callM f args sto) {o : Obj} (ho : sto[id]? = some o) : ∃ o', sto'[id]? = some o' ∧ SameF o o' := by
 have go : ∀ (g : FuncId) (vs : List AV), (match prep [] 0 vs sto with
   | some (vs', sto') =>
    let m := reach sto' fuelR (refsL vs') []
    (match C g (renL (renId m) vs') (pickS (renId m) sto' m) with
     | some (out, sto1) => if m.length ≤ sto1.length then
       some (renOut (backId m sto'.length) out, putBack (backId m sto'.length) m sto1 sto') else none
     | none => none)
   | none => none) = some (out, sto') → id ∉ (match prep [] 0 vs sto with
   | some (vs', sto') => reach sto' fuelR (refsL vs') []
   | none => []) → ∃ o', sto'[id]? = some o' ∧ SameF o o' := by
  intro g vs h hid
  split at h
  ·rename_i vs1 sto1 hp
   rw [hp] at hid
   dsimp only at h hid
   split at h
   ·split at h
    ·cases h
     have hs := prep_same _ _ _ _ _ hp
     have hl : id < sto1.length := by rw [hs.1]; exact (List.getElem?_eq_some_iff.1 ho).1
     have h1 := List.getElem?_eq_getElem hl
     exact ⟨_, putBack_other _ _ _ _ _ _ hid h1, hs.2 id o _ ho h1⟩
    ·cases h
   ·cases h
  ·cases h
 unfold callOp at h
 unfold callM at hid
 split at h
 ·exact go _ _ h hid
 ·exact go _ _ h hid
 ·cases h
def Like (st st' : St) : Prop := st.sto = st'.sto ∧ ∀ n, look n st.env = look n st'.env
theorem Like.refl (st : St) : Like st st := ⟨rfl, fun _ => rfl⟩
theorem Like.trans {a b c : St} (h : Like a b) (k : Like b c) : Like a c := ⟨h.1.trans k.1, fun n => (h.2 n).trans (k.2 n)⟩
theorem Like.symm {a b : St} (h : Like a b) : Like b a := ⟨h.1.symm, fun n => (h.2 n).symm⟩
theorem look_put_ne {d : Option Nat} {v : AV} {env : Env} {n : Nat} (h : d ≠ some n) : look n (put d v env) = look n env := by
 cases d with
 | none => rfl
 | some m =>
  simp only [put, look]
  rw [if_neg (fun e => h (by rw [e]))]
theorem look_put_self {n : Nat} {v : AV} {env : Env} : look n (put (some n) v env) = v := by simp [put, look]
theorem look_put_same {d : Option Nat} {v : AV} {env env' : Env} (h : ∀ n, look n env = look n env') : ∀ n, look n (put d v env) = look n (put d v env') := by
 intro n
 cases d with
 | none => exact h n
 | some m =>
  simp only [put, look]
  split
  ·rfl
  ·exact h n
theorem notIn_same {d : Option Nat} {l : List Nat} (h : notIn d l = true) (v : AV) (env : Env) : Same l (put d v env) env := by
 intro n hn
 refine look_put_ne fun e => ?_
 subst e
 simp only [notIn, Bool.not_eq_true', List.contains_eq_mem] at h
 have := of_decide_eq_false h
 exact this hn
theorem stepQ_like {C : Calling} {o : VOper} {st st' s : St} (h : Like st st') (hs : stepQ C o st = some s) : ∃ s', stepQ C o st' = some s' ∧ Like s s' := by
 unfold stepQ at hs ⊢
 rw [valE_congr (env' := st'.env) (fun n _ => h.2 n), h.1] at hs
 split at hs
 ·rename_i v sto' e
  cases hs
  exact ⟨_, rfl, rfl, look_put_same h.2⟩
 ·cases hs
theorem evalQ_like {C : Calling} : ∀ {l : List VOper} {st st' s : St}, Like st st' → evalQ C l st = some s → ∃ s', evalQ C l st' = some s' ∧ Like s s'
 | [], st, st', s, h, hs => by
  simp only [evalQ] at hs
  cases hs
  exact ⟨st', rfl, h⟩
 | o :: r, st, st', s, h, hs => by
  simp only [evalQ] at hs
  split at hs
  ·rename_i s1 h1
   obtain ⟨s2, h2, h3⟩ := stepQ_like h h1
   obtain ⟨s3, h4, h5⟩ := evalQ_like h3 hs
   exact ⟨s3, by simp only [evalQ, h2, h4], h5⟩
  ·cases hs
theorem valQ_apart {C : Calling} {x y : VOper} (hla : loadApart x y = true) {sto stox stoy : List Obj} {vx vy : AV} (hx : valQ C x env sto = some (vx, stox)) (hy : valQ C y env stox = some (vy, stoy)) : stox = sto ∧ valQ C x env stoy = some (vx, stoy) := by
 unfold loadApart at hla
 split at hla
 ·rename_i ag a ag' n b z ex ey
  have hxr := valQ_read (o := x) (by rw [ex]; rfl) hx
  obtain ⟨rfl, _⟩ := hxr
  refine ⟨rfl, ?_⟩
  have hy0 := hy
  unfold valQ at hy
  split at hy
  ·cases hy
  ·split at hy
   ·split at hy
    ·rename_i hap
     rw [ey] at hy
     simp only [evalQop] at hy
     have hpa : apartAV (look a env) (b.ev env) = true := by
      unfold apartOk at hap
      rw [ey] at hap
      simp only [List.all_eq_true] at hap
      exact hap a (by simpa using hla)
     simp only [evalOp] at hy
     split at hy
     ·rename_i id es i off hb
      rw [hb] at hpa
      split at hy
      ·split at hy
       ·split at hy
        ·split at hy
         ·cases hy
          unfold valQ at hx ⊢
          split at hx
          ·cases hx
          ·split at hx
           ·rename_i hw
            simp only [hw, if_true]
            split at hx
            ·rename_i hax
             simp only [hax, if_true]
             rw [ex] at hx ⊢
             simp only [evalQop, evalOp, Opd.ev] at hx ⊢
             split at hx
             ·rename_i cs hcs
              split at hx
              ·split at hx
               ·cases hx; rfl
               ·cases hx
              ·split at hx
               ·rename_i hle; cases hx; simp only [hle, if_true]
               ·cases hx
             ·rename_i cs hcs
              split at hx
              ·split at hx
               ·cases hx; rfl
               ·cases hx
              ·cases hx
             ·rename_i id' es2 i2 off2 ha
              rw [ha] at hpa
              simp only [apartAV, bne_iff_ne, ne_eq] at hpa
              rw [List.getElem?_set_ne (fun e => hpa e.symm)]
              split at hx
              ·split at hx
               ·rename_i he2
                rw [if_pos he2]
                split at hx
                ·split at hx
                 ·cases hx; rfl
                 ·cases hx
                ·cases hx
               ·cases hx
              ·cases hx
             ·cases hx
            ·cases hx
           ·rename_i hw
            cases hx
            simp only [hw, if_false, Bool.false_eq_true]
         ·cases hy
        ·cases hy
       ·cases hy
      ·cases hy
     ·cases hy
    ·cases hy
   ·cases hy
    exact hx
 ·cases hla
theorem eff_load {C : Calling} {c l : VOper} {sto sto' : List Obj} {vc : AV} (he : effQ C c env sto = some (vc, sto')) {ag : Option Nat} {a : Nat} (hl : l.op = .load ag (.t a)) (ha : a ∈ c.apart) (hne : a ≠ effMark ∧ a ≠ mapMark) {v : AV} :
  valQ C l env sto = some (v, sto) ↔ valQ C l env sto' = some (v, sto') := by
 have key : ∀ v, evalOp env sto (.load ag (.t a)) = some (v, sto) ↔ evalOp env sto' (.load ag (.t a)) = some (v, sto') := by
  unfold effQ at he
  split at he
  case h_2 => cases he
  rename_i f args e
  split at he
  case isFalse => cases he
  split at he
  case h_2 => cases he
  rename_i x stx hcall
  split at he
  case isFalse => cases he
  rename_i hall
  simp only [Option.some.injEq, Prod.mk.injEq] at he
  obtain ⟨_, rfl⟩ := he
  have hf := List.all_eq_true.1 hall.2 a ha
  rw [Bool.or_eq_true] at hf
  have hf : freeOf (callM (f.ev env) (evs env args) sto) sto.length (look a env) = true := hf.resolve_left (by simp [hne.1, hne.2])
  intro v
  simp only [evalOp, Opd.ev]
  generalize look a env = p at hf
  cases p <;> simp only [freeOf] at hf <;> try (cases hf; done)
  case d x =>
   cases x <;> simp
   all_goals (repeat' split) <;> simp
  case ptr id es i off =>
   simp only [Bool.and_eq_true, Bool.not_eq_true', decide_eq_true_eq] at hf
   obtain ⟨h1, h2⟩ := hf
   have hid : id ∉ callM (f.ev env) (evs env args) sto := by simpa using h1
   have ho := List.getElem?_eq_getElem h2
   obtain ⟨o', ho', hs⟩ := callOp_other hcall hid ho
   generalize sto[id] = o at ho hs
   dsimp only
   rw [ho, ho']
   rcases hs with rfl | ⟨es2, xs, z, rfl, rfl⟩
   ·cases o' <;> dsimp only <;> (repeat' split) <;> simp
   ·dsimp only
    (repeat' split) <;> simp
 have keyQ : ∀ (v : AV), evalQop C env sto l.op = some (v, sto) ↔ evalQop C env sto' l.op = some (v, sto') := by
  intro v
  rw [hl]
  exact key v
 unfold valQ
 split
 ·simp
 ·split
  ·split
   ·exact keyQ v
   ·simp
  ·simp
theorem stepQ_swap {C : Calling} {x y : VOper} (hc : commB x y = true) {st st1 st2 : St} (h1 : stepQ C x st = some st1) (h2 : stepQ C y st1 = some st2) :
  ∃ s1 s2, stepQ C y st = some s1 ∧ stepQ C x s1 = some s2 ∧ Like st2 s2 := by
 simp only [commB, Bool.and_eq_true] at hc
 obtain ⟨⟨⟨hxy, hyx⟩, hd⟩, hk⟩ := hc
 unfold stepQ at h1 h2
 split at h1
 ·rename_i vx stox ex
  cases h1
  dsimp only at h2
  rw [valE_congr (notIn_same hxy vx st.env)] at h2
  split at h2
  ·rename_i vy stoy ey
   cases h2
   have env2 : ∀ n, look n (put y.dst vy (put x.dst vx st.env)) = look n (put x.dst vx (put y.dst vy st.env)) := by
    intro n
    by_cases hy : y.dst = some n
    ·have hx : x.dst ≠ some n := fun hx => by rw [hx, hy] at hd; simp [unlike] at hd
     rw [hy, look_put_self, look_put_ne hx, look_put_self]
    ·rw [look_put_ne hy]
     by_cases hx : x.dst = some n
     ·rw [hx, look_put_self, look_put_self]
     ·rw [look_put_ne hx, look_put_ne hx, look_put_ne hy]
   have fin' : ∀ s1 : List Obj, valE C y st.env st.sto = some (vy, s1) → valE C x st.env s1 = some (vx, stoy) →
     ∃ s1 s2, stepQ C y st = some s1 ∧ stepQ C x s1 = some s2 ∧ Like ⟨put y.dst vy (put x.dst vx st.env), stoy⟩ s2 := by
    intro s1 hy hx
    refine ⟨⟨put y.dst vy st.env, s1⟩, ⟨put x.dst vx (put y.dst vy st.env), stoy⟩, by simp only [stepQ, hy], ?_, rfl, env2⟩
    simp only [stepQ]
    rw [valE_congr (notIn_same hyx vy st.env), hx]
   by_cases mx : marked x = true
   ·rw [if_pos mx, Bool.and_eq_true] at hk
    obtain ⟨my, hw⟩ := hk
    have my : marked y = false := by simpa using my
    have ey' : valQ C y st.env stox = some (vy, stoy) := by rwa [valE_unmarked my] at ey
    have kx : opK x.op = .pure := by
     unfold marked at mx
     split at mx
     ·rename_i e; rw [e]; rfl
     ·cases mx
    unfold effWith at hw
    split at hw
    ·rename_i ag a e
     rw [Bool.and_eq_true] at hw
     obtain ⟨rfl, _⟩ := valQ_read (by rw [e]; rfl) ey'
     have ex0 := ex
     unfold valE at ex
     split at ex
     ·rename_i r hq
      cases ex
      obtain ⟨rfl, hp⟩ := valQ_pure kx hq
      exact fin' _ (valE_of ey') (valE_of hq)
     ·exact fin' _ (valE_of ((eff_load ex e (by simpa using hw.1) (by simpa using hw.2)).2 ey')) ex0
    ·split at hw
     ·rename_i ky
      obtain ⟨rfl, hp⟩ := valQ_pure ky ey'
      exact fin' _ (valE_of (hp _)) ex
     ·cases hw
   rw [if_neg mx] at hk
   have ex' : valQ C x st.env st.sto = some (vx, stox) := by rwa [valE_unmarked (by simpa using mx)] at ex
   by_cases my : marked y = true
   ·rw [if_pos my] at hk
    have ky : opK y.op = .pure := by
     unfold marked at my
     split at my
     ·rename_i e; rw [e]; rfl
     ·cases my
    unfold effWith at hk
    split at hk
    ·rename_i ag a e
     rw [Bool.and_eq_true] at hk
     obtain ⟨rfl, _⟩ := valQ_read (by rw [e]; rfl) ex'
     have ey0 := ey
     unfold valE at ey
     split at ey
     ·rename_i r hq
      cases ey
      obtain ⟨rfl, hp⟩ := valQ_pure ky hq
      exact fin' _ ey0 (valE_of ex')
     ·exact fin' _ ey0 (valE_of ((eff_load ey e (by simpa using hk.1) (by simpa using hk.2)).1 ex'))
    ·split at hk
     ·rename_i kx
      obtain ⟨rfl, hp⟩ := valQ_pure kx ex'
      exact fin' _ ey (valE_of (hp _))
     ·cases hk
   rw [if_neg my] at hk
   have ey' : valQ C y st.env stox = some (vy, stoy) := by rwa [valE_unmarked (by simpa using my)] at ey
   have fin : ∀ s1 : List Obj, valQ C y st.env st.sto = some (vy, s1) → valQ C x st.env s1 = some (vx, stoy) →
     ∃ s1 s2, stepQ C y st = some s1 ∧ stepQ C x s1 = some s2 ∧ Like ⟨put y.dst vy (put x.dst vx st.env), stoy⟩ s2 := fun s1 h1 h2 => fin' s1 (valE_of h1) (valE_of h2)
   replace ex := ex'
   replace ey := ey'
   by_cases hkk : kindsOk (opK x.op) (opK y.op) = true
   case neg =>
    have hla : loadApart x y = true := by
     rw [Bool.or_eq_true] at hk
     exact hk.resolve_left hkk
    obtain ⟨rfl, hx2⟩ := valQ_apart hla ex ey
    exact fin _ ey hx2
   clear hk
   have hk := hkk
   cases kx : opK x.op
   case pure =>
    obtain ⟨rfl, hp⟩ := valQ_pure kx ex
    exact fin _ ey (hp _)
   case read =>
    obtain ⟨rfl, hp⟩ := valQ_read kx ex
    cases ky : opK y.op <;> rw [kx, ky] at hk <;> simp only [kindsOk] at hk <;> try (cases hk; done)
    ·obtain ⟨rfl, _⟩ := valQ_pure ky ey
     exact fin _ ey ex
    ·obtain ⟨rfl, _⟩ := valQ_read ky ey
     exact fin _ ey ex
    ·rcases valQ_alloc ky ey with rfl | ⟨z, rfl⟩
     ·exact fin _ ey ex
     ·exact fin _ ey (hp z)
   case bad => rw [kx] at hk; simp [kindsOk] at hk
   all_goals
    cases ky : opK y.op <;> rw [kx, ky] at hk <;> simp only [kindsOk] at hk <;> try (cases hk; done)
    obtain ⟨rfl, hp⟩ := valQ_pure ky ey
    exact fin _ (hp _) ex
  ·cases h2
 ·cases h1
theorem evalQ_bubble {C : Calling} {y : VOper} : ∀ {l : List VOper} {r : List VOper} {st s : St}, (∀ x ∈ l, commB x y = true) → evalQ C (l ++ y :: r) st = some s →
  ∃ s', evalQ C (y :: (l ++ r)) st = some s' ∧ Like s s'
 | [], r, st, s, _, h => ⟨s, h, Like.refl s⟩
 | x :: l, r, st, s, hc, h => by
  simp only [List.cons_append, evalQ] at h
  split at h
  ·rename_i st1 h1
   obtain ⟨s1, h2, h3⟩ := evalQ_bubble (fun z hz => hc z (List.mem_cons_of_mem _ hz)) h
   simp only [evalQ] at h2
   split at h2
   ·rename_i st2 h4
    obtain ⟨a, b, h5, h6, h7⟩ := stepQ_swap (hc x (List.mem_cons_self)) h1 h4
    obtain ⟨s2, h8, h9⟩ := evalQ_like h7 h2
    refine ⟨s2, ?_, h3.trans h9⟩
    simp only [List.cons_append, evalQ, h5, h6, h8]
   ·cases h2
  ·cases h
end
end Go.Proofs.YtjnfkifdgojdaaaGreat.V

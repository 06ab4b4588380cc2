/- One path of a function, carried out: calls, rows of operations, code, functions. -/
import Derived.Test.YtjnfkifdgojdaaaGreatV31
namespace Go.Proofs.YtjnfkifdgojdaaaGreat.V
open Go
set_option linter.unusedVariables false
set_option linter.unusedSimpArgs false
set_option linter.unusedSectionVars false
def xfreezeAt (sto : List XO) (id : Nat) : List XO := match sto[id]? with
 | some (.o (.row es xs _)) => sto.set id (.o (.row es xs true))
 | some (.w es xs _) => sto.set id (.w es xs true)
 | some (.c g k ns _) => sto.set id (.c g k ns true)
 | _ => sto
theorem xfreezeAt_den (s : List XO) (id : Nat) : freezeAt (dens s) id = dens (xfreezeAt s id) := by
 unfold freezeAt xfreezeAt
 rw [dens_get]
 cases h : s[id]? with
 | none => rfl
 | some o =>
  cases o with
  | o x => cases x <;> simp only [Option.map_some, XO.den, dens_set]
  | w es xs z => simp only [Option.map_some, XO.den, dens_set]
  | c g k ns z => simp only [Option.map_some, XO.den, dens_set]
  | m kvs z => rfl
def xfreezeAll : List XO → List Nat → List XO
 | sto, [] => sto
 | sto, id :: r => xfreezeAll (xfreezeAt sto id) r
theorem xfreezeAll_den : ∀ (l : List Nat) (s : List XO), freezeAll (dens s) l = dens (xfreezeAll s l)
 | [], s => rfl
 | id :: r, s => by rw [freezeAll, xfreezeAt_den, xfreezeAll_den r, xfreezeAll]
def xbackO (old : Option XO) (new : XO) : XO := match old with
 | some (.o .dead) => .o .dead
 | some _ => new
 | none => .o .dead
theorem xbackO_den (old : Option XO) (new : XO) : backO (old.map XO.den) new.den = (xbackO old new).den := by
 cases old with
 | none => rfl
 | some o =>
  cases o with
  | o x => cases x <;> rfl
  | w es xs z => rfl
  | m kvs z => rfl
  | c g k ns z => rfl
def xputBack (f : Nat → Option Nat) : List Nat → List XO → List XO → List XO
 | id :: m, o :: os, sto => xputBack f m os (sto.set id (xbackO sto[id]? (xrenO f o)))
 | _, os, sto => sto ++ os.map (xrenO f)
theorem xputBack_den (f : Nat → Option Nat) : ∀ (m : List Nat) (os sto : List XO), putBack f m (dens os) (dens sto) = dens (xputBack f m os sto)
 | id :: m, o :: os, sto => by
  simp only [dens, putBack, xputBack, dens_get, xrenO_den, xbackO_den]
  rw [← xputBack_den f m os, dens_set]
 | [], os, sto => by
  have : (dens os).map (renObj f) = dens (os.map (xrenO f)) := by
   rw [dens_map, dens_map, List.map_map, List.map_map]
   apply List.map_congr_left
   intro x _
   exact xrenO_den f x
  cases os <;> simp only [dens, putBack, xputBack, dens_append] <;> first | rfl | (rw [← this]; rfl)
 | id :: m, [], sto => by simp [dens, putBack, xputBack]
def snapP (sto : List XO) (v : AV) (x : D) (ids : List Nat) : Prop := match v with
 | .row id es lo n t => (match sto[id]? with
  | some (.w es' xs _) => es' = es ∧ lo + n ≤ xs.length ∧ x = .sl es ((xs.drop lo).take n) t ∧ ids = [id]
  | _ => toD (dens sto) fuelD (.row id es lo n t) = some (x, ids))
 | v => toD (dens sto) fuelD v = some (x, ids)
theorem snapP_sound {sto : List XO} {v : AV} {x : D} {ids : List Nat} (h : snapP sto v x ids) : toD (dens sto) fuelD v = some (x, ids) := by
 unfold snapP at h
 split at h
 ·rename_i id es lo n t
  split at h
  ·rename_i es' xs z hs
   obtain ⟨h1, h2, h3, h4⟩ := h
   subst h3
   subst h4
   have e1 : toDs (dens sto) 59 (((xs.drop lo).take n).map AV.d) = some ((xs.drop lo).take n, []) := by
    have aD : ∀ l : List D, allD (l.map .d) = some l := by
     intro l
     induction l with
     | nil => rfl
     | cons x r ih => simp only [List.map_cons, allD, ih]
    show (match allD (((xs.drop lo).take n).map .d) with | some xs => some (xs, []) | none => toDl (dens sto) 58 _) = _
    rw [aD]
   show (match (dens sto)[id]? with
     | some (.row es' xs _) => if es' = es ∧ lo + n ≤ xs.length then
       (match toDs (dens sto) 59 ((xs.drop lo).take n) with
        | some (ys, ids) => some (D.sl es ys t, id :: ids)
        | none => none) else none
     | _ => none) = _
   rw [dens_get, hs]
   simp only [Option.map_some, XO.den]
   rw [if_pos ⟨h1, by simpa using h2⟩, ← List.map_drop, ← List.map_take, e1]
  ·exact h
 ·exact h
def xSnap (sto : List XO) (v : AV) (as : List Ans) : Option (Option Prop × (AV × List XO) × List Ans) := match v with
 | .d x => some (none, (.d x, sto), as)
 | v => match as with
  | .snap x ids :: as' => some (some (snapP sto v x ids), (.d x, xfreezeAll sto ids), as')
  | _ => none
theorem xSnap_sound {sto : List XO} {v : AV} {as as' : List Ans} {p : Option Prop} {q : AV × List XO} (h : xSnap sto v as = some (p, q, as')) (hp : holdsO p) : snap (dens sto) v = some (q.1, dens q.2) := by
 unfold xSnap at h
 split at h
 ·cases h; rfl
 ·rename_i hne
  split at h
  ·cases h
   simp only [holdsO] at hp
   have hp := snapP_sound hp
   unfold snap
   split
   ·exact (hne _ rfl).elim
   ·rw [hp]
    simp only [xfreezeAll_den]
  ·cases h
def xBox (sto : List XO) : AV → Option (AV × List XO)
 | .ptr id es 0 0 => match sto[id]? with
  | some (.o (.row es' [e] _)) => if es' = es ∧ e.isPtr = true then some (.box e.cells, xfreezeAll sto [id]) else none
  | _ => none
 | _ => none
theorem boxAt_data {s : List Obj} {id es es' : Nat} {xs : List D} {z : Bool} (h : s[id]? = some (.row es' (xs.map .d) z)) : boxAt s (.ptr id es 0 0) = none := by
 unfold boxAt
 simp only [h]
 match xs with
 | [] => rfl
 | [x] => simp [AV.isPtr]
 | x :: y :: r => rfl
theorem xBox_den (sto : List XO) (v : AV) : boxAt (dens sto) v = (xBox sto v).map fun q => (q.1, dens q.2) := by
 unfold xBox
 split
 ·rename_i id es
  split
  ·rename_i es' e z hs
   have hd : (dens sto)[id]? = some (.row es' [e] z) := by rw [dens_get, hs]; rfl
   unfold boxAt
   simp only [hd]
   split
   ·simp only [Option.map_some, ← xfreezeAll_den]
    rfl
   ·rfl
  ·rename_i hne
   cases hs : sto[id]? with
   | none =>
    have hd : (dens sto)[id]? = none := by rw [dens_get, hs]; rfl
    unfold boxAt
    simp only [hd]
    rfl
   | some x =>
    have hd : (dens sto)[id]? = some x.den := by rw [dens_get, hs]; rfl
    cases x with
    | o x =>
     unfold boxAt
     simp only [hd, XO.den]
     split
     ·rename_i a b c hb
      cases hb
      exact absurd hs (hne _ _ _)
     ·rfl
    | w a b c => exact boxAt_data hd
    | c g k ns z =>
     unfold boxAt
     simp only [hd, XO.den]
     match ns with
     | [] => rfl
     | [x] => simp [AV.isPtr, clo]
     | x :: y :: r => rfl
    | m a b =>
     unfold boxAt
     simp only [hd, XO.den]
     rfl
 ·rename_i hne
  unfold boxAt
  split
  ·exact absurd rfl (hne _ _)
  ·rfl
def xPrep (byref : List Nat) : Nat → List AV → List XO → List Ans → Option (Option Prop × (List AV × List XO) × List Ans)
 | _, [], sto, as => some (none, ([], sto), as)
 | i, v :: r, sto, as =>
  let x : Option (Option Prop × (AV × List XO) × List Ans) := match v with
   | .d x => some (none, (.d x, sto), as)
   | .row a b c d e => if byref.contains i then some (none, (.row a b c d e, sto), as) else xSnap sto (.row a b c d e) as
   | .agg cs => xSnap sto (.agg cs) as
   | .iface t v => if byref.contains i then some (none, (.iface t v, sto), as) else xSnap sto (.iface t v) as
   | v => some (none, (v, sto), as)
  match x with
  | some (p, (v', sto'), as') => match xPrep byref (i + 1) r sto' as' with
   | some (q, (vs, sto''), as'') => some (both p q, (v' :: vs, sto''), as'')
   | none => none
  | none => none
theorem xPrep_sound {byref : List Nat} : ∀ {l : List AV} {i : Nat} {sto : List XO} {as as' : List Ans} {p : Option Prop} {q : List AV × List XO}, xPrep byref i l sto as = some (p, q, as') → holdsO p → prep byref i l (dens sto) = some (q.1, dens q.2)
 | [], i, sto, as, as', p, q, h, hp => by
  simp only [xPrep] at h
  cases h
  rfl
 | v :: r, i, sto, as, as', p, q, h, hp => by
  simp only [xPrep] at h
  split at h
  ·rename_i p1 v1 sto1 as1 h1
   split at h
   ·rename_i p2 vs sto2 as2 h2
    cases h
    obtain ⟨hp1, hp2⟩ := both_spec hp
    have ih := xPrep_sound h2 hp2
    simp only [prep]
    cases v with
    | d x => cases h1; simp only [ih]
    | row a b c d e =>
     dsimp only at h1 ⊢
     split at h1
     ·rename_i hb
      cases h1
      rw [if_pos hb]
      simp only [ih]
     ·rename_i hb
      rw [if_neg hb, xSnap_sound h1 hp1]
      simp only [ih]
    | agg cs => dsimp only at h1 ⊢; rw [xSnap_sound h1 hp1]; simp only [ih]
    | iface t v =>
     dsimp only at h1 ⊢
     split at h1
     ·rename_i hb
      cases h1
      rw [if_pos hb]
      simp only [ih]
     ·rename_i hb
      rw [if_neg hb, xSnap_sound h1 hp1]
      simp only [ih]
    | _ => cases h1; simp only [ih]
   ·cases h
  ·cases h
def xGo (C : Calling) (byref : List Nat) (g : FuncId) (vs : List AV) (sto : List XO) (as : List Ans) : Option (Option Prop × (Out × List XO) × List Ans) :=
 match xPrep byref 0 vs sto as with
 | some (p, (vs', sto'), as') => match as' with
  | .out o sto1 :: as'' =>
   let m := xreach sto' fuelR (refsL vs') []
   if m.length ≤ sto1.length then
    some (both p (some (C g (renL (renId m) vs') (dens (xpickS (renId m) sto' m)) = some (o, dens sto1))), (renOut (backId m sto'.length) o, xputBack (backId m sto'.length) m sto1 sto'), as'')
   else none
  | _ => none
 | none => none
def xCall (C : Calling) (byref : FuncId → List Nat) (f : AV) (args : List AV) (sto : List XO) (as : List Ans) : Option (Option Prop × (Out × List XO) × List Ans) :=
 match f with
 | .d (.func (.func g) a b) => xGo C (byref g) g (a.map .d ++ args ++ b.map .d) sto as
 | .func (.func g) a b => xGo C (byref g) g (a ++ args ++ b) sto as
 | _ => none
theorem xCall_sound {C : Calling} {byref : FuncId → List Nat} {f : AV} {args : List AV} {sto : List XO} {as as' : List Ans} {p : Option Prop} {q : Out × List XO} (h : xCall C byref f args sto as = some (p, q, as')) (hp : holdsO p) : callOp C byref f args (dens sto) = some (q.1, dens q.2) := by
 have go : ∀ (g : FuncId) (vs : List AV), xGo C (byref g) g vs sto as = some (p, q, as') → (match prep (byref g) 0 vs (dens sto) with
   | some (vs', sto') =>
    (match C g (renL (renId (reach sto' fuelR (refsL vs') [])) vs') (pickS (renId (reach sto' fuelR (refsL vs') [])) sto' (reach sto' fuelR (refsL vs') [])) with
     | some (out, sto1) => if (reach sto' fuelR (refsL vs') []).length ≤ sto1.length then
       some (renOut (backId (reach sto' fuelR (refsL vs') []) sto'.length) out, putBack (backId (reach sto' fuelR (refsL vs') []) sto'.length) (reach sto' fuelR (refsL vs') []) sto1 sto') else none
     | none => none)
   | none => none) = some (q.1, dens q.2) := by
  intro g vs h
  unfold xGo at h
  split at h
  ·rename_i p1 vs' sto' as1 h1
   split at h
   ·rename_i o sto1 as2
    dsimp only at h
    split at h
    ·rename_i hlen
     cases h
     obtain ⟨hp1, hp2⟩ := both_spec hp
     simp only [holdsO] at hp2
     rw [xPrep_sound h1 hp1]
     simp only [xreach_den, xpickS_den, hp2, dens_length, if_pos hlen, xputBack_den]
    ·cases h
   ·cases h
  ·cases h
 unfold xCall at h
 unfold callOp
 split at h
 ·exact go _ _ h
 ·exact go _ _ h
 ·cases h
def xOps (C : Calling) (byref : FuncId → List Nat) : List VOper → XSt → List Ans → Option (Option Prop × (Ex × XSt) × List Ans)
 | [], st, as => some (none, (.nrm, st), as)
 | o :: r, st, as => match wantedV o.guard st.env with
  | none => none
  | some w => if w = true then (match o.op with
   | .call f args => match xCall C byref (f.ev st.env) (evs st.env args) st.sto as with
    | some (p, (.ret v, sto'), as') => (match xOps C byref r ⟨put o.dst v st.env, sto'⟩ as' with
     | some (q, x, as'') => some (both p q, x, as'')
     | none => none)
    | some (p, (.pan v, sto'), as') => some (p, (.pan v, ⟨st.env, sto'⟩), as')
    | none => none
   | .panic x => (match x.ev st.env with
    | .d (.iface t v) => some (none, (.pan (.d (.iface t v)), st), as)
    | _ => none)
   | op => match xOp st.env st.sto op as with
    | some (p, (v, sto'), as') => (match xOps C byref r ⟨put o.dst v st.env, sto'⟩ as' with
     | some (q, x, as'') => some (both p q, x, as'')
     | none => none)
    | none => none) else xOps C byref r ⟨put o.dst (.tup []) st.env, st.sto⟩ as
theorem xOps_sound {C : Calling} {byref : FuncId → List Nat} : ∀ {l : List VOper} {st : XSt} {as as' : List Ans} {p : Option Prop} {x : Ex × XSt}, xOps C byref l st as = some (p, x, as') → holdsO p → evalOps C byref l st.den = some (x.1, x.2.den)
 | [], st, as, as', p, x, h, hp => by
  simp only [xOps] at h
  cases h
  rfl
 | o :: r, st, as, as', p, x, h, hp => by
  simp only [xOps] at h
  simp only [evalOps, XSt.den]
  split at h
  ·cases h
  ·rename_i w hw
   split at h
   ·rename_i hwt
    rw [hw]
    simp only [hwt, if_true]
    split at h
    ·rename_i f args hop
     split at h
     ·rename_i p1 v sto' as1 h1
      split at h
      ·rename_i p2 y as2 h2
       cases h
       obtain ⟨hp1, hp2⟩ := both_spec hp
       rw [hop]
       simp only [xCall_sound h1 hp1]
       exact xOps_sound h2 hp2
      ·cases h
     ·rename_i p1 v sto' as1 h1
      cases h
      rw [hop]
      simp only [xCall_sound h1 hp]
     ·cases h
    ·rename_i y hop
     split at h
     ·rename_i t z hx
      cases h
      rw [hop]
      simp only [hx]
     ·cases h
    ·rename_i hn1 hn2
     split at h
     ·rename_i p1 v sto' as1 h1
      split at h
      ·rename_i p2 y as2 h2
       cases h
       obtain ⟨hp1, hp2⟩ := both_spec hp
       have e1 := xOp_sound h1 hp1
       have e2 := xOps_sound h2 hp2
       cases ho : o.op <;> rw [ho] at e1 <;> first | exact (hn1 _ _ ho).elim | exact (hn2 _ ho).elim | (simp only [e1]; exact e2)
      ·cases h
     ·cases h
   ·rename_i hwf
    rw [hw]
    simp only [if_neg hwf]
    exact xOps_sound h hp
def xQop (C : Calling) (env : Env) (sto : List XO) (op : VOp) (as : List Ans) : XR := match op with
 | .call f args => (match as with
  | .d r :: as' => (match f.ev env with
   | .d (.func (.func g) a b) => if allDV (evs env args) = true then some (some (C g (a.map .d ++ evs env args ++ b.map .d) [] = some (.ret (.d r), [])), (.d r, sto), as') else none
   | _ => none)
  | _ => none)
 | .buildRow ag es n z ps => (match buildQ env (.buildRow ag es n z ps), as with
  | some (.d v), .snap x [] :: as' => some (some (v = x), (.d x, sto), as')
  | some v, _ => some (none, (v, sto), as)
  | none, _ => none)
 | op => xOp env sto op as
def xCallM (f : AV) (args : List AV) (sto : List XO) (as : List Ans) : Option (List Nat) :=
 let go (vs : List AV) : Option (List Nat) := match xPrep [] 0 vs sto as with
  | some (_, (vs', sto'), _) => some (xreach sto' fuelR (refsL vs') [])
  | none => none
 match f with
 | .d (.func (.func _) a b) => go (a.map .d ++ args ++ b.map .d)
 | .func (.func _) a b => go (a ++ args ++ b)
 | _ => none
def xEff (C : Calling) (o : VOper) (st : XSt) (as : List Ans) : XR := match o.op with
 | .call f args => if o.apart.contains effMark = true ∧ wantedV o.guard st.env = some true ∧ needsE (f.ev st.env) (evs st.env args) = true then
   (match xCallM (f.ev st.env) (evs st.env args) st.sto as, xCall C (fun _ => []) (f.ev st.env) (evs st.env args) st.sto as with
    | some m, some (p, (.ret v, sto'), as') => if okE v = true ∧ (o.apart.all fun t => t == effMark || t == mapMark || freeOf m st.sto.length (look t st.env)) = true then some (p, (v, sto'), as') else none
    | _, _ => none) else none
 | _ => none
def xQE (C : Calling) (o : VOper) (st : XSt) (as : List Ans) : XR := match (if apartOk o st.env = true then xQop C st.env st.sto o.op as else none) with
 | some r => some r
 | none => xEff C o st as
def xQ (C : Calling) : List VOper → XSt → List Ans → Option (Option Prop × XSt × List Ans)
 | [], st, as => some (none, st, as)
 | o :: r, st, as => match wantedV o.guard st.env with
  | none => none
  | some w => if w = true then (match xQE C o st as with
    | some (p, (v, sto'), as') => (match xQ C r ⟨put o.dst v st.env, sto'⟩ as' with
     | some (q, x, as'') => some (both p q, x, as'')
     | none => none)
    | none => none) else xQ C r ⟨put o.dst (.tup []) st.env, st.sto⟩ as
theorem xQop_sound {C : Calling} {env : Env} {sto : List XO} {op : VOp} {as as' : List Ans} {p : Option Prop} {q : AV × List XO} (h : xQop C env sto op as = some (p, q, as')) (hp : holdsO p) : evalQop C env (dens sto) op = some (q.1, dens q.2) := by
 unfold xQop at h
 split at h
 ·rename_i f args
  split at h
  ·split at h
   ·rename_i g a b hf
    split at h
    ·rename_i hall
     cases h
     simp only [holdsO] at hp
     simp only [evalQop, pureCall, hf, hall, if_true, hp, snap]
    ·cases h
   ·cases h
  ·cases h
 ·rename_i ag es n z ps
  split at h
  ·rename_i v x as1 hv
   cases h
   simp only [holdsO] at hp
   subst hp
   simp only [evalQop, hv]
  ·rename_i hb hv
   cases h
   simp only [evalQop, hb]
  ·cases h
 ·rename_i hne hnb
  have e := xOp_sound h hp
  cases op <;> first | exact e | exact (hne _ _ rfl).elim | exact (hnb _ _ _ _ _ rfl).elim
theorem needsE_pure {C : Calling} {f : AV} {args : List AV} (h : needsE f args = true) : pureCall C f args = none := by
 unfold pureCall
 split
 ·have : allDV args = false := by simpa [needsE] using h
  simp only [this]
  rfl
 ·rfl
theorem xCallM_sound {C : Calling} {f : AV} {args : List AV} {sto : List XO} {as as' : List Ans} {m : List Nat} {p : Option Prop} {q : Out × List XO} (h1 : xCallM f args sto as = some m) (h2 : xCall C (fun _ => []) f args sto as = some (p, q, as')) (hp : holdsO p) : callM f args (dens sto) = m := by
 have go : ∀ (g : FuncId) (vs : List AV), (match xPrep [] 0 vs sto as with
   | some (_, (vs', sto'), _) => some (xreach sto' fuelR (refsL vs') [])
   | none => none) = some m → xGo C [] g vs sto as = some (p, q, as') → (match prep [] 0 vs (dens sto) with
   | some (vs', sto') => reach sto' fuelR (refsL vs') []
   | none => []) = m := by
  intro g vs h1 h2
  unfold xGo at h2
  split at h1
  ·rename_i p1 vs' sto' as1 hx
   cases h1
   rw [hx] at h2
   dsimp only at h2
   split at h2
   ·rename_i o sto1 as2
    split at h2
    ·cases h2
     obtain ⟨hp1, _⟩ := both_spec hp
     rw [xPrep_sound hx hp1]
     simp only [xreach_den]
    ·cases h2
   ·cases h2
  ·cases h1
 unfold xCallM at h1
 unfold xCall at h2
 unfold callM
 split at h1
 ·exact go _ _ h1 h2
 ·exact go _ _ h1 h2
 ·cases h1
theorem xQE_sound {C : Calling} {o : VOper} {st : XSt} {as as' : List Ans} {p : Option Prop} {q : AV × List XO} (h : xQE C o st as = some (p, q, as')) (hp : holdsO p) (hw : wantedV o.guard st.env = some true) : valE C o st.env (dens st.sto) = some (q.1, dens q.2) := by
 unfold xQE at h
 split at h
 ·rename_i r hr
  cases h
  split at hr
  ·rename_i hap
   simp only [valE, valQ, hw, hap, if_true, xQop_sound hr hp]
  ·cases hr
 ·unfold xEff at h
  split at h
  ·rename_i f args hop
   split at h
   ·rename_i hc
    obtain ⟨c1, c2, c3⟩ := hc
    split at h
    ·rename_i m p1 v sto' as1 hm hx
     split at h
     ·rename_i hk
      cases h
      have e1 := xCall_sound hx hp
      have e2 := xCallM_sound hm hx hp
      have hv : valQ C o st.env (dens st.sto) = none := by
       simp only [valQ, hw, if_true, evalQop, hop, needsE_pure c3]
       split <;> rfl
      simp only [valE, hv, effQ, hop]
      rw [if_pos ⟨c1, c2, .inl c3⟩, e1]
      dsimp only
      rw [e2, dens_length, if_pos hk]
     ·cases h
    ·cases h
   ·cases h
  ·cases h
theorem xQ_sound {C : Calling} : ∀ {l : List VOper} {st : XSt} {as as' : List Ans} {p : Option Prop} {x : XSt}, xQ C l st as = some (p, x, as') → holdsO p → evalQ C l st.den = some x.den
 | [], st, as, as', p, x, h, hp => by
  simp only [xQ] at h
  cases h
  rfl
 | o :: r, st, as, as', p, x, h, hp => by
  simp only [xQ] at h
  simp only [evalQ, stepQ, XSt.den]
  split at h
  ·cases h
  ·rename_i w hw
   split at h
   ·rename_i hwt
    subst hwt
    split at h
    ·rename_i p1 v sto' as1 h1
     split at h
     ·rename_i p2 y as2 h2
      cases h
      obtain ⟨hp1, hp2⟩ := both_spec hp
      rw [xQE_sound h1 hp1 hw]
      exact xQ_sound h2 hp2
     ·cases h
    ·cases h
   ·rename_i hwf
    have : valE C o st.env (dens st.sto) = some (.tup [], dens st.sto) := by
     simp only [valE, valQ, hw]
     rw [if_neg hwf]
    rw [this]
    exact xQ_sound h hp
def xvirtAt (sto : List XO) (off es : Nat) : AV → Option (List XO)
 | .ptr id es' i o => match sto[id]? with
  | some (.o (.row es'' xs false)) => if es' = es'' then (match xs[i]? with
   | some e => (match e.cells[o + off]? with
    | some (.d (.sl _ [] true)) => some (sto.set id (.o (.row es'' (xs.set i (mk1 (e.cells.set (o + off) (.row sto.length es 0 0 true)))) false)) ++ [.w es [] false])
    | _ => none)
   | none => none) else none
  | _ => none
 | _ => none
theorem xvirtAt_sound {sto sto' : List XO} {off es : Nat} {v : AV} (h : xvirtAt sto off es v = some sto') : virtAt (dens sto) off es v = some (dens sto') := by
 unfold xvirtAt at h
 split at h
 ·rename_i id es' i o
  split at h
  ·rename_i es'' xs hs
   split at h
   ·rename_i hes
    split at h
    ·rename_i e he
     split at h
     ·rename_i hc
      cases h
      simp only [virtAt, dens_get, hs, Option.map_some, XO.den, if_pos hes, he, hc, dens_append, dens_set, dens_length, dens]
      rfl
     ·cases h
    ·cases h
   ·cases h
  ·cases h
 ·cases h
def Lpn (C : Calling) (byref : FuncId → List Nat) (pin : Nat) (keep : List Nat) (c : VCode) (S : XSt) (r : Ex × XSt) (n : Nat) : Prop := ∀ st, gcSt pin keep st = S.den → iter (fun st => eval C byref pin n c (gcSt pin keep st)) n st = some (r.1, r.2.den)
def XCn (C : Calling) (byref : FuncId → List Nat) (pin : Nat) (c : VCode) (S : XSt) (r : Ex × XSt) (n : Nat) : Prop := eval C byref pin n c S.den = some (r.1, r.2.den)
def xCode (C : Calling) (byref : FuncId → List Nat) (pin n : Nat) : VCode → XSt → List Ans → Option (Option Prop × (Ex × XSt) × List Ans)
 | .skip, st, as => some (none, (.nrm, st), as)
 | .reg false ops keep, st, as => (match xOps C byref ops st as with
  | some (p, (e, st'), as') => some (p, (e, ⟨restrict keep st'.env, st'.sto⟩), as')
  | none => none)
 | .reg true ops keep, st, as => (match xQ C ops st as with
  | some (p, st', as') => some (p, (.nrm, ⟨restrict keep st'.env, st'.sto⟩), as')
  | none => none)
 | .seq a b, st, as => (match xCode C byref pin n a st as with
  | some (p, (.nrm, st'), as') => (match as' with
   | .cut r :: as'' => some (both p (some (XCn C byref pin b st' r n)), r, as'')
   | as' => (match xCode C byref pin n b st' as' with
    | some (q, x, as'') => some (both p q, x, as'')
    | none => none))
  | some (p, (e, st'), as') => some (p, (e, st'), as')
  | none => none)
 | .cond c a b, st, as => (match c.ev st.env with
  | .d (.bool t) => if t = true then xCode C byref pin n a st as else xCode C byref pin n b st as
  | _ => none)
 | .block id c, st, as => (match xCode C byref pin n c st as with
  | some (p, (.ext i, st'), as') => if i = id then some (p, (.nrm, st'), as') else some (p, (.ext i, st'), as')
  | some (p, (e, st'), as') => some (p, (e, st'), as')
  | none => none)
 | .loop keep c, st, as => (match as with
  | .lp r :: as' => some (some (Lpn C byref pin keep c (xgcSt pin keep st) r n), r, as')
  | _ => none)
 | .exit id, st, as => some (none, (.ext id, st), as)
 | .ret, st, as => some (none, (.ret, st), as)
 | .virt t off es, st, as => (match xvirtAt st.sto off es (look t st.env) with
  | some sto' => some (none, (.nrm, ⟨st.env, sto'⟩), as)
  | none => none)
 | .stuck, st, as => none
 | .frz t, st, as => (match xBox st.sto (look t st.env) with
  | some (v, sto') => some (none, (.nrm, ⟨(t, v) :: st.env, sto'⟩), as)
  | none => match xSnap st.sto (look t st.env) as with
   | some (p, (v, sto'), as') => some (p, (.nrm, ⟨(t, v) :: st.env, sto'⟩), as')
   | none => none)
theorem xCode_sound {C : Calling} {byref : FuncId → List Nat} {pin n : Nat} : ∀ {c : VCode} {st : XSt} {as as' : List Ans} {p : Option Prop} {x : Ex × XSt}, xCode C byref pin n c st as = some (p, x, as') → holdsO p → eval C byref pin n c st.den = some (x.1, x.2.den)
 | .skip, st, as, as', p, x, h, hp => by simp only [xCode] at h; cases h; rfl
 | .reg false ops keep, st, as, as', p, x, h, hp => by
  simp only [xCode] at h
  split at h
  ·rename_i p1 e st' as1 h1
   cases h
   simp only [eval, xOps_sound h1 hp]
   rfl
  ·cases h
 | .reg true ops keep, st, as, as', p, x, h, hp => by
  simp only [xCode] at h
  split at h
  ·rename_i p1 st' as1 h1
   cases h
   simp only [eval, xQ_sound h1 hp]
   rfl
  ·cases h
 | .seq a b, st, as, as', p, x, h, hp => by
  simp only [xCode] at h
  split at h
  ·rename_i p1 st' as1 h1
   split at h
   ·cases h
    obtain ⟨hp1, hp2⟩ := both_spec hp
    simp only [holdsO, XCn] at hp2
    simp only [eval, xCode_sound h1 hp1, hp2]
   ·split at h
    ·rename_i p2 y as2 h2
     cases h
     obtain ⟨hp1, hp2⟩ := both_spec hp
     simp only [eval, xCode_sound h1 hp1]
     exact xCode_sound h2 hp2
    ·cases h
  ·rename_i p1 e st' as1 hne h1
   cases h
   simp only [eval, xCode_sound h1 hp]
   all_goals (cases e <;> first | rfl | exact (hne rfl).elim)
  ·cases h
 | .cond c a b, st, as, as', p, x, h, hp => by
  simp only [xCode] at h
  split at h
  ·rename_i t ht
   split at h
   ·rename_i htt; simp only [eval, XSt.den, ht, if_pos htt]; exact xCode_sound h hp
   ·rename_i htf; simp only [eval, XSt.den, ht, if_neg htf]; exact xCode_sound h hp
  ·cases h
 | .block id c, st, as, as', p, x, h, hp => by
  simp only [xCode] at h
  split at h
  ·rename_i p1 i st' as1 h1
   split at h
   ·rename_i hi
    cases h
    simp only [eval, xCode_sound h1 hp, if_pos hi]
   ·rename_i hi
    cases h
    simp only [eval, xCode_sound h1 hp, if_neg hi]
  ·rename_i p1 e st' as1 hne h1
   cases h
   simp only [eval, xCode_sound h1 hp]
   all_goals (cases e <;> first | rfl | exact (hne _ rfl).elim)
  ·cases h
 | .loop keep c, st, as, as', p, x, h, hp => by
  simp only [xCode] at h
  split at h
  ·cases h
   simp only [holdsO, Lpn] at hp
   simp only [eval]
   exact hp st.den (xgcSt_den pin keep st)
  ·cases h
 | .exit id, st, as, as', p, x, h, hp => by simp only [xCode] at h; cases h; rfl
 | .ret, st, as, as', p, x, h, hp => by simp only [xCode] at h; cases h; rfl
 | .virt t off es, st, as, as', p, x, h, hp => by
  simp only [xCode] at h
  split at h
  ·rename_i sto' h1
   cases h
   simp only [eval, XSt.den, xvirtAt_sound h1]
  ·cases h
 | .stuck, st, as, as', p, x, h, hp => by simp only [xCode] at h; cases h
 | .frz t, st, as, as', p, x, h, hp => by
  simp only [xCode] at h
  have hb := xBox_den st.sto (look t st.env)
  split at h
  ·rename_i v sto' h1
   cases h
   simp only [eval, XSt.den, frzAV, hb, h1, Option.map_some]
  ·rename_i h0
   split at h
   ·rename_i p1 v sto' as1 h1
    cases h
    simp only [eval, XSt.den, frzAV, hb, h0, Option.map_none, xSnap_sound h1 hp]
   ·cases h
def xSnaps : List AV → List XO → List Ans → Option (Option Prop × (List AV × List XO) × List Ans)
 | [], sto, as => some (none, ([], sto), as)
 | v :: r, sto, as => match xSnap sto v as with
  | some (p, (v', sto'), as') => (match xSnaps r sto' as' with
   | some (q, (vs, sto''), as'') => some (both p q, (v' :: vs, sto''), as'')
   | none => none)
  | none => none
theorem xSnaps_sound : ∀ {l : List AV} {sto : List XO} {as as' : List Ans} {p : Option Prop} {q : List AV × List XO}, xSnaps l sto as = some (p, q, as') → holdsO p → snaps l (dens sto) = some (q.1, dens q.2)
 | [], sto, as, as', p, q, h, hp => by simp only [xSnaps] at h; cases h; rfl
 | v :: r, sto, as, as', p, q, h, hp => by
  simp only [xSnaps] at h
  split at h
  ·rename_i p1 v1 sto1 as1 h1
   split at h
   ·rename_i p2 vs sto2 as2 h2
    cases h
    obtain ⟨hp1, hp2⟩ := both_spec hp
    simp only [snaps, xSnap_sound h1 hp1, xSnaps_sound h2 hp2]
   ·cases h
  ·cases h
def RV.xread (st : XSt) : RV → Option AV
 | .t n => some (look n st.env)
 | .c n ag => match look n st.env with
  | .ptr id es i off => (match st.sto[id]? with
   | some (.o (.row es' xs _)) => if es' = es then (match xs[i]? with
    | some e => readCells ag off e
    | none => none) else none
   | _ => none)
  | _ => none
def xreads (st : XSt) : List RV → Option (List AV)
 | [] => some []
 | r :: rs => match r.xread st, xreads st rs with
  | some v, some vs => some (v :: vs)
  | _, _ => none
theorem xread_sound {st : XSt} {r : RV} {v : AV} (h : r.xread st = some v) : r.read st.den = some v := by
 cases r with
 | t n => exact h
 | c n ag =>
  simp only [RV.xread] at h
  split at h
  ·rename_i id es i off ha
   simp only [RV.read, XSt.den, ha, dens_get]
   split at h
   ·rename_i es' xs z hs
    simp only [hs, Option.map_some, XO.den]
    exact h
   ·cases h
  ·cases h
theorem xreads_sound {st : XSt} : ∀ {l : List RV} {vs : List AV}, xreads st l = some vs → reads st.den l = some vs
 | [], vs, h => h
 | r :: rs, vs, h => by
  simp only [xreads] at h
  split at h
  ·rename_i v ws h1 h2
   cases h
   simp only [reads, xread_sound h1, xreads_sound h2]
  ·cases h
def xFinish (pin : Nat) (fn : VFn) (st : XSt) (as : List Ans) : Option (Option Prop × (Out × List XO) × List Ans) :=
 match xreads st fn.res with
 | some vs => (match (if fn.frz = true then xSnaps vs st.sto as else some (none, (vs, st.sto), as)) with
  | some (p, (vs', sto'), as') =>
   let m := xreach sto' fuelR (refsL vs' ++ xrefsOs (sto'.take pin)) (List.range pin)
   some (p, (.ret (tupled (renL (renId m) vs')), xpickS (renId m) sto' m), as')
  | none => none)
 | none => none
theorem xFinish_sound {pin : Nat} {fn : VFn} {st : XSt} {as as' : List Ans} {p : Option Prop} {q : Out × List XO} (h : xFinish pin fn st as = some (p, q, as')) (hp : holdsO p) : finish pin fn st.den = some (q.1, dens q.2) := by
 unfold xFinish at h
 unfold finish
 split at h
 ·rename_i vs hvs
  rw [xreads_sound hvs]
  dsimp only
  split at h
  ·rename_i p1 vs' sto' as1 h1
   cases h
   split at h1
   ·rename_i hf
    simp only [hf, if_true, XSt.den, xSnaps_sound h1 hp, ← dens_take, xrefsOs_den, xreach_den, xpickS_den]
   ·rename_i hf
    cases h1
    simp only [if_neg hf, XSt.den, ← dens_take, xrefsOs_den, xreach_den, xpickS_den]
  ·cases h
 ·cases h
def xFn (C : Calling) (byref : FuncId → List Nat) (n : Nat) (fn : VFn) (args : List AV) (sto : List XO) (as : List Ans) : Option (Option Prop × (Out × List XO)) :=
 if args.length = fn.np then
  (match xCode C byref sto.length n fn.code ⟨numbered 0 args, sto⟩ as with
   | some (p, (.nrm, st), as') => (match xFinish sto.length fn st as' with
    | some (q, r, _) => some (both p q, r)
    | none => none)
   | some (p, (.ret, st), as') => (match xFinish sto.length fn st as' with
    | some (q, r, _) => some (both p q, r)
    | none => none)
   | some (p, (.pan (.d x), st), _) => some (p, (.pan (.d x), xpickS (renId (List.range sto.length)) st.sto (List.range sto.length)))
   | _ => none)
 else none
theorem xFn_sound {C : Calling} {byref : FuncId → List Nat} {n : Nat} {fn : VFn} {args : List AV} {sto : List XO} {as : List Ans} {p : Option Prop} {r : Out × List XO} (h : xFn C byref n fn args sto as = some (p, r)) (hp : holdsO p) : evalFn C byref n fn args (dens sto) = some (r.1, dens r.2) := by
 unfold xFn at h
 unfold evalFn
 split at h
 ·rename_i ha
  rw [if_pos ha]
  split at h
  ·rename_i p1 st as1 h1
   split at h
   ·rename_i q r' as2 h2
    cases h
    obtain ⟨hp1, hp2⟩ := both_spec hp
    have := xCode_sound h1 hp1
    simp only [XSt.den] at this
    simp only [dens_length, this]
    exact xFinish_sound h2 hp2
   ·cases h
  ·rename_i p1 st as1 h1
   split at h
   ·rename_i q r' as2 h2
    cases h
    obtain ⟨hp1, hp2⟩ := both_spec hp
    have := xCode_sound h1 hp1
    simp only [XSt.den] at this
    simp only [dens_length, this]
    exact xFinish_sound h2 hp2
   ·cases h
  ·rename_i p1 x st as1 h1
   cases h
   have := xCode_sound h1 hp
   simp only [XSt.den] at this
   simp only [dens_length, this, xpickS_den]
  ·cases h
 ·cases h
end Go.Proofs.YtjnfkifdgojdaaaGreat.V

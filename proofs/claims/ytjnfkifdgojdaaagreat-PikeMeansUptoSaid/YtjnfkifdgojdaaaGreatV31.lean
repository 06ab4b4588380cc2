/- One path of a function, carried out: operations. Stores are told by objects that are written out (o) and rows of data (w). -/
import Derived.Test.YtjnfkifdgojdaaaGreatV26
namespace Go.Proofs.YtjnfkifdgojdaaaGreat.V
open Go
set_option linter.unusedVariables false
set_option linter.unusedSimpArgs false
set_option linter.unusedSectionVars false
inductive XO where
 | o (x : Obj)
 | w (es : Nat) (xs : List D) (frz : Bool)
 | m (kvs : List (D × D)) (z : Bool)
 | c (g : FuncId) (k : Option Nat) (ns : List Int) (z : Bool)
def clo (g : FuncId) (k : Option Nat) (n : Int) : AV := .func (.func g) [] [.box [match k with
 | some j => .ptr j 1 0 0
 | none => .undef], .d (.ptr [.int .i64 n])]
def kvD (l : List (D × D)) : List (D × AV) := l.map fun p => (p.1, AV.d p.2)
def XO.den : XO → Obj
 | .o x => x
 | .w es xs z => .row es (xs.map .d) z
 | .m kvs z => .mp (kvD kvs) z
 | .c g k ns z => .row 1 (ns.map (clo g k)) z
def dens : List XO → List Obj
 | [] => []
 | x :: r => x.den :: dens r
structure XSt where
 env : Env
 sto : List XO
def XSt.den (s : XSt) : St := ⟨s.env, dens s.sto⟩
theorem dens_map : ∀ s : List XO, dens s = s.map XO.den
 | [] => rfl
 | x :: r => by rw [dens, dens_map r]; rfl
theorem dens_length (s : List XO) : (dens s).length = s.length := by rw [dens_map, List.length_map]
theorem dens_get (s : List XO) (i : Nat) : (dens s)[i]? = (s[i]?).map XO.den := by rw [dens_map, List.getElem?_map]
theorem dens_set (s : List XO) (i : Nat) (x : XO) : dens (s.set i x) = (dens s).set i x.den := by rw [dens_map, dens_map, List.map_set]
theorem dens_append (s t : List XO) : dens (s ++ t) = dens s ++ dens t := by rw [dens_map, dens_map, dens_map, List.map_append]
theorem dens_take (s : List XO) (n : Nat) : dens (s.take n) = (dens s).take n := by rw [dens_map, dens_map, List.map_take]
theorem renL_data (f : Nat → Option Nat) : ∀ xs : List D, renL f (xs.map .d) = xs.map .d
 | [] => rfl
 | x :: r => by simp only [List.map_cons, renL, renAV, renL_data f r]
theorem refsR_data : ∀ xs : List D, refsR (xs.map .d) = []
 | [] => rfl
 | x :: r => by simp only [List.map_cons, refsR, refsAV, refsR_data r, List.append_nil]
theorem refsR_clo (g : FuncId) (k : Option Nat) : ∀ ns : List Int, refsR (ns.map (clo g k)) = []
 | [] => rfl
 | x :: r => by
  show refsR (clo g k x :: r.map (clo g k)) = []
  unfold clo
  simp only [refsR]
  exact refsR_clo g k r
theorem renAV_clo (f : Nat → Option Nat) (g : FuncId) (k : Option Nat) (n : Int) : renAV f (clo g k n) = clo g (k.bind f) n := by
 cases k with
 | none => rfl
 | some j =>
  simp only [clo, renAV, renL, Option.bind_some]
  cases f j <;> rfl
theorem renL_clo (f : Nat → Option Nat) (g : FuncId) (k : Option Nat) : ∀ ns : List Int, renL f (ns.map (clo g k)) = ns.map (clo g (k.bind f))
 | [] => rfl
 | x :: r => by simp only [List.map_cons, renL, renAV_clo, renL_clo f g k r]
theorem refsKV_data : ∀ l : List (D × D), refsKV (kvD l) = []
 | [] => rfl
 | (k, x) :: r => by
  have := refsKV_data r
  unfold kvD at this
  simp only [kvD, List.map_cons, refsKV, refsAV, this, List.append_nil]
theorem renKV_data (f : Nat → Option Nat) : ∀ l : List (D × D), renKV f (kvD l) = kvD l
 | [] => rfl
 | (k, x) :: r => by
  have := renKV_data f r
  unfold kvD at this
  simp only [kvD, List.map_cons, renKV, renAV, this]
def xrefsO : XO → List Nat
 | .o x => refsObj x
 | .w _ _ _ => []
 | .m _ _ => []
 | .c _ _ _ _ => []
theorem xrefsO_den (x : XO) : refsObj x.den = xrefsO x := by
 cases x with
 | o x => rfl
 | w es xs z => exact refsR_data xs
 | m kvs z => exact refsKV_data kvs
 | c g k ns z => exact refsR_clo g k ns
def xrefsOs : List XO → List Nat
 | [] => []
 | x :: r => xrefsO x ++ xrefsOs r
theorem xrefsOs_den : ∀ s : List XO, refsObjs (dens s) = xrefsOs s
 | [] => rfl
 | x :: r => by rw [dens, refsObjs, xrefsOs, xrefsO_den, xrefsOs_den r]
def xrenO (f : Nat → Option Nat) : XO → XO
 | .o x => .o (renObj f x)
 | .w es xs z => .w es xs z
 | .m kvs z => .m kvs z
 | .c g k ns z => .c g (k.bind f) ns z
theorem xrenO_den (f : Nat → Option Nat) (x : XO) : renObj f x.den = (xrenO f x).den := by
 cases x with
 | o x => rfl
 | w es xs z => simp only [XO.den, renObj, renL_data, xrenO]
 | m kvs z => simp only [XO.den, renObj, renKV_data, xrenO]
 | c g k ns z => simp only [XO.den, renObj, renL_clo, xrenO]
def xreach (sto : List XO) : Nat → List Nat → List Nat → List Nat
 | 0, _, acc => acc
 | _ + 1, [], acc => acc
 | f + 1, id :: w, acc =>
  if acc.contains id then xreach sto f w acc
  else match sto[id]? with
   | some o => xreach sto f (xrefsO o ++ w) (acc ++ [id])
   | none => xreach sto f w acc
theorem xreach_den (s : List XO) : ∀ (f : Nat) (w acc : List Nat), reach (dens s) f w acc = xreach s f w acc
 | 0, _, acc => rfl
 | _ + 1, [], acc => rfl
 | f + 1, id :: w, acc => by
  simp only [reach, xreach, dens_get]
  split
  ·exact xreach_den s f w acc
  ·cases s[id]? with
   | none => exact xreach_den s f w acc
   | some o =>
    show reach (dens s) f (refsObj o.den ++ w) (acc ++ [id]) = _
    rw [xrefsO_den]
    exact xreach_den s f _ _
def xpickS (f : Nat → Option Nat) (sto : List XO) : List Nat → List XO
 | [] => []
 | id :: r => (match sto[id]? with
  | some o => xrenO f o
  | none => .o .dead) :: xpickS f sto r
theorem xpickS_den (f : Nat → Option Nat) (s : List XO) : ∀ l : List Nat, pickS f (dens s) l = dens (xpickS f s l)
 | [] => rfl
 | id :: r => by
  simp only [pickS, xpickS, dens, xpickS_den f s r, dens_get]
  cases s[id]? with
  | none => rfl
  | some o => simp only [Option.map_some, xrenO_den]
def xgcSt (pin : Nat) (keep : List Nat) (st : XSt) : XSt :=
 let env := restrict keep st.env
 let m := xreach st.sto fuelR (refsEnv env ++ xrefsOs (st.sto.take pin)) (List.range pin)
 ⟨renEnv (renId m) env, xpickS (renId m) st.sto m⟩
theorem xgcSt_den (pin : Nat) (keep : List Nat) (st : XSt) : gcSt pin keep st.den = (xgcSt pin keep st).den := by
 simp only [gcSt, xgcSt, XSt.den, ← dens_take, xrefsOs_den, xreach_den, xpickS_den]
inductive Ans where
 | b (w : Bool)
 | d (x : D)
 | z (x : D)
 | n (k : Nat)
 | dd (x : D)
 | q (w : Bool)
 | sd (e : D) (l : List D)
 | byte (x : UInt8)
 | go
 | bnd (l h : Nat) (t : Bool) (x : D)
 | ap (new res : List D) (m : Nat)
 | ap0
 | mk (n : Nat) (t : Bool) (l : List D)
 | bs (vs : List D) (l : List UInt8)
 | out (o : Out) (s : List XO)
 | snap (x : D) (ids : List Nat)
 | apo (new : List AV)
 | lp (r : Ex × XSt)
 | cut (r : Ex × XSt)
 | mf (v : D)
 | m0
 | mu (l : List (D × D))
 | me (i : Nat) (v : D) (l : List (D × D))
 | nx (r n : Nat)
 | nx0
 | ix (j : Nat)
def condB (w : Bool) (p : Prop) : Prop := match w with
 | true => p
 | false => ¬ p
def cmpP (op : BinOp) (x y : Int) : Option Prop := match op with
 | .eql => some (x = y)
 | .neq => some (x ≠ y)
 | .lss => some (x < y)
 | .leq => some (x ≤ y)
 | .gtr => some (x > y)
 | .geq => some (x ≥ y)
 | _ => none
def isCmp : BinOp → Bool
 | .eql | .neq | .lss | .leq | .gtr | .geq => true
 | _ => false
def holdsO (p : Option Prop) : Prop := match p with
 | none => True
 | some p => p
def both (p q : Option Prop) : Option Prop := match p, q with
 | none, q => q
 | some p, none => some p
 | some p, some q => some (p ∧ q)
theorem both_spec {p q : Option Prop} (h : holdsO (both p q)) : holdsO p ∧ holdsO q := by
 cases p <;> cases q
 ·exact ⟨trivial, trivial⟩
 ·exact ⟨trivial, h⟩
 ·exact ⟨h, trivial⟩
 ·exact h
abbrev XR := Option (Option Prop × (AV × List XO) × List Ans)
def isBuild : VOp → Bool
 | .buildRow _ _ _ _ _ => true
 | _ => false
def plain (env : Env) (sto : List XO) (op : VOp) (as : List Ans) : XR := match opK op, isBuild op with
 | .pure, false => (match evalOp env [] op with
  | some (v, _) => some (none, (v, sto), as)
  | none => none)
 | _, _ => none
def xQb (r : XR) : XR := match r with
 | some (p, (v, sto), as) => (match v with
  | .d (.bool t) => (match as with
   | .q w :: as' => some (both p (some (t = w)), (.d (.bool w), sto), as')
   | _ => none)
  | v => some (p, (v, sto), as))
 | none => none
def xBin (sto : List XO) (op : BinOp) (a b : D) (as : List Ans) : XR :=
 if isCmp op = true then (match as with
  | .b w :: as' => (match a, b with
   | .int k x, .int k' y => if k = k' then (match cmpP op x y with
     | some p => some (some (condB w p), (.d (.bool w), sto), as')
     | none => none) else none
   | _, _ => some (some (binD op a b = some (.bool w)), (.d (.bool w), sto), as'))
  | _ => none)
 else (match as with
  | .z z :: as' => some (some (binD op a b = some z), (.d z, sto), as')
  | _ => none)
def xIaddr (sto : List XO) (es : Nat) (x i : AV) (as : List Ans) : XR := match intOf i with
 | none => none
 | some n => match x, as with
  | .d (.sl es' xs _), .d e :: as' => some (some (es' = es ∧ 0 ≤ n ∧ xs[n.toNat]? = some e), (.d (.ptr e.cells), sto), as')
  | .row id es' o len _, .go :: as' => if es' = es then some (some (0 ≤ n ∧ n.toNat < len), (.ptr id es (o + n.toNat) 0, sto), as') else none
  | _, _ => none
def xLoad (sto : List XO) (ag : Option Nat) (id es i off : Nat) (as : List Ans) : XR := match sto[id]? with
 | some (.o (.row es' xs _)) => if es' = es then (match xs[i]? with
   | some e => (match readCells ag off e with
    | some v => some (none, (v, sto), as)
    | none => none)
   | none => none) else none
 | some (.w es' xs _) => if es' = es then (match as with
   | .dd d :: as' => (match readCells ag off (.d d) with
    | some v => some (some (xs[i]? = some d), (v, sto), as')
    | none => none)
   | _ => none) else none
 | some (.c g k ns _) => if es = 1 ∧ off = 0 then (match ag, as with
   | none, .dd (.int .i64 n) :: as' => some (some (ns[i]? = some n), (clo g k n, sto), as')
   | _, _ => none) else none
 | _ => none
def xStore (sto : List XO) (n : Nat) (a x : AV) (as : List Ans) : XR := match a with
 | .ptr id es i off => if x.cells.length = n ∧ x.solid = true then (match sto[id]? with
  | some (.o (.row es' xs false)) => if es' = es then (match xs[i]? with
    | some e => (match writeCells off e x with
     | some e' => some (none, (.tup [], sto.set id (.o (.row es' (xs.set i e') false))), as)
     | none => none)
    | none => none) else none
  | some (.w es' xs false) => if es' = es then (match as with
    | .sd d l :: as' => (match writeCells off (.d d) x with
     | some (.d d') => some (some (xs[i]? = some d ∧ xs.set i d' = l), (.tup [], sto.set id (.w es' l false)), as')
     | _ => none)
    | _ => none) else none
  | _ => none) else none
 | _ => none
def xSl (sto : List XO) (es : Nat) (x : AV) (lo hi mx : Option AV) (l h : Nat) (t' : Bool) (z : D) (as : List Ans) : XR := match x with
 | .d (.sl es' xs t) => some (some ((es' = es ∨ xs = []) ∧ bounds xs.length (if t then some xs.length else none) lo hi mx = some (l, h, t') ∧ z = .sl es ((xs.drop l).take (h - l)) t'), (.d z, sto), as)
 | .row id es' o n t => if es' = es then some (some (bounds n (if t then some n else none) lo hi mx = some (l, h, t')), (.row id es (o + l) (h - l) t', sto), as) else none
 | _ => none
def notStr : AV → Bool
 | .d (.str _) => false
 | _ => true
def elemsP (sto : List XO) (es : Nat) (x : AV) (new : List D) : Prop := elemsS (dens sto) es x = some (new.map .d)
def elemsX (sto : List XO) (es : Nat) (x : AV) (new : List D) : Prop := match x with
 | .row id es' lo n _ => (match sto[id]? with
  | some (.w es'' xs _) => es' = es ∧ es'' = es ∧ lo + n ≤ xs.length ∧ (xs.drop lo).take n = new
  | some (.o (.row es'' xs _)) => es' = es ∧ es'' = es ∧ lo + n ≤ xs.length ∧ (xs.drop lo).take n = new.map .d
  | _ => False)
 | x => elemsS [] es x = some (new.map .d)
theorem elemsX_sound {sto : List XO} {es : Nat} {x : AV} {new : List D} (h : elemsX sto es x new) : elemsP sto es x new := by
 unfold elemsX at h
 unfold elemsP
 split at h
 ·rename_i id es' lo n t
  simp only [elemsS, elems, dens_get]
  split at h
  ·rename_i es'' xs z hs
   obtain ⟨h1, h2, h3, h4⟩ := h
   simp only [hs, Option.map_some, XO.den]
   rw [if_pos ⟨h1, h2, by simpa using h3⟩, ← List.map_drop, ← List.map_take, h4]
  ·rename_i es'' xs z hs
   obtain ⟨h1, h2, h3, h4⟩ := h
   simp only [hs, Option.map_some, XO.den]
   rw [if_pos ⟨h1, h2, h3⟩, h4]
  ·exact h.elim
 ·rename_i hne
  cases x with
  | d v => cases v <;> exact h
  | row id es' lo n t => exact absurd rfl (hne _ _ _ _ _)
  | _ => exact h
def xAppend (sto : List XO) (es bytes : Nat) (s x : AV) (new res : List D) (m : Nat) (as : List Ans) : XR := match s with
 | .d (.sl es' xs t) => some (some (elemsX sto es x new ∧ new ≠ [] ∧ (t = true ∧ (es' = es ∨ xs = []) ∧ (xs.length + new.length) * bytes ≤ mostBytes) ∧ xs ++ new = res ∧ xs.length + new.length = m), (.row sto.length es 0 m false, sto ++ [.w es res false]), as)
 | .row id es' lo n _ => (match sto[id]? with
  | some (.w es'' xs false) => if es' = es ∧ es'' = es ∧ lo = 0 then some (some (elemsX sto es x new ∧ n ≤ xs.length ∧ (n + new.length) * bytes ≤ mostBytes ∧ xs.take n ++ new = res ∧ n + new.length = m), (.row sto.length es 0 m false, sto.set id (.o .dead) ++ [.w es res false]), as) else none
  | some (.o (.row es'' xs false)) => if es' = es ∧ es'' = es ∧ lo = 0 then some (some (elemsX sto es x new ∧ n ≤ xs.length ∧ (n + new.length) * bytes ≤ mostBytes ∧ xs.take n ++ new.map .d = res.map .d ∧ n + new.length = m), (.row sto.length es 0 m false, sto.set id (.o .dead) ++ [.w es res false]), as) else none
  | _ => none)
 | _ => none
def xAppendO (sto : List XO) (es bytes : Nat) (s x : AV) (new : List AV) (as : List Ans) : XR := match s with
 | .row id es' lo n _ => (match sto[id]? with
  | some (.o (.row es'' xs false)) => if es' = es ∧ es'' = es ∧ lo = 0 then some (some (elemsS (dens sto) es x = some new ∧ n ≤ xs.length ∧ (n + new.length) * bytes ≤ mostBytes), (.row sto.length es 0 (n + new.length) false, sto.set id (.o .dead) ++ [.o (.row es (xs.take n ++ new) false)]), as) else none
  | some (.c g k ns false) => (match new with
   | [.func (.func g') [] [.box [.ptr k' 1 0 0], .d (.ptr [.int .i64 m])]] => if es' = es ∧ es = 1 ∧ lo = 0 ∧ g' = g ∧ k = some k' then some (some (elemsS (dens sto) es x = some new ∧ n ≤ ns.length ∧ (n + 1) * bytes ≤ mostBytes), (.row sto.length es 0 (n + 1) false, sto.set id (.o .dead) ++ [.c g k (ns.take n ++ [m]) false]), as) else none
   | _ => none)
  | _ => none)
 | _ => none
def updD (ag : Bool) (ks : List SK) (kd v : D) : List (D × D) → Option (List (D × D))
 | [] => some [(kd, v)]
 | (x, u) :: r => match keyEq ag ks kd x with
  | some true => some ((kd, v) :: r)
  | some false => (match updD ag ks kd v r with
   | some l => some ((x, u) :: l)
   | none => none)
  | none => none
theorem updD_spec {ag : Bool} {ks : List SK} {kd v : D} : ∀ {kvs l : List (D × D)} (j : Nat), updD ag ks kd v kvs = some l →
  (∃ i u, findKV ag ks kd (kvD kvs) j = some (some (j + i, u)) ∧ kvD l = (kvD kvs).set i (kd, .d v)) ∨ (findKV ag ks kd (kvD kvs) j = some none ∧ kvD l = kvD kvs ++ [(kd, .d v)])
 | [], l, j, h => by
  simp only [updD] at h
  cases h
  exact .inr ⟨rfl, rfl⟩
 | (x, u) :: r, l, j, h => by
  simp only [updD] at h
  simp only [kvD, List.map_cons, findKV]
  split at h
  ·rename_i hk
   cases h
   rw [hk]
   exact .inl ⟨0, _, rfl, rfl⟩
  ·rename_i hk
   rw [hk]
   split at h
   ·rename_i l' hl
    cases h
    rcases updD_spec (j + 1) hl with ⟨i, u', h1, h2⟩ | ⟨h1, h2⟩
    ·refine .inl ⟨i + 1, u', ?_, ?_⟩
     ·rw [show j + (i + 1) = j + 1 + i by omega]; exact h1
     ·simp only [List.map_cons, List.set_cons_succ]
      congr 1
    ·refine .inr ⟨h1, ?_⟩
     simp only [List.map_cons, List.cons_append]
     congr 1
   ·cases h
  ·cases h
def xLook (sto : List XO) (ag : Bool) (ks : List SK) (zero kd : D) (ok : Bool) (m : AV) (as : List Ans) : XR := match m with
 | .d .nilm => some (none, (lookV ok (.d zero) false, sto), as)
 | .map id => (match sto[id]? with
  | some (.m kvs _) => (match as with
   | .mf v :: as' => some (some (∃ i, findKV ag ks kd (kvD kvs) 0 = some (some (i, .d v))), (lookV ok (.d v) true, sto), as')
   | .m0 :: as' => some (some (findKV ag ks kd (kvD kvs) 0 = some none), (lookV ok (.d zero) false, sto), as')
   | _ => none)
  | _ => none)
 | _ => none
def xUpd (sto : List XO) (ag : Bool) (ks : List SK) (kd : D) (m v : AV) (as : List Ans) : XR := match m, v with
 | .map id, .d x => (match sto[id]? with
  | some (.m kvs z) => (match as with
   | .mu l :: as' => some (some (updD ag ks kd x kvs = some l), (.tup [], sto.set id (.m l z)), as')
   | _ => none)
  | _ => none)
 | _, _ => none
def xEnt (sto : List XO) (ag : Bool) (ks : List SK) (zero kd : D) (m : AV) (as : List Ans) : XR := match m with
 | .map id => (match sto[id]? with
  | some (.m kvs false) => (match as with
   | .me i v l :: as' => some (some ((findKV ag ks kd (kvD kvs) 0 = some (some (i, .d v)) ∧ kvs.set i (kd, v) = l) ∨ (findKV ag ks kd (kvD kvs) 0 = some none ∧ v = zero ∧ i = kvs.length ∧ kvs ++ [(kd, zero)] = l)), (.tup [.d v, .d (.int .i64 i)], sto.set id (.m l false)), as')
   | _ => none)
  | _ => none)
 | _ => none
def xEntst (sto : List XO) (m v : AV) (n : Int) (as : List Ans) : XR := match m, v with
 | .map id, .d x => (match sto[id]? with
  | some (.m kvs false) => (match as with
   | .mu l :: as' => some (some (0 ≤ n ∧ ∃ kd, kvs[n.toNat]? = some kd ∧ kvs.set n.toNat (kd.1, x) = l), (.tup [], sto.set id (.m l false)), as')
   | _ => none)
  | _ => none)
 | _, _ => none
theorem kvD_set (kvs : List (D × D)) (i : Nat) (k v : D) : kvD (kvs.set i (k, v)) = (kvD kvs).set i (k, .d v) := List.map_set
theorem kvD_snoc (kvs : List (D × D)) (k v : D) : kvD (kvs ++ [(k, v)]) = kvD kvs ++ [(k, .d v)] := List.map_append
theorem kvD_length (kvs : List (D × D)) : (kvD kvs).length = kvs.length := List.length_map ..
theorem mapOf_m {sto : List XO} {id : Nat} {kvs : List (D × D)} {z : Bool} (h : sto[id]? = some (.m kvs z)) : mapOf (dens sto) (.map id) = some (id, kvD kvs, z) := by
 simp only [mapOf, dens_get, h, Option.map_some, XO.den]
def xOp (env : Env) (sto : List XO) (op : VOp) (as : List Ans) : XR :=
 match op with
 | .mkmap => some (none, (.map sto.length, sto ++ [.m [] false]), as)
 | .lookup ag ks zero x k ok => (match kdOf ag ks (k.ev env) with
  | some kd => xLook sto ag ks zero kd ok (x.ev env) as
  | none => none)
 | .mapupd ag ks m k v => (match kdOf ag ks (k.ev env) with
  | some kd => xUpd sto ag ks kd (m.ev env) (v.ev env) as
  | none => none)
 | .mapent ag ks zero m k => (match kdOf ag ks (k.ev env) with
  | some kd => xEnt sto ag ks zero kd (m.ev env) as
  | none => none)
 | .entst m s v => (match intOf (s.ev env) with
  | some n => xEntst sto (m.ev env) (v.ev env) n as
  | none => none)
 | .range x => (match x.ev env with
  | .d (.str s) => some (none, (.iter sto.length, sto ++ [.o (.iter s 0)]), as)
  | _ => none)
 | .next x => (match x.ev env with
  | .iter id => (match sto[id]? with
   | some (.o (.iter s p)) => (match as with
    | .nx r n :: as' => some (some (p < s.size ∧ Utf8.decode s p = (r, n)), (.tup [.d (.bool true), .d (.int .i64 p), .d (.int .i32 r)], sto.set id (.o (.iter s (p + n)))), as')
    | .nx0 :: as' => some (some (¬ p < s.size), (.tup [.d (.bool false)], sto), as')
    | _ => none)
   | _ => none)
  | _ => none)
 | .assert t zero x ok => if ok = true then (match x.ev env with
  | .d .nili => some (none, (.tup [.d zero, .d (.bool false)], sto), as)
  | .d (.iface t' v) => if t' = t then some (none, (.tup [.d v, .d (.bool true)], sto), as) else some (none, (.tup [.d zero, .d (.bool false)], sto), as)
  | _ => none) else none
 | .idxa ag n es x i => (match as with
  | .ix j :: as' => (match intOf (i.ev env) with
   | some m => if j < n then (match readCells ag (j * es) (x.ev env) with
    | some v => (match x.ev env with
     | .d (.agg _) => some (some (m = (j : Int)), (v, sto), as')
     | .agg _ => some (some (m = (j : Int)), (v, sto), as')
     | _ => none)
    | none => none) else none
   | none => none)
  | _ => none)
 | .iaddra n es x i => (match as with
  | .ix j :: as' => (match intOf (i.ev env) with
   | some m => if j < n then (match x.ev env with
    | .ptr id es' k off => some (some (m = (j : Int)), (.ptr id es' k (off + j * es), sto), as')
    | .d (.ptr cs) => if j * es ≤ cs.length then some (some (m = (j : Int)), (.d (.ptr (cs.drop (j * es))), sto), as') else none
    | _ => none) else none
   | none => none)
  | _ => none)
 | .bin o x y => (match x.ev env, y.ev env with
  | .d a, .d b => xBin sto o a b as
  | _, _ => none)
 | .eqs neg ks x y => (match as with
  | .b w :: as' => (match x.ev env, y.ev env with
   | .d (.agg a), .d (.agg b) => some (some (eqK ks a b = some w), (.d (.bool (if neg then !w else w)), sto), as')
   | _, _ => none)
  | _ => none)
 | .eqb neg x y => (match as with
  | .b w :: as' => (match x.ev env, y.ev env with
   | .d (.bool a), .d (.bool b) => some (some ((a == b) = w), (.d (.bool (if neg then !w else w)), sto), as')
   | _, _ => none)
  | _ => none)
 | .isnil k neg x => (match as with
  | .b w :: as' => some (some (isNil k (x.ev env) = some w), (.d (.bool (if neg then !w else w)), sto), as')
  | _ => none)
 | .iaddr es x i => xIaddr sto es (x.ev env) (i.ev env) as
 | .idxs x i => (match as with
  | .byte b :: as' => (match x.ev env, intOf (i.ev env) with
   | .d (.str s), some n => some (some (0 ≤ n ∧ s[n.toNat]? = some b), (.d (.int .u8 b.toNat), sto), as')
   | _, _ => none)
  | _ => none)
 | .load ag a => (match a.ev env with
  | .ptr id es i off => xQb (xLoad sto ag id es i off as)
  | .box cs => xQb (match ag with
   | none => (match cs[0]? with
    | some x => some (none, (x, sto), as)
    | none => none)
   | some _ => none)
  | .d (.ptr cs) => xQb (match ag with
   | none => (match cs[0]? with
    | some x => some (none, (.d x, sto), as)
    | none => none)
   | some n => if n ≤ cs.length then some (none, (.d (.agg (cs.take n)), sto), as) else none)
  | _ => none)
 | .fld ag off x => xQb (plain env sto (.fld ag off x) as)
 | .store ag n a x => xStore sto n (a.ev env) (x.ev env) as
 | .sl es x lo hi mx => (match as with
  | .bnd l h t z :: as' => xSl sto es (x.ev env) (optEv env lo) (optEv env hi) (optEv env mx) l h t z as'
  | _ => none)
 | .slstr x lo hi => (match as with
  | .bnd l h t z :: as' => (match x.ev env with
   | .d (.str s) => some (some (bounds s.size none (optEv env lo) (optEv env hi) none = some (l, h, t) ∧ z = .str (s.extract l h)), (.d z, sto), as')
   | _ => none)
  | _ => none)
 | .len x => (match x.ev env with
  | .d (.sl es xs t) => (match as with
   | .n k :: as' => some (some (xs.length = k), (.d (.int .i64 k), sto), as')
   | _ => none)
  | .row _ _ _ n _ => some (none, (.d (.int .i64 n), sto), as)
  | _ => none)
 | .append es bytes s x => (match as with
  | .ap new res m :: as' => xAppend sto es bytes (s.ev env) (x.ev env) new res m as'
  | .apo new :: as' => xAppendO sto es bytes (s.ev env) (x.ev env) new as'
  | .ap0 :: as' => (match s.ev env with
   | .d (.sl es' xs t) => some (some (elemsX sto es (x.ev env) []), (.d (.sl es' xs t), sto), as')
   | _ => none)
  | _ => none)
 | .min xs => (match evs env xs, as with
  | .d (.int k a) :: r, .z (.int k' n) :: as' => if k = k' then some (some (minmax true a r = some n), (.d (.int k n), sto), as') else none
  | _, _ => none)
 | .max xs => (match evs env xs, as with
  | .d (.int k a) :: r, .z (.int k' n) :: as' => if k = k' then some (some (minmax false a r = some n), (.d (.int k n), sto), as') else none
  | _, _ => none)
 | .nilrow es => some (none, (.row sto.length es 0 0 true, sto ++ [.w es [] false]), as)
 | .alloc ag zero => some (none, (.ptr sto.length zero.length 0 0, sto ++ [.o (.row zero.length [elemOf ag zero] false)]), as)
 | .box _ es x => if (x.ev env).cells.length = es ∧ (x.ev env).solid = true then some (none, (.ptr sto.length es 0 0, sto ++ [.o (.row es [x.ev env] false)]), as) else none
 | .buildRow ag es n zero parts => (match fillRow env es (List.replicate n (elemOf ag zero)) parts with
  | some xs => some (none, (.row sto.length es 0 n true, sto ++ [.o (.row es xs false)]), as)
  | none => none)
 | .mkslice ag es bytes zero l c => (match as with
  | .mk k t res :: as' => (match intOf (l.ev env), intOf (c.ev env) with
   | some n, some m => some (some ((0 ≤ n ∧ n ≤ m ∧ m * bytes ≤ 281474976710656 ∧ 0 < bytes ∧ m ≤ 9223372036854775807) ∧ (n == m) = t ∧ n.toNat = k ∧ List.replicate k (elemOf ag zero) = res.map .d),
     (.row sto.length es 0 k t, sto ++ [.w es res false]), as')
   | _, _ => none)
  | _ => none)
 | .conv c x => (match c with
  | .bytesToStr => (match as with
   | .bs vs bs :: as' => some (some (elemsX sto 1 (x.ev env) vs ∧ notStr (x.ev env) = true ∧ unbytes (vs.map .d) = some bs), (.d (.str ⟨bs.toArray⟩), sto), as')
   | _ => none)
  | .strToBytes => (match as with
   | .z z :: as' => (match x.ev env with
    | .d (.str s) => some (some (.sl 1 (bytesD s) false = z), (.d z, sto), as')
    | _ => none)
   | _ => none)
  | .toInt k => (match as with
   | .z (.int k' z) :: as' => (match x.ev env with
    | .d (.int _ n) => if k = k' then some (some (k.wrap n = z), (.d (.int k z), sto), as') else none
    | _ => none)
   | _ => none)
  | .same => (match x.ev env with
   | .d (.str s) => some (none, (.d (.str s), sto), as)
   | _ => none)
  | .intToStr => (match x.ev env with
   | .d (.int _ n) => some (none, (.d (.str (Utf8.encode n)), sto), as)
   | _ => none))
 | op => plain env sto op as
theorem plain_sound {env : Env} {sto : List XO} {op : VOp} {as as' : List Ans} {p : Option Prop} {q : AV × List XO} (h : plain env sto op as = some (p, q, as')) : evalOp env (dens sto) op = some (q.1, dens q.2) := by
 unfold plain at h
 split at h
 ·rename_i hk hnb
  have hv' : ∀ ag es n z ps, op ≠ .buildRow ag es n z ps := fun ag es n z ps e => by rw [e] at hnb; cases hnb
  split at h
  ·rename_i v x hv
   cases h
   exact (evalOp_pure hk hv' hv).2 _
  ·cases h
 ·cases h
theorem xQb_sound {x : XR} {r : Option (AV × List Obj)} (hx : ∀ p q as, x = some (p, q, as) → holdsO p → r = some (q.1, dens q.2)) {as' : List Ans} {p : Option Prop} {q : AV × List XO} (h : xQb x = some (p, q, as')) (hp : holdsO p) : r = some (q.1, dens q.2) := by
 unfold xQb at h
 split at h
 ·rename_i p1 v sto as1
  split at h
  ·split at h
   ·cases h
    obtain ⟨hp1, hp2⟩ := both_spec hp
    simp only [holdsO] at hp2
    have := hx _ _ _ rfl hp1
    rw [hp2] at this
    exact this
   ·cases h
  ·cases h
   exact hx _ _ _ rfl hp
 ·cases h
theorem condB_dec {w : Bool} {p : Prop} [Decidable p] (h : condB w p) : decide p = w := by
 cases w with
 | true => simpa [condB] using h
 | false => simpa [condB] using h
theorem xBin_sound {sto : List XO} {op : BinOp} {a b : D} {as as' : List Ans} {p : Option Prop} {q : AV × List XO} (h : xBin sto op a b as = some (p, q, as')) (hp : holdsO p) : ∃ z, binD op a b = some z ∧ q = (.d z, sto) := by
 unfold xBin at h
 split at h
 ·rename_i hcmp
  split at h
  ·rename_i w as1
   split at h
   ·rename_i k x k' y
    split at h
    ·rename_i hk
     subst hk
     split at h
     ·rename_i c hc
      cases h
      refine ⟨_, ?_, rfl⟩
      simp only [binD]
      rw [if_neg (by intro e; subst e; cases hcmp), if_neg (by intro e; subst e; cases hcmp), if_pos trivial]
      simp only [holdsO] at hp
      cases op <;> simp only [cmpP] at hc <;> try (cases hc; done)
      all_goals
       cases hc
       simp only [intOp]
      ·have := condB_dec hp
       rw [← this]
       rfl
      ·have := condB_dec hp
       rw [← this]
       congr 2
       by_cases e : x = y <;> simp [e]
      all_goals (rw [← condB_dec hp])
     ·cases h
    ·cases h
   ·cases h
    exact ⟨_, hp, rfl⟩
  ·cases h
 ·split at h
  ·cases h
   exact ⟨_, hp, rfl⟩
  ·cases h
theorem xLoad_sound {env : Env} {sto : List XO} {ag : Option Nat} {a : Opd} {id es i off : Nat} (ha : a.ev env = .ptr id es i off) {as as' : List Ans} {p : Option Prop} {q : AV × List XO} (h : xLoad sto ag id es i off as = some (p, q, as')) (hp : holdsO p) : evalOp env (dens sto) (.load ag a) = some (q.1, dens q.2) := by
 unfold xLoad at h
 simp only [evalOp, ha, dens_get]
 split at h
 ·rename_i es' xs z hs
  simp only [hs, Option.map_some, XO.den]
  split at h
  ·rename_i hes
   split at h
   ·rename_i e he
    split at h
    ·rename_i v hv
     cases h
     simp only [if_pos hes, he, hv]
    ·cases h
   ·cases h
  ·cases h
 ·rename_i es' xs z hs
  simp only [hs, Option.map_some, XO.den]
  split at h
  ·rename_i hes
   split at h
   ·rename_i d as1
    split at h
    ·rename_i v hv
     cases h
     simp only [holdsO] at hp
     simp only [if_pos hes, List.getElem?_map, hp, Option.map_some, hv]
    ·cases h
   ·cases h
  ·cases h
 ·rename_i g k ns z hs
  simp only [hs, Option.map_some, XO.den]
  split at h
  ·rename_i hes
   obtain ⟨h1, h2⟩ := hes
   subst h1
   subst h2
   split at h
   ·rename_i n as1
    cases h
    simp only [holdsO] at hp
    simp [List.getElem?_map, hp, readCells, clo, AV.cells]
   ·cases h
  ·cases h
 ·cases h
theorem xStore_sound {env : Env} {sto : List XO} {ag : Bool} {n : Nat} {a x : Opd} {as as' : List Ans} {p : Option Prop} {q : AV × List XO} (h : xStore sto n (a.ev env) (x.ev env) as = some (p, q, as')) (hp : holdsO p) : evalOp env (dens sto) (.store ag n a x) = some (q.1, dens q.2) := by
 unfold xStore at h
 split at h
 ·rename_i id es i off ha
  simp only [evalOp, ha, dens_get]
  split at h
  ·rename_i hc
   split at h
   ·rename_i es' xs hs
    simp only [hs, Option.map_some, XO.den]
    split at h
    ·rename_i hes
     rw [if_pos ⟨hes, hc.1, hc.2⟩]
     split at h
     ·rename_i e he
      split at h
      ·rename_i e' he'
       cases h
       simp only [he, he', dens_set, XO.den]
      ·cases h
     ·cases h
    ·cases h
   ·rename_i es' xs hs
    simp only [hs, Option.map_some, XO.den]
    split at h
    ·rename_i hes
     rw [if_pos ⟨hes, hc.1, hc.2⟩]
     split at h
     ·rename_i d l as1
      split at h
      ·rename_i d' hd'
       cases h
       obtain ⟨h1, h2⟩ := hp
       subst h2
       simp only [List.getElem?_map, h1, Option.map_some, hd', dens_set, XO.den, List.map_set]
      ·cases h
     ·cases h
    ·cases h
   ·cases h
  ·cases h
 ·cases h
theorem xAppend_sound {env : Env} {sto : List XO} {es bytes : Nat} {s x : Opd} {new res : List D} {m : Nat} {as as' : List Ans} {p : Option Prop} {q : AV × List XO} (h : xAppend sto es bytes (s.ev env) (x.ev env) new res m as = some (p, q, as')) (hp : holdsO p) : evalOp env (dens sto) (.append es bytes s x) = some (q.1, dens q.2) := by
 unfold xAppend at h
 split at h
 ·rename_i es' xs t hs
  cases h
  obtain ⟨h1, h2, h3, h4, h5⟩ := hp
  subst h4
  subst h5
  have h1 := elemsX_sound h1
  simp only [elemsP] at h1
  simp only [evalOp, h1, hs, appendTo]
  rw [if_neg (by simpa using h2), if_pos (by simpa using h3)]
  simp [dens_append, dens_length, dens, XO.den]
 ·rename_i id es' lo n t hs
  split at h
  ·rename_i es'' xs hx
   split at h
   ·rename_i hc
    cases h
    obtain ⟨h1, h2, h3, h4, h5⟩ := hp
    subst h4
    subst h5
    have h1 := elemsX_sound h1
    simp only [elemsP] at h1
    simp only [evalOp, h1, hs, appendTo, dens_get, hx, Option.map_some, XO.den]
    rw [if_pos ⟨hc.1, hc.2.1, hc.2.2, by simpa using h2, by simpa using h3⟩]
    simp [dens_append, dens_length, dens_set, dens, XO.den]
   ·cases h
  ·rename_i es'' xs hx
   split at h
   ·rename_i hc
    cases h
    obtain ⟨h1, h2, h3, h4, h5⟩ := hp
    subst h5
    have h1 := elemsX_sound h1
    simp only [elemsP] at h1
    simp only [evalOp, h1, hs, appendTo, dens_get, hx, Option.map_some, XO.den]
    rw [if_pos ⟨hc.1, hc.2.1, hc.2.2, by simpa using h2, by simpa using h3⟩]
    simp [dens_append, dens_length, dens_set, dens, XO.den, h4]
   ·cases h
  ·cases h
 ·cases h
theorem xAppendO_sound {env : Env} {sto : List XO} {es bytes : Nat} {s x : Opd} {new : List AV} {as as' : List Ans} {p : Option Prop} {q : AV × List XO} (h : xAppendO sto es bytes (s.ev env) (x.ev env) new as = some (p, q, as')) (hp : holdsO p) : evalOp env (dens sto) (.append es bytes s x) = some (q.1, dens q.2) := by
 unfold xAppendO at h
 split at h
 ·rename_i id es' lo n t hs
  split at h
  ·rename_i es'' xs hx
   split at h
   ·rename_i hc
    cases h
    obtain ⟨h1, h2, h3⟩ := hp
    simp only [evalOp, h1, hs, appendTo, dens_get, hx, Option.map_some, XO.den]
    rw [if_pos ⟨hc.1, hc.2.1, hc.2.2, h2, h3⟩]
    simp [dens_append, dens_length, dens_set, dens, XO.den]
   ·cases h
  ·rename_i g k ns hx
   split at h
   ·rename_i g' k' m
    split at h
    ·rename_i hc
     cases h
     obtain ⟨h1, h2, h3⟩ := hp
     obtain ⟨c1, c2, c3, c4, c5⟩ := hc
     subst c4
     subst c5
     simp only [evalOp, h1, hs, appendTo, dens_get, hx, Option.map_some, XO.den]
     rw [if_pos ⟨c1, c2.symm, c3, by rw [List.length_map]; exact h2, h3⟩]
     simp [dens_append, dens_length, dens_set, dens, XO.den, clo, List.map_take, c2]
    ·cases h
   ·cases h
  ·cases h
 ·cases h
theorem xOp_sound {env : Env} {sto : List XO} {op : VOp} {as as' : List Ans} {p : Option Prop} {q : AV × List XO} (h : xOp env sto op as = some (p, q, as')) (hp : holdsO p) : evalOp env (dens sto) op = some (q.1, dens q.2) := by
 cases op
 case bin o x y =>
  simp only [xOp] at h
  split at h
  ·rename_i a b ha hb
   obtain ⟨z, h1, rfl⟩ := xBin_sound h hp
   simp only [evalOp, ha, hb, h1]
  ·cases h
 case eqs neg ks x y =>
  simp only [xOp] at h
  split at h
  ·split at h
   ·rename_i a b ha hb
    cases h
    simp only [holdsO] at hp
    simp only [evalOp, ha, hb, hp]
   ·cases h
  ·cases h
 case eqb neg x y =>
  simp only [xOp] at h
  split at h
  ·split at h
   ·rename_i a b ha hb
    cases h
    simp only [holdsO] at hp
    simp only [evalOp, ha, hb, hp]
   ·cases h
  ·cases h
 case isnil k neg x =>
  simp only [xOp] at h
  split at h
  ·cases h
   simp only [holdsO] at hp
   simp only [evalOp, hp]
  ·cases h
 case iaddr es x i =>
  simp only [xOp, xIaddr] at h
  split at h
  ·cases h
  ·rename_i n hn
   split at h
   ·rename_i es' xs t e as1 hx
    cases h
    simp only [holdsO] at hp
    simp only [evalOp, hn, hx, if_pos hp.2.1, if_pos hp.1, hp.2.2]
   ·rename_i id es' o len t as1 hx
    split at h
    ·rename_i hes
     cases h
     simp only [holdsO] at hp
     simp only [evalOp, hn, hx, if_pos hp.1, if_pos (show es' = es ∧ n.toNat < len from ⟨hes, hp.2⟩)]
    ·cases h
   ·cases h
 case idxs x i =>
  simp only [xOp] at h
  split at h
  ·split at h
   ·rename_i s n hs hn
    cases h
    simp only [holdsO] at hp
    simp only [evalOp, hs, hn, if_pos hp.1, hp.2]
   ·cases h
  ·cases h
 case load ag a =>
  simp only [xOp] at h
  split at h
  ·rename_i id es i off ha
   exact xQb_sound (fun p q as h hp => xLoad_sound ha h hp) h hp
  ·rename_i cs ha
   refine xQb_sound (fun p q as h hp => ?_) h hp
   simp only [evalOp, ha]
   split at h
   ·split at h
    ·rename_i x hx
     cases h
     rw [hx]
    ·cases h
   ·cases h
  ·rename_i cs ha
   refine xQb_sound (fun p q as h hp => ?_) h hp
   simp only [evalOp, ha]
   split at h
   ·split at h
    ·rename_i x hx
     cases h
     rw [hx]
    ·cases h
   ·split at h
    ·rename_i hn
     cases h
     dsimp only
     rw [if_pos hn]
    ·cases h
  ·cases h
 case fld ag off x =>
  simp only [xOp] at h
  exact xQb_sound (fun p q as h _ => plain_sound h) h hp
 case store ag n a x =>
  simp only [xOp] at h
  exact xStore_sound h hp
 case sl es x lo hi mx =>
  simp only [xOp] at h
  split at h
  ·unfold xSl at h
   split at h
   ·rename_i es' xs t hx
    cases h
    obtain ⟨h1, h2, h3⟩ := hp
    subst h3
    simp only [evalOp, hx, if_pos h1, h2]
   ·rename_i id es' o n t hx
    split at h
    ·rename_i hes
     cases h
     simp only [holdsO] at hp
     simp only [evalOp, hx, if_pos hes, hp]
    ·cases h
   ·cases h
  ·cases h
 case slstr x lo hi =>
  simp only [xOp] at h
  split at h
  ·split at h
   ·rename_i s hs
    cases h
    obtain ⟨h1, h2⟩ := hp
    subst h2
    simp only [evalOp, hs, h1]
   ·cases h
  ·cases h
 case len x =>
  simp only [xOp] at h
  split at h
  ·rename_i es xs t hx
   split at h
   ·cases h
    simp only [holdsO] at hp
    simp only [evalOp, hx, hp]
   ·cases h
  ·rename_i hx
   cases h
   simp only [evalOp, hx]
  ·cases h
 case append es bytes s x =>
  simp only [xOp] at h
  split at h
  ·exact xAppend_sound h hp
  ·exact xAppendO_sound h hp
  ·split at h
   ·rename_i es' xs t hs
    cases h
    simp only [holdsO] at hp
    have hp := elemsX_sound hp
    simp only [elemsP, List.map_nil] at hp
    simp only [evalOp, hp, hs, appendTo, if_true]
   ·cases h
  ·cases h
 case min xs =>
  simp only [xOp] at h
  split at h
  ·rename_i k a r k' n as1 hx
   split at h
   ·cases h
    simp only [holdsO] at hp
    simp only [evalOp, hx, hp]
   ·cases h
  ·cases h
 case max xs =>
  simp only [xOp] at h
  split at h
  ·rename_i k a r k' n as1 hx
   split at h
   ·cases h
    simp only [holdsO] at hp
    simp only [evalOp, hx, hp]
   ·cases h
  ·cases h
 case nilrow es =>
  simp only [xOp] at h
  cases h
  simp [evalOp, dens_append, dens_length, dens, XO.den]
 case alloc ag zero =>
  simp only [xOp] at h
  cases h
  simp [evalOp, dens_append, dens_length, dens, XO.den]
 case box ag es x =>
  simp only [xOp] at h
  split at h
  ·rename_i hc
   cases h
   simp only [evalOp, if_pos hc]
   simp [dens_append, dens_length, dens, XO.den]
  ·cases h
 case buildRow ag es n zero parts =>
  simp only [xOp] at h
  split at h
  ·rename_i xs hx
   cases h
   simp only [evalOp, hx]
   simp [dens_append, dens_length, dens, XO.den]
  ·cases h
 case mkslice ag es bytes zero l c =>
  simp only [xOp] at h
  split at h
  ·split at h
   ·rename_i n m hn hm
    cases h
    obtain ⟨h1, h2, h3, h4⟩ := hp
    subst h3
    simp only [evalOp, hn, hm, if_pos h1, h2, h4]
    simp [dens_append, dens_length, dens, XO.den]
   ·cases h
  ·cases h
 case conv c x =>
  simp only [xOp] at h
  split at h
  ·split at h
   ·cases h
    obtain ⟨h1, h2, h3⟩ := hp
    have h1 := elemsX_sound h1
    simp only [elemsP] at h1
    have h4 : elems (dens sto) 1 (x.ev env) = some (List.map .d ‹List D›) := by
     rw [← h1]
     cases hx : x.ev env with
     | d v => cases v <;> first | rfl | (rw [hx] at h2; cases h2)
     | _ => rfl
    simp only [evalOp, h4, h3]
   ·cases h
  ·split at h
   ·split at h
    ·rename_i s hs
     cases h
     simp only [holdsO] at hp
     simp only [evalOp, hs, hp]
    ·cases h
   ·cases h
  ·split at h
   ·split at h
    ·rename_i n hs
     split at h
     ·cases h
      simp only [holdsO] at hp
      simp only [evalOp, hs, hp]
     ·cases h
    ·cases h
   ·cases h
  ·split at h
   ·rename_i s hs
    cases h
    simp only [evalOp, hs]
   ·cases h
  ·split at h
   ·rename_i n hs
    cases h
    simp only [evalOp, hs]
   ·cases h
 case mkmap =>
  simp only [xOp] at h
  cases h
  simp [evalOp, dens_append, dens_length, dens, XO.den, kvD]
 case lookup ag ks zero x k ok =>
  simp only [xOp] at h
  split at h
  ·rename_i kd hkd
   unfold xLook at h
   split at h
   ·rename_i hx
    cases h
    simp only [evalOp, hkd, hx]
   ·rename_i id hx
    split at h
    ·rename_i kvs z hs
     split at h
     ·cases h
      obtain ⟨i, hp⟩ := hp
      simp only [evalOp, hkd, hx, mapOf_m hs, hp]
     ·cases h
      simp only [holdsO] at hp
      simp only [evalOp, hkd, hx, mapOf_m hs, hp]
     ·cases h
    ·cases h
   ·cases h
  ·cases h
 case mapupd ag ks m k v =>
  simp only [xOp] at h
  split at h
  ·rename_i kd hkd
   unfold xUpd at h
   split at h
   ·rename_i id x hm hv
    split at h
    ·rename_i kvs z hs
     split at h
     ·cases h
      simp only [holdsO] at hp
      rcases updD_spec 0 hp with ⟨i, u, h1, h2⟩ | ⟨h1, h2⟩
      ·rw [Nat.zero_add] at h1
       simp only [evalOp, hkd, hm, mapOf_m hs, h1, hv, dens_set, XO.den, h2]
      ·simp only [evalOp, hkd, hm, mapOf_m hs, h1, hv, dens_set, XO.den, h2]
     ·cases h
    ·cases h
   ·cases h
  ·cases h
 case mapent ag ks zero m k =>
  simp only [xOp] at h
  split at h
  ·rename_i kd hkd
   unfold xEnt at h
   split at h
   ·rename_i id hm
    split at h
    ·rename_i kvs hs
     split at h
     ·cases h
      rcases hp with ⟨h1, h2⟩ | ⟨h1, h2, h3, h4⟩
      ·subst h2
       simp only [evalOp, hkd, hm, mapOf_m hs, h1, dens_set, XO.den, kvD_set]
      ·subst h4
       subst h2
       subst h3
       simp only [evalOp, hkd, hm, mapOf_m hs, h1, dens_set, XO.den, kvD_snoc, kvD_length]
     ·cases h
    ·cases h
   ·cases h
  ·cases h
 case entst m s v =>
  simp only [xOp] at h
  split at h
  ·rename_i n hn
   unfold xEntst at h
   split at h
   ·rename_i id x hm hv
    split at h
    ·rename_i kvs hs
     split at h
     ·cases h
      obtain ⟨h0, kd, h1, h2⟩ := hp
      subst h2
      have h3 : (kvD kvs)[n.toNat]? = some (kd.1, .d kd.2) := by
       simp only [kvD, List.getElem?_map, h1, Option.map_some]
      simp only [evalOp, hm, mapOf_m hs, hn, if_pos h0, h3, hv, dens_set, XO.den]
      simp only [kvD, List.map_set]
     ·cases h
    ·cases h
   ·cases h
  ·cases h
 case range x =>
  simp only [xOp] at h
  split at h
  ·rename_i s hs
   cases h
   simp [evalOp, hs, dens_append, dens_length, dens, XO.den]
  ·cases h
 case next x =>
  simp only [xOp] at h
  split at h
  ·rename_i id hx
   split at h
   ·rename_i s p hs
    have hg : (dens sto)[id]? = some (.iter s p) := by rw [dens_get, hs]; rfl
    split at h
    ·cases h
     obtain ⟨h1, h2⟩ := hp
     simp only [evalOp, hx, hg, if_pos h1, h2, dens_set, XO.den]
    ·cases h
     simp only [holdsO] at hp
     simp only [evalOp, hx, hg, if_neg hp]
    ·cases h
   ·cases h
  ·cases h
 case assert t zero x ok =>
  simp only [xOp] at h
  split at h
  ·rename_i hok
   split at h
   ·rename_i hx
    cases h
    simp only [evalOp, hok, if_true, hx]
   ·rename_i t' v hx
    split at h
    ·rename_i ht
     cases h
     simp only [evalOp, hok, if_true, hx, if_pos ht]
    ·rename_i ht
     cases h
     simp only [evalOp, hok, if_true, hx, if_neg ht]
   ·cases h
  ·cases h
 case idxa ag n es x i =>
  simp only [xOp] at h
  split at h
  ·rename_i j as1
   split at h
   ·rename_i m hm
    split at h
    ·rename_i hj
     split at h
     ·rename_i v hr
      split at h
      ·rename_i hx
       cases h
       simp only [holdsO] at hp
       subst hp
       simp only [evalOp, hm]
       rw [if_pos ⟨by omega, by omega⟩, Int.toNat_natCast]
       rw [hx] at hr
       simp only [hx, hr]
      ·rename_i hx
       cases h
       simp only [holdsO] at hp
       subst hp
       simp only [evalOp, hm]
       rw [if_pos ⟨by omega, by omega⟩, Int.toNat_natCast]
       rw [hx] at hr
       simp only [hx, hr]
      ·cases h
     ·cases h
    ·cases h
   ·cases h
  ·cases h
 case iaddra n es x i =>
  simp only [xOp] at h
  split at h
  ·rename_i j as1
   split at h
   ·rename_i m hm
    split at h
    ·rename_i hj
     split at h
     ·rename_i id es' k off hx
      cases h
      simp only [holdsO] at hp
      subst hp
      simp only [evalOp, hm]
      rw [if_pos ⟨by omega, by omega⟩, Int.toNat_natCast]
      simp only [hx]
     ·rename_i cs hx
      split at h
      ·rename_i hl
       cases h
       simp only [holdsO] at hp
       subst hp
       simp only [evalOp, hm]
       rw [if_pos ⟨by omega, by omega⟩, Int.toNat_natCast]
       simp only [hx, if_pos hl]
      ·cases h
     ·cases h
    ·cases h
   ·cases h
  ·cases h
 all_goals (simp only [xOp] at h; exact plain_sound h)
end Go.Proofs.YtjnfkifdgojdaaaGreat.V

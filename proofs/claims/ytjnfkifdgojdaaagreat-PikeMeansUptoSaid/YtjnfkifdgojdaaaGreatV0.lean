/- The machine's code as a plain evaluator over values: definitions alone. -/
import GoSem.Step
namespace Go.Proofs.YtjnfkifdgojdaaaGreat.V
open Go
set_option linter.unusedVariables false
set_option linter.unusedSimpArgs false
set_option linter.unusedSectionVars false
inductive D where
 | bool (b : Bool)
 | int (k : IntKind) (n : Int)
 | str (s : ByteArray)
 | sl (es : Nat) (xs : List D) (tight : Bool)
 | ptr (cells : List D)
 | nilp
 | nilf
 | nili
 | nilm
 | agg (cells : List D)
 | iface (t : TypeId) (v : D)
 | func (fn : Fn) (first cap : List D)
inductive AV where
 | d (x : D)
 | row (id es lo len : Nat) (tight : Bool)
 | ptr (id es i off : Nat)
 | map (id : Nat)
 | iter (id : Nat)
 | stamp (id i : Nat)
 | agg (cells : List AV)
 | tup (xs : List AV)
 | func (fn : Fn) (first cap : List AV)
 | iface (t : TypeId) (v : AV)
 | box (cs : List AV)
 | undef
inductive Obj where
 | row (es : Nat) (xs : List AV) (frz : Bool)
 | mp (kvs : List (D × AV)) (z : Bool)
 | iter (s : ByteArray) (pos : Nat)
 | dead
abbrev Env := List (Nat × AV)
structure St where
 env : Env
 sto : List Obj
inductive Opd where
 | t (n : Nat)
 | c (x : D)
inductive CK where
 | toInt (k : IntKind)
 | same
 | bytesToStr
 | strToBytes
 | intToStr
inductive SK where
 | bool
 | int
 | str
inductive NK where
 | ptr
 | iface
 | func
 | slice
 | map
inductive VOp where
 | mov (x : Opd)
 | nilrow (es : Nat)
 | pick (c a b : Opd)
 | alloc (ag : Bool) (zero : List D)
 | box (ag : Bool) (es : Nat) (x : Opd)
 | build (zero : List D) (parts : List (Nat × Nat × Opd))
 | buildRow (ag : Bool) (es n : Nat) (zero : List D) (parts : List (Nat × Opd))
 | load (ag : Option Nat) (a : Opd)
 | store (ag : Bool) (es : Nat) (a x : Opd)
 | nilck (x : Opd)
 | bin (op : BinOp) (x y : Opd)
 | isnil (k : NK) (neg : Bool) (x : Opd)
 | eqb (neg : Bool) (x y : Opd)
 | eqs (neg : Bool) (ks : List SK) (x y : Opd)
 | un (op : UnOp) (x : Opd)
 | conv (c : CK) (x : Opd)
 | mkiface (t : TypeId) (x : Opd)
 | mkfunc (fn : Fn) (first cap : List Opd)
 | mkmap
 | mkslice (ag : Bool) (es bytes : Nat) (zero : List D) (l c : Opd)
 | slstr (x : Opd) (lo hi : Option Opd)
 | sl (es : Nat) (x : Opd) (lo hi mx : Option Opd)
 | slarr (es n : Nat) (x : Opd) (lo hi mx : Option Opd)
 | faddr (off : Nat) (x : Opd)
 | fld (ag : Option Nat) (off : Nat) (x : Opd)
 | iaddr (es : Nat) (x i : Opd)
 | iaddra (n es : Nat) (x i : Opd)
 | idxs (x i : Opd)
 | idxa (ag : Option Nat) (n es : Nat) (x i : Opd)
 | lookup (ag : Bool) (ks : List SK) (zero : D) (x k : Opd) (ok : Bool)
 | mapupd (ag : Bool) (ks : List SK) (m k v : Opd)
 | mapent (ag : Bool) (ks : List SK) (zero : D) (m k : Opd)
 | entst (m s v : Opd)
 | range (x : Opd)
 | next (x : Opd)
 | assert (t : TypeId) (zero : D) (x : Opd) (ok : Bool)
 | extract (x : Opd) (i : Nat)
 | len (x : Opd)
 | lens (x : Opd)
 | cap (x : Opd)
 | append (es bytes : Nat) (s x : Opd)
 | copy (es : Nat) (dst src : Opd)
 | min (xs : List Opd)
 | max (xs : List Opd)
 | delete (ag : Bool) (ks : List SK) (m k : Opd)
 | panic (x : Opd)
 | call (f : Opd) (args : List Opd)
structure VOper where
 dst : Option Nat
 op : VOp
 guard : Option (Nat × Bool)
 apart : List Nat
inductive VCode where
 | skip
 | reg (draw : Bool) (ops : List VOper) (keep : List Nat)
 | seq (a b : VCode)
 | cond (c : Opd) (a b : VCode)
 | block (id : Nat) (c : VCode)
 | loop (keep : List Nat) (c : VCode)
 | exit (id : Nat)
 | ret
 | virt (t off es : Nat)
 | frz (t : Nat)
 | stuck
inductive RV where
 | t (n : Nat)
 | c (n : Nat) (ag : Option Nat)
structure VFn where
 np : Nat
 nt : Nat
 code : VCode
 res : List RV
 frz : Bool
 byref : List Nat
def look (n : Nat) : Env → AV
 | [] => .undef
 | (m, v) :: r => if m = n then v else look n r
def Opd.ev (env : Env) : Opd → AV
 | .t n => look n env
 | .c x => .d x
def put (dst : Option Nat) (v : AV) (env : Env) : Env :=
 match dst with
 | some n => (n, v) :: env
 | none => env
def restrict : List Nat → Env → Env
 | [], _ => []
 | n :: r, env => (n, look n env) :: restrict r env
def AV.solid : AV → Bool
 | .undef => false
 | .tup _ => false
 | _ => true
def D.cells : D → List D
 | .agg cs => cs
 | x => [x]
def AV.cells : AV → List AV
 | .d (.agg cs) => cs.map .d
 | .agg cs => cs
 | v => [v]
def allD : List AV → Option (List D)
 | [] => some []
 | .d x :: r => match allD r with
  | some xs => some (x :: xs)
  | none => none
 | _ :: _ => none
def mkAgg (cs : List AV) : AV := match allD cs with
 | some xs => .d (.agg xs)
 | none => .agg cs
def mk1 : List AV → AV
 | [.row a b c d e] => .row a b c d e
 | cs => mkAgg cs
def mkFunc (fn : Fn) (first cap : List AV) : AV := match allD first, allD cap with
 | some a, some b => .d (.func fn a b)
 | _, _ => .func fn first cap
def mkIface (t : TypeId) (v : AV) : AV := match v with
 | .d x => .d (.iface t x)
 | v => .iface t v
def setMany : List AV → Nat → List AV → List AV
 | cs, _, [] => cs
 | cs, i, v :: r => setMany (cs.set i v) (i + 1) r
def renId (m : List Nat) (id : Nat) : Option Nat := m.idxOf? id
mutual
def renAV (f : Nat → Option Nat) : AV → AV
 | .d x => .d x
 | .row id es lo len t => match f id with
  | some j => .row j es lo len t
  | none => .undef
 | .ptr id es i off => match f id with
  | some j => .ptr j es i off
  | none => .undef
 | .map id => match f id with
  | some j => .map j
  | none => .undef
 | .iter id => match f id with
  | some j => .iter j
  | none => .undef
 | .stamp id i => match f id with
  | some j => .stamp j i
  | none => .undef
 | .agg cs => .agg (renL f cs)
 | .tup cs => .tup (renL f cs)
 | .func fn a b => .func fn (renL f a) (renL f b)
 | .iface t v => .iface t (renAV f v)
 | .box cs => .box (renL f cs)
 | .undef => .undef
def renL (f : Nat → Option Nat) : List AV → List AV
 | [] => []
 | v :: r => renAV f v :: renL f r
end
def renKV (f : Nat → Option Nat) : List (D × AV) → List (D × AV)
 | [] => []
 | (k, v) :: r => (k, renAV f v) :: renKV f r
def renObj (f : Nat → Option Nat) : Obj → Obj
 | .row es xs z => .row es (renL f xs) z
 | .mp kvs z => .mp (renKV f kvs) z
 | .iter s p => .iter s p
 | .dead => .dead
def renEnv (f : Nat → Option Nat) : Env → Env
 | [] => []
 | (n, v) :: r => (n, renAV f v) :: renEnv f r
mutual
def refsAV : AV → List Nat
 | .d _ => []
 | .row id _ _ _ _ => [id]
 | .ptr id _ _ _ => [id]
 | .map id => [id]
 | .iter id => [id]
 | .stamp id _ => [id]
 | .agg cs => refsL cs
 | .tup cs => refsL cs
 | .func _ a b => refsL a ++ refsL b
 | .iface _ v => refsAV v
 | .box cs => refsL cs
 | .undef => []
def refsL : List AV → List Nat
 | [] => []
 | v :: r => refsAV v ++ refsL r
end
def refsKV : List (D × AV) → List Nat
 | [] => []
 | (_, v) :: r => refsAV v ++ refsKV r
def refsR : List AV → List Nat
 | [] => []
 | .func _ [] [.box _, .d _] :: r => refsR r
 | v :: r => refsAV v ++ refsR r
def refsObj : Obj → List Nat
 | .row _ xs _ => refsR xs
 | .mp kvs _ => refsKV kvs
 | .iter _ _ => []
 | .dead => []
def refsEnv : Env → List Nat
 | [] => []
 | (_, v) :: r => refsAV v ++ refsEnv r
def refsObjs : List Obj → List Nat
 | [] => []
 | o :: r => refsObj o ++ refsObjs r
def reach (sto : List Obj) : Nat → List Nat → List Nat → List Nat
 | 0, _, acc => acc
 | _ + 1, [], acc => acc
 | f + 1, id :: w, acc =>
  if acc.contains id then reach sto f w acc
  else match sto[id]? with
   | some o => reach sto f (refsObj o ++ w) (acc ++ [id])
   | none => reach sto f w acc
def pickS (f : Nat → Option Nat) (sto : List Obj) : List Nat → List Obj
 | [] => []
 | id :: r => (match sto[id]? with
  | some o => renObj f o
  | none => .dead) :: pickS f sto r
def fuelR : Nat := 200
def gcSt (pin : Nat) (keep : List Nat) (st : St) : St :=
 let env := restrict keep st.env
 let m := reach st.sto fuelR (refsEnv env ++ refsObjs (st.sto.take pin)) (List.range pin)
 ⟨renEnv (renId m) env, pickS (renId m) st.sto m⟩
mutual
def toD (sto : List Obj) : Nat → AV → Option (D × List Nat)
 | 0, _ => none
 | f + 1, v => match v with
  | .d x => some (x, [])
  | .row id es lo len t => match sto[id]? with
   | some (.row es' xs _) => if es' = es ∧ lo + len ≤ xs.length then
     (match toDs sto f ((xs.drop lo).take len) with
      | some (ys, ids) => some (.sl es ys t, id :: ids)
      | none => none) else none
   | _ => none
  | .ptr id es i off => match sto[id]? with
   | some (.row es' xs _) => if es' = es then (match xs[i]? with
     | some e => if off ≤ e.cells.length then (match toDs sto f (e.cells.drop off) with
       | some (ys, ids) => some (.ptr ys, id :: ids)
       | none => none) else none
     | none => none) else none
   | _ => none
  | .agg cs => match toDs sto f cs with
   | some (ys, ids) => some (.agg ys, ids)
   | none => none
  | .func fn a b => match toDs sto f a, toDs sto f b with
   | some (xs, i), some (ys, j) => some (.func fn xs ys, i ++ j)
   | _, _ => none
  | .iface t v => match toD sto f v with
   | some (x, ids) => some (.iface t x, ids)
   | none => none
  | _ => none
def toDs (sto : List Obj) : Nat → List AV → Option (List D × List Nat)
 | 0, _ => none
 | f + 1, vs => match allD vs with
  | some xs => some (xs, [])
  | none => toDl sto f vs
def toDl (sto : List Obj) : Nat → List AV → Option (List D × List Nat)
 | 0, _ => none
 | _ + 1, [] => some ([], [])
 | f + 1, v :: r => match toD sto f v, toDl sto f r with
  | some (x, i), some (xs, j) => some (x :: xs, i ++ j)
  | _, _ => none
end
def fuelD : Nat := 60
def freezeAt (sto : List Obj) (id : Nat) : List Obj := match sto[id]? with
 | some (.row es xs _) => sto.set id (.row es xs true)
 | _ => sto
def freezeAll : List Obj → List Nat → List Obj
 | sto, [] => sto
 | sto, id :: r => freezeAll (freezeAt sto id) r
def snap (sto : List Obj) (v : AV) : Option (AV × List Obj) := match v with
 | .d x => some (.d x, sto)
 | v => match toD sto fuelD v with
  | some (x, ids) => some (.d x, freezeAll sto ids)
  | none => none
def AV.isPtr : AV → Bool
 | .ptr _ _ _ _ => true
 | _ => false
def boxAt (sto : List Obj) : AV → Option (AV × List Obj)
 | .ptr id es 0 0 => match sto[id]? with
  | some (.row es' [e] _) => if es' = es ∧ e.isPtr = true then some (.box e.cells, freezeAt sto id) else none
  | _ => none
 | _ => none
def frzAV (sto : List Obj) (v : AV) : Option (AV × List Obj) := match boxAt sto v with
 | some r => some r
 | none => snap sto v
def intOp (op : BinOp) (k : IntKind) (x y : Int) : Option D :=
 match op with
 | .add => some (.int k (k.wrap (x + y)))
 | .sub => some (.int k (k.wrap (x - y)))
 | .mul => some (.int k (k.wrap (x * y)))
 | .quo => if y = 0 then none else some (.int k (k.wrap (x.tdiv y)))
 | .rem => if y = 0 then none else some (.int k (x.tmod y))
 | .and => some (.int k (k.wrap (BitVec.ofInt k.bits x &&& BitVec.ofInt k.bits y).toNat))
 | .or => some (.int k (k.wrap (BitVec.ofInt k.bits x ||| BitVec.ofInt k.bits y).toNat))
 | .xor => some (.int k (k.wrap (BitVec.ofInt k.bits x ^^^ BitVec.ofInt k.bits y).toNat))
 | .andNot => some (.int k (k.wrap (BitVec.ofInt k.bits x &&& ~~~ BitVec.ofInt k.bits y).toNat))
 | .eql => some (.bool (x == y))
 | .neq => some (.bool (x != y))
 | .lss => some (.bool (x < y))
 | .leq => some (.bool (x ≤ y))
 | .gtr => some (.bool (x > y))
 | .geq => some (.bool (x ≥ y))
 | _ => none
def strOp (op : BinOp) (x y : ByteArray) : Option D :=
 match op with
 | .add => if x.size + y.size ≤ 9223372036854775807 then some (.str (x ++ y)) else none
 | .eql => some (.bool (x.toList == y.toList))
 | .neq => some (.bool (!(x.toList == y.toList)))
 | .lss => some (.bool (Op.bytesLess x.toList y.toList))
 | .leq => some (.bool (Op.bytesLess x.toList y.toList || x.toList == y.toList))
 | .gtr => some (.bool (!(Op.bytesLess x.toList y.toList || x.toList == y.toList)))
 | .geq => some (.bool (!Op.bytesLess x.toList y.toList))
 | _ => none
def binD (op : BinOp) (x y : D) : Option D :=
 match x, y with
 | .int k a, .int k' b =>
  if op = .shl then (if b < 0 then none else some (.int k (k.wrap (a * 2 ^ (Nat.min b.toNat k.bits)))))
  else if op = .shr then (if b < 0 then none else some (.int k (a.fdiv (2 ^ (Nat.min b.toNat k.bits)))))
  else if k = k' then intOp op k a b else none
 | .str a, .str b => strOp op a b
 | _, _ => none
def unD (op : UnOp) (x : D) : Option D :=
 match op, x with
 | .neg, .int k n => some (.int k (k.wrap (0 - n)))
 | .xor, .int k n => some (.int k (k.wrap (BitVec.ofInt k.bits (if k.signed then -1 else k.max) ^^^ BitVec.ofInt k.bits n).toNat))
 | .not, .bool b => some (.bool (!b))
 | _, _ => none
def eqK : List SK → List D → List D → Option Bool
 | [], [], [] => some true
 | .int :: ks, .int k a :: r, .int k' b :: q => if k = k' then (if a = b then eqK ks r q else some false) else none
 | .bool :: ks, .bool a :: r, .bool b :: q => if a = b then eqK ks r q else some false
 | .str :: ks, .str a :: r, .str b :: q => if a = b then eqK ks r q else some false
 | _, _, _ => none
def isNil : NK → AV → Option Bool
 | .ptr, .d .nilp => some true
 | .func, .d .nilf => some true
 | .iface, .d .nili => some true
 | .map, .d .nilm => some true
 | .ptr, .d (.ptr _) => some false
 | .iface, .d (.iface _ _) => some false
 | .func, .d (.func _ _ _) => some false
 | .slice, .d (.sl _ (_ :: _) _) => some false
 | .ptr, .ptr _ _ _ _ => some false
 | .iface, .iface _ _ => some false
 | .func, .func _ _ _ => some false
 | .map, .map _ => some false
 | .slice, .row _ _ _ len _ => if 0 < len then some false else none
 | _, _ => none
def intOf : AV → Option Int
 | .d (.int _ n) => some n
 | _ => none
def bounds (len : Nat) (capKnown : Option Nat) (lo hi mx : Option AV) : Option (Nat × Nat × Bool) :=
 let h? : Option Nat := match hi with
  | none => some len
  | some v => match intOf v with
   | some n => if 0 ≤ n then some n.toNat else none
   | none => none
 let l? : Option Nat := match lo with
  | none => some 0
  | some v => match intOf v with
   | some n => if 0 ≤ n then some n.toNat else none
   | none => none
 match l?, h? with
 | some l, some h => if l ≤ h ∧ h ≤ len then (match mx with
   | none => some (l, h, capKnown == some h)
   | some v => match intOf v with
    | some n => if n = (h : Int) then some (l, h, true) else none
    | none => none) else none
 | _, _ => none
def minmax (lt : Bool) : Int → List AV → Option Int
 | a, [] => some a
 | a, .d (.int _ b) :: r => minmax lt (if lt then (if b < a then b else a) else (if b > a then b else a)) r
 | _, _ :: _ => none
def keyEq : Bool → List SK → D → D → Option Bool
 | false, ks, x, y => eqK ks [x] [y]
 | true, ks, .agg a, .agg b => eqK ks a b
 | _, _, _, _ => none
def findKV (ag : Bool) (ks : List SK) (k : D) : List (D × AV) → Nat → Option (Option (Nat × AV))
 | [], _ => some none
 | (x, v) :: r, i => match keyEq ag ks k x with
  | some true => some (some (i, v))
  | some false => findKV ag ks k r (i + 1)
  | none => none
def keyShape : Bool → List SK → D → Bool
 | false, _, _ => true
 | true, ks, .agg a => decide (ks.length ≤ a.length)
 | true, _, _ => false
def lookV (ok : Bool) (v : AV) (b : Bool) : AV := if ok = true then .tup [v, .d (.bool b)] else v
def kdOf (ag : Bool) (ks : List SK) : AV → Option D
 | .d x => if keyShape ag ks x = true then some x else none
 | _ => none
def mapOf (sto : List Obj) : AV → Option (Nat × List (D × AV) × Bool)
 | .map id => match sto[id]? with
  | some (.mp kvs z) => some (id, kvs, z)
  | _ => none
 | _ => none
def optEv (env : Env) : Option Opd → Option AV
 | none => none
 | some x => some (x.ev env)
def evs (env : Env) : List Opd → List AV
 | [] => []
 | x :: r => x.ev env :: evs env r
def buildCells (env : Env) : List AV → List (Nat × Nat × Opd) → Option (List AV)
 | cs, [] => some cs
 | cs, (off, n, x) :: r =>
  let vs := (x.ev env).cells
  if vs.length = n ∧ off + n ≤ cs.length ∧ (x.ev env).solid = true then buildCells env (setMany cs off vs) r else none
def fillRow (env : Env) (es : Nat) : List AV → List (Nat × Opd) → Option (List AV)
 | xs, [] => some xs
 | xs, (i, x) :: r =>
  let v := x.ev env
  if v.cells.length = es ∧ i < xs.length ∧ v.solid = true then fillRow env es (xs.set i v) r else none
def elemOf (ag : Bool) (zero : List D) : AV := if ag then .d (.agg zero) else match zero with
 | [x] => .d x
 | _ => .undef
def AV.isAgg : AV → Bool
 | .d (.agg _) => true
 | .agg _ => true
 | _ => false
def readCells (ag : Option Nat) (off : Nat) (e : AV) : Option AV :=
 match ag with
 | none => e.cells[off]?
 | some n => if off = 0 ∧ n = e.cells.length ∧ e.isAgg = true then some e else
  if off + n ≤ e.cells.length then some (mkAgg ((e.cells.drop off).take n)) else none
def writeCells (off : Nat) (e x : AV) : Option AV :=
 if off = 0 ∧ x.cells.length = e.cells.length then some x else
 if off + x.cells.length ≤ e.cells.length then some (mkAgg (setMany e.cells off x.cells)) else none
def bytesD (s : ByteArray) : List D := s.data.toList.map fun b => .int .u8 b.toNat
def unbytes : List AV → Option (List UInt8)
 | [] => some []
 | .d (.int .u8 n) :: r => match unbytes r with
  | some bs => some (UInt8.ofNat n.toNat :: bs)
  | none => none
 | _ :: _ => none
def elems (sto : List Obj) (es : Nat) : AV → Option (List AV)
 | .d (.sl es' xs _) => if es' = es ∨ xs = [] then some (xs.map .d) else none
 | .row id es' lo len _ => match sto[id]? with
  | some (.row es'' xs _) => if es' = es ∧ es'' = es ∧ lo + len ≤ xs.length then some ((xs.drop lo).take len) else none
  | _ => none
 | _ => none
def elemsS (sto : List Obj) (es : Nat) : AV → Option (List AV)
 | .d (.str s) => if es = 1 then some ((bytesD s).map .d) else none
 | v => elems sto es v
def mostBytes : Nat := 140737488355328
def appendTo (sto : List Obj) (es bytes : Nat) (new : List AV) : AV → Option (AV × List Obj)
 | .d (.sl es' xs t) =>
  if new = [] then some (.d (.sl es' xs t), sto)
  else if t = true ∧ (es' = es ∨ xs = []) ∧ (xs.length + new.length) * bytes ≤ mostBytes then
   some (.row sto.length es 0 (xs.length + new.length) false, sto ++ [.row es (xs.map .d ++ new) false])
  else none
 | .row id es' lo n t => match sto[id]? with
  | some (.row es'' xs false) =>
   if es' = es ∧ es'' = es ∧ lo = 0 ∧ n ≤ xs.length ∧ (n + new.length) * bytes ≤ mostBytes then
    some (.row sto.length es 0 (n + new.length) false, sto.set id .dead ++ [.row es (xs.take n ++ new) false])
   else none
  | _ => none
 | _ => none
def evalOp (env : Env) (sto : List Obj) : VOp → Option (AV × List Obj)
 | .mov x => some (x.ev env, sto)
 | .nilrow es => some (.row sto.length es 0 0 true, sto ++ [.row es [] false])
 | .pick c a b => match c.ev env with
  | .d (.bool t) => match a.ev env, b.ev env with
   | .d (.bool x), .d (.bool y) => some (.d (.bool (if t then x else y)), sto)
   | u, v => some (if t then u else v, sto)
  | _ => none
 | .alloc ag zero => some (.ptr sto.length zero.length 0 0, sto ++ [.row zero.length [elemOf ag zero] false])
 | .box _ es x => if (x.ev env).cells.length = es ∧ (x.ev env).solid = true then some (.ptr sto.length es 0 0, sto ++ [.row es [x.ev env] false]) else none
 | .build zero parts => match buildCells env (zero.map .d) parts with
  | some cs => some (mkAgg cs, sto)
  | none => none
 | .buildRow ag es n zero parts => match fillRow env es (List.replicate n (elemOf ag zero)) parts with
  | some xs => some (.row sto.length es 0 n true, sto ++ [.row es xs false])
  | none => none
 | .load ag a => match a.ev env with
  | .d (.ptr cs) => (match ag with
   | none => match cs[0]? with
    | some x => some (.d x, sto)
    | none => none
   | some n => if n ≤ cs.length then some (.d (.agg (cs.take n)), sto) else none)
  | .box cs => (match ag with
   | none => match cs[0]? with
    | some x => some (x, sto)
    | none => none
   | some _ => none)
  | .ptr id es i off => (match sto[id]? with
   | some (.row es' xs _) => if es' = es then (match xs[i]? with
    | some e => (match readCells ag off e with
     | some v => some (v, sto)
     | none => none)
    | none => none) else none
   | _ => none)
  | _ => none
 | .store _ n a x => match a.ev env with
  | .ptr id es i off => (match sto[id]? with
   | some (.row es' xs false) => if es' = es ∧ (x.ev env).cells.length = n ∧ (x.ev env).solid = true then (match xs[i]? with
    | some e => (match writeCells off e (x.ev env) with
     | some e' => some (.tup [], sto.set id (.row es' (xs.set i e') false))
     | none => none)
    | none => none) else none
   | _ => none)
  | _ => none
 | .nilck x => match x.ev env with
  | .ptr id es i off => some (.ptr id es i off, sto)
  | .d (.ptr cs) => some (.d (.ptr cs), sto)
  | .d (.func (.func f) a b) => some (.d (.func (.func f) a b), sto)
  | .func (.func f) a b => some (.func (.func f) a b, sto)
  | _ => none
 | .bin op x y => match x.ev env, y.ev env with
  | .d a, .d b => (match binD op a b with
   | some z => some (.d z, sto)
   | none => none)
  | _, _ => none
 | .isnil k neg x => match isNil k (x.ev env) with
  | some b => some (.d (.bool (if neg then !b else b)), sto)
  | none => none
 | .eqb neg x y => match x.ev env, y.ev env with
  | .d (.bool a), .d (.bool b) => some (.d (.bool (if neg then !(a == b) else a == b)), sto)
  | _, _ => none
 | .eqs neg ks x y => match x.ev env, y.ev env with
  | .d (.agg a), .d (.agg b) => (match eqK ks a b with
   | some t => some (.d (.bool (if neg then !t else t)), sto)
   | none => none)
  | _, _ => none
 | .un op x => match x.ev env with
  | .d a => (match unD op a with
   | some z => some (.d z, sto)
   | none => none)
  | _ => none
 | .conv c x => match c with
  | .toInt k => (match x.ev env with
   | .d (.int _ n) => some (.d (.int k (k.wrap n)), sto)
   | _ => none)
  | .same => (match x.ev env with
   | .d (.str s) => some (.d (.str s), sto)
   | _ => none)
  | .bytesToStr => (match elems sto 1 (x.ev env) with
   | some vs => (match unbytes vs with
    | some bs => some (.d (.str ⟨bs.toArray⟩), sto)
    | none => none)
   | none => none)
  | .strToBytes => (match x.ev env with
   | .d (.str s) => some (.d (.sl 1 (bytesD s) false), sto)
   | _ => none)
  | .intToStr => (match x.ev env with
   | .d (.int _ n) => some (.d (.str (Utf8.encode n)), sto)
   | _ => none)
 | .mkiface t x => some (mkIface t (x.ev env), sto)
 | .mkfunc fn first cap => some (mkFunc fn (evs env first) (evs env cap), sto)
 | .mkmap => some (.map sto.length, sto ++ [.mp [] false])
 | .mkslice ag es bytes zero l c => match intOf (l.ev env), intOf (c.ev env) with
  | some n, some m => if 0 ≤ n ∧ n ≤ m ∧ m * bytes ≤ 281474976710656 ∧ 0 < bytes ∧ m ≤ 9223372036854775807 then
    some (.row sto.length es 0 n.toNat (n == m), sto ++ [.row es (List.replicate n.toNat (elemOf ag zero)) false]) else none
  | _, _ => none
 | .slstr x lo hi => match x.ev env with
  | .d (.str s) => (match bounds s.size none (optEv env lo) (optEv env hi) none with
   | some (l, h, _) => some (.d (.str (s.extract l h)), sto)
   | none => none)
  | _ => none
 | .sl es x lo hi mx => match x.ev env with
  | .d (.sl es' xs t) => if es' = es ∨ xs = [] then (match bounds xs.length (if t then some xs.length else none) (optEv env lo) (optEv env hi) (optEv env mx) with
   | some (l, h, t') => some (.d (.sl es ((xs.drop l).take (h - l)) t'), sto)
   | none => none) else none
  | .row id es' o n t => if es' = es then (match bounds n (if t then some n else none) (optEv env lo) (optEv env hi) (optEv env mx) with
   | some (l, h, t') => some (.row id es (o + l) (h - l) t', sto)
   | none => none) else none
  | _ => none
 | .faddr off x => match x.ev env with
  | .ptr id es i o => some (.ptr id es i (o + off), sto)
  | .d (.ptr cs) => if off ≤ cs.length then some (.d (.ptr (cs.drop off)), sto) else none
  | _ => none
 | .fld ag off x => match readCells ag off (x.ev env) with
  | some v => (match x.ev env with
   | .d (.agg _) => some (v, sto)
   | .agg _ => some (v, sto)
   | _ => none)
  | none => none
 | .iaddr es x i => match intOf (i.ev env) with
  | some n => if 0 ≤ n then (match x.ev env with
   | .d (.sl es' xs _) => if es' = es then (match xs[n.toNat]? with
    | some e => some (.d (.ptr e.cells), sto)
    | none => none) else none
   | .row id es' o len _ => if es' = es ∧ n.toNat < len then some (.ptr id es (o + n.toNat) 0, sto) else none
   | _ => none) else none
  | none => none
 | .iaddra n es x i => match intOf (i.ev env) with
  | some m => if 0 ≤ m ∧ m < n then (match x.ev env with
   | .ptr id es' k off => some (.ptr id es' k (off + m.toNat * es), sto)
   | .d (.ptr cs) => if m.toNat * es ≤ cs.length then some (.d (.ptr (cs.drop (m.toNat * es))), sto) else none
   | _ => none) else none
  | none => none
 | .idxa ag n es x i => match intOf (i.ev env) with
  | some m => if 0 ≤ m ∧ m < n then (match readCells ag (m.toNat * es) (x.ev env) with
   | some v => (match x.ev env with
    | .d (.agg _) => some (v, sto)
    | .agg _ => some (v, sto)
    | _ => none)
   | none => none) else none
  | none => none
 | .lookup ag ks zero x k ok => match kdOf ag ks (k.ev env) with
  | some kd => (match x.ev env with
   | .d .nilm => some (lookV ok (.d zero) false, sto)
   | m => (match mapOf sto m with
    | some (_, kvs, _) => (match findKV ag ks kd kvs 0 with
     | some (some (_, v)) => some (lookV ok v true, sto)
     | some none => some (lookV ok (.d zero) false, sto)
     | none => none)
    | none => none))
  | none => none
 | .mapupd ag ks m k v => match kdOf ag ks (k.ev env), mapOf sto (m.ev env) with
  | some kd, some (id, kvs, z) => (match findKV ag ks kd kvs 0 with
   | some (some (i, _)) => some (.tup [], sto.set id (.mp (kvs.set i (kd, v.ev env)) z))
   | some none => some (.tup [], sto.set id (.mp (kvs ++ [(kd, v.ev env)]) z))
   | none => none)
  | _, _ => none
 | .mapent ag ks zero m k => match kdOf ag ks (k.ev env), mapOf sto (m.ev env) with
  | some kd, some (id, kvs, false) => (match findKV ag ks kd kvs 0 with
   | some (some (i, v)) => some (.tup [v, .d (.int .i64 i)], sto.set id (.mp (kvs.set i (kd, v)) false))
   | some none => some (.tup [.d zero, .d (.int .i64 kvs.length)], sto.set id (.mp (kvs ++ [(kd, .d zero)]) false))
   | none => none)
  | _, _ => none
 | .entst m s v => match mapOf sto (m.ev env), intOf (s.ev env) with
  | some (id, kvs, false), some n => if 0 ≤ n then (match kvs[n.toNat]? with
   | some (kd, _) => some (.tup [], sto.set id (.mp (kvs.set n.toNat (kd, v.ev env)) false))
   | none => none) else none
  | _, _ => none
 | .delete ag ks m k => match kdOf ag ks (k.ev env), mapOf sto (m.ev env) with
  | some kd, some (id, kvs, z) => (match findKV ag ks kd kvs 0 with
   | some (some (i, _)) => some (.tup [], sto.set id (.mp (kvs.eraseIdx i) true))
   | some none => some (.tup [], sto.set id (.mp kvs z))
   | none => none)
  | _, _ => none
 | .idxs x i => match x.ev env, intOf (i.ev env) with
  | .d (.str s), some n => if 0 ≤ n then (match s[n.toNat]? with
   | some b => some (.d (.int .u8 b.toNat), sto)
   | none => none) else none
  | _, _ => none
 | .extract x i => match x.ev env with
  | .tup vs => (match vs[i]? with
   | some v => some (v, sto)
   | none => none)
  | _ => none
 | .lens x => match x.ev env with
  | .d (.str s) => some (.d (.int .i64 s.size), sto)
  | _ => none
 | .range x => match x.ev env with
  | .d (.str s) => some (.iter sto.length, sto ++ [.iter s 0])
  | _ => none
 | .next x => match x.ev env with
  | .iter id => (match sto[id]? with
   | some (.iter s p) => if p < s.size then
     some (.tup [.d (.bool true), .d (.int .i64 p), .d (.int .i32 (Utf8.decode s p).1)], sto.set id (.iter s (p + (Utf8.decode s p).2)))
    else some (.tup [.d (.bool false)], sto)
   | _ => none)
  | _ => none
 | .assert t zero x ok => if ok = true then (match x.ev env with
  | .d .nili => some (.tup [.d zero, .d (.bool false)], sto)
  | .d (.iface t' v) => if t' = t then some (.tup [.d v, .d (.bool true)], sto) else some (.tup [.d zero, .d (.bool false)], sto)
  | _ => none) else none
 | .len x => match x.ev env with
  | .d (.sl _ xs _) => some (.d (.int .i64 xs.length), sto)
  | .row _ _ _ n _ => some (.d (.int .i64 n), sto)
  | _ => none
 | .cap x => match x.ev env with
  | .d (.sl _ xs true) => some (.d (.int .i64 xs.length), sto)
  | .row _ _ _ n true => some (.d (.int .i64 n), sto)
  | _ => none
 | .append es bytes s x => match elemsS sto es (x.ev env) with
  | some new => appendTo sto es bytes new (s.ev env)
  | none => none
 | .min xs => match evs env xs with
  | .d (.int k a) :: r => (match minmax true a r with
   | some n => some (.d (.int k n), sto)
   | none => none)
  | _ => none
 | .max xs => match evs env xs with
  | .d (.int k a) :: r => (match minmax false a r with
   | some n => some (.d (.int k n), sto)
   | none => none)
  | _ => none
 | _ => none
inductive Out where
 | ret (v : AV)
 | pan (v : AV)
inductive Ex where
 | nrm
 | ext (id : Nat)
 | ret
 | pan (v : AV)
abbrev Calling := FuncId → List AV → List Obj → Option (Out × List Obj)
def prep (byref : List Nat) : Nat → List AV → List Obj → Option (List AV × List Obj)
 | _, [], sto => some ([], sto)
 | i, v :: r, sto =>
  let x : Option (AV × List Obj) := match v with
   | .d x => some (.d x, sto)
   | .row a b c d e => if byref.contains i then some (.row a b c d e, sto) else snap sto (.row a b c d e)
   | .agg cs => snap sto (.agg cs)
   | .iface t v => if byref.contains i then some (.iface t v, sto) else snap sto (.iface t v)
   | v => some (v, sto)
  match x with
  | some (v', sto') => match prep byref (i + 1) r sto' with
   | some (vs, sto'') => some (v' :: vs, sto'')
   | none => none
  | none => none
def backId (m : List Nat) (base : Nat) (j : Nat) : Option Nat := match m[j]? with
 | some id => some id
 | none => some (base + (j - m.length))
def backO (old : Option Obj) (new : Obj) : Obj := match old with
 | some .dead => .dead
 | some _ => new
 | none => .dead
def putBack (f : Nat → Option Nat) : List Nat → List Obj → List Obj → List Obj
 | id :: m, o :: os, sto => putBack f m os (sto.set id (backO sto[id]? (renObj f o)))
 | _, os, sto => sto ++ os.map (renObj f)
def renOut (f : Nat → Option Nat) : Out → Out
 | .ret v => .ret (renAV f v)
 | .pan v => .pan (renAV f v)
def callOp (C : Calling) (byref : FuncId → List Nat) (f : AV) (args : List AV) (sto : List Obj) : Option (Out × List Obj) :=
 let go (g : FuncId) (vs : List AV) : Option (Out × List Obj) :=
  match prep (byref g) 0 vs sto with
  | some (vs', sto') =>
   let m := reach sto' fuelR (refsL vs') []
   (match C g (renL (renId m) vs') (pickS (renId m) sto' m) with
    | some (out, sto1) => if m.length ≤ sto1.length then
      some (renOut (backId m sto'.length) out, putBack (backId m sto'.length) m sto1 sto') else none
    | none => none)
  | none => none
 match f with
 | .d (.func (.func g) a b) => go g (a.map .d ++ args ++ b.map .d)
 | .func (.func g) a b => go g (a ++ args ++ b)
 | _ => none
def wantedV (g : Option (Nat × Bool)) (env : Env) : Option Bool := match g with
 | none => some true
 | some (t, w) => match look t env with
  | .d (.bool b) => some (b == w)
  | .tup [] => some false
  | _ => none
def evalOps (C : Calling) (byref : FuncId → List Nat) : List VOper → St → Option (Ex × St)
 | [], st => some (.nrm, st)
 | o :: r, st => match wantedV o.guard st.env with
  | none => none
  | some w => if w = true then (match o.op with
   | .call f args => match callOp C byref (f.ev st.env) (evs st.env args) st.sto with
    | some (.ret v, sto') => evalOps C byref r ⟨put o.dst v st.env, sto'⟩
    | some (.pan v, sto') => some (.pan v, ⟨st.env, sto'⟩)
    | none => none
   | .panic x => (match x.ev st.env with
    | .d (.iface t v) => some (.pan (.d (.iface t v)), st)
    | _ => none)
   | op => match evalOp st.env st.sto op with
    | some (v, sto') => evalOps C byref r ⟨put o.dst v st.env, sto'⟩
    | none => none) else evalOps C byref r ⟨put o.dst (.tup []) st.env, st.sto⟩
inductive OpK where
 | pure
 | read
 | alloc
 | write
 | bad
def opK : VOp → OpK
 | .mov _ | .pick _ _ _ | .bin _ _ _ | .isnil _ _ _ | .eqb _ _ _ | .eqs _ _ _ _ | .build _ _ | .un _ _ | .sl _ _ _ _ _ | .slstr _ _ _ | .faddr _ _ | .fld _ _ _ | .iaddr _ _ _ | .idxs _ _ | .extract _ _
 | .len _ | .lens _ | .cap _ | .min _ | .max _ | .nilck _ | .mkiface _ _ | .mkfunc _ _ _ | .call _ _ | .buildRow _ _ _ _ _ | .iaddra _ _ _ _ | .idxa _ _ _ _ _ => .pure
 | .conv c _ => (match c with
  | .bytesToStr => .read
  | _ => .pure)
 | .load _ _ => .read
 | .alloc _ _ | .box _ _ _ | .mkmap | .mkslice _ _ _ _ _ _ | .nilrow _ => .alloc
 | .append _ _ _ _ | .store _ _ _ _ => .write
 | _ => .bad
def allDV : List AV → Bool
 | [] => true
 | .d _ :: r => allDV r
 | _ :: _ => false
def pureCall (C : Calling) (f : AV) (args : List AV) : Option AV := match f with
 | .d (.func (.func g) a b) => if allDV args = true then (match C g (a.map .d ++ args ++ b.map .d) [] with
  | some (.ret v, sto1) => (match snap sto1 v with
   | some (.d x, _) => some (.d x)
   | _ => none)
  | _ => none) else none
 | _ => none
def dataEnv : Env → Env
 | [] => []
 | (n, v) :: r => (n, match v with
  | .d x => .d x
  | _ => .undef) :: dataEnv r
def buildQ (env : Env) (op : VOp) : Option AV := match evalOp (dataEnv env) [] op with
 | some (v, sto1) => (match snap sto1 v with
  | some (.d x, _) => some (.d x)
  | _ => none)
 | none => none
def evalQop (C : Calling) (env : Env) (sto : List Obj) (op : VOp) : Option (AV × List Obj) := match op with
 | .call f args => match pureCall C (f.ev env) (evs env args) with
  | some v => some (v, sto)
  | none => none
 | .buildRow ag es n zero parts => match buildQ env (.buildRow ag es n zero parts) with
  | some v => some (v, sto)
  | none => none
 | op => evalOp env sto op
def apartAV : AV → AV → Bool
 | .ptr i _ _ _, .ptr j _ _ _ => i != j
 | .d _, .ptr _ _ _ _ => true
 | .box _, .ptr _ _ _ _ => true
 | _, _ => false
def mapMark : Nat := 1000001
def apartOk (o : VOper) (env : Env) : Bool := match o.op with
 | .store _ _ a _ => o.apart.all fun t => apartAV (look t env) (a.ev env)
 | .call _ _ => !o.apart.contains mapMark
 | _ => true
def valQ (C : Calling) (o : VOper) (env : Env) (sto : List Obj) : Option (AV × List Obj) := match wantedV o.guard env with
 | none => none
 | some w => if w = true then (if apartOk o env = true then evalQop C env sto o.op else none) else some (.tup [], sto)
def effMark : Nat := 1000000
def callM (f : AV) (args : List AV) (sto : List Obj) : List Nat :=
 let go (vs : List AV) : List Nat := match prep [] 0 vs sto with
  | some (vs', sto') => reach sto' fuelR (refsL vs') []
  | none => []
 match f with
 | .d (.func (.func _) a b) => go (a.map .d ++ args ++ b.map .d)
 | .func (.func _) a b => go (a ++ args ++ b)
 | _ => []
def freeOf (m : List Nat) (n : Nat) : AV → Bool
 | .d _ => true
 | .ptr id _ _ _ => !m.contains id && decide (id < n)
 | _ => false
def needsE (f : AV) (args : List AV) : Bool := match f with
 | .d (.func (.func _) _ _) => !allDV args
 | _ => true
def okE : AV → Bool
 | .d _ => true
 | .map _ => true
 | _ => false
def effQ (C : Calling) (o : VOper) (env : Env) (sto : List Obj) : Option (AV × List Obj) := match o.op with
 | .call f args => if o.apart.contains effMark = true ∧ wantedV o.guard env = some true ∧ (needsE (f.ev env) (evs env args) = true ∨ o.apart.contains mapMark = true) then (match callOp C (fun _ => []) (f.ev env) (evs env args) sto with
  | some (.ret v, sto') => if okE v = true ∧ (o.apart.all fun t => t == effMark || t == mapMark || freeOf (callM (f.ev env) (evs env args) sto) sto.length (look t env)) = true then some (v, sto') else none
  | _ => none) else none
 | _ => none
def valE (C : Calling) (o : VOper) (env : Env) (sto : List Obj) : Option (AV × List Obj) := match valQ C o env sto with
 | some r => some r
 | none => effQ C o env sto
def stepQ (C : Calling) (o : VOper) (st : St) : Option St := match valE C o st.env st.sto with
 | some (v, sto') => some ⟨put o.dst v st.env, sto'⟩
 | none => none
def evalQ (C : Calling) : List VOper → St → Option St
 | [], st => some st
 | o :: r, st => match stepQ C o st with
  | some st' => evalQ C r st'
  | none => none
def iter (f : St → Option (Ex × St)) : Nat → St → Option (Ex × St)
 | 0, _ => none
 | n + 1, st => match f st with
  | some (.nrm, st') => iter f n st'
  | some (e, st') => some (e, st')
  | none => none
def virtAt (sto : List Obj) (off es : Nat) : AV → Option (List Obj)
 | .ptr id es' i o => match sto[id]? with
  | some (.row es'' xs false) => if es' = es'' then (match xs[i]? with
   | some e => (match e.cells[o + off]? with
    | some (.d (.sl _ [] true)) => some (sto.set id (.row es'' (xs.set i (mk1 (e.cells.set (o + off) (.row sto.length es 0 0 true)))) false) ++ [.row es [] false])
    | _ => none)
   | none => none) else none
  | _ => none
 | _ => none
def eval (C : Calling) (byref : FuncId → List Nat) (pin n : Nat) : VCode → St → Option (Ex × St)
 | .skip, st => some (.nrm, st)
 | .reg false ops keep, st => match evalOps C byref ops st with
  | some (e, st') => some (e, ⟨restrict keep st'.env, st'.sto⟩)
  | none => none
 | .reg true ops keep, st => match evalQ C ops st with
  | some st' => some (.nrm, ⟨restrict keep st'.env, st'.sto⟩)
  | none => none
 | .seq a b, st => match eval C byref pin n a st with
  | some (.nrm, st') => eval C byref pin n b st'
  | some (e, st') => some (e, st')
  | none => none
 | .cond c a b, st => match c.ev st.env with
  | .d (.bool t) => if t = true then eval C byref pin n a st else eval C byref pin n b st
  | _ => none
 | .block id c, st => match eval C byref pin n c st with
  | some (.ext i, st') => if i = id then some (.nrm, st') else some (.ext i, st')
  | some (e, st') => some (e, st')
  | none => none
 | .loop keep c, st => iter (fun st => eval C byref pin n c (gcSt pin keep st)) n st
 | .exit id, st => some (.ext id, st)
 | .ret, st => some (.ret, st)
 | .virt t off es, st => match virtAt st.sto off es (look t st.env) with
  | some sto' => some (.nrm, ⟨st.env, sto'⟩)
  | none => none
 | .frz t, st => match frzAV st.sto (look t st.env) with
  | some (v, sto') => some (.nrm, ⟨(t, v) :: st.env, sto'⟩)
  | none => none
 | .stuck, _ => none
def RV.read (st : St) : RV → Option AV
 | .t n => some (look n st.env)
 | .c n ag => match look n st.env with
  | .ptr id es i off => (match st.sto[id]? with
   | some (.row es' xs _) => if es' = es then (match xs[i]? with
    | some e => readCells ag off e
    | none => none) else none
   | _ => none)
  | _ => none
def reads (st : St) : List RV → Option (List AV)
 | [] => some []
 | r :: rs => match r.read st, reads st rs with
  | some v, some vs => some (v :: vs)
  | _, _ => none
def snaps : List AV → List Obj → Option (List AV × List Obj)
 | [], sto => some ([], sto)
 | v :: r, sto => match snap sto v with
  | some (v', sto') => match snaps r sto' with
   | some (vs, sto'') => some (v' :: vs, sto'')
   | none => none
  | none => none
def tupled : List AV → AV
 | [v] => v
 | vs => .tup vs
def finish (pin : Nat) (fn : VFn) (st : St) : Option (Out × List Obj) :=
 match reads st fn.res with
 | some vs => (match (if fn.frz = true then snaps vs st.sto else some (vs, st.sto)) with
  | some (vs', sto') =>
   let m := reach sto' fuelR (refsL vs' ++ refsObjs (sto'.take pin)) (List.range pin)
   some (.ret (tupled (renL (renId m) vs')), pickS (renId m) sto' m)
  | none => none)
 | none => none
def numbered : Nat → List AV → Env
 | _, [] => []
 | i, v :: r => (i, v) :: numbered (i + 1) r
def evalFn (C : Calling) (byref : FuncId → List Nat) (n : Nat) (fn : VFn) (args : List AV) (sto : List Obj) : Option (Out × List Obj) :=
 if args.length = fn.np then
  (match eval C byref sto.length n fn.code ⟨numbered 0 args, sto⟩ with
   | some (.nrm, st) => finish sto.length fn st
   | some (.ret, st) => finish sto.length fn st
   | some (.pan (.d x), st) =>
    some (.pan (.d x), pickS (renId (List.range sto.length)) st.sto (List.range sto.length))
   | _ => none)
 else none
def callF (V : FuncId → Option VFn) (X : Calling) : Nat → Calling
 | 0, f, args, sto => X f args sto
 | k + 1, f, args, sto => match X f args sto with
  | some r => some r
  | none => match V f with
   | some fn => evalFn (callF V X k) (fun g => match V g with | some h => h.byref | none => []) k fn args sto
   | none => none
end Go.Proofs.YtjnfkifdgojdaaaGreat.V

/- From the loaded program's code to the evaluator's: definitions alone. -/
import Derived.Test.YtjnfkifdgojdaaaGreatV0
namespace Go.Proofs.YtjnfkifdgojdaaaGreat.V
open Go
set_option linter.unusedVariables false
set_option linter.unusedSimpArgs false
set_option linter.unusedSectionVars false
def constC : Value → Option D
 | .bool b => some (.bool b)
 | .int k n => some (.int k n)
 | .string s => some (.str s)
 | .pointer none => some .nilp
 | .slice none 0 0 => some (.sl 0 [] true)
 | .nilIface => some .nili
 | .nilFunc => some .nilf
 | .map none => some .nilm
 | _ => none
def constCs : List Value → Option (List D)
 | [] => some []
 | v :: r => match constC v, constCs r with
  | some x, some xs => some (x :: xs)
  | _, _ => none
def constD (v : Value) : Option D := match v with
 | .agg cs => (constCs cs.toList).map .agg
 | v => constC v
def opd : Operand → Option Opd
 | .tmp t => some (.t t)
 | .const v => (constD v).map .c
 | .func f => some (.c (.func (.func f) [] []))
 | .global _ => none
def opds : List Operand → Option (List Opd)
 | [] => some []
 | x :: r => match opd x, opds r with
  | some y, some ys => some (y :: ys)
  | _, _ => none
def opdO : Option Operand → Option (Option Opd)
 | none => some none
 | some x => (opd x).map some
def isAggD : TypeDesc → Bool
 | .struct _ | .array _ _ => true
 | _ => false
section
variable (P : Program)
def szOf (t : TypeId) : Option Nat := (P.info? t).map (·.size)
def agOf (t : TypeId) : Option (Option Nat) := match P.underlying t, P.info? t with
 | some d, some i => some (if isAggD d then some i.size else none)
 | _, _ => none
def isAgT (t : TypeId) : Option Bool := (P.underlying t).map isAggD
def zeroCells' (t : TypeId) : Option (List D) := match P.info? t with
 | some i => match i.zero with
  | some v => constCs v.cells.toList
  | none => none
 | none => none
def nilC : Operand → Option NK
 | .const (.pointer none) => some .ptr
 | .const (.slice none _ _) => some .slice
 | .const .nilIface => some .iface
 | .const .nilFunc => some .func
 | .const (.map none) => some .map
 | _ => none
def fitsNK : TypeDesc → NK → Bool
 | .pointer _, .ptr => true
 | .slice _, .slice => true
 | .interface _, .iface => true
 | .func _ _ _, .func => true
 | .map _ _, .map => true
 | _, _ => false
def partsF (fs : Array Field) : List (Nat × Operand) → Option (List (Nat × Nat × Opd))
 | [] => some []
 | (i, x) :: r => match fs[i]?, opd x, partsF fs r with
  | some f, some y, some ys => (match szOf P f.type with
   | some n => some ((f.offset, n, y) :: ys)
   | none => none)
  | _, _, _ => none
def partsA (es : Nat) : List (Nat × Operand) → Option (List (Nat × Nat × Opd))
 | [] => some []
 | (i, x) :: r => match opd x, partsA es r with
  | some y, some ys => some ((i * es, es, y) :: ys)
  | _, _ => none
def partsS : List (Nat × Operand) → Option (List (Nat × Opd))
 | [] => some []
 | (i, x) :: r => match opd x, partsS r with
  | some y, some ys => some ((i, y) :: ys)
  | _, _ => none
def isBoolD : TypeDesc → Bool
 | .bool => true
 | _ => false
def simpleD : TypeDesc → Bool
 | .bool | .int _ | .string => true
 | _ => false
def bindO {α β : Type} (x : Option α) (f : α → Option β) : Option β := match x with
 | some a => f a
 | none => none
def skOf : TypeDesc → Option SK
 | .bool => some .bool
 | .int _ => some .int
 | .string => some .str
 | _ => none
def kindsFrom : List Field → Nat → Option (List SK)
 | [], _ => some []
 | f :: r, i => if f.name != "_" && f.offset == i then (match P.underlying f.type, kindsFrom r (i + 1) with
  | some d, some ks => (match skOf d with
   | some k => some (k :: ks)
   | none => none)
  | _, _ => none) else none
def plainStruct (t : TypeId) : Option (List SK) := match P.underlying t with
 | some (.struct fs) => if !P.stoodInHeld t && !P.eqGuardType P.depth t then kindsFrom P fs.toList 0 else none
 | _ => none
def lowEq (neg : Bool) (xt : TypeId) (x y : Operand) (x' y' : Opd) : Option VOp :=
 match P.underlying xt with
 | some d => (match nilC y with
  | some k => if fitsNK d k then some (.isnil k neg x') else none
  | none => (match nilC x with
   | some k => if fitsNK d k then some (.isnil k neg y') else none
   | none => if isBoolD d then some (.eqb neg x' y') else if simpleD d then some (.bin (if neg then .neq else .eql) x' y') else (match plainStruct P xt with
    | some ks => some (.eqs neg ks x' y')
    | none => none)))
 | none => none
def lowBin (op : BinOp) (xt : TypeId) (x y : Operand) : Option VOp :=
 match opd x, opd y with
 | some x', some y' =>
  (match op with
  | .eql => lowEq P false xt x y x' y'
  | .neq => lowEq P true xt x y x' y'
  | op => some (.bin op x' y'))
 | _, _ => none
def keyKinds (t : TypeId) : Option (Bool × List SK) := match P.underlying t with
 | some d => (match skOf d with
  | some k => some (false, [k])
  | none => (plainStruct P t).map fun ks => (true, ks))
 | none => none
def zeroD (t : TypeId) : Option D := match P.info? t with
 | some i => (match i.zero with
  | some z => constD z
  | none => none)
 | none => none
def isIntC : Option Operand → Bool
 | none => true
 | some (.const (.int _ _)) => true
 | _ => false
def lowConv (src dst : TypeId) (x : Operand) : Option VOp :=
 match opd x, P.underlying src, P.underlying dst with
 | some x', some s, some d => (match s, d with
  | .int _, .int k => some (.conv (.toInt k) x')
  | .string, .string => some (.conv .same x')
  | .slice e, .string => (match P.underlying e with
   | some (.int .u8) => some (.conv .bytesToStr x')
   | _ => none)
  | .string, .slice e => (match P.underlying e with
   | some (.int .u8) => some (.conv .strToBytes x')
   | _ => none)
  | .int _, .string => some (.conv .intToStr x')
  | _, _ => none)
 | _, _, _ => none
def lowBuiltin (b : Builtin) (ts : Array TypeId) (args : List Operand) : Option VOp :=
 match b, args with
 | .len, [x] => (match ts[0]?, opd x with
  | some t, some x' => (match P.underlying t with
   | some .string => some (.lens x')
   | some (.slice _) => some (.len x')
   | _ => none)
  | _, _ => none)
 | .cap, [x] => (match ts[0]?, opd x with
  | some t, some x' => (match P.underlying t with
   | some (.slice _) => some (.cap x')
   | _ => none)
  | _, _ => none)
 | .delete, [m, k] => (match ts[0]?, opd m, opd k with
  | some t, some m', some k' => (match P.underlying t with
   | some (.map kt _) => bindO (keyKinds P kt) fun (ag, ks) => some (.delete ag ks m' k')
   | _ => none)
  | _, _, _ => none)
 | .append, [s, x] => (match ts[0]?, ts[1]?, opd s, opd x with
  | some t, some u, some s', some x' => (match P.underlying t, P.underlying u with
   | some (.slice e), some ud => (match P.info? e with
    | some i => (match ud with
     | .int _ => none
     | _ => if ts.size ≠ 2 then none else if i.size = 0 then none else if i.bytes = 0 then none else (match i.zero with
      | some z => if z.cells.size = i.size then some (.append i.size i.bytes s' x') else none
      | none => none))
    | none => none)
   | _, _ => none)
  | _, _, _, _ => none)
 | .min, xs => (opds xs).map .min
 | .max, xs => (opds xs).map .max
 | _, _ => none
def lowOp (o : Oper) : Option VOp :=
 match o.op with
 | .move x | .assign x => (match x with
  | .const (.slice none 0 0) => (match P.underlying o.type with
   | some (.slice e) => bindO (szOf P e) fun n => if n = 0 then none else some (.nilrow n)
   | _ => none)
  | x => (opd x).map .mov)
 | .pick c a b => (match opd c, opd a, opd b with
  | some c', some a', some b' => some (.pick c' a' b')
  | _, _, _ => none)
 | .alloc e => (match isAgT P e, zeroCells' P e with
  | some ag, some z => if ag || z.length == 1 then some (.alloc ag z) else none
  | _, _ => none)
 | .box e x => (match isAgT P e, szOf P e, opd x with
  | some ag, some n, some x' => some (.box ag n x')
  | _, _, _ => none)
 | .build t parts => (match P.underlying t, zeroCells' P t with
  | some (.struct fs), some z => if fs.all (fun f => (P.info? f.type).isSome) then (partsF P fs parts.toList).map (.build z) else none
  | some (.array _ e), some z => bindO (szOf P e) fun n => (partsA n parts.toList).map (.build z)
  | _, _ => none)
 | .buildSlice t len parts => (match P.underlying t with
  | some (.slice e) => (match isAgT P e, zeroCells' P e, szOf P e, partsS parts.toList with
   | some ag, some z, some n, some ps => if n = 0 then none else if (ag || z.length == 1) && len * n ≤ 16777216 && z.length == n then some (.buildRow ag n len z ps) else none
   | _, _, _, _ => none)
  | _ => none)
 | .load t a => (match agOf P t, opd a with
  | some ag, some a' => some (.load ag a')
  | _, _ => none)
 | .store t a x => (match isAgT P t, szOf P t, opd a, opd x with
  | some ag, some n, some a', some x' => some (.store ag n a' x')
  | _, _, _, _ => none)
 | .nilCheck x => (opd x).map .nilck
 | .binOp op xt x y _ => lowBin P op xt x y
 | .unOp op _ x => (opd x).map (.un op)
 | .convert s d x => lowConv P s d x
 | .makeInterface t x => (match P.underlying t, opd x with
  | some (.interface _), _ => none
  | some _, some x' => some (.mkiface t x')
  | _, _ => none)
 | .makeFunc fn a b => (match opds a.toList, opds b.toList with
  | some xs, some ys => some (.mkfunc fn xs ys)
  | _, _ => none)
 | .makeMap t r => (match P.underlying t with
  | some (.map _ _) => if isIntC r then some .mkmap else none
  | _ => none)
 | .lookup t x k ok => (match P.underlying t, opd x, opd k with
  | some (.map kt et), some x', some k' => (match keyKinds P kt, zeroD P et with
   | some (ag, ks), some z => some (.lookup ag ks z x' k' ok)
   | _, _ => none)
  | _, _, _ => none)
 | .mapUpdate t m k v | .insert t m k v => (match P.underlying t, opd m, opd k, opd v with
  | some (.map kt _), some m', some k', some v' => (match keyKinds P kt with
   | some (ag, ks) => some (.mapupd ag ks m' k' v')
   | none => none)
  | _, _, _, _ => none)
 | .mapEntry t m k => (match P.underlying t, opd m, opd k with
  | some (.map kt et), some m', some k' => (match keyKinds P kt, zeroD P et with
   | some (ag, ks), some z => some (.mapent ag ks z m' k')
   | _, _ => none)
  | _, _, _ => none)
 | .entryStore _ m s v => (match opd m, opd s, opd v with
  | some m', some s', some v' => some (.entst m' s' v')
  | _, _, _ => none)
 | .makeSlice t l c => (match P.underlying t, opd l, opd c with
  | some (.slice e), some l', some c' => (match isAgT P e, zeroCells' P e, P.info? e with
   | some ag, some z, some i => if i.size = 0 then none else if (ag || z.length == 1) && z.length == i.size then some (.mkslice ag i.size i.bytes z l' c') else none
   | _, _, _ => none)
  | _, _, _ => none)
 | .slice t x lo hi mx => (match P.underlying t, opd x, opdO lo, opdO hi, opdO mx with
  | some .string, some x', some l, some h, some none => some (.slstr x' l h)
  | some (.slice e), some x', some l, some h, some m => bindO (szOf P e) fun n => if n = 0 then none else if m.isSome && h.isNone then none else some (.sl n x' l h m)
  | _, _, _, _, _ => none)
 | .fieldAddr s x f => (match P.underlying s, opd x with
  | some (.struct fs), some x' => (match fs[f]? with
   | some fd => bindO (szOf P fd.type) fun n => if n = 0 then none else some (.faddr fd.offset x')
   | none => none)
  | _, _ => none)
 | .field t x f => (match P.underlying t, opd x with
  | some (.struct fs), some x' => (match fs[f]? with
   | some fd => bindO (agOf P fd.type) fun ag => some (.fld ag fd.offset x')
   | none => none)
  | _, _ => none)
 | .indexAddr t x i => (match P.underlying t, opd x, opd i with
  | some (.slice e), some x', some i' => bindO (szOf P e) fun n => if n = 0 then none else some (.iaddr n x' i')
  | some (.array len e), some x', some i' => bindO (szOf P e) fun n => if n = 0 then none else some (.iaddra len n x' i')
  | _, _, _ => none)
 | .index t x i => (match P.underlying t, opd x, opd i with
  | some .string, some x', some i' => some (.idxs x' i')
  | some (.array len e), some x', some i' => bindO (szOf P e) fun n => bindO (agOf P e) fun ag => some (.idxa ag len n x' i')
  | _, _, _ => none)
 | .extract x i => (opd x).map fun x' => .extract x' i
 | .range t x => (match P.underlying t with
  | some .string => (opd x).map .range
  | _ => none)
 | .next x true => (opd x).map .next
 | .typeAssert x _ t ok => (match P.underlying t, P.info? t, opd x with
  | some (.interface _), _, _ => none
  | some _, some i, some x' => (match i.zero with
   | some z => (constD z).map fun zd => .assert t zd x' ok
   | none => none)
  | _, _, _ => none)
 | .call c => (match c.callee with
  | .builtin b => lowBuiltin P b c.argTypes c.args.toList
  | .value f => (match opd f, opds c.args.toList with
   | some f', some xs => some (.call f' xs)
   | _, _ => none)
  | .invoke _ _ => none)
 | .panic x => (opd x).map .panic
 | _ => none
def guardT (ops : Array Oper) : Option (Nat × Bool) → Option (Option (Nat × Bool))
 | none => some none
 | some (j, w) => match (ops[j]?).bind (·.dst) with
  | some t => some (some (t, w))
  | none => none
def dstOk (nt : Nat) : Option Nat → Bool
 | none => true
 | some d => decide (d < nt)
def lowOps (nt : Nat) (ops : Array Oper) : List Oper → Option (List VOper)
 | [] => some []
 | o :: r => match lowOp P o, guardT ops o.guard, lowOps nt ops r with
  | some v, some g, some vs => if dstOk nt o.dst then some (⟨o.dst, v, g, []⟩ :: vs) else none
  | _, _, _ => none
end
def oT : Opd → List Nat
 | .t n => [n]
 | .c _ => []
def oTo : Option Opd → List Nat
 | some x => oT x
 | none => []
def oTs : List Opd → List Nat
 | [] => []
 | x :: r => oT x ++ oTs r
def oTp : List (Nat × Nat × Opd) → List Nat
 | [] => []
 | (_, _, x) :: r => oT x ++ oTp r
def oTq : List (Nat × Opd) → List Nat
 | [] => []
 | (_, x) :: r => oT x ++ oTq r
def VOp.uses : VOp → List Nat
 | .mov x | .box _ _ x | .load _ x | .nilck x | .isnil _ _ x | .un _ x | .conv _ x | .mkiface _ x | .faddr _ x | .fld _ _ x | .extract x _ | .len x | .lens x | .cap x | .range x | .next x | .assert _ _ x _ => oT x
 | .pick c a b => oT c ++ oT a ++ oT b
 | .build _ ps => oTp ps
 | .buildRow _ _ _ _ ps => oTq ps
 | .store _ _ a x | .bin _ a x | .eqb _ a x | .eqs _ _ a x | .iaddr _ a x | .idxs a x | .append _ _ a x | .mkslice _ _ _ _ a x => oT a ++ oT x
 | .mkfunc _ a b => oTs a ++ oTs b
 | .slstr x lo hi => oT x ++ oTo lo ++ oTo hi
 | .iaddra _ _ a x | .idxa _ _ _ a x | .lookup _ _ _ a x _ | .mapent _ _ _ a x | .delete _ _ a x => oT a ++ oT x
 | .mapupd _ _ a x y | .entst a x y => oT a ++ oT x ++ oT y
 | .sl _ x lo hi mx => oT x ++ oTo lo ++ oTo hi ++ oTo mx
 | .min xs | .max xs => oTs xs
 | .call f xs => oT f ++ oTs xs
 | _ => []
def VOper.uses (o : VOper) : List Nat := o.apart ++ match o.guard with
 | some (t, _) => t :: o.op.uses
 | none => o.op.uses
def notIn : Option Nat → List Nat → Bool
 | none, _ => true
 | some d, l => !l.contains d
def unlike : Option Nat → Option Nat → Bool
 | some a, some b => a != b
 | _, _ => true
def kindsOk : OpK → OpK → Bool
 | .bad, _ => false
 | _, .bad => false
 | .pure, _ => true
 | _, .pure => true
 | .read, .read => true
 | .read, .alloc => true
 | _, _ => false
def directs (o : Oper) : List Nat := (o.after.toList.filter fun e => Region.binds .any e).map (·.on)
def lookL (l : List (List Nat)) (i : Nat) : List Nat := match l[i]? with
 | some x => x
 | none => []
def loadApart (x y : VOper) : Bool := match x.op, y.op with
 | .load _ (.t a), .store _ _ _ _ => y.apart.contains a
 | _, _ => false
def marked (o : VOper) : Bool := match o.op with
 | .call _ _ => o.apart.contains effMark
 | _ => false
def effWith (c p : VOper) : Bool := match p.op with
 | .load _ (.t a) => c.apart.contains a && (a != effMark && a != mapMark)
 | op => match opK op with
  | .pure => true
  | _ => false
def commB (x y : VOper) : Bool := notIn x.dst y.uses && notIn y.dst x.uses && unlike x.dst y.dst &&
 (if marked x = true then !marked y && effWith x y else if marked y = true then effWith y x else kindsOk (opK x.op) (opK y.op) || loadApart x y)
def loadsOf (an : List Nat) : List VOper → Nat → List Nat
 | [], _ => []
 | x :: r, j => match x.op with
  | .load _ (.t a) => if an.contains j then loadsOf an r (j + 1) else a :: loadsOf an r (j + 1)
  | _ => loadsOf an r (j + 1)
def loadsBehind (anc : List (List Nat)) (i : Nat) : List VOper → Nat → List Nat
 | [], _ => []
 | x :: r, j => match x.op with
  | .load _ (.t a) => if (lookL anc j).contains i then loadsBehind anc i r (j + 1) else a :: loadsBehind anc i r (j + 1)
  | _ => loadsBehind anc i r (j + 1)
def fixOne (an : List Nat) (done : List VOper) (bh : List Nat) (mk : Bool) (y : VOper) : VOper := match y.op with
 | .store _ _ _ _ => { y with apart := loadsOf an done 0 }
 | .call _ args => if mk = true then { y with apart := effMark :: ((if args.isEmpty then [mapMark] else []) ++ loadsOf an done 0 ++ bh) } else y
 | _ => y
def fixA (anc : List (List Nat)) (mk : Nat → Bool) : List VOper → List VOper → Nat → List VOper
 | [], _, _ => []
 | y :: r, done, i => fixOne (lookL anc i) done (loadsBehind anc i r (i + 1)) (mk i) y :: fixA anc mk r (done ++ [y]) (i + 1)
def mapFn (P : Program) (f : FuncId) : Bool := match P.funcs[f]? with
 | some fn => fn.resultTypes.size == 1 && (match fn.resultTypes[0]? with
  | some t => (match P.underlying t with
   | some (.map _ _) => true
   | _ => false)
  | none => false)
 | none => false
def ptrCall (P : Program) (ops : Array Oper) (i : Nat) : Bool := match ops[i]? with
 | some o => (match o.op with
  | .call c => (c.argTypes.any fun t => match P.underlying t with
   | some (.pointer _) => true
   | _ => false) || (c.argTypes.isEmpty && match c.callee with
   | .value (.func f) => mapFn P f
   | _ => false)
  | _ => false)
 | none => false
def unions (anc : List (List Nat)) : List Nat → List Nat
 | [] => []
 | j :: r => uni (insN' j (lookL anc j)) (unions anc r)
where
 insN' (n : Nat) : List Nat → List Nat
  | [] => [n]
  | m :: r => if n < m then n :: m :: r else if n = m then m :: r else m :: insN' n r
 uni : List Nat → List Nat → List Nat
  | [], b => b
  | x :: a, b => uni a (insN' x b)
def ancs : List Oper → List (List Nat) → List (List Nat)
 | [], acc => acc
 | o :: r, acc => ancs r (acc ++ [unions acc (directs o)])
def earlier (an : List Nat) (y : VOper) : List VOper → Nat → Bool
 | [], _ => true
 | x :: r, j => (commB x y || an.contains j) && earlier an y r (j + 1)
def pairsOk (anc : List (List Nat)) : List VOper → List VOper → Nat → Bool
 | [], _, _ => true
 | y :: r, done, i => earlier (lookL anc i) y done 0 && pairsOk anc r (done ++ [y]) (i + 1)
def aheadOk : List Oper → Nat → Bool
 | [], _ => true
 | o :: r, i => (directs o).all (fun j => decide (j < i)) && aheadOk r (i + 1)
def drawOk (ops : Array Oper) (vs : List VOper) : Bool := aheadOk ops.toList 0 && pairsOk (ancs ops.toList []) vs [] 0
def insN (n : Nat) : List Nat → List Nat
 | [] => [n]
 | m :: r => if n < m then n :: m :: r else if n = m then m :: r else m :: insN n r
def uni : List Nat → List Nat → List Nat
 | [], b => b
 | x :: a, b => uni a (insN x b)
def opT : Operand → List Nat
 | .tmp t => [t]
 | _ => []
def usesO (ops : Array Oper) (o : Oper) : List Nat :=
 let a := o.op.operands.toList.foldl (fun s x => uni (opT x) s) []
 match o.guard with
 | some (j, _) => (match (ops[j]?).bind (·.dst) with
  | some t => insN t a
  | none => a)
 | none => a
def liveOps (ops : Array Oper) : List Oper → List Nat → List Nat
 | [], l => l
 | o :: r, l =>
  let l' := liveOps ops r l
  let l'' := match o.dst with
   | some d => l'.filter (· != d)
   | none => l'
  uni (usesO ops o) l''
def exitL (ex : List (Nat × List Nat)) (id : Nat) : List Nat := ((ex.find? (·.1 == id)).map (·.2)).getD []
def liveC (rl : List Nat) : Code → List Nat → List (Nat × List Nat) → List Nat
 | .region _ ops _, l, _ => liveOps ops ops.toList l
 | .seq a b, l, ex => liveC rl a (liveC rl b l ex) ex
 | .cond c a b, l, ex => uni (opT c) (uni (liveC rl a l ex) (liveC rl b l ex))
 | .block id c, l, ex => liveC rl c l ((id, l) :: ex)
 | .loop c, _, ex =>
  let l1 := liveC rl c [] ex
  let l2 := liveC rl c l1 ex
  liveC rl c l2 ex
 | .exit id, _, ex => exitL ex id
 | .ret, _, _ => rl
 | _, l, _ => l
abbrev Hints := List (Nat × Nat × Nat × Nat)
def virts : Hints → Nat → VCode → VCode
 | [], _, c => c
 | (r, t, off, es) :: h, id, c => if r = id then .seq (virts h id c) (if es = 0 then .frz t else .virt t off es) else virts h id c
def lastOf (vs : List VOper) : List VOper := match vs.getLast? with
 | some z => [z]
 | none => []
def isCallV : VOp → Bool
 | .call _ _ | .panic _ => true
 | _ => false
def lastOk (ops : Array Oper) (vs : List VOper) : Bool := match vs.getLast? with
 | some z => isCallV z.op && vs.length == ops.size && (List.range (ops.size - 1)).all fun j => (lookL (ancs ops.toList []) (ops.size - 1)).contains j
 | none => false
def lastLive (ops : Array Oper) (l : List Nat) : List Nat := match ops.toList.getLast? with
 | some o => liveOps ops [o] l
 | none => l
def lowC (P : Program) (nt : Nat) (h : Hints) (rl : List Nat) : Code → List Nat → List (Nat × List Nat) → Option VCode
 | .skip, _, _ => some .skip
 | .region id ops dr, l, _ => match lowOps P nt ops ops.toList with
  | some vs => if dr = true then (if drawOk ops (fixA (ancs ops.toList []) (ptrCall P ops) vs [] 0) = true then (if lastOk ops (fixA (ancs ops.toList []) (ptrCall P ops) vs [] 0) = true then
     some (virts h id (.seq (.reg true (fixA (ancs ops.toList []) (ptrCall P ops) vs [] 0).dropLast (lastLive ops l)) (.reg false (lastOf (fixA (ancs ops.toList []) (ptrCall P ops) vs [] 0)) l)))
    else some (virts h id (.reg true (fixA (ancs ops.toList []) (ptrCall P ops) vs [] 0) l))) else some .stuck)
   else some (virts h id (.reg false vs l))
  | none => some .stuck
 | .seq a b, l, ex => match lowC P nt h rl a (liveC rl b l ex) ex, lowC P nt h rl b l ex with
  | some x, some y => some (.seq x y)
  | _, _ => none
 | .cond c a b, l, ex => match opd c, lowC P nt h rl a l ex, lowC P nt h rl b l ex with
  | some c', some x, some y => some (.cond c' x y)
  | _, _, _ => none
 | .block id c, l, ex => match lowC P nt h rl c l ((id, l) :: ex) with
  | some x => some (.block id x)
  | none => none
 | .loop c, l, ex =>
  let k := liveC rl (.loop c) l ex
  match lowC P nt h rl c k ex with
  | some x => some (.loop k x)
  | none => none
 | .exit id, _, _ => some (.exit id)
 | .ret, _, _ => some .ret
 | _, _, _ => none
def lowRes (P : Program) : List ResultVar → Option (List RV)
 | [] => some []
 | .tmp t :: r => (lowRes P r).map (.t t :: ·)
 | .cell a t :: r => match agOf P t, lowRes P r with
  | some ag, some rs => some (.c a ag :: rs)
  | _, _ => none
def resT : ResultVar → Nat
 | .tmp t => t
 | .cell a _ => a
def lowFn (P : Program) (h : Hints) (frz : Bool) (byref : List Nat) (fn : Func) : Option VFn :=
 if fn.name == "runtime.NumGoroutine" then none else
 if fn.ntmps < fn.params.size + fn.nfree then none else
 match fn.body with
 | some c =>
  let rl := fn.results.toList.foldl (fun s r => insN (resT r) s) []
  (match lowC P fn.ntmps h rl c rl [], lowRes P fn.results.toList with
  | some v, some rs => some ⟨fn.params.size + fn.nfree, fn.ntmps, v, rs, frz, byref⟩
  | _, _ => none)
 | none => none
end Go.Proofs.YtjnfkifdgojdaaaGreat.V

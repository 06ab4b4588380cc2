/- Operations that leave the world alone. -/
import Derived.Test.YtjnfkifdgojdaaaGreatV5
namespace Go.Proofs.YtjnfkifdgojdaaaGreat.V
open Go
set_option linter.unusedVariables false
set_option linter.unusedSimpArgs false
set_option linter.unusedSectionVars false
variable [Inhabited Flag]
section
variable {P : Program} {w : World} {F : Nat → Prop} {β : Bl} {o : Oper} {ρ : Operand → Value} {sto : List Obj}
theorem ok_pick (hS : SRel w F β sto) {c a b : Operand} (ho : o.op = .pick c a b) {t : Bool} {u v : AV} (hc : VRel w F β (.d (.bool t)) (ρ c)) (ha : VRel w F β u (ρ a)) (hb : VRel w F β v (ρ b)) :
  OK P o ρ w F β sto (if t then u else v) sto := by
 refine .same hS (if t then ρ a else ρ b) ?_ ?_
 ·unfold execOp
  rw [ho]; dsimp only; rw [inv_bool hc]
  simp [asBool]
 ·cases t <;> simp <;> assumption
theorem ok_un (hS : SRel w F β sto) {op : UnOp} {t : TypeId} {x : Operand} (ho : o.op = .unOp op t x) {a z : D} (ha : VRel w F β (.d a) (ρ x)) (hz : unD op a = some z) : OK P o ρ w F β sto (.d z) sto := by
 unfold unD at hz
 split at hz
 ·cases hz
  refine .same hS _ ?_ (.d _ _ (.int _ _))
  unfold execOp
  rw [ho]; dsimp only; rw [inv_int ha]
  simp [Op.unary, Op.intArith]
 ·cases hz
  refine .same hS _ ?_ (.d _ _ (.int _ _))
  unfold execOp
  rw [ho]; dsimp only; rw [inv_int ha]
  simp [Op.unary, Op.intBits]
 ·cases hz
  refine .same hS _ ?_ (.d _ _ (.bool _))
  unfold execOp
  rw [ho]; dsimp only; rw [inv_bool ha]
  simp [Op.unary]
 ·cases hz
theorem ok_mkiface (hS : SRel w F β sto) {t : TypeId} {x : Operand} (ho : o.op = .makeInterface t x) {d : TypeDesc} (hd : P.underlying t = some d) (hn : ∀ m, d ≠ .interface m) {v : AV} (hv : VRel w F β v (ρ x)) :
  OK P o ρ w F β sto (mkIface t v) sto := by
 refine .same hS (.iface t (ρ x)) ?_ ?_
 ·unfold execOp
  rw [ho]
  simp only [Instr.makeInterface, Sem.run_bind, run_underlying hd, Result.andThen_ok]
  cases d <;> first | rfl | exact absurd rfl (hn _)
 ·unfold mkIface
  split
  ·cases hv with | d x v h => exact .d _ _ (.iface t _ _ h)
  ·exact .iface t _ _ hv
theorem ok_mkfunc (hS : SRel w F β sto) {fn : Fn} {a b : Array Operand} (ho : o.op = .makeFunc fn a b) {us vs : List AV}
  (hul : us.length = a.size) (hvl : vs.length = b.size)
  (hu : ∀ (j : Nat) (y : AV) (u : Value), us[j]? = some y → (a.toList.map ρ)[j]? = some u → VRel w F β y u)
  (hv : ∀ (j : Nat) (y : AV) (u : Value), vs[j]? = some y → (b.toList.map ρ)[j]? = some u → VRel w F β y u) : OK P o ρ w F β sto (mkFunc fn us vs) sto := by
 refine .same hS (.func fn (a.map ρ) (b.map ρ)) ?_ ?_
 ·unfold execOp
  rw [ho]
  rfl
 ·have hu' : ∀ (j : Nat) (y : AV) (u : Value), us[j]? = some y → (a.map ρ)[j]? = some u → VRel w F β y u := fun j y u hy hz => hu j y u hy (by simpa using hz)
  have hv' : ∀ (j : Nat) (y : AV) (u : Value), vs[j]? = some y → (b.map ρ)[j]? = some u → VRel w F β y u := fun j y u hy hz => hv j y u hy (by simpa using hz)
  unfold mkFunc
  split
  ·rename_i xs ys hx hy
   have e1 := allD_spec _ _ hx
   have e2 := allD_spec _ _ hy
   subst e1; subst e2
   refine .d _ _ (.func fn xs ys _ _ (by simpa using hul.symm) (by simpa using hvl.symm) (fun j y u hy hu => ?_) fun j y u hy hu => ?_)
   ·have := hu' j (.d y) u (by simp [hy]) hu
    cases this with | d x v h => exact h
   ·have := hv' j (.d y) u (by simp [hy]) hu
    cases this with | d x v h => exact h
  ·exact .func fn us vs _ _ (by simpa using hul.symm) (by simpa using hvl.symm) hu' hv'
theorem ok_extract (hS : SRel w F β sto) {x : Operand} {i : Nat} (ho : o.op = .extract x i) {vs : List AV} {v : AV} (hx : VRel w F β (.tup vs) (ρ x)) (hv : vs[i]? = some v) : OK P o ρ w F β sto v sto := by
 obtain ⟨us, e, hs, hr⟩ := inv_tup hx
 have hi : i < us.size := by rw [hs]; exact (List.getElem?_eq_some_iff.1 hv).1
 refine .same hS us[i] ?_ (hr i v _ hv (Array.getElem?_eq_getElem hi))
 unfold execOp
 rw [ho]; dsimp only; rw [e]
 simp [Instr.extract, Array.getElem?_eq_getElem hi]
theorem ok_idxs (hS : SRel w F β sto) {t : TypeId} {x i : Operand} (ho : o.op = .index t x i) (ht : P.underlying t = some .string) {s : ByteArray} {k : IntKind} {n : Int} {b : UInt8}
  (hx : VRel w F β (.d (.str s)) (ρ x)) (hi : ρ i = .int k n) (h0 : 0 ≤ n) (hb : s[n.toNat]? = some b) : OK P o ρ w F β sto (.d (.int .u8 b.toNat)) sto := by
 refine .same hS (.int .u8 b.toNat) ?_ (.d _ _ (.int _ _))
 unfold execOp
 rw [ho]; dsimp only; rw [inv_str hx, hi]
 simp [Instr.index, asIntOf, run_underlying ht, h0, hb]
theorem ok_conv_int (hS : SRel w F β sto) {s d : TypeId} {x : Operand} (ho : o.op = .convert s d x) {j k k' : IntKind} (hs : P.underlying s = some (.int j)) (hd : P.underlying d = some (.int k)) {n : Int} (hx : ρ x = .int k' n) :
  OK P o ρ w F β sto (.d (.int k (k.wrap n))) sto := by
 refine .same hS (.int k (k.wrap n)) ?_ (.d _ _ (.int _ _))
 unfold execOp
 rw [ho]; dsimp only; rw [hx]
 simp [convert, run_underlying hs, run_underlying hd, Conv.intToInt]
theorem ok_conv_same (hS : SRel w F β sto) {s d : TypeId} {x : Operand} (ho : o.op = .convert s d x) (hs : P.underlying s = some .string) (hd : P.underlying d = some .string) {t : ByteArray} (hx : VRel w F β (.d (.str t)) (ρ x)) :
  OK P o ρ w F β sto (.d (.str t)) sto := by
 refine .same hS (.string t) ?_ (.d _ _ (.str _))
 unfold execOp
 rw [ho]; dsimp only; rw [inv_str hx]
 simp [convert, run_underlying hs, run_underlying hd]
theorem ok_conv_istr (hS : SRel w F β sto) {s d : TypeId} {x : Operand} (ho : o.op = .convert s d x) {j k' : IntKind} (hs : P.underlying s = some (.int j)) (hd : P.underlying d = some .string) {n : Int} (hx : ρ x = .int k' n) :
  OK P o ρ w F β sto (.d (.str (Utf8.encode n))) sto := by
 refine .same hS (.string (Utf8.encode n)) ?_ (.d _ _ (.str _))
 unfold execOp
 rw [ho]; dsimp only; rw [hx]
 simp [convert, run_underlying hs, run_underlying hd, Conv.intToString]
theorem ok_nilck (hS : SRel w F β sto) {x : Operand} (ho : o.op = .nilCheck x) {v : AV} (hv : VRel w F β v (ρ x)) (hs : (∃ a b c d, v = .ptr a b c d) ∨ (∃ cs, v = .d (.ptr cs)) ∨ (∃ f a b, v = .d (.func (.func f) a b)) ∨ (∃ f a b, v = .func (.func f) a b)) : OK P o ρ w F β sto v sto := by
 refine .same hS (ρ x) ?_ hv
 unfold execOp
 rw [ho]; dsimp only
 rcases hs with ⟨a, b, c, d, rfl⟩ | ⟨cs, rfl⟩ | ⟨f, a, b, rfl⟩ | ⟨f, a, b, rfl⟩
 ·generalize ρ x = u at hv ⊢
  cases hv
  rfl
 ·generalize ρ x = u at hv ⊢
  cases hv with | d x v h => cases h; rfl
 ·generalize ρ x = u at hv ⊢
  cases hv with | d x v h => cases h; rfl
 ·generalize ρ x = u at hv ⊢
  cases hv
  rfl
theorem readCells_one {off : Nat} {e v : AV} {u : Value} (hr : readCells none off e = some v) (he : CRel w F β e.cells u.cells) : ∃ z, u.cells[off]? = some z ∧ VRel w F β v z ∧ z.oneCell' = true := by
 unfold readCells at hr
 simp only at hr
 have ho : off < u.cells.size := by rw [he.1]; exact (List.getElem?_eq_some_iff.1 hr).1
 exact ⟨_, Array.getElem?_eq_getElem ho, he.2.1 off v _ hr (Array.getElem?_eq_getElem ho), he.2.2 off _ (Array.getElem?_eq_getElem ho)⟩
theorem readCells_many {n off : Nat} {e v : AV} {us : Array Value} (hr : readCells (some n) off e = some v) (he : CRel w F β e.cells us) :
  (off + n ≤ us.size ∧ VRel w F β v (.agg (us.extract off (off + n)))) ∨ (off = 0 ∧ n = us.size ∧ v = e ∧ e.isAgg = true) := by
 unfold readCells at hr
 simp only at hr
 split at hr
 ·rename_i h
  cases hr
  exact .inr ⟨h.1, by rw [he.1]; exact h.2.1, rfl, h.2.2⟩
 ·split at hr
  ·rename_i h1 h
   cases hr
   refine .inl ⟨by rw [he.1]; exact h, mkAgg_rel ⟨?_, fun j y z hy hz => ?_, fun j z hz => ?_⟩⟩
   ·simp [he.1]; omega
   ·simp only [List.getElem?_take, List.getElem?_drop] at hy
    split at hy
    ·rw [Array.getElem?_extract] at hz
     split at hz
     ·exact he.2.1 _ y z hy hz
     ·cases hz
    ·cases hy
   ·rw [Array.getElem?_extract] at hz
    split at hz
    ·exact he.2.2 _ z hz
    ·cases hz
  ·cases hr
theorem agg_val {e : AV} {u : Value} (he : (∃ cs, e = .d (.agg cs)) ∨ ∃ cs, e = .agg cs) (hx : VRel w F β e u) : ∃ us, u = .agg us := by
 rcases he with ⟨cs, rfl⟩ | ⟨cs, rfl⟩
 ·obtain ⟨vs, h, _⟩ := inv_agg hx; exact ⟨vs, h⟩
 ·cases hx; exact ⟨_, rfl⟩
theorem run_part {t : TypeId} {d : TypeDesc} {i : TypeInfo} (ht : P.underlying t = some d) (hi : P.info? t = some i) (cs : Array Value) (off : Nat) (z : Value) (h : isAggD d = false → cs[off]? = some z) (h2 : isAggD d = true → z = .agg (cs.extract off (off + i.size))) :
  (part t cs off).run P w = .ok z w := by
 unfold part
 simp only [Sem.run_bind, run_isAgg' ht, Result.andThen_ok]
 cases hd : isAggD d with
 | true => simp [run_sizeOf' hi, h2 hd]
 | false => simp [h hd]
theorem ok_fld (hS : SRel w F β sto) {t : TypeId} {x : Operand} {f : Nat} (ho : o.op = .field t x f) {fs : Array Field} {fd : Field} (ht : P.underlying t = some (.struct fs)) (hf : fs[f]? = some fd) {d : TypeDesc} {i : TypeInfo}
  (hd : P.underlying fd.type = some d) (hi : P.info? fd.type = some i) {e v : AV} (hv : readCells (if isAggD d then some i.size else none) fd.offset e = some v) (he : (∃ cs, e = .d (.agg cs)) ∨ ∃ cs, e = .agg cs) (hx : VRel w F β e (ρ x)) :
  OK P o ρ w F β sto v sto := by
 obtain ⟨us, eu⟩ := agg_val he hx
 have hsol : e.solid = true := by rcases he with ⟨cs, rfl⟩ | ⟨cs, rfl⟩ <;> rfl
 have hcr := hx.cr hsol
 rw [eu] at hcr hx
 obtain ⟨z, hz1, hz2⟩ : ∃ z, (part fd.type us fd.offset).run P w = .ok z w ∧ VRel w F β v z := by
  cases had : isAggD d with
  | false =>
   rw [had] at hv
   obtain ⟨z, h1, h2, _⟩ := readCells_one (u := .agg us) hv hcr
   exact ⟨z, run_part hd hi us fd.offset z (fun _ => h1) (fun h => by rw [had] at h; cases h), h2⟩
  | true =>
   rw [had] at hv
   rcases readCells_many hv hcr with ⟨h1, h2⟩ | ⟨h1, h2, h3, _⟩
   ·exact ⟨_, run_part hd hi us fd.offset _ (fun h => by rw [had] at h; cases h) (fun _ => rfl), h2⟩
   ·refine ⟨_, run_part hd hi us fd.offset _ (fun h => by rw [had] at h; cases h) (fun _ => rfl), ?_⟩
    rw [h1, h2, h3, Nat.zero_add]
    simpa [Value.cells] using hx
 refine .same hS z ?_ hz2
 unfold execOp
 rw [ho]; dsimp only; rw [eu]
 simp [Instr.field, run_underlying ht, hf, asAgg, hz1]
theorem ok_len {c : Call} (hS : SRel w F β sto) {t : TypeId} {x : Operand} (ho : o.op = .call { callee := .builtin .len, args := #[x], argTypes := c.argTypes }) (hat : c.argTypes[0]? = some t) {v : AV} (hx : VRel w F β v (ρ x)) {n : Int}
  (hv : (∃ s, v = .d (.str s) ∧ P.underlying t = some .string ∧ n = s.size) ∨ (∃ es xs tt e, v = .d (.sl es xs tt) ∧ P.underlying t = some (.slice e) ∧ n = xs.length) ∨ (∃ a b lo l tt e, v = .row a b lo l tt ∧ P.underlying t = some (.slice e) ∧ n = l)) : OK P o ρ w F β sto (.d (.int .i64 n)) sto := by
 refine .same hS (.int .i64 n) ?_ (.d _ _ (.int _ _))
 have key : (Builtin.len_ c.argTypes o.type #[ρ x]).run P w = .ok (.int .i64 n) w := by
  unfold Builtin.len_
  rw [hat]
  rcases hv with ⟨s, rfl, ht, rfl⟩ | ⟨es, xs, tt, e, rfl, ht, rfl⟩ | ⟨a, b, lo, l, tt, e, rfl, ht, rfl⟩
  ·rw [inv_str hx]
   simp [run_underlying ht, goInt]
  ·generalize ρ x = u at hx ⊢
   cases hx with | d x v h => cases h; simp [run_underlying ht, goInt]
  ·generalize ρ x = u at hx ⊢
   cases hx; simp [run_underlying ht, goInt]
 unfold execOp
 rw [ho]
 simp [resolve, invoke, builtin, key]
theorem ok_cap {c : Call} (hS : SRel w F β sto) {t e : TypeId} {x : Operand} (ho : o.op = .call { callee := .builtin .cap, args := #[x], argTypes := c.argTypes }) (hat : c.argTypes[0]? = some t) (ht : P.underlying t = some (.slice e)) {v : AV} (hx : VRel w F β v (ρ x)) {n : Int}
  (hv : (∃ es xs, v = .d (.sl es xs true) ∧ n = xs.length) ∨ (∃ a b lo l, v = .row a b lo l true ∧ n = l)) : OK P o ρ w F β sto (.d (.int .i64 n)) sto := by
 refine .same hS (.int .i64 n) ?_ (.d _ _ (.int _ _))
 have key : (Builtin.cap_ c.argTypes o.type #[ρ x]).run P w = .ok (.int .i64 n) w := by
  unfold Builtin.cap_
  rw [hat]
  rcases hv with ⟨es, xs, rfl, rfl⟩ | ⟨a, b, lo, l, rfl, rfl⟩
  ·generalize ρ x = u at hx ⊢
   cases hx with | d x v h => cases h with | sl _ _ _ _ cap _ _ _ _ ht' => simp [run_underlying ht, goInt, ht' rfl]
  ·generalize ρ x = u at hx ⊢
   cases hx with | row _ _ _ _ _ _ cap _ ht' _ => simp [run_underlying ht, goInt, ht' rfl]
 unfold execOp
 rw [ho]
 simp [resolve, invoke, builtin, key]
theorem minmax_min : ∀ (r : List AV) (us : List Value) (k : IntKind) (a n : Int), minmax true a r = some n → r.length = us.length → (∀ (j : Nat) (y : AV) (u : Value), r[j]? = some y → us[j]? = some u → VRel w F β y u) →
  (us.foldlM Builtin.min2 (.int k a)).run P w = .ok (.int k n) w
 | [], us, k, a, n, h, hl, _ => by
  cases us with
  | nil => simp [minmax] at h; subst h; rfl
  | cons => simp at hl
 | x :: r, us, k, a, n, h, hl, hr => by
  cases us with
  | nil => simp at hl
  | cons u us =>
   obtain ⟨k', b, rfl⟩ : ∃ k' b, x = .d (.int k' b) := by
    unfold minmax at h
    split at h
    ·rename_i e; cases e
    ·rename_i e; cases e; exact ⟨_, _, rfl⟩
    ·cases h
   simp only [minmax] at h
   have e := inv_int (hr 0 _ u rfl rfl)
   subst e
   rw [List.foldlM_cons]
   simp only [Sem.run_bind, Builtin.min2, Sem.run_pure, Result.andThen_ok]
   exact minmax_min r us k _ n (by simpa using h) (by simpa using hl) fun j y u hy hu => hr (j + 1) y u (by simpa using hy) (by simpa using hu)
theorem minmax_max : ∀ (r : List AV) (us : List Value) (k : IntKind) (a n : Int), minmax false a r = some n → r.length = us.length → (∀ (j : Nat) (y : AV) (u : Value), r[j]? = some y → us[j]? = some u → VRel w F β y u) →
  (us.foldlM Builtin.max2 (.int k a)).run P w = .ok (.int k n) w
 | [], us, k, a, n, h, hl, _ => by
  cases us with
  | nil => simp [minmax] at h; subst h; rfl
  | cons => simp at hl
 | x :: r, us, k, a, n, h, hl, hr => by
  cases us with
  | nil => simp at hl
  | cons u us =>
   obtain ⟨k', b, rfl⟩ : ∃ k' b, x = .d (.int k' b) := by
    unfold minmax at h
    split at h
    ·rename_i e; cases e
    ·rename_i e; cases e; exact ⟨_, _, rfl⟩
    ·cases h
   simp only [minmax] at h
   have e := inv_int (hr 0 _ u rfl rfl)
   subst e
   rw [List.foldlM_cons]
   simp only [Sem.run_bind, Builtin.max2, Sem.run_pure, Result.andThen_ok]
   exact minmax_max r us k _ n (by simpa using h) (by simpa using hl) fun j y u hy hu => hr (j + 1) y u (by simpa using hy) (by simpa using hu)
theorem ok_minmax (hS : SRel w F β sto) {b : Builtin} {lt : Bool} {args : Array Operand} {ts : Array TypeId} (ho : o.op = .call { callee := .builtin b, args := args, argTypes := ts }) (hb : (b = .min ∧ lt = true) ∨ (b = .max ∧ lt = false)) {k : IntKind} {a n : Int} {r : List AV}
  (hl : (AV.d (.int k a) :: r).length = args.toList.length) (hr : ∀ (j : Nat) (y : AV) (u : Value), (AV.d (.int k a) :: r)[j]? = some y → (args.toList.map ρ)[j]? = some u → VRel w F β y u) (hn : minmax lt a r = some n) : OK P o ρ w F β sto (.d (.int k n)) sto := by
 refine .same hS (.int k n) ?_ (.d _ _ (.int _ _))
 obtain ⟨x, us, e⟩ : ∃ x us, args.toList.map ρ = x :: us := by
  cases h : args.toList with
  | nil => rw [h] at hl; simp at hl
  | cons x us => exact ⟨_, _, rfl⟩
 rw [e] at hr
 have e0 := inv_int (hr 0 _ x rfl rfl)
 have hlen : r.length = us.length := by
  have := congrArg List.length e
  simp at this hl
  omega
 subst e0
 have hr' : ∀ (j : Nat) (y : AV) (u : Value), r[j]? = some y → us[j]? = some u → VRel w F β y u := fun j y u hy hu => hr (j + 1) y u (by simpa using hy) (by simpa using hu)
 unfold execOp
 rw [ho]
 rcases hb with ⟨rfl, rfl⟩ | ⟨rfl, rfl⟩
 ·have := minmax_min (P := P) r us k a n hn hlen hr'
  simp [resolve, invoke, builtin, Builtin.min_, e, this]
 ·have := minmax_max (P := P) r us k a n hn hlen hr'
  simp [resolve, invoke, builtin, Builtin.max_, e, this]
end
end Go.Proofs.YtjnfkifdgojdaaaGreat.V

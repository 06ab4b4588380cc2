/- Every operation that the evaluator carries out. -/
import Derived.Test.YtjnfkifdgojdaaaGreatV13m
namespace Go.Proofs.YtjnfkifdgojdaaaGreat.V
open Go
set_option linter.unusedVariables false
set_option linter.unusedSimpArgs false
set_option linter.unusedSectionVars false
variable [Inhabited Flag]
section
variable {P : Program} {w : World} {F : Nat → Prop} {β : Bl} {ρ : Operand → Value} {sto : List Obj} {env : Env}
theorem szOf_spec {t : TypeId} {n : Nat} (h : szOf P t = some n) : ∃ i, P.info? t = some i ∧ i.size = n := by
 simp only [szOf, Option.map_eq_some_iff] at h
 exact h
theorem optEv_rel (hR : RRel w F β env ρ) {x : Option Operand} {x' : Option Opd} (h : opdO x = some x') : ORelO w F β (optEv env x') (x.map ρ) ∧ ((optEv env x').isSome = x'.isSome) := by
 cases x with
 | none => cases h; exact ⟨trivial, rfl⟩
 | some y =>
  simp only [opdO, Option.map_eq_some_iff] at h
  obtain ⟨z, hz, rfl⟩ := h
  exact ⟨hR y z hz, rfl⟩
theorem ok_mkmap (hS : SRel w F β sto) {o : Oper} {t : TypeId} {r : Option Operand} (ho : o.op = .makeMap t r) {a b : TypeId} (ht : P.underlying t = some (.map a b)) (hr : isIntC r = true) (hρ : ∀ c, ρ (.const c) = c) : OK P o ρ w F β sto (.map sto.length) (sto ++ [.mp [] false]) := by
 obtain ⟨h3, h4⟩ := alloc_obj hS (.map #[] 0) (.mp [] false) ⟨w.heap.size, #[], 0, upB_self _ _ _, fun hf => Nat.lt_irrefl _ (hS.flt _ hf), heap_alloc_eq _ _, rfl, fun _ => ⟨rfl, fun i e h => by simp at h⟩, fun i e k v h => by simp at h⟩
 refine ⟨.map (some w.heap.size), _, F, _, .inl ?_, .map _ _ (upB_self β sto.length w.heap.size), h3, h4⟩
 unfold execOp
 rw [ho]
 unfold isIntC at hr
 split at hr
 ·simp [Instr.makeMap]
 ·rename_i k n
  simp [Instr.makeMap, run_underlying ht, hρ, asInt, asIntOf]
 ·cases hr
theorem ok_assert (hS : SRel w F β sto) {o : Oper} {x : Operand} {xt t : TypeId} (ho : o.op = .typeAssert x xt t true) {d : TypeDesc} (hd : P.underlying t = some d) (hn : ∀ m, d ≠ .interface m) {i : TypeInfo} (hi : P.info? t = some i) {z : Value} (hz : i.zero = some z) {zd : D} (hzd : constD z = some zd)
  {a : D} (hx : VRel w F β (.d a) (ρ x)) {v : AV} (hv : (a = .nili ∧ v = .tup [.d zd, .d (.bool false)]) ∨ (∃ t' y, a = .iface t' y ∧ v = if t' = t then .tup [.d y, .d (.bool true)] else .tup [.d zd, .d (.bool false)])) : OK P o ρ w F β sto v sto := by
 have hz2 : VRel w F β (.tup [.d zd, .d (.bool false)]) (.tuple #[z, .bool false]) := by
  refine .tup _ _ rfl fun j y u hy hu => ?_
  match j with
  | 0 => simp at hy hu; subst hy; subst hu; exact .d _ _ (constD_rel hzd)
  | 1 => simp at hy hu; subst hy; subst hu; exact .d _ _ (.bool _)
  | j + 2 => simp at hy
 obtain ⟨uu, euu⟩ : ∃ u, ρ x = u := ⟨_, rfl⟩
 rw [euu] at hx
 cases hx with | d _ _ hD =>
 rcases hv with ⟨rfl, rfl⟩ | ⟨t', y, rfl, rfl⟩
 ·refine .same hS _ ?_ hz2
  unfold execOp
  rw [ho]; dsimp only
  cases hD
  rw [euu]
  simp only [Instr.typeAssert, Sem.run_bind, run_underlying hd, Result.andThen_ok]
  cases d <;> first | (simp [run_zero hi hz]; done) | exact absurd rfl (hn _)
 ·cases hD with | iface _ _ u hu =>
  by_cases c : t' = t
  ·rw [if_pos c]
   refine .same hS (.tuple #[u, .bool true]) ?_ ?_
   ·unfold execOp
    rw [ho]; dsimp only
    rw [euu]
    simp only [Instr.typeAssert, Sem.run_bind, run_underlying hd, Result.andThen_ok]
    cases d <;> first | (simp [c]; done) | exact absurd rfl (hn _)
   ·refine .tup _ _ rfl fun j y' u' hy hu' => ?_
    match j with
    | 0 => simp at hy hu'; subst hy; subst hu'; exact .d _ _ hu
    | 1 => simp at hy hu'; subst hy; subst hu'; exact .d _ _ (.bool _)
    | j + 2 => simp at hy
  ·rw [if_neg c]
   refine .same hS _ ?_ hz2
   unfold execOp
   rw [ho]; dsimp only
   rw [euu]
   simp only [Instr.typeAssert, Sem.run_bind, run_underlying hd, Result.andThen_ok]
   cases d <;> first | (simp [c, run_zero hi hz]; done) | exact absurd rfl (hn _)
theorem ok_range (hS : SRel w F β sto) {o : Oper} {t : TypeId} {x : Operand} (ho : o.op = .range t x) (ht : P.underlying t = some .string) {s : ByteArray} (hx : VRel w F β (.d (.str s)) (ρ x)) : OK P o ρ w F β sto (.iter sto.length) (sto ++ [.iter s 0]) := by
 obtain ⟨h3, h4⟩ := alloc_obj hS (.stringIter s 0) (.iter s 0) ⟨w.heap.size, upB_self _ _ _, fun hf => Nat.lt_irrefl _ (hS.flt _ hf), heap_alloc_eq _ _⟩
 refine ⟨.pointer (some ⟨w.heap.size, 0, none⟩), _, F, _, .inl ?_, .iter _ _ (upB_self β sto.length w.heap.size), h3, h4⟩
 unfold execOp
 rw [ho]; dsimp only; rw [inv_str hx]
 simp [Instr.range, run_underlying ht]
theorem ok_next (hS : SRel w F β sto) {o : Oper} {x : Operand} (ho : o.op = .next x true) {id : Nat} (hx : VRel w F β (.iter id) (ρ x)) {s : ByteArray} {p : Nat} (hs : sto[id]? = some (.iter s p)) :
  if p < s.size then OK P o ρ w F β sto (.tup [.d (.bool true), .d (.int .i64 p), .d (.int .i32 (Utf8.decode s p).1)]) (sto.set id (.iter s (p + (Utf8.decode s p).2))) else OK P o ρ w F β sto (.tup [.d (.bool false)]) sto := by
 obtain ⟨b, h1, h2, h3⟩ := hS.obj id _ hs
 have ex : ρ x = .pointer (some ⟨b, 0, none⟩) := by
  generalize ρ x = u at hx
  cases hx with | iter _ b' hb => rw [h1] at hb; cases hb; rfl
 split
 ·rename_i hp
  have hlt : b < w.heap.size := hS.lt id b h1
  obtain ⟨r1, r2⟩ := write_obj (w' := { w with heap := w.heap.set! b (.stringIter s (p + (Utf8.decode s p).2)) }) hS id b _ (.iter s (p + (Utf8.decode s p).2)) hs rfl h1 rfl rfl rfl rfl (fun _ => Nat.le_refl _) (by simp) (fun k hk => by simp [Array.getElem?_setIfInBounds_ne (Ne.symm hk)])
   (fun c T fr hh => by rw [h3] at hh; cases hh) h2 (fun _ => ⟨b, h1, h2, by simp [hlt]⟩)
  refine ⟨.tuple #[.bool true, goInt p, .int .i32 (Utf8.decode s p).1], _, F, β, .inl ?_, ?_, r1, r2⟩
  ·unfold execOp
   rw [ho]; dsimp only; rw [ex]
   simp [Instr.next, getObj, setObj, Sem.run, h3, hp]
  ·refine .tup _ _ rfl fun j y u hy hu => ?_
   match j with
   | 0 => simp at hy hu; subst hy; subst hu; exact .d _ _ (.bool _)
   | 1 => simp at hy hu; subst hy; subst hu; exact .d _ _ (.int _ _)
   | 2 => simp at hy hu; subst hy; subst hu; exact .d _ _ (.int _ _)
   | j + 3 => simp at hy
 ·rename_i hp
  refine .same hS (.tuple #[.bool false]) ?_ ?_
  ·unfold execOp
   rw [ho]; dsimp only; rw [ex]
   simp [Instr.next, getObj, Sem.run, h3, hp]
  ·refine .tup _ _ rfl fun j y u hy hu => ?_
   match j with
   | 0 => simp at hy hu; subst hy; subst hu; exact .d _ _ (.bool _)
   | j + 1 => simp at hy
set_option maxHeartbeats 2000000 in
theorem op_sound {o : Oper} {vo : VOp} (hlow : lowOp P o = some vo) {v : AV} {sto' : List Obj} (he : evalOp env sto vo = some (v, sto')) (hR : RRel w F β env ρ) (hρ : ∀ c, ρ (.const c) = c) (hS : SRel w F β sto) : OK P o ρ w F β sto v sto' := by
 obtain ⟨dst, op, type, pos, after, guard⟩ := o
 have movs : ∀ (x : Operand), (op = .move x ∨ op = .assign x) → (match x with
   | .const (.slice none 0 0) => (match P.underlying type with
    | some (.slice e) => bindO (szOf P e) fun n => if n = 0 then none else some (.nilrow n)
    | _ => none)
   | x => (opd x).map .mov) = some vo → OK P ⟨dst, op, type, pos, after, guard⟩ ρ w F β sto v sto' := by
  intro x hop h
  split at h
  ·split at h
   ·unfold bindO at h
    try dsimp only at h
    split at h
    ·split at h
     ·cases h
     ·cases h
      simp only [evalOp] at he
      cases he
      exact ok_nilrow hS hop (hρ _) _
    ·cases h
   ·cases h
  ·simp only [Option.map_eq_some_iff] at h
   obtain ⟨x', hx, rfl⟩ := h
   simp only [evalOp] at he
   cases he
   exact ok_mov hS hop (hR _ _ hx)
 cases op
 case move x => exact movs x (.inl rfl) hlow
 case assign x => exact movs x (.inr rfl) hlow
 case pick c a b =>
  simp only [lowOp] at hlow
  split at hlow
  ·rename_i c' a' b' hc ha hb
   cases hlow
   simp only [evalOp] at he
   split at he
   ·rename_i t ht
    have hcv := hR c c' hc
    rw [ht] at hcv
    have hav := hR a a' ha
    have hbv := hR b b' hb
    split at he
    ·rename_i x y hx hy
     cases he
     rw [hx] at hav
     rw [hy] at hbv
     have := ok_pick (P := P) hS (o := ⟨dst, .pick c a b, type, pos, after, guard⟩) rfl hcv hav hbv
     cases t <;> simpa using this
    ·cases he
     exact ok_pick hS rfl hcv hav hbv
   ·cases he
  ·cases hlow
 case alloc e =>
  simp only [lowOp] at hlow
  split at hlow
  ·rename_i ag z hag hz
   split at hlow
   ·rename_i hc
    cases hlow
    simp only [evalOp] at he
    cases he
    exact ok_alloc hS rfl hz hc
   ·cases hlow
  ·cases hlow
 case box e x =>
  simp only [lowOp] at hlow
  split at hlow
  ·rename_i ag n x' hag hn hx
   cases hlow
   simp only [evalOp] at he
   split at he
   ·rename_i hc
    cases he
    exact ok_box hS rfl (hR _ _ hx) hc.2 hc.1
   ·cases he
  ·cases hlow
 case build t parts =>
  simp only [lowOp] at hlow
  split at hlow
  ·rename_i fs z hfs hz
   split at hlow
   ·rename_i hall
    simp only [Option.map_eq_some_iff] at hlow
    obtain ⟨ps, hps, rfl⟩ := hlow
    simp only [evalOp] at he
    split at he
    ·rename_i cs hcs
     cases he
     exact ok_build hS hR rfl hz hcs (.inl ⟨fs, hfs, hps, fun f hf => by
      have := Array.all_eq_true_iff_forall_mem.1 hall f hf
      simpa using this⟩)
    ·cases he
   ·cases hlow
  ·rename_i n e z hfs hz
   unfold bindO at hlow
   try dsimp only at hlow
   split at hlow
   ·rename_i k hk
    obtain ⟨i, hi, rfl⟩ := szOf_spec hk
    simp only [Option.map_eq_some_iff] at hlow
    obtain ⟨ps, hps, rfl⟩ := hlow
    simp only [evalOp] at he
    split at he
    ·rename_i cs hcs
     cases he
     exact ok_build hS hR rfl hz hcs (.inr ⟨n, e, i, hfs, hi, hps⟩)
    ·cases he
   ·cases hlow
  ·cases hlow
 case buildSlice t len parts =>
  simp only [lowOp] at hlow
  split at hlow
  ·rename_i e ht
   split at hlow
   ·rename_i ag z n ps hag hz hn hps
    obtain ⟨i, hi, rfl⟩ := szOf_spec hn
    split at hlow
    ·cases hlow
    ·split at hlow
     ·rename_i hc
      cases hlow
      simp only [Bool.and_eq_true, decide_eq_true_eq, beq_iff_eq] at hc
      simp only [evalOp] at he
      split at he
      ·rename_i xs hxs
       cases he
       exact ok_buildRow hS hR rfl ht hi hz hc.1.1 hc.2 hc.1.2 hps hxs
      ·cases he
     ·cases hlow
   ·cases hlow
  ·cases hlow
 case load t a =>
  simp only [lowOp] at hlow
  split at hlow
  ·rename_i ag a' hag ha
   cases hlow
   unfold agOf at hag
   split at hag
   ·rename_i d i hd hi
    cases hag
    have hav := hR a a' ha
    simp only [evalOp] at he
    split at he
    ·rename_i cs hcs
     rw [hcs] at hav
     cases hagd : isAggD d with
     | false =>
      rw [hagd] at he
      simp only [Bool.false_eq_true, if_false] at he
      split at he
      ·rename_i x hx
       cases he
       exact ok_load hS rfl hd hi hav (.inr (.inl ⟨cs, x, rfl, hagd, hx, rfl⟩))
      ·cases he
     | true =>
      rw [hagd] at he
      simp only [if_true] at he
      split at he
      ·rename_i hle
       cases he
       exact ok_load hS rfl hd hi hav (.inr (.inr (.inl ⟨cs, rfl, hagd, hle, rfl⟩)))
      ·cases he
    ·rename_i cs hcs
     rw [hcs] at hav
     cases hagd : isAggD d with
     | false =>
      rw [hagd] at he
      simp only [Bool.false_eq_true, if_false] at he
      split at he
      ·rename_i x hx
       cases he
       exact ok_load hS rfl hd hi hav (.inl ⟨cs, rfl, hagd, hx⟩)
      ·cases he
     | true =>
      rw [hagd] at he
      simp only [if_true] at he
      cases he
    ·rename_i id es k off hptr
     rw [hptr] at hav
     split at he
     ·rename_i es' xs z hs
      split at he
      ·rename_i hes
       subst hes
       split at he
       ·rename_i e hk
        split at he
        ·rename_i v' hv'
         cases he
         exact ok_load hS rfl hd hi hav (.inr (.inr (.inr ⟨id, _, k, off, xs, z, e, rfl, hs, hk, hv'⟩)))
        ·cases he
       ·cases he
      ·cases he
     ·cases he
    ·cases he
   ·cases hag
  ·cases hlow
 case store t a x =>
  simp only [lowOp] at hlow
  split at hlow
  ·rename_i ag n a' x' hag hn ha hx
   obtain ⟨i, hi, rfl⟩ := szOf_spec hn
   cases hlow
   have hav := hR a a' ha
   simp only [evalOp] at he
   split at he
   ·rename_i id es k off hptr
    rw [hptr] at hav
    split at he
    ·rename_i es' xs hs
     split at he
     ·rename_i hc
      obtain ⟨hes, hl, hsol⟩ := hc
      subst hes
      split at he
      ·rename_i e hk
       split at he
       ·rename_i e' hw
        cases he
        exact ok_store hS rfl hi hav (hR _ _ hx) hsol hl hs hk hw
       ·cases he
      ·cases he
     ·cases he
    ·cases he
   ·cases he
  ·cases hlow
 case nilCheck x =>
  simp only [lowOp, Option.map_eq_some_iff] at hlow
  obtain ⟨x', hx, rfl⟩ := hlow
  have hv := hR x x' hx
  simp only [evalOp] at he
  split at he <;> first | (cases he; done) | skip
  ·rename_i e; rw [e] at hv; cases he; exact ok_nilck hS rfl hv (.inl ⟨_, _, _, _, rfl⟩)
  ·rename_i e; rw [e] at hv; cases he; exact ok_nilck hS rfl hv (.inr (.inl ⟨_, rfl⟩))
  ·rename_i e; rw [e] at hv; cases he; exact ok_nilck hS rfl hv (.inr (.inr (.inl ⟨_, _, _, rfl⟩)))
  ·rename_i e; rw [e] at hv; cases he; exact ok_nilck hS rfl hv (.inr (.inr (.inr ⟨_, _, _, rfl⟩)))
 case binOp op xt x y yt =>
  simp only [lowOp, lowBin] at hlow
  split at hlow
  ·rename_i x' y' hx hy
   have hxv := hR x x' hx
   have hyv := hR y y' hy
   have eqc : ∀ neg : Bool, op = (if neg then .neq else .eql) → lowEq P neg xt x y x' y' = some vo → OK P ⟨dst, .binOp op xt x y yt, type, pos, after, guard⟩ ρ w F β sto v sto' := by
    intro neg hop h
    subst hop
    unfold lowEq at h
    split at h
    ·rename_i d hd
     split at h
     ·rename_i k hk
      split at h
      ·rename_i hf
       cases h
       simp only [evalOp] at he
       split at he
       ·rename_i b hb
        cases he
        exact ok_isnil hS rfl hd hf hb hρ (.inl ⟨hk, hxv⟩)
       ·cases he
      ·cases h
     ·split at h
      ·rename_i k hk
       split at h
       ·rename_i hf
        cases h
        simp only [evalOp] at he
        split at he
        ·rename_i b hb
         cases he
         exact ok_isnil hS rfl hd hf hb hρ (.inr ⟨hk, hyv⟩)
        ·cases he
       ·cases h
      ·split at h
       ·rename_i hdb
        cases h
        have hdb' : d = .bool := by cases d <;> first | rfl | simp [isBoolD] at hdb
        subst hdb'
        simp only [evalOp] at he
        split at he
        ·rename_i a b ha hb
         cases he
         rw [ha] at hxv
         rw [hb] at hyv
         exact ok_eqb hS rfl hxv hyv hd
        ·cases he
       ·split at h
        ·cases h
         simp only [evalOp] at he
         split at he
         ·rename_i a b ha hb
          split at he
          ·rename_i z hz
           cases he
           rw [ha] at hxv
           rw [hb] at hyv
           exact ok_bin hS rfl hxv hyv hz
          ·cases he
         ·cases he
        ·split at h
         ·rename_i ks hks
          cases h
          simp only [evalOp] at he
          split at he
          ·rename_i a b ha hb
           rw [ha] at hxv
           rw [hb] at hyv
           split at he
           ·rename_i t ht
            cases he
            exact ok_eqs hS rfl hks hxv hyv ht
           ·cases he
          ·cases he
         ·cases h
    ·cases h
   split at hlow
   ·exact eqc false rfl hlow
   ·exact eqc true rfl hlow
   ·cases hlow
    simp only [evalOp] at he
    split at he
    ·rename_i a b ha hb
     split at he
     ·rename_i z hz
      cases he
      rw [ha] at hxv
      rw [hb] at hyv
      exact ok_bin hS rfl hxv hyv hz
     ·cases he
    ·cases he
  ·cases hlow
 case unOp op t x =>
  simp only [lowOp, Option.map_eq_some_iff] at hlow
  obtain ⟨x', hx, rfl⟩ := hlow
  have hv := hR x x' hx
  simp only [evalOp] at he
  split at he
  ·rename_i a ha
   rw [ha] at hv
   split at he
   ·rename_i z hz
    cases he
    exact ok_un hS rfl hv hz
   ·cases he
  ·cases he
 case convert s d x =>
  simp only [lowOp, lowConv] at hlow
  split at hlow
  ·rename_i x' sd dd hx hs hd
   have hv := hR x x' hx
   split at hlow
   ·rename_i j k
    cases hlow
    simp only [evalOp] at he
    split at he
    ·rename_i k' n hn
     rw [hn] at hv
     cases he
     exact ok_conv_int hS rfl hs hd (inv_int hv)
    ·cases he
   ·cases hlow
    simp only [evalOp] at he
    split at he
    ·rename_i t ht
     rw [ht] at hv
     cases he
     exact ok_conv_same hS rfl hs hd hv
    ·cases he
   ·rename_i e
    split at hlow
    ·rename_i hu
     cases hlow
     simp only [evalOp] at he
     split at he
     ·rename_i vs hvs
      split at he
      ·rename_i bs hbs
       cases he
       exact ok_bytesToStr hS rfl hs hd hu hv hvs hbs
      ·cases he
     ·cases he
    ·cases hlow
   ·rename_i e
    split at hlow
    ·rename_i hu
     cases hlow
     simp only [evalOp] at he
     split at he
     ·rename_i t ht
      rw [ht] at hv
      cases he
      exact ok_strToBytes hS rfl hs hd hu hv
     ·cases he
    ·cases hlow
   ·cases hlow
    simp only [evalOp] at he
    split at he
    ·rename_i k n hn
     rw [hn] at hv
     cases he
     exact ok_conv_istr hS rfl hs hd (inv_int hv)
    ·cases he
   ·cases hlow
  ·cases hlow
 case makeInterface t x =>
  simp only [lowOp] at hlow
  split at hlow
  ·cases hlow
  ·rename_i d x' hni hd hx
   cases hlow
   simp only [evalOp] at he
   cases he
   exact ok_mkiface hS rfl hd (fun m e => hni m (by first | exact e | (rw [hd] at e; cases e; rfl))) (hR _ _ hx)
  ·cases hlow
 case makeFunc fn a b =>
  simp only [lowOp] at hlow
  split at hlow
  ·rename_i xs ys hxs hys
   cases hlow
   simp only [evalOp] at he
   cases he
   obtain ⟨_, h1, h2⟩ := opds_rel hR _ _ hxs
   obtain ⟨_, h3, h4⟩ := opds_rel hR _ _ hys
   exact ok_mkfunc hS rfl (by simpa using h1) (by simpa using h3) h2 h4
  ·cases hlow
 case makeSlice t l c =>
  simp only [lowOp] at hlow
  split at hlow
  ·rename_i e l' c' ht hl hc
   split at hlow
   ·rename_i ag z i hag hz hi
    split at hlow
    ·cases hlow
    ·split at hlow
     ·rename_i hcond
      cases hlow
      simp only [Bool.and_eq_true, beq_iff_eq] at hcond
      simp only [evalOp] at he
      split at he
      ·rename_i n m hn hm
       split at he
       ·rename_i hb
        cases he
        obtain ⟨k, hk⟩ := intOf_inv hn (hR _ _ hl)
        obtain ⟨k', hk'⟩ := intOf_inv hm (hR _ _ hc)
        exact ok_mkslice hS rfl ht hi hz hcond.1 hcond.2 hk hk' hb.1 hb.2.1 hb.2.2.1 hb.2.2.2.2
       ·cases he
      ·cases he
     ·cases hlow
   ·cases hlow
  ·cases hlow
 case slice t x lo hi mx =>
  simp only [lowOp] at hlow
  split at hlow
  ·rename_i x' l h ht hx hl hh hm
   cases hlow
   have hv := hR x x' hx
   simp only [evalOp] at he
   split at he
   ·rename_i s hs
    rw [hs] at hv
    split at he
    ·rename_i a b c hb
     cases he
     have hmx : mx = none := by
      cases mx with
      | none => rfl
      | some z => simp [opdO] at hm
     subst hmx
     exact ok_slstr hS rfl ht hv hb (optEv_rel hR hl).1 (optEv_rel hR hh).1
    ·cases he
   ·cases he
  ·rename_i e x' l h m ht hx hl hh hm
   unfold bindO at hlow
   try dsimp only at hlow
   split at hlow
   ·rename_i n hn
    obtain ⟨i, hi', rfl⟩ := szOf_spec hn
    split at hlow
    ·cases hlow
    ·split at hlow
     ·cases hlow
     ·rename_i hmh
      cases hlow
      have hv := hR x x' hx
      have hmh' : (optEv env m).isSome → (optEv env h).isSome := by
       rw [(optEv_rel hR hm).2, (optEv_rel hR hh).2]
       intro h1
       cases h with
       | none => simp [h1] at hmh
       | some _ => rfl
      simp only [evalOp] at he
      split at he
      ·rename_i es' xs tt hs
       rw [hs] at hv
       split at he
       ·rename_i hes
        split at he
        ·rename_i a b c hb
         cases he
         exact ok_sl hS rfl ht hi' hv (optEv_rel hR hl).1 (optEv_rel hR hh).1 (optEv_rel hR hm).1 hmh' (.inl ⟨es', xs, tt, rfl, hes, hb, rfl⟩)
        ·cases he
       ·cases he
      ·rename_i id es' lo0 n0 tt hs
       rw [hs] at hv
       split at he
       ·rename_i hes
        subst hes
        split at he
        ·rename_i a b c hb
         cases he
         exact ok_sl hS rfl ht hi' hv (optEv_rel hR hl).1 (optEv_rel hR hh).1 (optEv_rel hR hm).1 hmh' (.inr ⟨id, lo0, n0, tt, rfl, hb, rfl⟩)
        ·cases he
       ·cases he
      ·cases he
   ·cases hlow
  ·cases hlow
 case fieldAddr s x f =>
  simp only [lowOp] at hlow
  split at hlow
  ·rename_i fs x' ht hx
   split at hlow
   ·rename_i fd hf
    unfold bindO at hlow
    try dsimp only at hlow
    split at hlow
    ·rename_i n hn
     obtain ⟨i, hi, rfl⟩ := szOf_spec hn
     split at hlow
     ·cases hlow
     ·rename_i h0
      cases hlow
      have hv := hR x x' hx
      simp only [evalOp] at he
      split at he
      ·rename_i id es k off e
       rw [e] at hv
       cases he
       exact ok_faddr hS rfl ht hf hi h0 hv (.inl ⟨id, es, k, off, rfl, rfl⟩)
      ·rename_i cs e
       rw [e] at hv
       split at he
       ·cases he
        exact ok_faddr hS rfl ht hf hi h0 hv (.inr ⟨cs, rfl, rfl⟩)
       ·cases he
      ·cases he
    ·cases hlow
   ·cases hlow
  ·cases hlow
 case field t x f =>
  simp only [lowOp] at hlow
  split at hlow
  ·rename_i fs x' ht hx
   split at hlow
   ·rename_i fd hf
    unfold bindO at hlow
    try dsimp only at hlow
    split at hlow
    ·rename_i ag hag
     cases hlow
     unfold agOf at hag
     split at hag
     ·rename_i d i hd hi
      cases hag
      have hv := hR x x' hx
      simp only [evalOp] at he
      split at he
      ·rename_i v' hv'
       split at he
       ·rename_i cs e
        rw [e] at hv hv'
        cases he
        exact ok_fld hS rfl ht hf hd hi hv' (.inl ⟨cs, rfl⟩) hv
       ·rename_i cs e
        rw [e] at hv hv'
        cases he
        exact ok_fld hS rfl ht hf hd hi hv' (.inr ⟨cs, rfl⟩) hv
       ·cases he
      ·cases he
     ·cases hag
    ·cases hlow
   ·cases hlow
  ·cases hlow
 case indexAddr t x i =>
  simp only [lowOp] at hlow
  split at hlow
  ·rename_i e x' i' ht hx hi
   unfold bindO at hlow
   try dsimp only at hlow
   split at hlow
   ·rename_i n hn
    obtain ⟨ti, hti, rfl⟩ := szOf_spec hn
    split at hlow
    ·cases hlow
    ·cases hlow
     have hv := hR x x' hx
     simp only [evalOp] at he
     split at he
     ·rename_i k hk
      obtain ⟨kk, hkk⟩ := intOf_inv hk (hR _ _ hi)
      split at he
      ·rename_i h0
       split at he
       ·rename_i es' xs tt e1
        rw [e1] at hv
        split at he
        ·rename_i hes
         subst hes
         split at he
         ·rename_i y hy
          cases he
          exact ok_iaddr hS rfl ht hti hkk h0 hv (.inl ⟨xs, tt, y, rfl, hy, rfl⟩)
         ·cases he
        ·cases he
       ·rename_i id es' lo len tt e1
        rw [e1] at hv
        split at he
        ·rename_i hes
         obtain ⟨hes, hlt⟩ := hes
         subst hes
         cases he
         exact ok_iaddr hS rfl ht hti hkk h0 hv (.inr ⟨id, lo, len, tt, rfl, hlt, rfl⟩)
        ·cases he
       ·cases he
      ·cases he
     ·cases he
   ·cases hlow
  ·rename_i len e x' i' ht hx hi
   unfold bindO at hlow
   try dsimp only at hlow
   split at hlow
   ·rename_i n hn
    obtain ⟨ti, hti, rfl⟩ := szOf_spec hn
    split at hlow
    ·cases hlow
    ·cases hlow
     have hv := hR x x' hx
     simp only [evalOp] at he
     split at he
     ·rename_i k hk
      obtain ⟨kk, hkk⟩ := intOf_inv hk (hR _ _ hi)
      split at he
      ·rename_i h0
       split at he
       ·rename_i id es' kp off e1
        rw [e1] at hv
        cases he
        exact ok_iaddra hS rfl ht hti hkk h0.1 h0.2 hv (.inl ⟨id, es', kp, off, rfl, rfl⟩)
       ·rename_i cs e1
        rw [e1] at hv
        split at he
        ·cases he
         exact ok_iaddra hS rfl ht hti hkk h0.1 h0.2 hv (.inr ⟨cs, rfl, rfl⟩)
        ·cases he
       ·cases he
      ·cases he
     ·cases he
   ·cases hlow
  ·cases hlow
 case index t x i =>
  simp only [lowOp] at hlow
  split at hlow
  rotate_left
  ·rename_i len e x' i' ht hx hi
   unfold bindO at hlow
   try dsimp only at hlow
   split at hlow
   ·rename_i n hn
    obtain ⟨ti, hti, rfl⟩ := szOf_spec hn
    split at hlow
    ·rename_i ag hag
     cases hlow
     unfold agOf at hag
     split at hag
     ·rename_i d ti' hd hti'
      rw [hti] at hti'; cases hti'
      cases hag
      have hv := hR x x' hx
      simp only [evalOp] at he
      split at he
      ·rename_i m hm
       obtain ⟨kk, hkk⟩ := intOf_inv hm (hR _ _ hi)
       split at he
       ·rename_i h0
        split at he
        ·rename_i u hu
         split at he
         ·rename_i cs e1
          rw [e1] at hv hu
          cases he
          exact ok_idxa hS rfl ht hd hti hkk h0.1 h0.2 hu (.inl ⟨cs, rfl⟩) hv
         ·rename_i cs e1
          rw [e1] at hv hu
          cases he
          exact ok_idxa hS rfl ht hd hti hkk h0.1 h0.2 hu (.inr ⟨cs, rfl⟩) hv
         ·cases he
        ·cases he
       ·cases he
      ·cases he
     ·cases hag
    ·cases hlow
   ·cases hlow
  ·cases hlow
  ·rename_i x' i' ht hx hi
   cases hlow
   have hv := hR x x' hx
   simp only [evalOp] at he
   split at he
   ·rename_i s n hs hn
    rw [hs] at hv
    obtain ⟨kk, hkk⟩ := intOf_inv hn (hR _ _ hi)
    split at he
    ·rename_i h0
     split at he
     ·rename_i b hb
      cases he
      exact ok_idxs hS rfl ht hv hkk h0 hb
     ·cases he
    ·cases he
   ·cases he
 case range t x =>
  simp only [lowOp] at hlow
  split at hlow
  ·rename_i ht
   simp only [Option.map_eq_some_iff] at hlow
   obtain ⟨x', hx, rfl⟩ := hlow
   have hv := hR x x' hx
   simp only [evalOp] at he
   split at he
   ·rename_i s e
    rw [e] at hv
    cases he
    exact ok_range hS rfl ht hv
   ·cases he
  ·cases hlow
 case next x str =>
  cases str
  ·simp only [lowOp] at hlow; cases hlow
  simp only [lowOp, Option.map_eq_some_iff] at hlow
  obtain ⟨x', hx, rfl⟩ := hlow
  have hv := hR x x' hx
  simp only [evalOp] at he
  split at he
  ·rename_i id e
   rw [e] at hv
   split at he
   ·rename_i s p hs
    have := ok_next (P := P) (o := ⟨dst, .next x true, type, pos, after, guard⟩) hS rfl hv hs
    split at he
    ·rename_i hp
     cases he
     rw [if_pos hp] at this; exact this
    ·rename_i hp
     cases he
     rw [if_neg hp] at this; exact this
   ·cases he
  ·cases he
 case typeAssert x xt t ok =>
  simp only [lowOp] at hlow
  split at hlow
  ·cases hlow
  ·rename_i d i x' hni hd hi hx
   split at hlow
   ·rename_i z hz
    simp only [Option.map_eq_some_iff] at hlow
    obtain ⟨zd, hzd, rfl⟩ := hlow
    have hv := hR x x' hx
    simp only [evalOp] at he
    split at he
    ·rename_i hok
     subst hok
     have hn : ∀ m, d ≠ .interface m := fun m e => hni m (by first | exact e | (rw [hd] at e; cases e; rfl) | (subst e; exact hd))
     split at he
     ·rename_i e
      rw [e] at hv
      cases he
      exact ok_assert hS rfl hd hn hi hz hzd hv (.inl ⟨rfl, rfl⟩)
     ·rename_i t' y e
      rw [e] at hv
      have := fun v h => ok_assert (v := v) hS (o := ⟨dst, .typeAssert x xt t true, type, pos, after, guard⟩) rfl hd hn hi hz hzd hv (.inr ⟨t', y, rfl, h⟩)
      split at he
      ·rename_i c
       cases he
       exact this _ (by rw [if_pos c])
      ·rename_i c
       cases he
       exact this _ (by rw [if_neg c])
     ·cases he
    ·cases he
   ·cases hlow
  ·cases hlow
 case extract x i =>
  simp only [lowOp, Option.map_eq_some_iff] at hlow
  obtain ⟨x', hx, rfl⟩ := hlow
  have hv := hR x x' hx
  simp only [evalOp] at he
  split at he
  ·rename_i vs e
   rw [e] at hv
   split at he
   ·rename_i u hu
    cases he
    exact ok_extract hS rfl hv hu
   ·cases he
  ·cases he
 case makeMap t r =>
  simp only [lowOp] at hlow
  split at hlow
  ·rename_i a b ht
   split at hlow
   ·rename_i hr
    cases hlow
    simp only [evalOp] at he
    cases he
    exact ok_mkmap hS rfl ht hr hρ
   ·cases hlow
  ·cases hlow
 case lookup t x k ok =>
  simp only [lowOp] at hlow
  split at hlow
  ·rename_i kt et x' k' ht hx hk
   split at hlow
   ·rename_i ag ks z hkk hz
    cases hlow
    simp only [evalOp] at he
    split at he
    ·rename_i kd hkd
     split at he
     ·rename_i e
      cases he
      exact ok_lookup hS rfl ht hkk hz (hR _ _ hk) hkd (.inl ⟨by have := hR _ _ hx; rwa [e] at this, rfl⟩)
     ·split at he
      ·rename_i id kvs zz hm
       split at he
       ·rename_i i v hf
        cases he
        exact ok_lookup hS rfl ht hkk hz (hR _ _ hk) hkd (.inr ⟨_, _, _, _, _, hR _ _ hx, hm, hf, rfl⟩)
       ·rename_i hf
        cases he
        exact ok_lookup hS rfl ht hkk hz (hR _ _ hk) hkd (.inr ⟨_, _, _, _, _, hR _ _ hx, hm, hf, rfl⟩)
       ·cases he
      ·cases he
    ·cases he
   ·cases hlow
  ·cases hlow
 case mapUpdate t m k v =>
  simp only [lowOp] at hlow
  split at hlow
  ·rename_i kt et m' k' v' ht hm hk hv
   split at hlow
   ·rename_i ag ks hkk
    cases hlow
    simp only [evalOp] at he
    split at he
    ·rename_i kd id kvs z hkd hmm
     split at he
     ·rename_i i vo hf
      cases he
      exact ok_mapupd hS (.inl rfl) ht hkk (hR _ _ hm) hmm (hR _ _ hk) hkd (hR _ _ hv) hf
     ·rename_i hf
      cases he
      exact ok_mapupd hS (.inl rfl) ht hkk (hR _ _ hm) hmm (hR _ _ hk) hkd (hR _ _ hv) hf
     ·cases he
    ·cases he
   ·cases hlow
  ·cases hlow
 case insert t m k v =>
  simp only [lowOp] at hlow
  split at hlow
  ·rename_i kt et m' k' v' ht hm hk hv
   split at hlow
   ·rename_i ag ks hkk
    cases hlow
    simp only [evalOp] at he
    split at he
    ·rename_i kd id kvs z hkd hmm
     split at he
     ·rename_i i vo hf
      cases he
      exact ok_mapupd hS (.inr rfl) ht hkk (hR _ _ hm) hmm (hR _ _ hk) hkd (hR _ _ hv) hf
     ·rename_i hf
      cases he
      exact ok_mapupd hS (.inr rfl) ht hkk (hR _ _ hm) hmm (hR _ _ hk) hkd (hR _ _ hv) hf
     ·cases he
    ·cases he
   ·cases hlow
  ·cases hlow
 case mapEntry t m k =>
  simp only [lowOp] at hlow
  split at hlow
  ·rename_i kt et m' k' ht hm hk
   split at hlow
   ·rename_i ag ks z hkk hz
    cases hlow
    simp only [evalOp] at he
    split at he
    ·rename_i kd id kvs hkd hmm
     split at he
     ·rename_i i vo hf
      cases he
      exact ok_mapent hS rfl ht hkk hz (hR _ _ hm) hmm (hR _ _ hk) hkd hf
     ·rename_i hf
      cases he
      exact ok_mapent hS rfl ht hkk hz (hR _ _ hm) hmm (hR _ _ hk) hkd hf
     ·cases he
    ·cases he
   ·cases hlow
  ·cases hlow
 case entryStore t m s v =>
  simp only [lowOp] at hlow
  split at hlow
  ·rename_i m' s' v' hm hs hv
   cases hlow
   simp only [evalOp] at he
   split at he
   ·rename_i id kvs n hmm hn
    split at he
    ·rename_i h0
     split at he
     ·rename_i kd old hg
      cases he
      exact ok_entst hS rfl (hR _ _ hm) hmm (hR _ _ hs) hn h0 (hR _ _ hv) hg
     ·cases he
    ·cases he
   ·cases he
  ·cases hlow
 case panic x =>
  simp only [lowOp, Option.map_eq_some_iff] at hlow
  obtain ⟨x', hx, rfl⟩ := hlow
  simp only [evalOp] at he
  cases he
 case call c =>
  obtain ⟨callee, args, argTypes⟩ := c
  cases callee with
  | invoke a b => simp only [lowOp] at hlow; cases hlow
  | value f =>
   simp only [lowOp] at hlow
   split at hlow
   ·cases hlow; simp only [evalOp] at he; cases he
   ·cases hlow
  | builtin b =>
   simp only [lowOp] at hlow
   unfold lowBuiltin at hlow
   split at hlow
   ·rename_i x hargs
    have hx0 : args = #[x] := by rw [← Array.toList_inj, hargs]
    subst hx0
    split at hlow
    ·rename_i t x' ht hx
     have hv := hR x x' hx
     split at hlow
     ·rename_i hu
      cases hlow
      simp only [evalOp] at he
      split at he
      ·rename_i s e; rw [e] at hv; cases he
       exact ok_len (c := ⟨.builtin .len, #[x], argTypes⟩) hS rfl ht hv (.inl ⟨_, rfl, hu, rfl⟩)
      ·cases he
     ·rename_i e hu
      cases hlow
      simp only [evalOp] at he
      split at he
      ·rename_i es xs tt e1; rw [e1] at hv; cases he
       exact ok_len (c := ⟨.builtin .len, #[x], argTypes⟩) hS rfl ht hv (.inr (.inl ⟨_, _, _, _, rfl, hu, rfl⟩))
      ·rename_i a b lo n tt e1; rw [e1] at hv; cases he
       exact ok_len (c := ⟨.builtin .len, #[x], argTypes⟩) hS rfl ht hv (.inr (.inr ⟨_, _, _, _, _, _, rfl, hu, rfl⟩))
      ·cases he
     ·cases hlow
    ·cases hlow
   ·rename_i x hargs
    have hx0 : args = #[x] := by rw [← Array.toList_inj, hargs]
    subst hx0
    split at hlow
    ·rename_i t x' ht hx
     have hv := hR x x' hx
     split at hlow
     ·rename_i e hu
      cases hlow
      simp only [evalOp] at he
      split at he
      ·rename_i es xs e1; rw [e1] at hv; cases he
       exact ok_cap (c := ⟨.builtin .cap, #[x], argTypes⟩) hS rfl ht hu hv (.inl ⟨_, _, rfl, rfl⟩)
      ·rename_i a b lo n e1; rw [e1] at hv; cases he
       exact ok_cap (c := ⟨.builtin .cap, #[x], argTypes⟩) hS rfl ht hu hv (.inr ⟨_, _, _, _, rfl, rfl⟩)
      ·cases he
     ·cases hlow
    ·cases hlow
   ·rename_i m k hargs
    have hx0 : args = #[m, k] := by rw [← Array.toList_inj, hargs]
    subst hx0
    split at hlow
    ·rename_i t m' k' ht hm hk
     split at hlow
     ·rename_i kt et hu
      unfold bindO at hlow
      split at hlow
      ·rename_i p hkk
       obtain ⟨ag, ks⟩ := p
       cases hlow
       simp only [evalOp] at he
       split at he
       ·rename_i kd id kvs z hkd hmm
        split at he
        ·rename_i i vo hf
         cases he
         exact ok_delete (args := #[m, k]) hS rfl ht hu hkk (hR _ _ hm) hmm (hR _ _ hk) hkd hf
        ·rename_i hf
         cases he
         exact ok_delete (args := #[m, k]) hS rfl ht hu hkk (hR _ _ hm) hmm (hR _ _ hk) hkd hf
        ·cases he
       ·cases he
      ·cases hlow
     ·cases hlow
    ·cases hlow
   ·rename_i s x hargs
    have hx0 : args = #[s, x] := by rw [← Array.toList_inj, hargs]
    subst hx0
    split at hlow
    ·rename_i t u s' x' ht hu0 hs hx
     split at hlow
     ·rename_i e ud hte hud
      split at hlow
      ·rename_i i hi
       split at hlow
       ·cases hlow
       ·rename_i hni
        split at hlow
        ·cases hlow
        ·rename_i hsz
         have hat : argTypes = #[t, u] := by
          have h2 : argTypes.size = 2 := by simpa using hsz
          refine Array.ext (by simpa using h2) fun k hk hk' => ?_
          match k, hk, hk' with
          | 0, _, _ => exact (Array.getElem?_eq_some_iff.1 ht).2
          | 1, _, _ => exact (Array.getElem?_eq_some_iff.1 hu0).2
          | n + 2, h, _ => omega
         subst hat
         split at hlow
         ·cases hlow
         ·split at hlow
          ·cases hlow
          ·rename_i hb0
           split at hlow
           ·rename_i z hz
            split at hlow
            ·rename_i hzs
             cases hlow
             simp only [evalOp] at he
             split at he
             ·rename_i new hnew
              exact ok_append hS rfl hte hud (fun k e => hni k (by rw [e])) hi hz hzs hb0 (hR _ _ hs) (hR _ _ hx) hnew he
             ·cases he
            ·cases hlow
           ·cases hlow
      ·cases hlow
     ·cases hlow
    ·cases hlow
   ·simp only [Option.map_eq_some_iff] at hlow
    obtain ⟨xs, hxs, rfl⟩ := hlow
    obtain ⟨_, h1, h2⟩ := opds_rel hR _ _ hxs
    simp only [evalOp] at he
    split at he
    ·rename_i k a r e
     rw [e] at h1 h2
     split at he
     ·rename_i n hn
      cases he
      exact ok_minmax hS rfl (.inl ⟨rfl, rfl⟩) h1 h2 hn
     ·cases he
    ·cases he
   ·simp only [Option.map_eq_some_iff] at hlow
    obtain ⟨xs, hxs, rfl⟩ := hlow
    obtain ⟨_, h1, h2⟩ := opds_rel hR _ _ hxs
    simp only [evalOp] at he
    split at he
    ·rename_i k a r e
     rw [e] at h1 h2
     split at he
     ·rename_i n hn
      cases he
      exact ok_minmax hS rfl (.inr ⟨rfl, rfl⟩) h1 h2 hn
     ·cases he
    ·cases he
   ·cases hlow
 all_goals (simp only [lowOp] at hlow; cases hlow)
end
end Go.Proofs.YtjnfkifdgojdaaaGreat.V

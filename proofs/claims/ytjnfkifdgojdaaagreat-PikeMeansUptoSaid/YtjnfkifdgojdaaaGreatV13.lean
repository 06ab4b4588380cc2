/- Bytes and texts; structs compared. -/
import Derived.Test.YtjnfkifdgojdaaaGreatV12
namespace Go.Proofs.YtjnfkifdgojdaaaGreat.V
open Go
set_option linter.unusedVariables false
set_option linter.unusedSimpArgs false
set_option linter.unusedSectionVars false
variable [Inhabited Flag]
section
variable {P : Program} {w : World} {F : Nat → Prop} {β : Bl} {o : Oper} {ρ : Operand → Value} {sto : List Obj}
theorem frozen_new (hS : SRel w F β sto) {w' : World} (hsz : w'.heap.size = w.heap.size + 1) (hold : ∀ b, b < w.heap.size → w'.heap[b]? = w.heap[b]?) (hos : w'.os = w.os) (htp : w'.tape = w.tape) (hout : w'.output = w.output) (hdr : drOn → w.drawn ≤ w'.drawn) :
  SRel w' (fun b => F b ∨ b = w.heap.size) β sto ∧ Ext w F β sto w' (fun b => F b ∨ b = w.heap.size) β sto := by
 have hm : Mono w F β w' (fun b => F b ∨ b = w.heap.size) β := ⟨fun _ h => .inl h, fun b hb => hold b (hS.flt b hb), fun _ _ h => h, fun b c T fr h => ⟨c, by rw [hold b (Array.getElem?_eq_some_iff.1 h).1]; exact h, rfl⟩⟩
 refine ⟨⟨fun id y hy => (hS.obj id y hy).mono hm rfl (fun b hb => hold b (hS.lt id b hb)) (fun b hb _ hf => ?_), hS.dom, fun id b hb => ?_, fun b hb => ?_, hS.inj, hS.gl.mono hm⟩, ⟨hm, hos, htp, hout, hdr, by omega, fun b hb _ => hold b hb, Nat.le_refl _, fun _ _ => rfl, fun id b hid hb => (by rw [hS.dom id hid] at hb; cases hb), fun b hb => ?_, fun _ y hy => ⟨y, hy, fun h => h⟩⟩⟩
 ·rcases hf with h | h
  ·exact h
  ·have := hS.lt id b hb; omega
 ·have := hS.lt id b hb; omega
 ·rcases hb with h | h
  ·have := hS.flt b h; omega
  ·omega
 ·rcases hb with h | h
  ·exact .inl h
  ·exact .inr (.inl (by omega))
theorem ok_strToBytes (hS : SRel w F β sto) {s d e : TypeId} {x : Operand} (ho : o.op = .convert s d x) (hs : P.underlying s = some .string) (hd : P.underlying d = some (.slice e)) (he : P.underlying e = some (.int .u8)) {t : ByteArray} (hx : VRel w F β (.d (.str t)) (ρ x)) :
  OK P o ρ w F β sto (.d (.sl 1 (bytesD t) false)) sto := by
 obtain ⟨cap, hcap⟩ : ∃ cap, cap = (Question.appendCap t.size 0 e).cut (w.tape w.drawn (.appendCap t.size 0 e)) := ⟨_, rfl⟩
 have hge : t.size ≤ cap := by rw [hcap]; simp [Question.cut]
 obtain ⟨c, hc⟩ : ∃ c : Array Value, c = t.data.map (fun b => Value.int .u8 b.toNat) ++ Array.replicate (cap - t.size) (.int .u8 0) := ⟨_, rfl⟩
 have hcs : c.size = cap := by rw [hc]; simp; omega
 obtain ⟨w', hw'⟩ : ∃ w', w' = (w.drew.alloc (.cells c e)).freeze ⟨w.heap.size, c.size, none⟩ 1 := ⟨_, rfl⟩
 have hsh : (w.drew.alloc (.cells c e)).shape? w.heap.size = some (e, c.size) := by
  unfold World.shape?
  rw [show (w.drew.alloc (.cells c e)).heap[w.heap.size]? = some (.cells c e) from heap_alloc_eq w.drew _]
 have hrun : (convert s d (.string t)).run P w = .ok (.slice (some ⟨w.heap.size, 0, none⟩) t.size cap) w' := by
  simp [convert, run_underlying hs, run_underlying hd, run_underlying he, Conv.stringToBytes, Question.forced, newRow, markStringish, hsh, hw', ← hc, ← hcap]
 have hheap : w'.heap[w.heap.size]? = some (.cells c e (c.size, c.size + 1)) := by
  rw [hw']
  show ((w.drew.alloc (.cells c e)).heap.modify w.heap.size _)[w.heap.size]? = _
  rw [Array.getElem?_modify, if_pos rfl, show (w.drew.alloc (.cells c e)).heap[w.heap.size]? = some (.cells c e) from heap_alloc_eq w.drew _]
  simp
 have hold : ∀ b, b < w.heap.size → w'.heap[b]? = w.heap[b]? := by
  intro b hb
  rw [hw']
  show ((w.drew.alloc (.cells c e)).heap.modify w.heap.size _)[b]? = _
  rw [Array.getElem?_modify, if_neg (by omega)]
  exact heap_alloc_lt w.drew _ b hb
 obtain ⟨r1, r2⟩ := frozen_new hS (w' := w') (by rw [hw']; simp [World.freeze]) hold (by rw [hw']; rfl) (by rw [hw']; rfl) (by rw [hw']; rfl) (fun _ => by rw [hw']; exact Nat.le_succ _)
 have hlen : (bytesD t).length = t.size := by simp [bytesD]
 refine ⟨.slice (some ⟨w.heap.size, 0, none⟩) t.size cap, w', _, β, .inl ?_, .d _ _ ?_, r1, r2⟩
 ·unfold execOp
  rw [ho]; dsimp only; rw [inv_str hx]
  simp only [Sem.run_bind, hrun, Result.andThen_ok, Sem.run_pure]
 ·rw [← hlen]
  have hb : ∀ (i : Nat) (x : D), (bytesD t)[i]? = some x → ∃ v : UInt8, x = .int .u8 v.toNat ∧ c[i]? = some (.int .u8 v.toNat) := by
   intro i x hx
   simp only [bytesD, List.getElem?_map, Option.map_eq_some_iff] at hx
   obtain ⟨v, hv, rfl⟩ := hx
   refine ⟨v, rfl, ?_⟩
   have hi : i < t.data.size := by have := (List.getElem?_eq_some_iff.1 hv).1; simpa using this
   rw [hc, Array.getElem?_append_left (by simpa using hi)]
   simp at hv
   simp [hv]
  refine .sl 1 (bytesD t) false _ cap w.heap.size 0 (fun i _ => (c[i]?).getD undef) (by rw [hlen]; exact hge) (fun h => by cases h) (fun _ => rfl) (fun _ => .inr rfl) (fun i x hx => ?_) (fun i x j y hx hy => ?_) (fun i x j y hx hy => ?_) (fun i x j y hx hy => ?_)
  ·obtain ⟨v, rfl, _⟩ := hb i x hx; rfl
  all_goals
   obtain ⟨v, rfl, hv⟩ := hb i x hx
   cases j with
   | succ j => simp [D.cells] at hy
   | zero =>
    simp [D.cells] at hy
    subst hy
    first
     | (simp [World.cell?, hheap, hv]; done)
     | (simp only [hv, Option.getD_some]; first | rfl | exact .int _ _)
theorem unbytes_spec : ∀ (vs : List AV) (bs : List UInt8), unbytes vs = some bs → ∃ ns : List Int, vs = ns.map (fun n => .d (.int .u8 n)) ∧ bs = ns.map fun n => UInt8.ofNat n.toNat
 | [], bs, h => by cases h; exact ⟨[], rfl, rfl⟩
 | v :: r, bs, h => by
  unfold unbytes at h
  split at h
  ·rename_i e; cases e
  ·rename_i n r' e
   cases e
   split at h
   ·rename_i bs' hb
    cases h
    obtain ⟨ns, h1, h2⟩ := unbytes_spec r bs' hb
    exact ⟨n :: ns, by simp [h1], by simp [h2]⟩
   ·cases h
  ·cases h
theorem bytes_fold (g : Value → ByteArray → Sem (ForInStep ByteArray)) (hg : ∀ n s, g (.int .u8 n) s = pure (.yield (s.push (UInt8.ofNat n.toNat)))) : ∀ (ns : List Int) (acc : ByteArray),
  (forIn (ns.map fun n => Value.int .u8 n) acc g).run P w = .ok ⟨acc.data ++ (ns.map fun n => UInt8.ofNat n.toNat).toArray⟩ w
 | [], acc => by simp
 | n :: r, acc => by
  have := bytes_fold g hg r (acc.push (UInt8.ofNat n.toNat))
  simp only [List.map_cons, List.forIn_cons, hg, Sem.run_bind, Sem.run_pure, Result.andThen_ok]
  rw [this]
  congr 1
  cases acc
  simp [ByteArray.push]
theorem ok_bytesToStr (hS : SRel w F β sto) {s d e : TypeId} {x : Operand} (ho : o.op = .convert s d x) (hs : P.underlying s = some (.slice e)) (hd : P.underlying d = some .string) (he : P.underlying e = some (.int .u8)) {v : AV} (hx : VRel w F β v (ρ x)) {vs : List AV} {bs : List UInt8} (hv : elems sto 1 v = some vs) (hb : unbytes vs = some bs) :
  OK P o ρ w F β sto (.d (.str ⟨bs.toArray⟩)) sto := by
 obtain ⟨ns, rfl, rfl⟩ := unbytes_spec vs bs hb
 obtain ⟨a, cap, f, e1, e2, e3, e4, _⟩ := elems_src (P := P) hS hx hv
 simp only [List.length_map, Nat.mul_one] at e1 e2 e3 e4
 have hf : ∀ k, k < ns.length → f k = .int .u8 (ns.getD k 0) := by
  intro k hk
  have hx1 : (ns.map (fun n => AV.d (.int .u8 n)))[k]? = some (.d (.int .u8 (ns.getD k 0))) := by simp [hk, List.getD]
  have hu : (((List.range ns.length).map f).toArray)[k * 1 + 0]? = some (f k) := by simp [hk]
  exact inv_int (e4.2.2 k _ 0 _ (f k) hx1 rfl hu).1
 have hlist : (List.range ns.length).map f = ns.map fun n => Value.int .u8 n := by
  apply List.ext_getElem?
  intro k
  by_cases hk : k < ns.length
  ·simp [hk, hf k hk, List.getD]
  ·simp [hk]
 have hcells := e3.2.2.2 w rfl
 rw [e1, hlist] at hcells
 refine .same hS (.string ⟨(ns.map fun n => UInt8.ofNat n.toNat).toArray⟩) ?_ (.d _ _ (.str _))
 have hrun : (convert s d (.slice a ns.length cap)).run P w = .ok (.string ⟨(ns.map fun n => UInt8.ofNat n.toNat).toArray⟩) w := by
  unfold convert
  simp only [Sem.run_bind, run_underlying hs, run_underlying hd, Result.andThen_ok, run_underlying he]
  cases a with
  | none =>
   have h0 : ns.length = 0 := by
    simp only [Builtin.firstCells, Sem.run_pure] at hcells
    have := congrArg (fun r => match r with | Result.ok (a : Array Value) _ => a.size | _ => 0) hcells
    simpa using this.symm
   have : ns = [] := List.eq_nil_of_length_eq_zero h0
   subst this
   rfl
  | some ad =>
   simp only [Builtin.firstCells, Nat.mul_one] at hcells
   simp only [Conv.bytesToString, Sem.run_bind, hcells, Result.andThen_ok]
   simp only [List.forIn_toArray]
   rw [bytes_fold (P := P) (w := w) _ (fun _ _ => rfl) ns ByteArray.empty]
   simp [ByteArray.empty, ByteArray.emptyWithCapacity]
   rfl
 unfold execOp
 rw [ho]; dsimp only; rw [e1]
 simp only [Sem.run_bind, hrun, Result.andThen_ok, Sem.run_pure]
theorem beq_ba (a b : ByteArray) : (a == b) = decide (a = b) := by
 have h : (a == b) = (a.data == b.data) := rfl
 rw [h, Bool.eq_iff_iff]
 cases a; cases b
 simp
theorem eq_one {k : SK} {x y : D} {b : Bool} (h : eqK [k] [x] [y] = some b) {u v : Value} {t : TypeId} {d : TypeDesc} (hx : DRel w F x u) (hy : DRel w F y v) (hd : P.underlying t = some d) (hk : skOf d = some k) (n : Nat) :
  (Op.equalIn (n + 1) t u v).run P w = .ok b w := by
 cases d <;> simp only [skOf] at hk <;> (try (cases hk; done)) <;> cases hk
 ·cases x <;> (try (simp [eqK] at h; done)) <;> cases y <;> (try (simp [eqK] at h; done))
  simp only [eqK] at h
  cases hx; cases hy
  split at h <;> rename_i hab <;> cases h <;> simp [Op.equalIn, run_underlying hd, hab]
 ·cases x <;> (try (simp [eqK] at h; done)) <;> cases y <;> (try (simp [eqK] at h; done))
  simp only [eqK] at h
  cases hx; cases hy
  split at h
  ·rename_i hkk
   subst hkk
   split at h <;> rename_i hab <;> cases h <;> simp [Op.equalIn, run_underlying hd, hab]
  ·cases h
 ·cases x <;> (try (simp [eqK] at h; done)) <;> cases y <;> (try (simp [eqK] at h; done))
  simp only [eqK] at h
  cases hx; cases hy
  split at h <;> rename_i hab <;> cases h <;> simp [Op.equalIn, run_underlying hd, hab, beq_ba]
theorem eqK_cons {k : SK} {ks : List SK} {a b : List D} {t : Bool} (h : eqK (k :: ks) a b = some t) : ∃ x r y q, a = x :: r ∧ b = y :: q ∧ ((eqK [k] [x] [y] = some true ∧ eqK ks r q = some t) ∨ (eqK [k] [x] [y] = some false ∧ t = false)) := by
 cases a with
 | nil => cases k <;> simp [eqK] at h
 | cons x r =>
  cases b with
  | nil => cases k <;> cases x <;> simp [eqK] at h
  | cons y q =>
   refine ⟨x, r, y, q, rfl, rfl, ?_⟩
   cases k <;> cases x <;> (try (simp [eqK] at h; done)) <;> cases y <;> (try (simp [eqK] at h; done)) <;> simp only [eqK] at h ⊢
   ·split at h
    ·rename_i hab; exact .inl ⟨by simp [hab], h⟩
    ·rename_i hab; cases h; exact .inr ⟨by simp [hab], rfl⟩
   ·split at h
    ·rename_i hk
     split at h
     ·rename_i hab; exact .inl ⟨by simp [hk, hab], h⟩
     ·rename_i hab; cases h; exact .inr ⟨by simp [hk, hab], rfl⟩
    ·cases h
   ·split at h
    ·rename_i hab; exact .inl ⟨by simp [hab], h⟩
    ·rename_i hab; cases h; exact .inr ⟨by simp [hab], rfl⟩
theorem eq_loop (n : Nat) (us vs : Array Value) : ∀ (l : List Field) (i : Nat) (ks : List SK) (a b : List D) (t : Bool), kindsFrom P l i = some ks → eqK ks a b = some t →
  (∀ (j : Nat) (y : D), a[j]? = some y → ∃ u, us[i + j]? = some u ∧ DRel w F y u) → (∀ (j : Nat) (y : D), b[j]? = some y → ∃ u, vs[i + j]? = some u ∧ DRel w F y u) →
  (forIn l ((none, ()) : Option Bool × Unit) fun (f : Field) _ =>
      if f.name ≠ "_" then do
       let x ← part f.type us f.offset
       let y ← part f.type vs f.offset
       let z ← Op.equalIn (n + 1) f.type x y
       if (!z) = true then pure (ForInStep.done (some false, ())) else pure (ForInStep.yield (none, ()))
      else pure (ForInStep.yield (none, ()))).run P w = .ok (if t then (none, ()) else (some false, ())) w
 | [], i, ks, a, b, t, hk, h, _, _ => by
  cases hk
  unfold eqK at h
  split at h <;> first | (cases h; done) | skip
  ·cases h; simp
  all_goals (rename_i e _ _; cases e)
 | f :: l, i, ks, a, b, t, hk, h, ha, hb => by
  simp only [kindsFrom] at hk
  split at hk
  ·rename_i hc
   simp only [Bool.and_eq_true, bne_iff_ne, beq_iff_eq] at hc
   split at hk
   ·rename_i d ks' hd hks
    split at hk
    ·rename_i k hsk
     cases hk
     obtain ⟨x, r, y, q, rfl, rfl, hcase⟩ := eqK_cons h
     obtain ⟨u, hu, hxu⟩ := ha 0 x rfl
     obtain ⟨v, hv, hyv⟩ := hb 0 y rfl
     have hag : isAggD d = false := by cases d <;> simp [skOf] at hsk <;> rfl
     have p1 : (part f.type us f.offset).run P w = .ok u w := by
      unfold part
      simp only [Sem.run_bind, run_isAgg' hd, Result.andThen_ok, hag, Bool.false_eq_true, if_false, hc.2]
      rw [show us[i]? = some u from by simpa using hu]
      rfl
     have p2 : (part f.type vs f.offset).run P w = .ok v w := by
      unfold part
      simp only [Sem.run_bind, run_isAgg' hd, Result.andThen_ok, hag, Bool.false_eq_true, if_false, hc.2]
      rw [show vs[i]? = some v from by simpa using hv]
      rfl
     simp only [List.forIn_cons, hc.1, ne_eq, not_false_eq_true, if_true, Sem.run_bind, p1, p2, Result.andThen_ok]
     rcases hcase with ⟨h1, h2⟩ | ⟨h1, h2⟩
     ·have := eq_loop n us vs l (i + 1) ks' r q t hks h2 (fun j z hz => by have := ha (j + 1) z (by simpa using hz); rwa [show i + (j + 1) = i + 1 + j by omega] at this) (fun j z hz => by have := hb (j + 1) z (by simpa using hz); rwa [show i + (j + 1) = i + 1 + j by omega] at this)
      simp only [eq_one h1 hxu hyv hd hsk n, Result.andThen_ok, Bool.not_true, Bool.false_eq_true, if_false, Sem.run_pure]
      exact this
     ·subst h2
      simp only [eq_one h1 hxu hyv hd hsk n, Result.andThen_ok, Bool.not_false, if_true, Sem.run_pure]
      rfl
    ·cases hk
   ·cases hk
  ·cases hk
theorem ok_eqs {sto : List Obj} (hS : SRel w F β sto) {neg : Bool} {xt : TypeId} {x y : Operand} {yt : TypeId} (ho : o.op = .binOp (if neg then .neq else .eql) xt x y yt) {ks : List SK} (hp : plainStruct P xt = some ks) {a b : List D} {t : Bool}
  (ha : VRel w F β (.d (.agg a)) (ρ x)) (hb : VRel w F β (.d (.agg b)) (ρ y)) (ht : eqK ks a b = some t) : OK P o ρ w F β sto (.d (.bool (if neg then !t else t))) sto := by
 obtain ⟨us, e1, s1, _, r1⟩ := inv_agg ha
 obtain ⟨vs, e2, s2, _, r2⟩ := inv_agg hb
 unfold plainStruct at hp
 split at hp
 ·rename_i fs hfs
  split at hp
  ·rename_i hc
   simp only [Bool.and_eq_true, Bool.not_eq_true'] at hc
   have heq : (Op.equal xt (.agg us) (.agg vs)).run P w = .ok t w := by
    obtain ⟨n, hn⟩ : ∃ n, Op.equal xt (.agg us) (.agg vs) = Op.equalIn (n + 1 + 1) xt (.agg us) (.agg vs) := ⟨9998, rfl⟩
    rw [hn]
    unfold Op.equalIn
    simp only [Sem.run_bind, run_underlying hfs, Result.andThen_ok, run_program, hc.1, Bool.false_eq_true, if_false, Sem.run_pure]
    have := eq_loop (P := P) (w := w) (F := F) n us vs fs.toList 0 ks a b t hp ht (fun j z hz => ⟨us[j]'(by rw [s1]; exact (List.getElem?_eq_some_iff.1 hz).1), by simp, r1 j z _ hz (Array.getElem?_eq_getElem _)⟩) (fun j z hz => ⟨vs[j]'(by rw [s2]; exact (List.getElem?_eq_some_iff.1 hz).1), by simp, r2 j z _ hz (Array.getElem?_eq_getElem _)⟩)
    rw [← Array.forIn_toList, this]
    cases t <;> rfl
   have hg : ∀ op, (eqGuard op xt x y (ρ x) (ρ y)).run P w = .ok () w := by
    intro op
    rw [e1, e2]
    unfold eqGuard
    cases op <;> simp [hc.2]
   refine .same hS (.bool (if neg then !t else t)) (exec_binOp ho (hg _) ?_) (.d _ _ (.bool _))
   rw [e1, e2]
   cases neg
   ·show (do pure (Value.bool (← Op.equal xt (.agg us) (.agg vs))) : Sem Value).run P w = _
    simp only [Sem.run_bind, heq, Result.andThen_ok, Sem.run_pure, Bool.false_eq_true, if_false]
   ·show (do pure (Value.bool (!(← Op.equal xt (.agg us) (.agg vs)))) : Sem Value).run P w = _
    simp only [Sem.run_bind, heq, Result.andThen_ok, Sem.run_pure, if_true]
  ·cases hp
 ·cases hp
end
end Go.Proofs.YtjnfkifdgojdaaaGreat.V

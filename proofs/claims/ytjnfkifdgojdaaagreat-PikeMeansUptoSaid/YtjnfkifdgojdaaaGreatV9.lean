/- Rows filled, written, appended to. -/
import Derived.Test.YtjnfkifdgojdaaaGreatV8
namespace Go.Proofs.YtjnfkifdgojdaaaGreat.V
open Go
set_option linter.unusedVariables false
set_option linter.unusedSimpArgs false
set_option linter.unusedSectionVars false
variable [Inhabited Flag]
section
variable {P : Program} {w : World} {F : Nat → Prop} {β : Bl} {o : Oper} {ρ : Operand → Value} {sto : List Obj}
theorem setMany_length : ∀ (vs cs : List AV) (i : Nat), (setMany cs i vs).length = cs.length
 | [], _, _ => rfl
 | v :: r, cs, i => by simp [setMany, setMany_length r]
theorem setMany_get : ∀ (vs cs : List AV) (i k : Nat), i + vs.length ≤ cs.length → (setMany cs i vs)[k]? = if i ≤ k ∧ k < i + vs.length then vs[k - i]? else cs[k]?
 | [], cs, i, k, _ => by simp [setMany]; intro h1 h2; omega
 | v :: r, cs, i, k, h => by
  simp only [List.length_cons] at h
  rw [setMany, setMany_get r _ _ _ (by simp; omega)]
  simp only [List.length_cons]
  by_cases h1 : i + 1 ≤ k ∧ k < i + 1 + r.length
  ·rw [if_pos h1, if_pos (by omega), show k - i = (k - (i + 1)) + 1 by omega]
   simp
  ·rw [if_neg h1]
   by_cases h2 : k = i
   ·subst h2
    rw [if_pos (by omega), Nat.sub_self, List.getElem?_set_self (by omega)]
    rfl
   ·rw [if_neg (by omega), List.getElem?_set_ne (by omega)]
theorem fold_get : ∀ (l : List Value) (s off : Nat) (c : Array Value) (k : Nat), ((l.zipIdx s).foldl (fun cs (x : Value × Nat) => cs.setIfInBounds (off + x.2) x.1) c).size = c.size ∧
  ((l.zipIdx s).foldl (fun cs (x : Value × Nat) => cs.setIfInBounds (off + x.2) x.1) c)[k]? = if off + s ≤ k ∧ k < off + s + l.length ∧ k < c.size then l[k - (off + s)]? else c[k]?
 | [], s, off, c, k => by simp; intro h1 h2; omega
 | v :: r, s, off, c, k => by
  rw [List.zipIdx_cons, List.foldl_cons]
  obtain ⟨h1, h2⟩ := fold_get r (s + 1) off (c.setIfInBounds (off + s) v) k
  refine ⟨by rw [h1]; simp, ?_⟩
  rw [h2]
  simp only [Array.size_setIfInBounds, List.length_cons]
  by_cases ha : off + (s + 1) ≤ k ∧ k < off + (s + 1) + r.length ∧ k < c.size
  ·rw [if_pos ha, if_pos (by omega), show k - (off + s) = (k - (off + (s + 1))) + 1 by omega]
   simp
  ·rw [if_neg ha]
   by_cases hk : k = off + s
   ·subst hk
    by_cases hc : off + s < c.size
    ·rw [if_pos (by omega)]
     simp [hc]
    ·rw [if_neg (by omega)]
     simp [hc]
   ·rw [if_neg (by omega), Array.getElem?_setIfInBounds_ne (by omega)]
theorem fold_arr (us : Array Value) (off : Nat) (c : Array Value) (k : Nat) : (us.zipIdx.foldl (fun cs (x, j) => cs.setIfInBounds (off + j) x) c).size = c.size ∧
  (us.zipIdx.foldl (fun cs (x, j) => cs.setIfInBounds (off + j) x) c)[k]? = if off ≤ k ∧ k < off + us.size ∧ k < c.size then us[k - off]? else c[k]? := by
 have := fold_get us.toList 0 off c k
 rw [← Array.foldl_toList, Array.toList_zipIdx]
 simpa using this
theorem mkAgg_cells (cs : List AV) : (mkAgg cs).cells = cs ∧ (mkAgg cs).solid = true := by
 unfold mkAgg
 split
 ·rename_i xs hx
  have := allD_spec _ _ hx
  subst this
  exact ⟨rfl, rfl⟩
 ·exact ⟨rfl, rfl⟩
theorem mk1_cells (cs : List AV) : (mk1 cs).cells = cs := by
 unfold mk1
 split
 ·rfl
 ·exact (mkAgg_cells _).1
theorem fill_cells (place : Nat → Option (Nat × Nat)) {env : Env} : ∀ (ps : List (Nat × Operand)) (ps' : List (Nat × Nat × Opd)) (cs cs' : List AV) (us : Array Value),
  ps.length = ps'.length → (∀ (k : Nat) (a : Nat × Operand) (b : Nat × Nat × Opd), ps[k]? = some a → ps'[k]? = some b → place a.1 = some (b.1, b.2.1) ∧ VRel w F β (b.2.2.ev env) (ρ a.2)) →
  buildCells env cs ps' = some cs' → CRel w F β cs us → ∃ us', Instr.fill place us (ps.map fun (i, x) => (i, ρ x)) = some us' ∧ CRel w F β cs' us'
 | [], ps', cs, cs', us, hl, _, hb, hr => by
  cases ps' with
  | nil => simp [buildCells] at hb; subst hb; exact ⟨us, rfl, hr⟩
  | cons => simp at hl
 | (i, x) :: ps, ps', cs, cs', us, hl, hp, hb, hr => by
  cases ps' with
  | nil => simp at hl
  | cons q ps' =>
   obtain ⟨off, n, y⟩ := q
   simp only [buildCells] at hb
   split at hb
   ·rename_i hc
    obtain ⟨h1, h2⟩ := hp 0 (i, x) (off, n, y) rfl rfl
    have hcr := h2.cr hc.2.2
    have hsz : (ρ x).cells.size = n := by rw [hcr.1]; exact hc.1
    have hr' : CRel w F β (setMany cs off (y.ev env).cells) ((ρ x).cells.zipIdx.foldl (fun cs (c, j) => cs.setIfInBounds (off + j) c) us) := by
     refine ⟨by rw [(fold_arr (ρ x).cells off us 0).1, setMany_length, hr.1], fun j z u hz hu => ?_, fun j u hu => ?_⟩
     ·rw [(fold_arr (ρ x).cells off us j).2] at hu
      rw [setMany_get _ _ _ _ (by rw [hc.1]; exact hc.2.1)] at hz
      by_cases hj : off ≤ j ∧ j < off + n
      ·rw [if_pos (by rw [hc.1]; exact hj)] at hz
       rw [if_pos (by rw [hsz, hr.1]; have := hc.2.1; omega)] at hu
       exact hcr.2.1 _ z u hz hu
      ·rw [if_neg (by rw [hc.1]; exact hj)] at hz
       rw [if_neg (by rw [hsz]; omega)] at hu
       exact hr.2.1 j z u hz hu
     ·rw [(fold_arr (ρ x).cells off us j).2] at hu
      split at hu
      ·exact hcr.2.2 _ u hu
      ·exact hr.2.2 _ u hu
    obtain ⟨us', h3, h4⟩ := fill_cells place ps ps' _ cs' _ (by simpa using hl) (fun k a b ha hb => hp (k + 1) a b (by simpa using ha) (by simpa using hb)) hb hr'
    refine ⟨us', ?_, h4⟩
    simp only [List.map_cons, Instr.fill, h1]
    rw [if_neg (by rw [hsz, hr.1]; simp; exact hc.2.1)]
    exact h3
   ·cases hb
theorem zero_cr {zs : List D} {us : Array Value} (hz : constCs us.toList = some zs) : CRel w F β (zs.map .d) us := by
 obtain ⟨h1, h2⟩ := constCs_rel _ _ hz
 refine ⟨by simpa using h1, fun j y u hy hu => ?_, fun j u hu => ?_⟩
 ·simp only [List.getElem?_map, Option.map_eq_some_iff] at hy
  obtain ⟨x, hx, rfl⟩ := hy
  exact .d _ _ (constC_rel (h2 j x u hx (by simpa using hu)))
 ·have hj : j < zs.length := by have := (Array.getElem?_eq_some_iff.1 hu).1; simp at h1; omega
  exact (constC_one (h2 j _ u (List.getElem?_eq_getElem hj) (by simpa using hu))).2.2.1
theorem partsF_spec {fs : Array Field} {env : Env} (hR : RRel w F β env ρ) : ∀ (ps : List (Nat × Operand)) (ps' : List (Nat × Nat × Opd)), partsF P fs ps = some ps' →
  ps.length = ps'.length ∧ ∀ (k : Nat) (a : Nat × Operand) (b : Nat × Nat × Opd), ps[k]? = some a → ps'[k]? = some b → (∃ (f : Field) (i : TypeInfo), fs[a.1]? = some f ∧ P.info? f.type = some i ∧ b.1 = f.offset ∧ b.2.1 = i.size) ∧ VRel w F β (b.2.2.ev env) (ρ a.2)
 | [], ps', h => by cases h; exact ⟨rfl, fun k a b ha => by simp at ha⟩
 | (i, x) :: r, ps', h => by
  simp only [partsF] at h
  split at h
  ·rename_i f y ys hf hy hys
   split at h
   ·rename_i n hn
    cases h
    obtain ⟨h1, h2⟩ := partsF_spec hR r ys hys
    refine ⟨by simp [h1], fun k a b ha hb => ?_⟩
    cases k with
    | zero =>
     simp at ha hb
     subst ha; subst hb
     simp only [szOf, Option.map_eq_some_iff] at hn
     obtain ⟨ti, hti, e⟩ := hn
     exact ⟨⟨f, ti, hf, hti, rfl, e.symm⟩, hR x y hy⟩
    | succ k => exact h2 k a b (by simpa using ha) (by simpa using hb)
   ·cases h
  ·cases h
theorem partsA_spec {es : Nat} {env : Env} (hR : RRel w F β env ρ) : ∀ (ps : List (Nat × Operand)) (ps' : List (Nat × Nat × Opd)), partsA es ps = some ps' →
  ps.length = ps'.length ∧ ∀ (k : Nat) (a : Nat × Operand) (b : Nat × Nat × Opd), ps[k]? = some a → ps'[k]? = some b → b.1 = a.1 * es ∧ b.2.1 = es ∧ VRel w F β (b.2.2.ev env) (ρ a.2)
 | [], ps', h => by cases h; exact ⟨rfl, fun k a b ha => by simp at ha⟩
 | (i, x) :: r, ps', h => by
  simp only [partsA] at h
  split at h
  ·rename_i y ys hy hys
   cases h
   obtain ⟨h1, h2⟩ := partsA_spec hR r ys hys
   refine ⟨by simp [h1], fun k a b ha hb => ?_⟩
   cases k with
   | zero => simp at ha hb; subst ha; subst hb; exact ⟨rfl, rfl, hR x y hy⟩
   | succ k => exact h2 k a b (by simpa using ha) (by simpa using hb)
  ·cases h
theorem partsS_spec {env : Env} (hR : RRel w F β env ρ) : ∀ (ps : List (Nat × Operand)) (ps' : List (Nat × Opd)), partsS ps = some ps' →
  ps.length = ps'.length ∧ ∀ (k : Nat) (a : Nat × Operand) (b : Nat × Opd), ps[k]? = some a → ps'[k]? = some b → b.1 = a.1 ∧ VRel w F β (b.2.ev env) (ρ a.2)
 | [], ps', h => by cases h; exact ⟨rfl, fun k a b ha => by simp at ha⟩
 | (i, x) :: r, ps', h => by
  simp only [partsS] at h
  split at h
  ·rename_i y ys hy hys
   cases h
   obtain ⟨h1, h2⟩ := partsS_spec hR r ys hys
   refine ⟨by simp [h1], fun k a b ha hb => ?_⟩
   cases k with
   | zero => simp at ha hb; subst ha; subst hb; exact ⟨rfl, hR x y hy⟩
   | succ k => exact h2 k a b (by simpa using ha) (by simpa using hb)
  ·cases h
theorem run_mapM_fields {fs : Array Field} {sz : Field → Nat} (h : ∀ f ∈ fs, (sizeOf f.type).run P w = .ok (sz f) w) :
  (fs.mapM fun f => (do pure (f.offset, ← sizeOf f.type) : Sem (Nat × Nat))).run P w = .ok (fs.map fun f => (f.offset, sz f)) w := by
 have key : ∀ (l : List Field), (∀ f ∈ l, (sizeOf f.type).run P w = .ok (sz f) w) → (l.mapM fun f => (do pure (f.offset, ← sizeOf f.type) : Sem (Nat × Nat))).run P w = .ok (l.map fun f => (f.offset, sz f)) w := by
  intro l
  induction l with
  | nil => intro _; simp
  | cons f l ih =>
   intro h
   rw [List.mapM_cons]
   simp only [Sem.run_bind, h f (by simp), Result.andThen_ok, Sem.run_pure, ih fun g hg => h g (by simp [hg]), List.map_cons]
 obtain ⟨l, rfl⟩ : ∃ l : List Field, fs = l.toArray := ⟨fs.toList, by simp⟩
 rw [List.mapM_toArray]
 simp only [Sem.run_map, key l (fun f hf => h f (by simpa using hf)), Result.andThen_ok]
 simp
theorem ok_build {t : TypeId} {parts : Array (Nat × Operand)} {env : Env} (hS : SRel w F β sto) (hR : RRel w F β env ρ) (ho : o.op = .build t parts) {zs : List D} (hz : zeroCells' P t = some zs) {ps : List (Nat × Nat × Opd)} {cs : List AV} (hb : buildCells env (zs.map .d) ps = some cs)
  (hk : (∃ fs, P.underlying t = some (.struct fs) ∧ partsF P fs parts.toList = some ps ∧ ∀ f ∈ fs, (P.info? f.type).isSome = true) ∨ (∃ n e i, P.underlying t = some (.array n e) ∧ P.info? e = some i ∧ partsA i.size parts.toList = some ps)) : OK P o ρ w F β sto (mkAgg cs) sto := by
 obtain ⟨i, z, hi, hz1, hz2⟩ := zeroCells_spec hz
 have hz0 : CRel w F β (zs.map .d) z.cells := zero_cr hz2
 have fin : ∀ (us : Array Value), (Instr.build t (parts.map fun (i, x) => (i, ρ x))).run P w = .ok (.agg us) w → CRel w F β cs us → OK P o ρ w F β sto (mkAgg cs) sto := by
  intro us h1 h2
  refine .same hS (.agg us) ?_ (mkAgg_rel h2)
  unfold execOp
  rw [ho]
  simp only [Sem.run_bind, h1, Result.andThen_ok, Sem.run_pure]
 rcases hk with ⟨fs, ht, hp, hall⟩ | ⟨n, e, ie, ht, hie, hp⟩
 ·obtain ⟨h1, h2⟩ := partsF_spec (w := w) (F := F) (β := β) (P := P) hR _ _ hp
  have hsz : ∀ f ∈ fs, (sizeOf f.type).run P w = .ok (((P.info? f.type).map (·.size)).getD 0) w := by
   intro f hf
   have := hall f hf
   cases hq : P.info? f.type with
   | none => rw [hq] at this; cases this
   | some i => simp [run_sizeOf' hq]
  obtain ⟨us, h3, h4⟩ := fill_cells (ρ := ρ) (w := w) (F := F) (β := β) (fun j => (fs.map fun f => (f.offset, ((P.info? f.type).map (·.size)).getD 0))[j]?) parts.toList ps _ cs z.cells h1 (fun k a b ha hb => by
   obtain ⟨⟨f, i, hf, hi, e1, e2⟩, hv⟩ := h2 k a b ha hb
   exact ⟨by simp [hf, hi, e1, e2], hv⟩) hb hz0
  refine fin us ?_ h4
  have hl : (parts.map fun (i, x) => (i, ρ x)).toList = parts.toList.map fun (i, x) => (i, ρ x) := by simp
  unfold Instr.build
  simp only [Sem.run_bind, run_zero hi hz1, Result.andThen_ok, run_underlying ht, run_mapM_fields hsz, hl, h3, Sem.run_pure]
 ·obtain ⟨h1, h2⟩ := partsA_spec (w := w) (F := F) (β := β) hR _ _ hp
  obtain ⟨us, h3, h4⟩ := fill_cells (ρ := ρ) (w := w) (F := F) (β := β) (fun j => some (j * ie.size, ie.size)) parts.toList ps _ cs z.cells h1 (fun k a b ha hb => by
   obtain ⟨e1, e2, hv⟩ := h2 k a b ha hb
   exact ⟨by rw [e1, e2], hv⟩) hb hz0
  refine fin us ?_ h4
  have hl : (parts.map fun (i, x) => (i, ρ x)).toList = parts.toList.map fun (i, x) => (i, ρ x) := by simp
  unfold Instr.build
  simp only [Sem.run_bind, run_zero hi hz1, Result.andThen_ok, run_underlying ht, run_sizeOf' hie, hl, h3, Sem.run_pure]
def Flat (w : World) (F : Nat → Prop) (β : Bl) (es : Nat) (xs : List AV) (c : Array Value) : Prop :=
 xs.length * es ≤ c.size ∧ (∀ (i : Nat) (x : AV), xs[i]? = some x → x.cells.length = es) ∧ ∀ (i : Nat) (x : AV) (j : Nat) (y : AV) (u : Value), xs[i]? = some x → x.cells[j]? = some y → c[i * es + j]? = some u → VRel w F β y u ∧ u.oneCell' = true
theorem flat_lt {es i j n : Nat} (hi : i < n) (hj : j < es) : i * es + j < n * es := by
 have : (i + 1) * es ≤ n * es := Nat.mul_le_mul_right _ hi
 rw [Nat.succ_mul] at this
 omega
theorem zeros_flat {es n m : Nat} {x : AV} {z : Array Value} (hz : CRel w F β x.cells z) (hes : x.cells.length = es) (hnm : n ≤ m) (h0 : m * es = 0 ∨ z.size = es) : Flat w F β es (List.replicate n x) ((Array.range (m * es)).map fun k => z[k % z.size]!) := by
 have hzs : z.size = es := by rw [hz.1, hes]
 refine ⟨by simpa using Nat.mul_le_mul_right es hnm, fun i y hy => ?_, fun i y j y' u hy hj hu => ?_⟩
 ·have := List.mem_of_getElem? hy
  rw [(List.mem_replicate.1 this).2]; exact hes
 ·have he : y = x := (List.mem_replicate.1 (List.mem_of_getElem? hy)).2
  subst he
  have hjl : j < es := by rw [← hes]; exact (List.getElem?_eq_some_iff.1 hj).1
  have hu' := (Array.getElem?_eq_some_iff.1 hu)
  obtain ⟨hk, hu'⟩ := hu'
  simp only [Array.getElem_map, Array.getElem_range] at hu'
  rw [hzs, Nat.mul_comm i es, Nat.mul_add_mod, Nat.mod_eq_of_lt hjl] at hu'
  rw [getElem!_pos z j (by omega)] at hu'
  have hzj : z[j]? = some u := by rw [Array.getElem?_eq_getElem (by omega), hu']
  exact ⟨hz.2.1 j y' u hj hzj, hz.2.2 j u hzj⟩
theorem map_range0 (f : Nat → Value) : (Array.range 0).map f = #[] := Array.eq_empty_of_size_eq_zero (by simp)
theorem ok_mkslice (hS : SRel w F β sto) {t e : TypeId} {l c : Operand} (ho : o.op = .makeSlice t l c) (ht : P.underlying t = some (.slice e)) {i : TypeInfo} (hi : P.info? e = some i) {ag : Bool} {zs : List D} (hz : zeroCells' P e = some zs) (hag : (ag || zs.length == 1) = true) (hzl : zs.length = i.size) {k k' : IntKind} {n m : Int}
  (hl : ρ l = .int k n) (hc : ρ c = .int k' m) (h0 : 0 ≤ n) (hnm : n ≤ m) (hb : m * i.bytes ≤ 281474976710656) (hm : m ≤ 9223372036854775807) :
  OK P o ρ w F β sto (.row sto.length i.size 0 n.toNat (n == m)) (sto ++ [.row i.size (List.replicate n.toNat (elemOf ag zs)) false]) := by
 obtain ⟨i', z, hi', hz1, hz2⟩ := zeroCells_spec hz
 rw [hi] at hi'
 cases hi'
 obtain ⟨h1, h2, _⟩ := elemOf_rel (w := w) (F := F) (β := β) hz2 hag
 have hzs : z.cells.size = i.size := by rw [h2.1, h1, hzl]
 have hf := zeros_flat (n := n.toNat) (m := m.toNat) h2 (h1.trans hzl) (by omega) (.inr hzs)
 obtain ⟨h3, h4⟩ := alloc_row hS ((Array.range (m.toNat * i.size)).map fun k => z.cells[k % z.cells.size]!) e i.size (List.replicate n.toNat (elemOf ag zs)) hf.2.1 hf.1 hf.2.2
 refine ⟨.slice (some ⟨w.heap.size, 0, none⟩) n.toNat m.toNat, _, F, _, .inl ?_, .row _ _ _ _ _ _ _ (by omega) (fun h => by simp at h; omega) (fun _ => ⟨w.heap.size, _, _, _, upB_self _ _ _, by simp, heap_alloc_eq _ _, by simp⟩), h3, h4⟩
 unfold execOp
 rw [ho]; dsimp only; rw [hl, hc]
 have wn : IntKind.i64.wrap n = n := by simp only [IntKind.wrap, IntKind.bits, IntKind.signed]; simp; omega
 have wm : IntKind.i64.wrap m = m := by simp only [IntKind.wrap, IntKind.bits, IntKind.signed]; simp; omega
 have hb' : ¬ (i.bytes * m > 2 ^ 48) := by rw [Int.mul_comm]; simp; omega
 have c1 : (decide (m < 0) || decide (i.bytes * m > 2 ^ 48)) = false := by simp; simp at hb'; omega
 have c2 : ((decide (m < 0) || decide (i.bytes * m > 2 ^ 48)) || decide (n < 0) || decide (n > m)) = false := by rw [c1]; simp; omega
 unfold Instr.makeSlice
 simp only [Sem.run_bind, run_underlying ht, Result.andThen_ok, asInt, asIntOf, Sem.run_pure, typeInfo, run_program, hi, wn, wm, c2, Bool.false_eq_true, if_false, run_askRoom, sizeOf]
 by_cases hq : m.toNat * i.size = 0
 ·rw [if_pos hq]
  simp only [Sem.run_bind, Sem.run_pure, Result.andThen_ok, newRow, run_newObj, World.alloc_eq]
  rw [hq]
  simp only [map_range0]
 ·rw [if_neg hq]
  simp only [Sem.run_bind, Sem.run_pure, Result.andThen_ok, run_zero hi hz1, newRow, run_newObj, World.alloc_eq]
theorem fill_rows {env : Env} (es : Nat) : ∀ (ps : List (Nat × Operand)) (ps' : List (Nat × Opd)) (xs xs' : List AV) (us : Array Value),
  ps.length = ps'.length → (∀ (k : Nat) (a : Nat × Operand) (b : Nat × Opd), ps[k]? = some a → ps'[k]? = some b → b.1 = a.1 ∧ VRel w F β (b.2.ev env) (ρ a.2)) →
  fillRow env es xs ps' = some xs' → Flat w F β es xs us → us.size = xs.length * es → ∃ us', Instr.fill (fun i => some (i * es, es)) us (ps.map fun (i, x) => (i, ρ x)) = some us' ∧ Flat w F β es xs' us' ∧ us'.size = xs'.length * es ∧ xs'.length = xs.length
 | [], ps', xs, xs', us, hl, _, hb, hr, hs => by
  cases ps' with
  | nil => simp [fillRow] at hb; subst hb; exact ⟨us, rfl, hr, hs, rfl⟩
  | cons => simp at hl
 | (i, x) :: ps, ps', xs, xs', us, hl, hp, hb, hr, hs => by
  cases ps' with
  | nil => simp at hl
  | cons q ps' =>
   obtain ⟨i', y⟩ := q
   simp only [fillRow] at hb
   split at hb
   ·rename_i hc
    obtain ⟨h1, h2⟩ := hp 0 (i, x) (i', y) rfl rfl
    simp only at h1
    subst h1
    have hcr := h2.cr hc.2.2
    have hsz : (ρ x).cells.size = es := by rw [hcr.1]; exact hc.1
    have hle : i' * es + es ≤ xs.length * es := by have := Nat.mul_le_mul_right es hc.2.1; rw [Nat.succ_mul] at this; exact this
    have hr' : Flat w F β es (xs.set i' (y.ev env)) ((ρ x).cells.zipIdx.foldl (fun cs (c, j) => cs.setIfInBounds (i' * es + j) c) us) := by
     refine ⟨by rw [(fold_arr (ρ x).cells (i' * es) us 0).1, List.length_set]; exact hr.1, fun k z hz => ?_, fun k z j y' u hz hj hu => ?_⟩
     ·by_cases hk : k = i'
      ·subst hk; rw [List.getElem?_set_self hc.2.1] at hz; cases hz; exact hc.1
      ·rw [List.getElem?_set_ne (Ne.symm hk)] at hz; exact hr.2.1 k z hz
     ·rw [(fold_arr (ρ x).cells (i' * es) us _).2] at hu
      by_cases hk : k = i'
      ·subst hk
       rw [List.getElem?_set_self hc.2.1] at hz
       cases hz
       have hjl : j < es := by rw [← hc.1]; exact (List.getElem?_eq_some_iff.1 hj).1
       rw [if_pos (by rw [hsz]; omega), show k * es + j - k * es = j by omega] at hu
       exact ⟨hcr.2.1 j y' u hj hu, hcr.2.2 j u hu⟩
      ·rw [List.getElem?_set_ne (Ne.symm hk)] at hz
       have hjl : j < es := by rw [← hr.2.1 k z hz]; exact (List.getElem?_eq_some_iff.1 hj).1
       rw [if_neg (by
        rw [hsz]
        intro h
        rcases Nat.lt_or_gt_of_ne hk with h1 | h1
        ·have := Nat.mul_le_mul_right es h1; rw [Nat.succ_mul] at this; omega
        ·have := Nat.mul_le_mul_right es h1; rw [Nat.succ_mul] at this; omega)] at hu
       exact hr.2.2 k z j y' u hz hj hu
    obtain ⟨us', h3, h4, h5, h6⟩ := fill_rows es ps ps' _ xs' _ (by simpa using hl) (fun k a b ha hb => hp (k + 1) a b (by simpa using ha) (by simpa using hb)) hb hr' (by rw [(fold_arr (ρ x).cells (i' * es) us 0).1, List.length_set]; exact hs)
    refine ⟨us', ?_, h4, h5, by rw [h6, List.length_set]⟩
    simp only [List.map_cons, Instr.fill]
    rw [if_neg (by rw [hsz, hs]; simp; exact hle)]
    exact h3
   ·cases hb
theorem ok_buildRow (hS : SRel w F β sto) {env : Env} (hR : RRel w F β env ρ) {t e : TypeId} {len : Nat} {parts : Array (Nat × Operand)} (ho : o.op = .buildSlice t len parts) (ht : P.underlying t = some (.slice e)) {i : TypeInfo} (hi : P.info? e = some i) {ag : Bool} {zs : List D} (hz : zeroCells' P e = some zs) (hag : (ag || zs.length == 1) = true) (hzl : zs.length = i.size) (hlen : len * i.size ≤ 16777216)
  {ps : List (Nat × Opd)} (hp : partsS parts.toList = some ps) {xs : List AV} (hx : fillRow env i.size (List.replicate len (elemOf ag zs)) ps = some xs) : OK P o ρ w F β sto (.row sto.length i.size 0 len true) (sto ++ [.row i.size xs false]) := by
 obtain ⟨i', z, hi', hz1, hz2⟩ := zeroCells_spec hz
 rw [hi] at hi'
 cases hi'
 obtain ⟨h1, h2, _⟩ := elemOf_rel (w := w) (F := F) (β := β) hz2 hag
 have hzs : z.cells.size = i.size := by rw [h2.1, h1, hzl]
 have hf := zeros_flat (n := len) (m := len) h2 (h1.trans hzl) (Nat.le_refl _) (.inr hzs)
 obtain ⟨p1, p2⟩ := partsS_spec (w := w) (F := F) (β := β) hR _ _ hp
 obtain ⟨us, h3, h4, h5, h6⟩ := fill_rows i.size parts.toList ps _ xs _ p1 p2 hx hf (by simp)
 obtain ⟨h7, h8⟩ := alloc_row hS us e i.size xs h4.2.1 h4.1 h4.2.2
 have hxl : xs.length = len := by rw [h6]; simp
 refine ⟨.slice (some ⟨w.heap.size, 0, none⟩) len len, _, F, _, .inl ?_, .row _ _ _ _ _ _ _ (Nat.le_refl _) (fun _ => rfl) (fun _ => ⟨w.heap.size, _, _, _, upB_self _ _ _, by simp, heap_alloc_eq _ _, by rw [h5, hxl]; simp⟩), h7, h8⟩
 have hl : (parts.map fun (i, x) => (i, ρ x)).toList = parts.toList.map fun (i, x) => (i, ρ x) := by simp
 unfold execOp
 rw [ho]; dsimp only
 unfold Instr.buildSlice
 simp only [Sem.run_bind, run_underlying ht, Result.andThen_ok, run_sizeOf' hi]
 rw [if_neg (by simp; omega)]
 by_cases hq : len * i.size = 0
 ·rw [if_pos hq]
  rw [hq, map_range0] at h3
  simp only [Sem.run_bind, Sem.run_pure, Result.andThen_ok]
  rw [hq, map_range0, hl, h3]
  simp only [Sem.run_bind, Sem.run_pure, Result.andThen_ok, newRow, run_newObj, World.alloc_eq]
 ·rw [if_neg hq]
  simp only [Sem.run_bind, Sem.run_pure, Result.andThen_ok, run_zero hi hz1, hl, h3, newRow, run_newObj, World.alloc_eq]
end
end Go.Proofs.YtjnfkifdgojdaaaGreat.V

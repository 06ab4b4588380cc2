/- Addresses, loads, cuts. -/
import Derived.Test.YtjnfkifdgojdaaaGreatV6
namespace Go.Proofs.YtjnfkifdgojdaaaGreat.V
open Go
set_option linter.unusedVariables false
set_option linter.unusedSimpArgs false
set_option linter.unusedSectionVars false
variable [Inhabited Flag]
section
variable {P : Program} {w : World} {F : Nat → Prop} {β : Bl} {o : Oper} {ρ : Operand → Value} {sto : List Obj}
theorem allD_map : ∀ (cs : List D), allD (cs.map AV.d) = some cs
 | [] => rfl
 | x :: r => by simp [allD, allD_map r]
theorem inv_dptr {cs : List D} {v : Value} (h : VRel w F β (.d (.ptr cs)) v) : ∃ (b off : Nat) (cell : Nat → Value), v = .pointer (some ⟨b, off, none⟩) ∧ F b ∧ (∀ (j : Nat) (y : D), cs[j]? = some y → w.cell? ⟨b, off + j, none⟩ = some (cell j)) ∧ (∀ (j : Nat) (y : D), cs[j]? = some y → (cell j).oneCell' = true) ∧ (∀ (j : Nat) (y : D), cs[j]? = some y → DRel w F y (cell j)) := by
 cases h with | d x v h => cases h with | ptr cs b off cell hF hc h1 hr => exact ⟨b, off, cell, rfl, hF, hc, h1, hr⟩
theorem DRel.drop {cs : List D} {b off : Nat} {cell : Nat → Value} (hF : F b) (hc : ∀ (j : Nat) (y : D), cs[j]? = some y → w.cell? ⟨b, off + j, none⟩ = some (cell j)) (h1 : ∀ (j : Nat) (y : D), cs[j]? = some y → (cell j).oneCell' = true)
  (hr : ∀ (j : Nat) (y : D), cs[j]? = some y → DRel w F y (cell j)) (n : Nat) : DRel w F (.ptr (cs.drop n)) (.pointer (some ⟨b, off + n, none⟩)) :=
 .ptr _ b (off + n) (fun j => cell (n + j)) hF (fun j y hy => by rw [Nat.add_assoc]; exact hc _ y (by simpa using hy)) (fun j y hy => h1 _ y (by simpa using hy)) (fun j y hy => hr _ y (by simpa using hy))
theorem ok_faddr (hS : SRel w F β sto) {s : TypeId} {x : Operand} {f : Nat} (ho : o.op = .fieldAddr s x f) {fs : Array Field} {fd : Field} (ht : P.underlying s = some (.struct fs)) (hf : fs[f]? = some fd) {i : TypeInfo} (hi : P.info? fd.type = some i) (hn : i.size ≠ 0)
  {v v' : AV} (hx : VRel w F β v (ρ x)) (hv : (∃ id es k off, v = .ptr id es k off ∧ v' = .ptr id es k (off + fd.offset)) ∨ (∃ cs, v = .d (.ptr cs) ∧ v' = .d (.ptr (cs.drop fd.offset)))) : OK P o ρ w F β sto v' sto := by
 have run : ∀ (b off : Nat), ρ x = .pointer (some ⟨b, off, none⟩) → (execOp ρ o).run P w = .ok (.value (.pointer (some ⟨b, off + fd.offset, none⟩))) w := by
  intro b off e
  unfold execOp
  rw [ho]; dsimp only; rw [e]
  simp [Instr.fieldAt, run_underlying ht, hf, Instr.sureAddr, fieldPlace, run_sizeOf' hi, hn, Addr.add_lit]
 rcases hv with ⟨id, es, k, off, rfl, rfl⟩ | ⟨cs, rfl, rfl⟩
 ·obtain ⟨b, hb, e⟩ := inv_ptr hx
  refine .same hS _ (run _ _ e) ?_
  rw [Nat.add_assoc]
  exact .ptr id es k (off + fd.offset) b hb
 ·obtain ⟨b, off, cell, e, hF, hc, h1, hr⟩ := inv_dptr hx
  exact .same hS _ (run _ _ e) (.d _ _ (DRel.drop hF hc h1 hr fd.offset))
theorem ok_iaddr (hS : SRel w F β sto) {t e : TypeId} {x i : Operand} (ho : o.op = .indexAddr t x i) (ht : P.underlying t = some (.slice e)) {ti : TypeInfo} (hi : P.info? e = some ti) {k : IntKind} {n : Int} (hn : ρ i = .int k n) (h0 : 0 ≤ n)
  {v v' : AV} (hx : VRel w F β v (ρ x)) (hv : (∃ xs tt y, v = .d (.sl ti.size xs tt) ∧ xs[n.toNat]? = some y ∧ v' = .d (.ptr y.cells)) ∨ (∃ id lo len tt, v = .row id ti.size lo len tt ∧ n.toNat < len ∧ v' = .ptr id ti.size (lo + n.toNat) 0)) : OK P o ρ w F β sto v' sto := by
 have run : ∀ (b off len cap : Nat), ρ x = .slice (some ⟨b, off, none⟩) len cap → n.toNat < len → (execOp ρ o).run P w = .ok (.value (.pointer (some ⟨b, off + n.toNat * ti.size, none⟩))) w := by
  intro b off len cap e hl
  unfold execOp
  rw [ho]; dsimp only; rw [e, hn]
  have h1 : 0 ≤ n ∧ n < (len : Int) := ⟨h0, by omega⟩
  simp [Instr.indexAt, asIntOf, run_underlying ht, h1, run_sizeOf' hi, Addr.add_lit]
 rcases hv with ⟨xs, tt, y, rfl, hy, rfl⟩ | ⟨id, lo, len, tt, rfl, hl, rfl⟩
 ·have hlt : n.toNat < xs.length := (List.getElem?_eq_some_iff.1 hy).1
  generalize hu : ρ x = u at hx
  cases hx with | d x v h => cases h with | sl es xs t a cap b off cell hlc ht' ha hF hes hc h1 hr =>
   rw [ha (by omega)] at hu
   refine .same hS _ (run b off _ cap hu hlt) (.d _ _ (.ptr _ b _ (cell n.toNat) (hF (by omega)) (fun j z hz => hc _ y j z hy hz) (fun j z hz => h1 _ y j z hy hz) (fun j z hz => hr _ y j z hy hz)))
 ·generalize hu : ρ x = u at hx
  cases hx with | row id es lo len t a cap hlc ht' hb =>
   obtain ⟨b, c, T, fr, h1, rfl, h3, h4⟩ := hb (by omega)
   refine .same hS _ (run b _ len cap hu hl) ?_
   rw [← Nat.add_mul]
   exact .ptr id ti.size (lo + n.toNat) 0 b h1
theorem row_elem {id es : Nat} {xs : List AV} {z : Bool} (hO : ORel w F β id (.row es xs z)) {b : Nat} (hb : β id = some b) {i : Nat} {e : AV} (he : xs[i]? = some e) :
  ∃ (c : Array Value) (T : TypeId) (fr : Nat × Nat), w.heap[b]? = some (.cells c T fr) ∧ i * es + es ≤ c.size ∧ CRel w F β e.cells (c.extract (i * es) (i * es + es)) := by
 obtain ⟨_, hes, h⟩ := hO
 obtain ⟨c, T, fr, h1, h2, h3, _, _⟩ := h b hb
 have hi : i < xs.length := (List.getElem?_eq_some_iff.1 he).1
 have hle : i * es + es ≤ c.size := by
  have : (i + 1) * es ≤ xs.length * es := Nat.mul_le_mul_right _ hi
  rw [Nat.succ_mul] at this
  omega
 refine ⟨c, T, fr, h1, hle, ?_, fun j y u hy hu => ?_, fun j u hu => ?_⟩
 ·rw [hes i e he]; simp; omega
 ·rw [Array.getElem?_extract] at hu
  split at hu
  ·exact (h3 i e j y u he hy hu).1
  ·cases hu
 ·rw [Array.getElem?_extract] at hu
  split at hu
  ·rename_i hj
   have hj' : j < e.cells.length := by rw [hes i e he]; omega
   exact (h3 i e j _ u he (List.getElem?_eq_getElem hj') hu).2
  ·cases hu
theorem run_loadVar_at {t : TypeId} {d : TypeDesc} {i : TypeInfo} (ht : P.underlying t = some d) (hi : P.info? t = some i) (b off : Nat) (c : Array Value) (T : TypeId) (fr : Nat × Nat) (hb : w.heap[b]? = some (.cells c T fr)) {z : Value}
  (h1 : isAggD d = false → c[off]? = some z) (h2 : isAggD d = true → off + i.size ≤ c.size ∧ z = .agg (c.extract off (off + i.size))) : (loadVar t ⟨b, off, none⟩).run P w = .ok z w := by
 unfold loadVar
 simp only [Sem.run_bind, run_isAgg' ht, Result.andThen_ok]
 cases hd : isAggD d with
 | true =>
  obtain ⟨h3, rfl⟩ := h2 hd
  simp only [if_true, run_sizeOf' hi, Sem.run_bind, Result.andThen_ok]
  have : (loadCells ⟨b, off, none⟩ i.size).run P w = .ok (c.extract off (off + i.size)) w := by
   have hl : (c.extract off (off + i.size)).toList.length = i.size := by simp; omega
   have := run_loadCells_list (P := P) w ⟨b, off, none⟩ (c.extract off (off + i.size)).toList (fun j v hv => by
    rw [Addr.add_lit]
    rw [Array.getElem?_toList, Array.getElem?_extract] at hv
    split at hv
    ·simp [World.cell?, hb, hv]
    ·cases hv)
   rw [hl, Array.toArray_toList] at this
   exact this
  simp [this]
 | false =>
  simp [run_load, World.cell?, hb, h1 hd]
theorem ok_load (hS : SRel w F β sto) {t : TypeId} {a : Operand} (ho : o.op = .load t a) {d : TypeDesc} {i : TypeInfo} (ht : P.underlying t = some d) (hi : P.info? t = some i) {v v' : AV} (hx : VRel w F β v (ρ a))
  (hv : (∃ cs, v = .box cs ∧ isAggD d = false ∧ cs[0]? = some v') ∨ (∃ cs x, v = .d (.ptr cs) ∧ isAggD d = false ∧ cs[0]? = some x ∧ v' = .d x) ∨ (∃ cs, v = .d (.ptr cs) ∧ isAggD d = true ∧ i.size ≤ cs.length ∧ v' = .d (.agg (cs.take i.size))) ∨
   (∃ id es k off xs z e, v = .ptr id es k off ∧ sto[id]? = some (.row es xs z) ∧ xs[k]? = some e ∧ readCells (if isAggD d then some i.size else none) off e = some v')) : OK P o ρ w F β sto v' sto := by
 have run : ∀ (b off : Nat) (z : Value), ρ a = .pointer (some ⟨b, off, none⟩) → (loadVar t ⟨b, off, none⟩).run P w = .ok z w → (execOp ρ o).run P w = .ok (.value z) w := by
  intro b off z e hz
  unfold execOp
  rw [ho]; dsimp only; rw [e]
  simp [Instr.loadAt, Instr.sureAddr, hz]
 rcases hv with ⟨cs, rfl, hd, h0⟩ | ⟨cs, x, rfl, hd, h0, rfl⟩ | ⟨cs, rfl, hd, hl, rfl⟩ | ⟨id, es, k, off, xs, z, e, rfl, hs, hk, hr⟩
 ·obtain ⟨b, off, cell, e, hF, hc, h1, hr⟩ : ∃ (b off : Nat) (cell : Nat → Value), ρ a = .pointer (some ⟨b, off, none⟩) ∧ F b ∧ (∀ (j : Nat) (y : AV), cs[j]? = some y → w.cell? ⟨b, off + j, none⟩ = some (cell j)) ∧ (∀ (j : Nat) (y : AV), cs[j]? = some y → (cell j).oneCell' = true) ∧ (∀ (j : Nat) (y : AV), cs[j]? = some y → VRel w F β y (cell j)) := by
   generalize ρ a = z at hx
   cases hx with | box _ b off cell hF hc h1 hr => exact ⟨b, off, cell, rfl, hF, hc, h1, hr⟩
  refine .same hS (cell 0) (run b off _ e ?_) (hr 0 _ h0)
  unfold loadVar
  simp only [Sem.run_bind, run_isAgg' ht, Result.andThen_ok, hd]
  have := hc 0 _ h0
  simp only [Nat.add_zero] at this
  simp [run_load, this]
 ·obtain ⟨b, off, cell, e, hF, hc, h1, hr⟩ := inv_dptr hx
  refine .same hS (cell 0) (run b off _ e ?_) (.d _ _ (hr 0 x h0))
  unfold loadVar
  simp only [Sem.run_bind, run_isAgg' ht, Result.andThen_ok, hd]
  have := hc 0 x h0
  simp only [Nat.add_zero] at this
  simp [run_load, this]
 ·obtain ⟨b, off, cell, e, hF, hc, h1, hr⟩ := inv_dptr hx
  have hcell : ∀ j, j < i.size → w.cell? ⟨b, off + j, none⟩ = some (cell j) := fun j hj => hc j _ (List.getElem?_eq_getElem (by omega))
  refine .same hS (.agg ((List.range i.size).map cell).toArray) (run b off _ e ?_) (.d _ _ (.agg _ _ (by simp; omega) (fun j u hu => ?_) (fun j y u hy hu => ?_)))
  ·unfold loadVar
   simp only [Sem.run_bind, run_isAgg' ht, Result.andThen_ok, hd, if_true, run_sizeOf' hi]
   have := run_loadCells (P := P) w ⟨b, off, none⟩ i.size cell (fun j hj => by rw [Addr.add_lit]; exact hcell j hj)
   rw [this]
   rfl
  ·have hj : j < i.size := by have := (Array.getElem?_eq_some_iff.1 hu).1; simpa using this
   simp [hj] at hu
   subst hu
   exact h1 j _ (List.getElem?_eq_getElem (by omega))
  ·have hj : j < i.size := by have := (Array.getElem?_eq_some_iff.1 hu).1; simpa using this
   simp [hj] at hu
   subst hu
   rw [List.getElem?_take, if_pos hj] at hy
   exact hr j y hy
 ·obtain ⟨b, hb, e'⟩ := inv_ptr hx
  obtain ⟨c, T, fr, h1, h2, h3⟩ := row_elem (hS.obj id _ hs) hb hk
  cases hd : isAggD d with
  | false =>
   rw [hd] at hr
   obtain ⟨u, hu1, hu2, _⟩ := readCells_one (u := .agg (c.extract (k * es) (k * es + es))) hr h3
   simp only [Value.cells] at hu1
   rw [Array.getElem?_extract] at hu1
   split at hu1
   ·exact .same hS u (run _ _ _ e' (run_loadVar_at ht hi b _ c T fr h1 (fun _ => hu1) (fun h => by rw [hd] at h; cases h))) hu2
   ·cases hu1
  | true =>
   rw [hd] at hr
   rcases readCells_many hr h3 with ⟨h4, h5⟩ | ⟨h4, h5, rfl, h6⟩
   ·simp only [Array.size_extract] at h4
    refine .same hS _ (run _ _ _ e' (run_loadVar_at ht hi b _ c T fr h1 (fun h => by rw [hd] at h; cases h) (fun _ => ⟨by omega, rfl⟩))) ?_
    rw [Array.extract_extract] at h5
    rw [show k * es + off + i.size = min (k * es + (off + i.size)) (k * es + es) by omega]
    exact h5
   ·simp only [Array.size_extract] at h5
    subst h4
    refine .same hS _ (run _ _ _ e' (run_loadVar_at ht hi b _ c T fr h1 (fun h => by rw [hd] at h; cases h) (fun _ => ⟨by omega, rfl⟩))) ?_
    rw [Nat.add_zero, show k * es + i.size = k * es + es by omega]
    have := mkAgg_rel h3
    cases v' <;> simp only [AV.isAgg] at h6 <;> try (cases h6; done)
    ·rename_i x
     cases x <;> simp only at h6 <;> try (cases h6; done)
     rename_i cs
     simpa [mkAgg, AV.cells, allD_map] using this
    ·exact .agg _ _ h3.1 h3.2.2 h3.2.1
end
end Go.Proofs.YtjnfkifdgojdaaaGreat.V

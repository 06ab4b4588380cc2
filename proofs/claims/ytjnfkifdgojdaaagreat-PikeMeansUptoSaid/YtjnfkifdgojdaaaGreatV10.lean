/- Stores, append, texts of bytes. -/
import Derived.Test.YtjnfkifdgojdaaaGreatV9
namespace Go.Proofs.YtjnfkifdgojdaaaGreat.V
open Go
set_option linter.unusedVariables false
set_option linter.unusedSimpArgs false
set_option linter.unusedSectionVars false
variable [Inhabited Flag]
section
variable {P : Program} {w : World} {F : Nat → Prop} {β : Bl} {o : Oper} {ρ : Operand → Value} {sto : List Obj}
theorem splice_get (c vs : List Value) (o q : Nat) (h : o + vs.length ≤ c.length) : ((c.take o ++ vs ++ c.drop (o + vs.length)).toArray)[q]? = if o ≤ q ∧ q < o + vs.length then vs[q - o]? else c[q]? := by
 rw [List.getElem?_toArray, List.append_assoc]
 by_cases h1 : q < o
 ·rw [if_neg (by omega), List.getElem?_append_left (by simp; omega), List.getElem?_take, if_pos h1]
 ·rw [List.getElem?_append_right (by simp; omega)]
  have e : q - (c.take o).length = q - o := by simp; omega
  rw [e]
  by_cases h2 : q < o + vs.length
  ·rw [if_pos (by omega), List.getElem?_append_left (by omega)]
  ·rw [if_neg (by omega), List.getElem?_append_right (by omega), List.getElem?_drop]
   congr 1
   omega
theorem splice_size (c vs : List Value) (o : Nat) (h : o + vs.length ≤ c.length) : (c.take o ++ vs ++ c.drop (o + vs.length)).toArray.size = c.length := by
 simp
 omega
theorem writeCells_get {off : Nat} {e v e' : AV} (h : writeCells off e v = some e') (hs : v.solid = true) : e'.cells.length = e.cells.length ∧ off + v.cells.length ≤ e.cells.length ∧ ∀ (j : Nat), e'.cells[j]? = if off ≤ j ∧ j < off + v.cells.length then v.cells[j - off]? else e.cells[j]? := by
 unfold writeCells at h
 split at h
 ·rename_i hc
  cases h
  refine ⟨hc.2, by omega, fun j => ?_⟩
  rw [hc.1]
  by_cases hj : j < v.cells.length
  ·rw [if_pos (by omega)]; rfl
  ·rw [if_neg (by omega), List.getElem?_eq_none (by omega), List.getElem?_eq_none (by omega)]
 ·split at h
  ·rename_i hc
   cases h
   rw [(mkAgg_cells _).1]
   exact ⟨setMany_length _ _ _, hc, fun j => setMany_get _ _ _ _ hc⟩
  ·cases h
theorem ok_store (hS : SRel w F β sto) {t : TypeId} {a x : Operand} (ho : o.op = .store t a x) {i : TypeInfo} (hi : P.info? t = some i) {id es k off : Nat} (hx : VRel w F β (.ptr id es k off) (ρ a)) {v : AV} (hv : VRel w F β v (ρ x)) (hsol : v.solid = true) (hn : v.cells.length = i.size)
  {xs : List AV} (hs : sto[id]? = some (.row es xs false)) {e e' : AV} (hk : xs[k]? = some e) (hw : writeCells off e v = some e') : OK P o ρ w F β sto (.tup []) (sto.set id (.row es (xs.set k e') false)) := by
 obtain ⟨b, hb, ea⟩ := inv_ptr hx
 have hO := hS.obj id _ hs
 obtain ⟨h0, hes, h1⟩ := hO
 obtain ⟨c, T, fr, g1, g2, g3, _, g4⟩ := h1 b hb
 obtain ⟨hnF, rfl⟩ := g4 rfl
 have hcr := hv.cr hsol
 have hkl : k < xs.length := (List.getElem?_eq_some_iff.1 hk).1
 obtain ⟨w1, w2, w3⟩ := writeCells_get hw hsol
 have hel := hes k e hk
 have hle : k * es + es ≤ c.size := by
  have := Nat.mul_le_mul_right es hkl
  rw [Nat.succ_mul] at this
  omega
 have hvl : (ρ x).cells.toList.length = v.cells.length := by simpa using hcr.1
 have hfit : k * es + off + (ρ x).cells.toList.length ≤ c.toList.length := by rw [hvl]; simp; omega
 have hst := run_storeCells_at P b (k * es + off) T (ρ x).cells.toList 0 c w g1 (by simpa using hfit) (fun u hu => by
  obtain ⟨j, hj, rfl⟩ := List.mem_iff_getElem.1 hu
  exact hcr.2.2 j _ (by simp at hj; simp [hj]))
 simp only [Nat.add_zero] at hst
 obtain ⟨new, hnew⟩ : ∃ new, new = (c.toList.take (k * es + off) ++ (ρ x).cells.toList ++ c.toList.drop (k * es + off + (ρ x).cells.toList.length)).toArray := ⟨_, rfl⟩
 rw [← hnew] at hst
 have hget : ∀ q : Nat, new[q]? = if k * es + off ≤ q ∧ q < k * es + off + v.cells.length then (ρ x).cells[q - (k * es + off)]? else c[q]? := by
  intro q
  rw [hnew, splice_get _ _ _ _ hfit, hvl]
  simp
 have hsz : new.size = c.size := by rw [hnew, splice_size _ _ _ hfit]; simp
 have hx' : Mono w F β (w.setRow b new) F β → ORel (w.setRow b new) F β id (.row es (xs.set k e') false) := by
  intro hm
  refine ⟨fun h => (by rw [hb] at h; cases h), fun q y hy => ?_, fun b' hb' => ?_⟩
  ·by_cases hq : q = k
   ·subst hq; rw [List.getElem?_set_self hkl] at hy; cases hy; rw [w1]; exact hel
   ·rw [List.getElem?_set_ne (Ne.symm hq)] at hy; exact hes q y hy
  ·rw [hb] at hb'
   cases hb'
   refine ⟨new, T, (0, 0), setRow_heap w b c _ T _ g1, by rw [List.length_set, hsz]; exact g2, fun q y j z u hy hj hu => ?_, fun h => (by cases h), fun _ => ⟨hnF, rfl⟩⟩
   rw [hget] at hu
   by_cases hq : q = k
   ·subst hq
    rw [List.getElem?_set_self hkl] at hy
    cases hy
    rw [w3] at hj
    by_cases hjo : off ≤ j ∧ j < off + v.cells.length
    ·rw [if_pos hjo] at hj
     rw [if_pos (by omega), show q * es + j - (q * es + off) = j - off by omega] at hu
     exact ⟨(hcr.2.1 _ z u hj hu).mono hm, hcr.2.2 _ u hu⟩
    ·rw [if_neg hjo] at hj
     rw [if_neg (by omega)] at hu
     have := g3 q e j z u hk hj hu
     exact ⟨this.1.mono hm, this.2⟩
   ·rw [List.getElem?_set_ne (Ne.symm hq)] at hy
    have hjl : j < es := by rw [← hes q y hy]; exact (List.getElem?_eq_some_iff.1 hj).1
    rw [if_neg (by
     intro h
     rcases Nat.lt_or_gt_of_ne hq with h1 | h1
     ·have := Nat.mul_le_mul_right es h1; rw [Nat.succ_mul] at this; omega
     ·have := Nat.mul_le_mul_right es h1; rw [Nat.succ_mul] at this; omega)] at hu
    have := g3 q y j z u hy hj hu
    exact ⟨this.1.mono hm, this.2⟩
 obtain ⟨r1, r2⟩ := write_obj (w' := w.setRow b new) hS id b _ (.row es (xs.set k e') false) hs rfl hb rfl rfl rfl rfl (fun _ => Nat.le_refl _) (by simp [World.setRow]) (fun k' hk' => setRow_other w b k' _ hk') (fun c' T' fr' hh => by
   rw [g1] at hh; cases hh; exact ⟨new, setRow_heap w b c _ T _ g1, hsz⟩) hnF hx'
 refine ⟨undef, _, F, β, .inr ⟨?_, rfl⟩, .tup [] #[] rfl (fun _ _ _ h => by simp at h), r1, r2⟩
 unfold execOp
 rw [ho]; dsimp only; rw [ea]
 simp only [Instr.storeAt, Instr.sureAddr, Sem.run_bind, Sem.run_pure, Result.andThen_ok, storeVar, run_sizeOf' hi]
 rw [if_neg (by rw [hcr.1, hn]; simp)]
 simp only [hst, Result.andThen_ok]
def Src (P : Program) (w : World) (es : Nat) (x : Value) (n : Nat) (news : List Value) : Prop :=
 news.length = n * es ∧ (∀ u ∈ news, u.oneCell' = true) ∧ (∀ w' : World, w'.heap = w.heap → (Builtin.lenOf x).run P w' = .ok n w') ∧ ∀ w' : World, w'.heap = w.heap → (Builtin.firstCells es n x).run P w' = .ok news.toArray w'
theorem run_append_gen {t u ty e : TypeId} {ud : TypeDesc} {i : TypeInfo} {z : Value} (ht : P.underlying t = some (.slice e)) (hu : P.underlying u = some ud) (hni : ∀ k, ud ≠ .int k) (hi : P.info? e = some i) (hz : i.zero = some z)
  {a : Option Addr} {len cap : Nat} {x : Value} {n : Nat} {news : List Value} (hsrc : Src P w i.size x n news) (hb : cap < len + n → (len + n) * i.bytes ≤ 140737488355328) (hb0 : i.bytes ≠ 0)
  (hfit : n ≠ 0 → len + n ≤ cap → ∃ (b : Nat) (c : Array Value) (T : TypeId), a = some ⟨b, 0, none⟩ ∧ w.heap[b]? = some (.cells c T (0, 0)) ∧ len * i.size + news.length ≤ c.size)
  {olds : List Value} (hold : cap < len + n → olds.length = len * i.size ∧ ∀ w' : World, w'.heap = w.heap → (Builtin.firstCells i.size len (.slice a len cap)).run P w' = .ok olds.toArray w') :
  (n = 0 ∧ len ≤ cap → (Builtin.append_ #[t, u] ty #[.slice a len cap, x]).run P w = .ok (.slice a len cap) w) ∧
  (n ≠ 0 → len + n ≤ cap → ∃ (b : Nat) (c : Array Value) (T : TypeId), a = some ⟨b, 0, none⟩ ∧ w.heap[b]? = some (.cells c T (0, 0)) ∧ len * i.size + news.length ≤ c.size ∧
   (Builtin.append_ #[t, u] ty #[.slice a len cap, x]).run P w = .ok (.slice a (len + n) cap) (w.setRow b (c.toList.take (len * i.size) ++ news ++ c.toList.drop (len * i.size + news.length)).toArray)) ∧
  (cap < len + n → ∃ nc, len + n ≤ nc ∧ (Builtin.append_ #[t, u] ty #[.slice a len cap, x]).run P w = .ok (.slice (some ⟨w.heap.size, 0, none⟩) (len + n) nc) (w.drew.alloc (.cells (olds.toArray ++ news.toArray ++ Builtin.zeroCells z.cells (nc - (len + n))) e))) := by
 obtain ⟨hl, h1, hlen, hcells⟩ := hsrc
 have hud : (match ud with | .int _ => true | _ => false) = false := by cases ud <;> first | rfl | exact absurd rfl (hni _)
 refine ⟨fun ⟨h0, hc⟩ => ?_, fun hn hc => ?_, fun hc => ?_⟩
 ·subst h0
  have hnews : news = [] := List.eq_nil_of_length_eq_zero (by rw [hl]; simp)
  subst hnews
  have e1 := hlen w rfl
  have e2 := hcells w rfl
  unfold Builtin.append_
  simp [run_underlying ht, run_underlying hu, hud, run_sizeOf' hi, e1, e2, hc]
  cases a <;> simp [storeCells]
 ·obtain ⟨b, c, T, rfl, hh, hf⟩ := hfit hn hc
  refine ⟨b, c, T, rfl, hh, hf, ?_⟩
  have e1 := hlen w rfl
  have e2 := hcells w rfl
  have hst := run_storeCells_at P b (len * i.size) T news 0 c w hh (by simpa using hf) h1
  simp only [Nat.add_zero] at hst
  unfold Builtin.append_
  simp [run_underlying ht, run_underlying hu, hud, run_sizeOf' hi, e1, e2, hc, Addr.add_lit, hst]
 ·obtain ⟨ho, hoc⟩ := hold hc
  have e1 := hlen w rfl
  have e2 := hcells w.drew rfl
  have e3 := hoc w.drew rfl
  have hbn : (len + n) ≤ 140737488355328 := Nat.le_trans (Nat.le_mul_of_pos_right _ (Nat.pos_of_ne_zero hb0)) (hb hc)
  have hfits := growslice_fits hc (hb hc)
  refine ⟨grownCap w (len + n) cap e, grownCap_ge w _ _ _, ?_⟩
  have n1 : ¬ (len + n ≤ cap) := by omega
  have n2 : ¬ (9223372036854775807 < ((len : Int) + (n : Int))) := by omega
  have n3 : ¬ (281474976710656 < Builtin.nextslicecap (len + n) cap * i.bytes) := by omega
  unfold Builtin.append_
  simp [run_underlying ht, run_underlying hu, hud, run_sizeOf' hi, e1, n1, n2, n3, typeInfo, hi, hb0, Question.forced, e2, e3, zeroValue, hz, newRow, grownCap]
  congr 2
  apply Array.ext'
  simp
end
end Go.Proofs.YtjnfkifdgojdaaaGreat.V

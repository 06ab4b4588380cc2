/- append, told of the evaluator's rows. -/
import Derived.Test.YtjnfkifdgojdaaaGreatV10
namespace Go.Proofs.YtjnfkifdgojdaaaGreat.V
open Go
set_option linter.unusedVariables false
set_option linter.unusedSimpArgs false
set_option linter.unusedSectionVars false
variable [Inhabited Flag]
section
variable {P : Program} {w : World} {F : Nat → Prop} {β : Bl} {o : Oper} {ρ : Operand → Value} {sto : List Obj}
theorem rename_obj (hS : SRel w F β sto) (id : Nat) (x : Obj) (hx : sto[id]? = some x) (hw : x.wr = true) :
  SRel w F (fun k => if k = sto.length then β id else β k) (sto.set id .dead ++ [x]) ∧ Ext w F β sto w F (fun k => if k = sto.length then β id else β k) (sto.set id .dead ++ [x]) := by
 have hid := (List.getElem?_eq_some_iff.1 hx).1
 have hxl : x.live = true := by cases x <;> simp_all [Obj.live, Obj.wr]
 have hm : Mono w F β w F (fun k => if k = sto.length then β id else β k) :=
  ⟨fun _ h => h, fun _ _ => rfl, fun k b hb => by have := hS.βlt hb; rw [if_neg (by omega)]; exact hb, fun b c T fr h => ⟨c, h, rfl⟩⟩
 have hget : ∀ (k : Nat) (y : Obj), (sto.set id .dead ++ [x])[k]? = some y → (k < sto.length ∧ k ≠ id ∧ sto[k]? = some y) ∨ (k = sto.length ∧ y = x) ∨ y = .dead := by
  intro k y hy
  rcases Nat.lt_trichotomy k sto.length with h | h | h
  ·rw [List.getElem?_append_left (by simpa using h)] at hy
   by_cases e : k = id
   ·subst e; rw [List.getElem?_set_self h] at hy; cases hy; exact .inr (.inr rfl)
   ·rw [List.getElem?_set_ne (Ne.symm e)] at hy; exact .inl ⟨h, e, hy⟩
  ·subst h
   rw [List.getElem?_append_right (by simp)] at hy
   simp at hy
   exact .inr (.inl ⟨rfl, hy.symm⟩)
  ·rw [List.getElem?_eq_none (by simp; omega)] at hy; cases hy
 refine ⟨⟨fun k y hy => ?_, fun k hk => ?_, fun k b hb => ?_, hS.flt, fun k k' y y' b hy hy' hl hl' hb hb' => ?_, hS.gl.mono hm⟩, ⟨hm, rfl, rfl, rfl, fun _ => Nat.le_refl _, Nat.le_refl _, fun _ _ _ => rfl, by simp, fun k hk => if_neg (by omega), fun k b hk hb => ?_, fun _ h => .inl h, fun k y hy => ?_⟩⟩
 ·rcases hget k y hy with ⟨h1, h2, h3⟩ | ⟨rfl, rfl⟩ | rfl
  ·exact (hS.obj k y h3).mono hm (if_neg (by omega)) (fun _ _ => rfl) (fun _ _ _ h => h)
  ·have hO := hS.obj id y hx
   cases y with
   | row es xs z =>
    obtain ⟨h0, h1, h2⟩ := hO
    refine ⟨fun h => h0 (by simpa using h), h1, fun b hb => ?_⟩
    obtain ⟨c, T, fr, g1, g2, g3, g4, g5⟩ := h2 b (by simpa using hb)
    exact ⟨c, T, fr, g1, g2, fun i x j y u a1 a2 a3 => ⟨(g3 i x j y u a1 a2 a3).1.mono hm, (g3 i x j y u a1 a2 a3).2⟩, g4, g5⟩
   | mp kvs z =>
    obtain ⟨b, es, clock, h1, h2, h3, h4, h4z, h5⟩ := hO
    exact ⟨b, es, clock, by simpa using h1, h2, h3, h4, h4z, fun i e k v a1 a2 => ⟨(h5 i e k v a1 a2).1, (h5 i e k v a1 a2).2.mono hm⟩⟩
   | iter s p =>
    obtain ⟨b, h1, h2, h3⟩ := hO
    exact ⟨b, by simpa using h1, h2, h3⟩
   | dead => trivial
  ·trivial
 ·simp only [List.length_append, List.length_set, List.length_singleton] at hk
  rw [if_neg (by omega)]
  exact hS.dom k (by omega)
 ·split at hb
  ·exact hS.lt id b hb
  ·exact hS.lt k b hb
 ·rcases hget k y hy with ⟨h1, h2, h3⟩ | ⟨rfl, rfl⟩ | rfl
  ·rw [if_neg (by omega)] at hb
   rcases hget k' y' hy' with ⟨h1', h2', h3'⟩ | ⟨rfl, rfl⟩ | rfl
   ·rw [if_neg (by omega)] at hb'
    exact hS.inj k k' y y' b h3 h3' hl hl' hb hb'
   ·rw [if_pos rfl] at hb'
    exact absurd (hS.inj k id y y' b h3 hx hl hl' hb hb') h2
   ·cases hl'
  ·rw [if_pos rfl] at hb
   rcases hget k' y' hy' with ⟨h1', h2', h3'⟩ | ⟨rfl, rfl⟩ | rfl
   ·rw [if_neg (by omega)] at hb'
    exact absurd (hS.inj k' id y' y b h3' hx hl' hl hb' hb) h2'
   ·rfl
   ·cases hl'
  ·cases hl
 ·split at hb
  ·exact .inr ⟨id, x, hx, hw, hb⟩
  ·rw [hS.dom k hk] at hb; cases hb
 ·have hk := (List.getElem?_eq_some_iff.1 hy).1
  by_cases e : k = id
  ·subst e
   exact ⟨.dead, by rw [List.getElem?_append_left (by simpa using hk), List.getElem?_set_self hk], fun _ => rfl⟩
  ·exact ⟨y, by rw [List.getElem?_append_left (by simpa using hk), List.getElem?_set_ne (Ne.symm e)]; exact hy, fun h => h⟩
theorem kill_obj (hS : SRel w F β sto) (id : Nat) : SRel w F β (sto.set id .dead) ∧ Ext w F β sto w F β (sto.set id .dead) := by
 have hget : ∀ (k : Nat) (y : Obj), (sto.set id .dead)[k]? = some y → sto[k]? = some y ∨ y = .dead := by
  intro k y hy
  by_cases e : k = id
  ·subst e
   have := (List.getElem?_eq_some_iff.1 hy).1
   rw [List.getElem?_set_self (by simpa using this)] at hy
   cases hy; exact .inr rfl
  ·rw [List.getElem?_set_ne (Ne.symm e)] at hy; exact .inl hy
 refine ⟨⟨fun k y hy => ?_, fun k hk => hS.dom k (by simpa using hk), hS.lt, hS.flt, fun k k' y y' b hy hy' hl hl' hb hb' => ?_, hS.gl⟩, ⟨Mono.refl _ _ _, rfl, rfl, rfl, fun _ => Nat.le_refl _, Nat.le_refl _, fun _ _ _ => rfl, by simp, fun _ _ => rfl, fun k b hk hb => (by rw [hS.dom k hk] at hb; cases hb), fun _ h => .inl h, fun k y hy => ?_⟩⟩
 ·rcases hget k y hy with h | rfl
  ·exact hS.obj k y h
  ·trivial
 ·rcases hget k y hy with h | rfl
  ·rcases hget k' y' hy' with h' | rfl
   ·exact hS.inj k k' y y' b h h' hl hl' hb hb'
   ·cases hl'
  ·cases hl
 ·have hk := (List.getElem?_eq_some_iff.1 hy).1
  by_cases e : k = id
  ·subst e; exact ⟨.dead, by rw [List.getElem?_set_self hk], fun _ => rfl⟩
  ·exact ⟨y, by rw [List.getElem?_set_ne (Ne.symm e)]; exact hy, fun h => h⟩
theorem cell_add (b off n : Nat) : (⟨b, off, none⟩ : Addr).add n = ⟨b, off + n, none⟩ := Addr.add_lit b off n
theorem src_slice {a : Option Addr} {n cap es : Nat} {f : Nat → Value} (h1 : ∀ k, k < n * es → (f k).oneCell' = true) (hc : 0 < n * es → ∃ (b off : Nat), a = some ⟨b, off, none⟩ ∧ ∀ k, k < n * es → w.cell? ⟨b, off + k, none⟩ = some (f k)) :
  Src P w es (.slice a n cap) n ((List.range (n * es)).map f) := by
 refine ⟨by simp, fun u hu => ?_, fun w' _ => rfl, fun w' hw => ?_⟩
 ·simp only [List.mem_map, List.mem_range] at hu
  obtain ⟨k, hk, rfl⟩ := hu
  exact h1 k hk
 ·rcases Nat.eq_zero_or_pos (n * es) with h0 | h0
  ·rw [h0]
   cases a with
   | none => rfl
   | some ad => simp [Builtin.firstCells, h0, loadCells, loadCellsFrom]
  ·obtain ⟨b, off, rfl, hcc⟩ := hc h0
   have := run_loadCells (P := P) w' ⟨b, off, none⟩ (n * es) f (fun j hj => by
    rw [cell_add]
    have : w'.cell? ⟨b, off + j, none⟩ = w.cell? ⟨b, off + j, none⟩ := cell?_of_heap (by rw [hw])
    rw [this]; exact hcc j hj)
   simp only [Builtin.firstCells, this]
theorem flat_list {es n : Nat} {xs : List AV} {f : Nat → Value} (hn : xs.length = n) (hes : ∀ (i : Nat) (x : AV), xs[i]? = some x → x.cells.length = es)
  (hr : ∀ (i : Nat) (x : AV) (j : Nat) (y : AV), xs[i]? = some x → x.cells[j]? = some y → VRel w F β y (f (i * es + j)) ∧ (f (i * es + j)).oneCell' = true) : Flat w F β es xs ((List.range (n * es)).map f).toArray := by
 refine ⟨by simp [hn], hes, fun i x j y u hx hy hu => ?_⟩
 have hj : j < es := by rw [← hes i x hx]; exact (List.getElem?_eq_some_iff.1 hy).1
 have hi : i < n := by rw [← hn]; exact (List.getElem?_eq_some_iff.1 hx).1
 have hlt : i * es + j < n * es := flat_lt hi hj
 rw [List.getElem?_toArray, List.getElem?_map, List.getElem?_range hlt] at hu
 cases hu
 exact hr i x j y hx hy
theorem elems_src (hS : SRel w F β sto) {es : Nat} {v : AV} {u : Value} (hv : VRel w F β v u) {new : List AV} (he : elems sto es v = some new) :
  ∃ (a : Option Addr) (cap : Nat) (f : Nat → Value), u = .slice a new.length cap ∧ new.length ≤ cap ∧ Src P w es u new.length ((List.range (new.length * es)).map f) ∧ Flat w F β es new ((List.range (new.length * es)).map f).toArray ∧ (∀ es' xs t, v = .d (.sl es' xs t) → t = true → cap = new.length) := by
 unfold elems at he
 split at he
 ·rename_i es' xs t
  split at he
  ·rename_i hc
   cases he
   cases hv with | d x v h => cases h with | sl es0 xs0 t0 a cap b off cell hlc ht ha hF hes hcc h1 hr =>
    have hes1 : ∀ (i : Nat) (x : D), xs[i]? = some x → x.cells.length = es := by
     intro i x hx
     rcases hc with h | h
     ·rw [← h]; exact hes i x hx
     ·subst h; simp at hx
    have hee : 0 < xs.length → es' = es := fun h => by
     rcases hc with hc | hc
     ·exact hc
     ·subst hc; simp at h
    refine ⟨a, cap, fun k => cell (k / es) (k % es), by simp, by simpa using hlc, ?_, ?_, fun e1 e2 e3 h hh => by cases h; simpa using ht hh⟩
    ·rw [List.length_map]
     have hdec : ∀ k, k < xs.length * es → ∃ x y, xs[k / es]? = some x ∧ x.cells[k % es]? = some y ∧ (k / es) * es + k % es = k := by
      intro k hk
      have hes0 : 0 < es := by
       rcases Nat.eq_zero_or_pos es with h | h
       ·subst h; simp at hk
       ·exact h
      have hq : k / es < xs.length := (Nat.div_lt_iff_lt_mul hes0).2 hk
      refine ⟨xs[k / es], (xs[k / es]).cells[k % es]'(by rw [hes1 _ _ (List.getElem?_eq_getElem hq)]; exact Nat.mod_lt _ hes0), List.getElem?_eq_getElem hq, List.getElem?_eq_getElem _, ?_⟩
      rw [Nat.mul_comm]; exact Nat.div_add_mod k es
     refine src_slice (fun k hk => ?_) (fun h0 => ?_)
     ·obtain ⟨x, y, e1, e2, _⟩ := hdec k hk
      exact h1 _ x _ y e1 e2
     ·have hxl : 0 < xs.length := by
       rcases Nat.eq_zero_or_pos xs.length with h | h
       ·rw [h] at h0; simp at h0
       ·exact h
      refine ⟨b, off, ha hxl, fun k hk => ?_⟩
      obtain ⟨x, y, e1, e2, e3⟩ := hdec k hk
      have := hcc _ x _ y e1 e2
      rw [hee hxl, Nat.add_assoc, e3] at this
      exact this
    ·refine flat_list (n := (xs.map AV.d).length) rfl (fun i x hx => ?_) (fun i x j y hx hy => ?_)
     ·simp only [List.getElem?_map, Option.map_eq_some_iff] at hx
      obtain ⟨z, hz, rfl⟩ := hx
      have := hes1 i z hz
      cases z <;> simpa [AV.cells, D.cells] using this
     ·simp only [List.getElem?_map, Option.map_eq_some_iff] at hx
      obtain ⟨z, hz, rfl⟩ := hx
      have hzl := hes1 i z hz
      have hcells : (AV.d z).cells = z.cells.map .d := by cases z <;> rfl
      rw [hcells, List.getElem?_map, Option.map_eq_some_iff] at hy
      obtain ⟨q, hq, rfl⟩ := hy
      have hj : j < es := by rw [← hzl]; exact (List.getElem?_eq_some_iff.1 hq).1
      have e1 : (i * es + j) / es = i := by
       rw [Nat.mul_comm, Nat.mul_add_div (by omega), Nat.div_eq_of_lt hj, Nat.add_zero]
      have e2 : (i * es + j) % es = j := by rw [Nat.mul_comm, Nat.mul_add_mod, Nat.mod_eq_of_lt hj]
      simp only [e1, e2]
      exact ⟨.d _ _ (hr i z j q hz hq), h1 i z j q hz hq⟩
  ·cases he
 ·rename_i id es' lo len t
  split at he
  ·rename_i es'' xs z hs
   split at he
   ·rename_i hc
    obtain ⟨q1, q2, hle⟩ := hc
    have q1 := q1.symm
    subst q1
    have q2 := q2.symm
    subst q2
    cases he
    have hlen : ((xs.drop lo).take len).length = len := by simp; omega
    have hO := hS.obj id _ hs
    cases hv with | row id es lo len t a cap hlc ht hb =>
     obtain ⟨_, hes, hO2⟩ := hO
     have hget : ∀ (i : Nat) (x : AV), ((xs.drop lo).take len)[i]? = some x → xs[lo + i]? = some x ∧ i < len := by
      intro i x hx
      rw [List.getElem?_take] at hx
      split at hx
      ·rename_i hi; exact ⟨by simpa using hx, hi⟩
      ·cases hx
     by_cases h0 : len = 0
     ·subst h0
      refine ⟨a, cap, fun _ => undef, by simp, by simp, ?_, ?_, fun _ _ _ h => by cases h⟩
      ·have : ((xs.drop lo).take 0).length = 0 := by simp
       rw [this]
       exact src_slice (fun k hk => by simp at hk) (fun h => by simp at h)
      ·exact ⟨by simp, fun i x hx => by simp at hx, fun i x j y u hx => by simp at hx⟩
     ·obtain ⟨b, c, T, fr, e1, e2, e3, e4⟩ := hb (by omega)
      obtain ⟨c', T', fr', g1, g2, g3, _⟩ := hO2 b e1
      rw [e3] at g1
      cases g1
      subst e2
      have hlast : (lo + len) * es ≤ c.size := Nat.le_trans (Nat.mul_le_mul_right es hle) g2
      refine ⟨_, cap, fun k => c.getD (lo * es + k) undef, by rw [hlen], by rw [hlen]; exact hlc, ?_, ?_, fun _ _ _ h => by cases h⟩
      ·rw [hlen]
       refine src_slice (fun k hk => ?_) (fun _ => ⟨b, lo * es, rfl, fun k hk => ?_⟩)
       ·have hk' : lo * es + k < c.size := by rw [Nat.add_mul] at hlast; omega
        have hes0 : 0 < es := by
         rcases Nat.eq_zero_or_pos es with h | h
         ·subst h; simp at hk
         ·exact h
        have hq : k / es < len := (Nat.div_lt_iff_lt_mul hes0).2 hk
        have hx : xs[lo + k / es]? = some xs[lo + k / es] := List.getElem?_eq_getElem (by omega)
        have hm : k % es < (xs[lo + k / es]).cells.length := by rw [hes _ _ hx]; exact Nat.mod_lt _ hes0
        have e5 : (lo + k / es) * es + k % es = lo * es + k := by
         rw [Nat.add_mul, Nat.add_assoc]
         congr 1
         rw [Nat.mul_comm]; exact Nat.div_add_mod k es
        have := g3 (lo + k / es) _ (k % es) _ c[lo * es + k] hx (List.getElem?_eq_getElem hm) (by rw [e5]; exact Array.getElem?_eq_getElem hk')
        simpa [Array.getD, hk'] using this.2
       ·have hk' : lo * es + k < c.size := by rw [Nat.add_mul] at hlast; omega
        simp [World.cell?, e3, Array.getD, hk']
      ·refine flat_list rfl (fun i x hx => hes _ x (hget i x hx).1) (fun i x j y hx hy => ?_)
       obtain ⟨hx1, hi⟩ := hget i x hx
       have hj : j < es := by rw [← hes _ x hx1]; exact (List.getElem?_eq_some_iff.1 hy).1
       have hk' : lo * es + (i * es + j) < c.size := by
        have := flat_lt (n := len) hi hj
        rw [Nat.add_mul] at hlast
        omega
       have := g3 (lo + i) x j y c[lo * es + (i * es + j)] hx1 hy (by rw [Nat.add_mul, Nat.add_assoc]; exact Array.getElem?_eq_getElem hk')
       simpa [Array.getD, hk'] using this
   ·cases he
  ·cases he
 ·cases he
end
end Go.Proofs.YtjnfkifdgojdaaaGreat.V

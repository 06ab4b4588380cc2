/- append; bytes and texts; structs compared. -/
import Derived.Test.YtjnfkifdgojdaaaGreatV11
namespace Go.Proofs.YtjnfkifdgojdaaaGreat.V
open Go
set_option linter.unusedVariables false
set_option linter.unusedSimpArgs false
set_option linter.unusedSectionVars false
variable [Inhabited Flag]
section
variable {P : Program} {w : World} {F : Nat → Prop} {β : Bl} {o : Oper} {ρ : Operand → Value} {sto : List Obj}
theorem elemsS_src (hS : SRel w F β sto) {es : Nat} {v : AV} {u : Value} (hv : VRel w F β v u) {new : List AV} (he : elemsS sto es v = some new) :
  ∃ news : List Value, Src P w es u new.length news ∧ Flat w F β es new news.toArray ∧ news.length = new.length * es := by
 unfold elemsS at he
 split at he
 ·rename_i s
  split at he
  ·rename_i h1
   subst h1
   cases he
   have e := inv_str hv
   subst e
   refine ⟨s.data.toList.map fun b => .int .u8 b.toNat, ⟨by simp [bytesD], fun u hu => ?_, fun w' _ => by simp [Builtin.lenOf, bytesD], fun w' _ => ?_⟩, ⟨by simp [bytesD], fun i x hx => ?_, fun i x j y u hx hy hu => ?_⟩, by simp [bytesD]⟩
   ·simp only [List.mem_map] at hu
    obtain ⟨b, _, rfl⟩ := hu
    rfl
   ·simp only [Builtin.firstCells, bytesD, List.length_map, Array.length_toList]
    have : (s.extract 0 s.data.size) = s := by
     have := ByteArray.extract_zero_size (b := s)
     exact this
    rw [this]
    rw [Sem.run_pure]
    congr 1
    apply Array.ext'
    simp
   ·simp only [bytesD, List.map_map, List.getElem?_map, Option.map_eq_some_iff] at hx
    obtain ⟨b, _, rfl⟩ := hx
    rfl
   ·simp only [bytesD, List.map_map, List.getElem?_map, Option.map_eq_some_iff] at hx
    obtain ⟨b, hb, rfl⟩ := hx
    cases j with
    | zero =>
     simp [AV.cells] at hy
     subst hy
     simp only [Nat.mul_one, Nat.add_zero, List.getElem?_toArray, List.getElem?_map, hb, Option.map_some] at hu
     cases hu
     exact ⟨.d _ _ (.int _ _), rfl⟩
    | succ j => simp [AV.cells] at hy
  ·cases he
 ·obtain ⟨a, cap, f, rfl, _, h3, h4, _⟩ := elems_src (P := P) hS hv he
  exact ⟨_, h3, h4, by simp⟩
theorem flat_append {es : Nat} {xs ys : List AV} {c d : List Value} {z : Array Value} (h1 : Flat w F β es xs c.toArray) (h2 : Flat w F β es ys d.toArray) (hc : c.length = xs.length * es) : Flat w F β es (xs ++ ys) (c.toArray ++ d.toArray ++ z) := by
 refine ⟨?_, fun i x hx => ?_, fun i x j y u hx hy hu => ?_⟩
 ·have := h2.1
  simp only [List.size_toArray] at this
  simp only [List.length_append, Array.size_append, List.size_toArray, Nat.add_mul]
  omega
 ·by_cases hi : i < xs.length
  ·rw [List.getElem?_append_left hi] at hx; exact h1.2.1 i x hx
  ·rw [List.getElem?_append_right (by omega)] at hx; exact h2.2.1 _ x hx
 ·rw [Array.append_assoc] at hu
  by_cases hi : i < xs.length
  ·rw [List.getElem?_append_left hi] at hx
   have hj : j < es := by rw [← h1.2.1 i x hx]; exact (List.getElem?_eq_some_iff.1 hy).1
   have := flat_lt (n := xs.length) hi hj
   rw [Array.getElem?_append_left (by simp; omega)] at hu
   exact h1.2.2 i x j y u hx hy hu
  ·rw [List.getElem?_append_right (by omega)] at hx
   have hj : j < es := by rw [← h2.2.1 _ x hx]; exact (List.getElem?_eq_some_iff.1 hy).1
   have hi' : i - xs.length < ys.length := (List.getElem?_eq_some_iff.1 hx).1
   have hlt := flat_lt (n := ys.length) hi' hj
   have e : i * es + j - c.length = (i - xs.length) * es + j := by
    rw [hc, Nat.sub_mul]
    have : xs.length * es ≤ i * es := Nat.mul_le_mul_right _ (by omega)
    omega
   have hge : c.length ≤ i * es + j := by
    have : xs.length * es ≤ i * es := Nat.mul_le_mul_right _ (by omega)
    omega
   rw [Array.getElem?_append_right (by simpa using hge)] at hu
   simp only [List.size_toArray, e] at hu
   have hd := h2.1
   simp only [List.size_toArray] at hd
   rw [Array.getElem?_append_left (by simp; omega)] at hu
   exact h2.2.2 _ x j y u hx hy hu
theorem shrink_obj (hS : SRel w F β sto) (id es : Nat) (xs : List AV) (n : Nat) (hx : sto[id]? = some (.row es xs false)) : SRel w F β (sto.set id (.row es (xs.take n) false)) ∧ Ext w F β sto w F β (sto.set id (.row es (xs.take n) false)) := by
 have hid := (List.getElem?_eq_some_iff.1 hx).1
 have hget : ∀ (k : Nat) (y : Obj), (sto.set id (.row es (xs.take n) false))[k]? = some y → (k ≠ id ∧ sto[k]? = some y) ∨ (k = id ∧ y = .row es (xs.take n) false) := by
  intro k y hy
  by_cases e : k = id
  ·subst e
   rw [List.getElem?_set_self hid] at hy
   cases hy; exact .inr ⟨rfl, rfl⟩
  ·rw [List.getElem?_set_ne (Ne.symm e)] at hy; exact .inl ⟨e, hy⟩
 have ht : ∀ (i : Nat) (x : AV), (xs.take n)[i]? = some x → xs[i]? = some x := by
  intro i x h
  rw [List.getElem?_take] at h
  split at h
  ·exact h
  ·cases h
 refine ⟨⟨fun k y hy => ?_, fun k hk => hS.dom k (by simpa using hk), hS.lt, hS.flt, fun k k' y y' b hy hy' hl hl' hb hb' => ?_, hS.gl⟩, ⟨Mono.refl _ _ _, rfl, rfl, rfl, fun _ => Nat.le_refl _, Nat.le_refl _, fun _ _ _ => rfl, by simp, fun _ _ => rfl, fun k b hk hb => (by rw [hS.dom k hk] at hb; cases hb), fun _ h => .inl h, fun k y hy => ?_⟩⟩
 ·rcases hget k y hy with ⟨_, h⟩ | ⟨rfl, rfl⟩
  ·exact hS.obj k y h
  ·obtain ⟨h0, h1, h2⟩ := hS.obj k _ hx
   refine ⟨fun h => by rw [h0 h]; simp, fun i x h => h1 i x (ht i x h), fun b hb => ?_⟩
   obtain ⟨c, T, fr, g1, g2, g3, g4, g5⟩ := h2 b hb
   exact ⟨c, T, fr, g1, Nat.le_trans (Nat.mul_le_mul_right _ (by simp; omega)) g2, fun i x j y u a1 a2 a3 => g3 i x j y u (ht i x a1) a2 a3, g4, g5⟩
 ·rcases hget k y hy with ⟨_, h⟩ | ⟨rfl, rfl⟩ <;> rcases hget k' y' hy' with ⟨_, h'⟩ | ⟨rfl, rfl⟩
  ·exact hS.inj k k' y y' b h h' hl hl' hb hb'
  ·exact hS.inj k _ y _ b h hx hl rfl hb hb'
  ·exact hS.inj _ k' _ y' b hx h' rfl hl' hb hb'
  ·rfl
 ·have hk := (List.getElem?_eq_some_iff.1 hy).1
  by_cases e : k = id
  ·subst e; rw [hx] at hy; cases hy; exact ⟨_, List.getElem?_set_self hk, fun h => h⟩
  ·exact ⟨y, by rw [List.getElem?_set_ne (Ne.symm e)]; exact hy, fun h => h⟩
theorem ok_append (hS : SRel w F β sto) {t u e : TypeId} {s x : Operand} (ho : o.op = .call { callee := .builtin .append, args := #[s, x], argTypes := #[t, u] }) {ud : TypeDesc} {i : TypeInfo} {z : Value} (ht : P.underlying t = some (.slice e)) (hu : P.underlying u = some ud) (hni : ∀ k, ud ≠ .int k) (hi : P.info? e = some i) (hz : i.zero = some z) (hzs : z.cells.size = i.size) (hb0 : i.bytes ≠ 0)
  {vs vx : AV} (hs : VRel w F β vs (ρ s)) (hx : VRel w F β vx (ρ x)) {new : List AV} (hnew : elemsS sto i.size vx = some new) {v : AV} {sto' : List Obj} (happ : appendTo sto i.size i.bytes new vs = some (v, sto')) : OK P o ρ w F β sto v sto' := by
 obtain ⟨news, hsrc, hflat, hnl⟩ := elemsS_src (P := P) hS hx hnew
 have fin : ∀ (r : Value) (w' : World), (Builtin.append_ #[t, u] o.type #[ρ s, ρ x]).run P w = .ok r w' → (execOp ρ o).run P w = .ok (.value r) w' := by
  intro r w' h
  unfold execOp
  rw [ho]
  simp [resolve, invoke, builtin, h]
 have hSd : SRel w.drew F β sto := hS.heap rfl
 have hEd : Ext w F β sto w.drew F β sto := Ext.heap hS rfl rfl rfl rfl (fun _ => Nat.le_succ _)
 have mono_flat : ∀ {xs : List AV} {c : Array Value}, Flat w F β i.size xs c → Flat w.drew F β i.size xs c := fun h => ⟨h.1, h.2.1, fun i x j y u a b c => ⟨(h.2.2 i x j y u a b c).1.mono hEd.mono, (h.2.2 i x j y u a b c).2⟩⟩
 unfold appendTo at happ
 split at happ
 ·rename_i es' xs tt
  split at happ
  ·rename_i h0
   cases happ
   subst h0
   generalize hr : ρ s = r at hs
   cases hs with | d x v h => cases h with | sl es0 xs0 t0 a cap b off cell hlc ht' ha hF hes hcc h1 hrr =>
    have g := (run_append_gen (ty := o.type) (olds := []) ht hu hni hi hz (a := a) (len := xs.length) (cap := cap) hsrc (fun h => by simp at h; omega) hb0 (fun h => absurd rfl h) (fun h => by simp at h; omega)).1 ⟨rfl, hlc⟩
    exact .same hS _ (fin _ _ (by rw [hr]; exact g)) (.d _ _ (.sl es' xs tt a cap b off cell hlc ht' ha hF hes hcc h1 hrr))
  ·rename_i h0
   split at happ
   ·rename_i hc
    cases happ
    obtain ⟨htt, hes0, hbytes⟩ := hc
    have hel : elems sto i.size (.d (.sl es' xs tt)) = some (xs.map .d) := by simp only [elems]; rw [if_pos hes0]
    obtain ⟨a, cap, f, e1, e2, e3, e4, e5⟩ := elems_src (P := P) hS hs hel
    have hcap := e5 _ _ _ rfl htt
    simp only [List.length_map] at e1 e2 e3 e4 hcap
    have hn0 : new.length ≠ 0 := fun h => h0 (List.eq_nil_of_length_eq_zero h)
    have g := (run_append_gen (ty := o.type) (olds := (List.range (xs.length * i.size)).map f) ht hu hni hi hz (a := a) (len := xs.length) (cap := cap) hsrc (fun _ => by simpa [mostBytes] using hbytes) hb0 (fun _ h => by omega) (fun _ => ⟨by simp, fun w' hw' => by have := e3.2.2.2 w' hw'; rw [e1] at this; exact this⟩)).2.2 (by omega)
    obtain ⟨nc, hnc, hrun⟩ := g
    have hF := flat_append (z := Builtin.zeroCells z.cells (nc - (xs.length + new.length))) e4 hflat (by simp)
    obtain ⟨r1, r2⟩ := alloc_row hSd _ e i.size _ (mono_flat hF).2.1 (mono_flat hF).1 (mono_flat hF).2.2
    refine ⟨_, _, F, _, .inl (fin _ _ (by rw [e1]; exact hrun)), .row _ _ _ _ _ _ nc (by omega) (fun h => by cases h) (fun _ => ⟨w.heap.size, _, _, _, upB_self _ _ _, by simp, heap_alloc_eq w.drew _, ?_⟩), r1, hEd.trans r2⟩
    simp only [Array.size_append, List.size_toArray, List.length_map, List.length_range, hnl, size_zeroCells, hzs]
    rw [← Nat.add_mul, ← Nat.add_mul]
    exact Nat.mul_le_mul_right _ (by omega)
   ·cases happ
 ·rename_i id es' lo n tt
  split at happ
  ·rename_i es'' xs hso
   split at happ
   ·rename_i hc
    obtain ⟨q1, q2, hlo, hn, hbytes⟩ := hc
    subst hlo
    subst q1
    subst q2
    cases happ
    have hO := hS.obj id _ hso
    obtain ⟨h00, hes, hO2⟩ := hO
    have hid := (List.getElem?_eq_some_iff.1 hso).1
    have hel : elems sto i.size (.row id i.size 0 n tt) = some (xs.take n) := by
     simp only [elems, hso]; rw [if_pos ⟨trivial, trivial, by omega⟩]; simp
    obtain ⟨a, cap, f, e1, e2, e3, e4, _⟩ := elems_src (P := P) hS hs hel
    have htl : (xs.take n).length = n := by simp; omega
    rw [htl] at e1 e2 e3 e4
    have hbnd : (n + new.length) * i.bytes ≤ 140737488355328 := by simpa [mostBytes] using hbytes
    have hrow := hs
    rw [e1] at hrow
    cases hrow with | row _ _ _ _ _ _ _ hlc ht' hbk =>
    have hfit : new.length ≠ 0 → n + new.length ≤ cap → ∃ (b : Nat) (c : Array Value) (T : TypeId), a = some ⟨b, 0, none⟩ ∧ w.heap[b]? = some (.cells c T (0, 0)) ∧ n * i.size + news.length ≤ c.size := by
     intro hn0 hle
     obtain ⟨b, c, T, fr, g1, g2, g3, g4⟩ := hbk (by omega)
     obtain ⟨c', T', fr', k1, k2, k3, _, k4⟩ := hO2 b g1
     rw [g3] at k1
     cases k1
     refine ⟨b, c, T, by simpa using g2, by rw [(k4 rfl).2] at g3; exact g3, ?_⟩
     rw [hnl, ← Nat.add_mul]
     exact Nat.le_trans (Nat.mul_le_mul_right _ (by omega)) g4
    have g := run_append_gen (ty := o.type) (olds := (List.range (n * i.size)).map f) ht hu hni hi hz (a := a) (len := n) (cap := cap) hsrc (fun _ => hbnd) hb0 hfit (fun _ => ⟨by simp, fun w' hw' => by have := e3.2.2.2 w' hw'; rw [e1] at this; exact this⟩)
    by_cases hn0 : new.length = 0
    ·have hnn : new = [] := List.eq_nil_of_length_eq_zero hn0
     subst hnn
     have hrun := g.1 ⟨rfl, e2⟩
     obtain ⟨r1, r2⟩ := shrink_obj hS id i.size xs n hso
     obtain ⟨r3, r4⟩ := rename_obj r1 id (.row i.size (xs.take n) false) (List.getElem?_set_self hid) rfl
     rw [List.set_set, List.length_set] at r3 r4
     rw [List.append_nil]
     refine ⟨_, w, F, _, .inl (fin _ _ (by rw [e1]; exact hrun)), .row _ _ _ _ _ _ cap e2 (fun h => by cases h) (fun hc => ?_), r3, r2.trans r4⟩
     obtain ⟨b, c, T, fr, g1, g2, g3, g4⟩ := hbk hc
     exact ⟨b, c, T, fr, by simpa using g1, g2, g3, g4⟩
    ·by_cases hle : n + new.length ≤ cap
     ·obtain ⟨b, c, T, rfl, hh, hfit', hrun⟩ := g.2.1 hn0 hle
      have hpos : 0 < cap := Nat.lt_of_lt_of_le (Nat.lt_of_lt_of_le (Nat.pos_of_ne_zero hn0) (Nat.le_add_left _ _)) hle
      obtain ⟨b', c', T', fr, g1, g2, g3, g4⟩ := hbk hpos
      have hbb : b' = b := by
       have := congrArg Addr.block (Option.some.inj g2)
       exact this.symm
      subst hbb
      rw [hh] at g3
      cases g3
      obtain ⟨c2, T2, fr2, k1, k2, k3, _, k4⟩ := hO2 b' g1
      rw [hh] at k1
      cases k1
      obtain ⟨hnF, _⟩ := k4 rfl
      have hnle : n * i.size ≤ c.size := by omega
      have hF1 : Flat w F β i.size (xs.take n) (c.toList.take (n * i.size)).toArray := by
       refine ⟨by simp [htl]; omega, fun q y hy => ?_, fun q y j y' u hy hj hu' => ?_⟩
       ·rw [List.getElem?_take] at hy
        split at hy
        ·exact hes q y hy
        ·cases hy
       ·rw [List.getElem?_take] at hy
        split at hy
        ·have hjl : j < i.size := by rw [← hes q y hy]; exact (List.getElem?_eq_some_iff.1 hj).1
         rw [List.getElem?_toArray, List.getElem?_take] at hu'
         split at hu'
         ·exact k3 q y j y' u hy hj (by simpa using hu')
         ·cases hu'
        ·cases hy
      have hF := flat_append (z := (c.toList.drop (n * i.size + news.length)).toArray) hF1 hflat (by simp [htl]; omega)
      have harr : (c.toList.take (n * i.size)).toArray ++ news.toArray ++ (c.toList.drop (n * i.size + news.length)).toArray = (c.toList.take (n * i.size) ++ news ++ c.toList.drop (n * i.size + news.length)).toArray := by simp
      rw [harr] at hF
      have hsz : (c.toList.take (n * i.size) ++ news ++ c.toList.drop (n * i.size + news.length)).toArray.size = c.size := by
       rw [splice_size _ _ _ (by simpa using hfit')]; simp
      have hx' : ∀ (w' : World), w' = w.setRow b' (c.toList.take (n * i.size) ++ news ++ c.toList.drop (n * i.size + news.length)).toArray → Mono w F β w' F β → ORel w' F β id (.row i.size (xs.take n ++ new) false) := by
       intro w' hw' hm
       subst hw'
       refine ⟨fun h => (by rw [g1] at h; cases h), hF.2.1, fun b2 hb2 => ?_⟩
       rw [g1] at hb2
       cases hb2
       exact ⟨_, T, (0, 0), setRow_heap w b' c _ T _ hh, hF.1, fun q y j y' u a1 a2 a3 => ⟨(hF.2.2 q y j y' u a1 a2 a3).1.mono hm, (hF.2.2 q y j y' u a1 a2 a3).2⟩, fun h => (by cases h), fun _ => ⟨hnF, rfl⟩⟩
      obtain ⟨r1, r2⟩ := write_obj (w' := w.setRow b' (c.toList.take (n * i.size) ++ news ++ c.toList.drop (n * i.size + news.length)).toArray) hS id b' _ (.row i.size (xs.take n ++ new) false) hso rfl g1 rfl rfl rfl rfl (fun _ => Nat.le_refl _) (by simp [World.setRow]) (fun k' hk' => setRow_other w b' k' _ hk') (fun c3 T3 fr3 hh3 => by
        rw [hh] at hh3; cases hh3; exact ⟨_, setRow_heap w b' c _ T _ hh, hsz⟩) hnF (hx' _ rfl)
      obtain ⟨r3, r4⟩ := rename_obj r1 id (.row i.size (xs.take n ++ new) false) (List.getElem?_set_self hid) rfl
      rw [List.set_set, List.length_set] at r3 r4
      refine ⟨_, _, F, _, .inl (fin _ _ (by rw [e1]; exact hrun)), .row _ _ _ _ _ _ cap hle (fun h => by cases h) (fun hc => ?_), r3, r2.trans r4⟩
      exact ⟨b', _, T, (0, 0), by simpa using g1, by simp, setRow_heap w b' c _ T _ hh, by rw [hsz]; exact g4⟩
     ·obtain ⟨nc, hnc, hrun⟩ := g.2.2 (by omega)
      have hF := flat_append (z := Builtin.zeroCells z.cells (nc - (n + new.length))) e4 hflat (by simp [htl])
      obtain ⟨r1, r2⟩ := alloc_row hSd _ e i.size _ (mono_flat hF).2.1 (mono_flat hF).1 (mono_flat hF).2.2
      obtain ⟨r3, r4⟩ := kill_obj r1 id
      rw [List.set_append_left _ _ hid] at r3 r4
      refine ⟨_, _, F, _, .inl (fin _ _ (by rw [e1]; exact hrun)), .row _ _ _ _ _ _ nc (by omega) (fun h => by cases h) (fun _ => ⟨w.heap.size, _, _, _, upB_self _ _ _, by simp, heap_alloc_eq w.drew _, ?_⟩), r3, (hEd.trans r2).trans r4⟩
      simp only [Array.size_append, List.size_toArray, List.length_map, List.length_range, hnl, size_zeroCells, hzs]
      rw [← Nat.add_mul, ← Nat.add_mul]
      exact Nat.mul_le_mul_right _ (by omega)
   ·cases happ
  ·cases happ
 ·cases happ
end
end Go.Proofs.YtjnfkifdgojdaaaGreat.V

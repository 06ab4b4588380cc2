/- What is handed to a law, as data. -/
import Derived.Test.YtjnfkifdgojdaaaGreatV26
import Derived.DataReads
import Derived.ChangeOld
import GoSem.ClaimChange
import GoSem.ClaimJoined
namespace Go.Proofs.YtjnfkifdgojdaaaGreat.V
open Go
set_option linter.unusedVariables false
set_option linter.unusedSimpArgs false
set_option linter.unusedSectionVars false
def layoutB (P : Program) (T : List TypeId) : List Field → Nat → Nat → Bool
 | [], o, n => o == n
 | f :: r, o, n => f.offset == o && T.contains f.type && layoutB P T r (o + P.cellsOf f.type) n
def typeB (P : Program) (T : List TypeId) (t : TypeId) : Bool := match P.underlying t with
 | some .bool => true
 | some (.int _) => true
 | some .string => true
 | some (.pointer e) => T.contains e && decide (0 < P.cellsOf e)
 | some (.slice e) => T.contains e && (match P.underlying e with
  | some d => if isAggD d then decide (0 < P.cellsOf e) else P.cellsOf e == 1
  | none => false)
 | some (.struct fs) => layoutB P T fs.toList 0 (P.cellsOf t)
 | _ => false
def typesB (P : Program) (T : List TypeId) : Bool := T.all (typeB P T)
def TyD (P : Program) : Nat → TypeId → List D → Prop
 | 0, _, _ => False
 | n + 1, t, xs => match P.underlying t with
  | some .bool => ∃ b, xs = [.bool b]
  | some (.int k) => ∃ z, xs = [.int k z] ∧ (Lit.int k z).wf = true
  | some .string => ∃ s, xs = [.str s] ∧ s.size ≤ reachBytes
  | some (.pointer e) => xs = [.nilp] ∨ ∃ cs, xs = [.ptr cs] ∧ TyD P n e cs
  | some (.slice e) => ∃ ys tt, (xs = [.sl (P.cellsOf e) ys tt] ∨ (xs = [.sl 0 [] true] ∧ ys = [] ∧ tt = true)) ∧ ys.length * P.bytesOf e ≤ reachBytes ∧ ∀ y ∈ ys, (∃ d, P.underlying e = some d ∧ if isAggD d = true then ∃ cs, y = .agg cs ∧ TyD P n e cs else TyD P n e [y])
  | some (.struct fs) => xs.length = P.cellsOf t ∧ ∀ f ∈ fs.toList, TyD P n f.type ((xs.drop f.offset).take (P.cellsOf f.type))
  | _ => False
def Old (w : World) : Nat → Prop := fun b => b < w.heap.size
def Cells (w : World) (xs : List D) (cs : List Value) : Prop := xs.length = cs.length ∧ ∀ (j : Nat) (y : D) (u : Value), xs[j]? = some y → cs[j]? = some u → DRel w (Old w) y u ∧ u.oneCell' = true
theorem Cells.one {w : World} {x : D} {u : Value} (h : DRel w (Old w) x u) (h1 : u.oneCell' = true) : Cells w [x] [u] := by
 refine ⟨rfl, fun j y v hy hv => ?_⟩
 cases j with
 | zero => simp at hy hv; subst hy; subst hv; exact ⟨h, h1⟩
 | succ j => simp at hy
theorem Cells.append {w : World} {xs ys : List D} {cs ds : List Value} (h : Cells w xs cs) (k : Cells w ys ds) : Cells w (xs ++ ys) (cs ++ ds) := by
 refine ⟨by simp [h.1, k.1], fun j y u hy hu => ?_⟩
 rcases Nat.lt_or_ge j xs.length with hj | hj
 ·rw [List.getElem?_append_left hj] at hy
  rw [List.getElem?_append_left (by rw [← h.1]; exact hj)] at hu
  exact h.2 j y u hy hu
 ·rw [List.getElem?_append_right hj] at hy
  rw [List.getElem?_append_right (by rw [← h.1]; exact hj), ← h.1] at hu
  exact k.2 _ y u hy hu
theorem pick_list {Q : Nat → D → Prop} : ∀ n : Nat, (∀ i, i < n → ∃ y, Q i y) → ∃ ys : List D, ys.length = n ∧ ∀ i y, ys[i]? = some y → Q i y
 | 0, _ => ⟨[], rfl, fun i y h => by simp at h⟩
 | n + 1, h => by
  obtain ⟨ys, h1, h2⟩ := pick_list n fun i hi => h i (by omega)
  obtain ⟨y, hy⟩ := h n (by omega)
  refine ⟨ys ++ [y], by simp [h1], fun i z hz => ?_⟩
  rcases Nat.lt_trichotomy i n with hi | rfl | hi
  ·rw [List.getElem?_append_left (by omega)] at hz; exact h2 i z hz
  ·rw [List.getElem?_append_right (by omega)] at hz
   simp [h1] at hz
   subst hz; exact hy
  ·rw [List.getElem?_eq_none (by simp; omega)] at hz; cases hz
theorem spot_of_cell {w : World} {a : Addr} {v : Value} (h : w.cell? a = some v) : a.spot = none := by
 unfold World.cell? at h
 split at h
 ·split at h
  ·cases h
  ·rename_i hs
   cases hx : a.spot with
   | none => rfl
   | some _ => rw [hx] at hs; exact absurd rfl hs
 ·cases h
section
variable {H : Type} {enc : TypeId × Value → H} {P : Program} {w : World} {spare : Nat → Bool} {T : List TypeId}
def Light (P : Program) (t : TypeId) (d : DataW H) : Prop := ∀ n ∈ d.weights P t, n ≤ reachBytes
theorem light_all {e : TypeId} : ∀ {l : List (DataW H)}, (∀ n ∈ DataW.weightsAll P e l, n ≤ reachBytes) → ∀ d ∈ l, Light P e d
 | [], _, d, hd => by cases hd
 | x :: r, h, d, hd => by
  simp only [DataW.weightsAll, List.mem_append] at h
  rcases List.mem_cons.1 hd with rfl | hd
  ·exact fun n hn => h n (.inl hn)
  ·exact light_all (fun n hn => h n (.inr hn)) d hd
theorem fields_dat {fuel : Nat} (ih : ∀ t cs x, t ∈ T → DataW.trod enc P w 0 spare true fuel t cs = some x → Light P t x.1 → ∃ xs, Cells w xs cs ∧ TyD P fuel t xs) : ∀ (fs : List Field) (o n : Nat) (cs : List Value) (ys : List (DataW H × List MemPlace)),
  layoutB P T fs o n = true → cs.length = n → o ≤ n → (fs.mapM fun f => DataW.trod enc P w 0 spare true fuel f.type ((cs.drop f.offset).take (P.cellsOf f.type))) = some ys → (∀ n ∈ DataW.weightsEach P (fs.map (·.type)) (ys.map (·.1)), n ≤ reachBytes) →
  ∃ xs, Cells w xs (cs.drop o) ∧ ∀ f ∈ fs, o ≤ f.offset ∧ TyD P fuel f.type ((xs.drop (f.offset - o)).take (P.cellsOf f.type))
 | [], o, n, cs, ys, hl, hn, ho, h, hw => by
  simp only [layoutB, beq_iff_eq] at hl
  refine ⟨[], ?_, fun f hf => by cases hf⟩
  rw [List.drop_eq_nil_of_le (by omega)]
  exact ⟨rfl, fun j y u hy => by simp at hy⟩
 | f :: r, o, n, cs, ys, hl, hn, ho, h, hw => by
  simp only [layoutB, Bool.and_eq_true, beq_iff_eq] at hl
  obtain ⟨⟨h1, h2⟩, h3⟩ := hl
  have h2' : f.type ∈ T := by simpa using h2
  simp only [List.mapM_cons, Option.bind_eq_bind, Option.bind_eq_some_iff] at h
  obtain ⟨x, hx, zs, hzs, hyy⟩ := h
  cases hyy
  simp only [List.map_cons, DataW.weightsEach, List.mem_append] at hw
  obtain ⟨xs1, c1, t1⟩ := ih _ _ _ h2' hx fun n hn => hw n (.inl hn)
  rw [h1] at c1
  have hle : o + P.cellsOf f.type ≤ n := by
   clear hzs c1 t1 hx
   have : ∀ (fs : List Field) (o : Nat), layoutB P T fs o n = true → o ≤ n := by
    intro fs
    induction fs with
    | nil => intro o h; simp only [layoutB, beq_iff_eq] at h; omega
    | cons g r ih => intro o h; simp only [layoutB, Bool.and_eq_true] at h; have := ih _ h.2; omega
   exact this r _ h3
  obtain ⟨xs2, c2, t2⟩ := fields_dat ih r (o + P.cellsOf f.type) n cs zs h3 hn hle hzs fun n hn => hw n (.inr hn)
  have hlen : xs1.length = P.cellsOf f.type := by rw [c1.1]; simp; omega
  refine ⟨xs1 ++ xs2, ?_, fun g hg => ?_⟩
  ·have := c1.append c2
   rw [← List.drop_drop, List.take_append_drop] at this
   exact this
  ·rcases List.mem_cons.1 hg with rfl | hg
   ·refine ⟨by omega, ?_⟩
    rw [h1, Nat.sub_self, List.drop_zero, List.take_append_of_le_length (by omega), List.take_of_length_le (by omega)]
    exact t1
   ·obtain ⟨h4, h5⟩ := t2 g hg
    refine ⟨by omega, ?_⟩
    rw [List.drop_append, List.drop_eq_nil_of_le (by omega), List.nil_append, hlen, show g.offset - o - P.cellsOf f.type = g.offset - (o + P.cellsOf f.type) by omega]
    exact h5
theorem TyD_one {n : Nat} {t : TypeId} {d : TypeDesc} (hd : P.underlying t = some d) (hag : isAggD d = false) {z : D} (h : TyD P n t [z]) : z.cells = [z] := by
 cases n with
 | zero => exact h.elim
 | succ n =>
  simp only [TyD, hd] at h
  cases d <;> simp only at h <;> try (first | exact h.elim | (cases hag; done))
  ·obtain ⟨b, h⟩ := h; cases h; rfl
  ·obtain ⟨b, h, _⟩ := h; cases h; rfl
  ·obtain ⟨b, h, _⟩ := h; cases h; rfl
  ·rcases h with h | ⟨cs, h, _⟩ <;> cases h <;> rfl
  ·obtain ⟨ys, tt, h | ⟨h, _⟩, _⟩ := h <;> cases h <;> rfl
theorem dat (hT : typesB P T = true) : ∀ (fuel : Nat) (t : TypeId) (cs : List Value) (x : DataW H × List MemPlace), t ∈ T → DataW.trod enc P w 0 spare true fuel t cs = some x → Light P t x.1 → ∃ xs, Cells w xs cs ∧ TyD P fuel t xs
 | 0, t, cs, x, _, h, _ => by simp [DataW.trod] at h
 | fuel + 1, t, cs, x, ht, h, hw => by
  have hb : typeB P T t = true := by
   simp only [typesB, List.all_eq_true] at hT
   exact hT t ht
  unfold typeB at hb
  have one : (∀ v, cs = [v] → DataW.trod enc P w 0 spare true (fuel + 1) t [v] = some x → ∃ xs, Cells w xs [v] ∧ TyD P (fuel + 1) t xs) → (∀ r, cs ≠ [] → (∀ v, cs ≠ [v]) → DataW.trod enc P w 0 spare true (fuel + 1) t cs ≠ some r) → (DataW.trod enc P w 0 spare true (fuel + 1) t [] ≠ some x) → ∃ xs, Cells w xs cs ∧ TyD P (fuel + 1) t xs := by
   intro h1 h2 h3
   match cs, h with
   | [], h => exact absurd h h3
   | [v], h => exact h1 v rfl h
   | v :: u :: r, h => exact absurd h (h2 x (by simp) (by simp))
  cases hu : P.underlying t with
  | none => rw [hu] at hb; cases hb
  | some d =>
   rw [hu] at hb
   cases d <;> simp only at hb <;> try (cases hb; done)
   case bool =>
    refine one (fun v hv0 h => ?_) (fun r h1 h2 h => ?_) (fun h => by simp [DataW.trod, hu] at h)
    ·clear hv0
     simp only [DataW.trod, hu] at h
     cases v <;> simp at h
     rename_i b
     exact ⟨[.bool b], Cells.one (.bool b) rfl, by simp only [TyD, hu]; exact ⟨b, rfl⟩⟩
    ·match cs, h1, h2 with
     | [v], _, h2 => exact h2 v rfl
     | a :: b :: r, _, _ => simp [DataW.trod, hu] at h
   case int k =>
    refine one (fun v hv0 h => ?_) (fun r h1 h2 h => ?_) (fun h => by simp [DataW.trod, hu] at h)
    ·clear hv0
     simp only [DataW.trod, hu] at h
     cases v <;> simp at h
     rename_i k' n
     obtain ⟨⟨rfl, h2⟩, _⟩ := h
     exact ⟨[.int _ n], Cells.one (.int _ n) rfl, by simp only [TyD, hu]; exact ⟨n, rfl, h2⟩⟩
    ·match cs, h1, h2 with
     | [v], _, h2 => exact h2 v rfl
     | a :: b :: r, _, _ => simp [DataW.trod, hu] at h
   case string =>
    refine one (fun v hv0 h => ?_) (fun r h1 h2 h => ?_) (fun h => by simp [DataW.trod, hu] at h)
    ·clear hv0
     simp only [DataW.trod, hu] at h
     cases v <;> simp at h
     rename_i s
     obtain ⟨h1, h2⟩ := h
     have hs : s.size ≤ reachBytes := by
      have := hw s.data.toList.length (by rw [← h2]; simp [DataW.weights])
      simpa using this
     exact ⟨[.str s], Cells.one (.str s) rfl, by simp only [TyD, hu]; exact ⟨s, rfl, hs⟩⟩
    ·match cs, h1, h2 with
     | [v], _, h2 => exact h2 v rfl
     | a :: b :: r, _, _ => simp [DataW.trod, hu] at h
   case pointer e =>
    simp only [Bool.and_eq_true, decide_eq_true_eq] at hb
    obtain ⟨hb1, hb2⟩ := hb
    refine one (fun v hv0 h => ?_) (fun r h1 h2 h => ?_) (fun h => by simp [DataW.trod, hu] at h)
    ·clear hv0
     simp only [DataW.trod, hu] at h
     cases v <;> try (simp at h; done)
     rename_i a
     cases a with
     | none => exact ⟨[.nilp], Cells.one .nilp rfl, by simp only [TyD, hu]; exact .inl trivial⟩
     | some a =>
      simp only [Option.map_eq_some_iff, Option.bind_eq_some_iff] at h
      obtain ⟨y, ⟨cells, hc, hy⟩, hxx⟩ := h
      obtain ⟨ys, c1, t1⟩ := dat hT fuel e cells y (by simpa using hb1) hy fun n hn => hw n (by rw [← hxx]; simp only [DataW.weights, hu]; exact hn)
      obtain ⟨_, g1, g2⟩ := World.cells?_some hc
      have h0 : w.cell? a = cells[0]? := by have := g2 0 hb2; simpa [Addr.add] using this
      have hsp : a.spot = none := by
       rw [List.getElem?_eq_getElem (by omega)] at h0
       exact spot_of_cell h0
      obtain ⟨bk, off, sp⟩ := a
      simp only at hsp
      subst hsp
      have hbk : bk < w.heap.size := World.cells?_block hc hb2
      refine ⟨[.ptr ys], Cells.one (.ptr ys bk off (fun j => cells[j]?.getD undef) hbk (fun j y hy => ?_) (fun j y hy => ?_) (fun j y hy => ?_)) rfl, by simp only [TyD, hu]; exact .inr ⟨ys, rfl, t1⟩⟩
      all_goals
       have hj : j < cells.length := by rw [← c1.1]; exact (List.getElem?_eq_some_iff.1 hy).1
       have e1 := List.getElem?_eq_getElem hj
       have e2 := g2 j (by omega)
       rw [Addr.add_lit] at e2
       rw [e1]
      ·rw [e2, e1]; rfl
      ·exact (c1.2 j y _ hy e1).2
      ·exact (c1.2 j y _ hy e1).1
    ·match cs, h1, h2 with
     | [v], _, h2 => exact h2 v rfl
     | a :: b :: r, _, _ => simp [DataW.trod, hu] at h
   case slice e =>
    simp only [Bool.and_eq_true] at hb
    obtain ⟨hb1, hb2⟩ := hb
    refine one (fun v hv0 h => ?_) (fun r h1 h2 h => ?_) (fun h => by simp [DataW.trod, hu] at h)
    ·clear hv0
     simp only [DataW.trod, hu] at h
     cases v <;> try (simp at h; done)
     rename_i a len cap
     cases a with
     | none =>
      cases len <;> cases cap <;> try (simp at h; done)
      exact ⟨[.sl 0 [] true], Cells.one (constC_rel (v := .slice none 0 0) rfl) rfl, by simp only [TyD, hu]; exact ⟨[], true, .inr ⟨trivial, rfl, rfl⟩, by simp, fun y hy => by cases hy⟩⟩
     | some a =>
      cases hde : P.underlying e with
      | none => rw [hde] at hb2; cases hb2
      | some de =>
       rw [hde] at hb2
       simp only at hb2
       have hes0 : 0 < P.cellsOf e := by
        split at hb2
        ·simpa using hb2
        ·have : P.cellsOf e = 1 := by simpa using hb2
         omega
       dsimp only at h
       split at h
       ·rename_i hcond
        simp only [Option.bind_eq_some_iff, Option.map_eq_some_iff] at h
        obtain ⟨elems, hel, rest, _, hxx⟩ := h
        have hwt : ∀ n, n = (elems.length + rest.length) * P.bytesOf e ∨ n ∈ DataW.weightsAll P e (elems.map (·.1)) → n ≤ reachBytes := fun n hn => hw n (by
         rw [← hxx]
         simp only [DataW.weights, hu, List.length_map, List.mem_cons, List.mem_append]
         rcases hn with hn | hn
         ·exact .inl hn
         ·exact .inr (.inl hn))
        have hlen : elems.length = len := by simpa using mapM_some_length hel
        have each : ∀ i, i < len → ∃ y : D, ∃ cells, w.cells? 0 (a.add (i * P.cellsOf e)) (P.cellsOf e) = some cells ∧ Cells w y.cells cells ∧ y.cells.length = P.cellsOf e ∧ ∃ d, P.underlying e = some d ∧ if isAggD d = true then ∃ cs, y = .agg cs ∧ TyD P fuel e cs else TyD P fuel e [y] := by
         intro i hi
         have h1 := mapM_some_get hel i i (by simp [hi])
         rw [List.getElem?_eq_getElem (by omega)] at h1
         simp only [Option.bind_eq_some_iff] at h1
         obtain ⟨cells, hc, hy⟩ := h1
         obtain ⟨ys, c1, t1⟩ := dat hT fuel e cells _ (by simpa using hb1) hy (light_all (fun n hn => hwt n (.inr hn)) _ (List.mem_map.2 ⟨_, List.getElem_mem _, rfl⟩))
         obtain ⟨_, g1, g2⟩ := World.cells?_some hc
         by_cases hag : isAggD de = true
         ·exact ⟨.agg ys, cells, hc, c1, by simp only [D.cells]; rw [c1.1, g1], de, hde, by rw [if_pos hag]; exact ⟨ys, rfl, t1⟩⟩
         ·rw [if_neg hag] at hb2
          have h1 : ys.length = 1 := by rw [c1.1, g1]; simpa using hb2
          match ys, h1 with
          | [z], _ =>
           have hz : z.cells = [z] := TyD_one hde (by simpa using hag) t1
           exact ⟨z, cells, hc, by rw [hz]; exact c1, by rw [hz]; simpa using (by simpa using hb2 : P.cellsOf e = 1).symm, de, hde, by rw [if_neg hag]; exact t1⟩
        obtain ⟨ys, hyl, hys⟩ := pick_list len each
        have typed : ∃ ys' tt', (([D.sl (P.cellsOf e) ys (decide (cap = len))] : List D) = [.sl (P.cellsOf e) ys' tt'] ∨ (([D.sl (P.cellsOf e) ys (decide (cap = len))] : List D) = [.sl 0 [] true] ∧ ys' = [] ∧ tt' = true)) ∧ ys'.length * P.bytesOf e ≤ reachBytes ∧ ∀ y ∈ ys', (∃ d, P.underlying e = some d ∧ if isAggD d = true then ∃ cs, y = .agg cs ∧ TyD P fuel e cs else TyD P fuel e [y]) := by
         refine ⟨ys, _, .inl rfl, ?_, fun y hy => ?_⟩
         ·have h1 := hwt _ (.inl rfl)
          rw [hyl, ← hlen]
          exact Nat.le_trans (Nat.mul_le_mul_right _ (Nat.le_add_right _ _)) h1
         obtain ⟨i, hi⟩ := List.getElem?_of_mem hy
         obtain ⟨cells, _, _, _, h5⟩ := hys i y hi
         exact h5
        refine ⟨[.sl (P.cellsOf e) ys (decide (cap = len))], Cells.one ?_ rfl, by simp only [TyD, hu]; exact typed⟩
        have hsp : 0 < len → a.spot = none ∧ a.block < w.heap.size := by
         intro h0
         obtain ⟨y, cells, hc, _⟩ := each 0 h0
         obtain ⟨_, g1, g2⟩ := World.cells?_some hc
         have e0 := g2 0 hes0
         rw [List.getElem?_eq_getElem (by omega)] at e0
         simp only [Nat.zero_mul, Addr.add, if_true] at e0
         refine ⟨spot_of_cell e0, ?_⟩
         have := World.cells?_block hc hes0
         simpa [Addr.add] using this
        have hcell : ∀ (i : Nat) (y : D) (j : Nat) (q : D), ys[i]? = some y → y.cells[j]? = some q → ∃ u, w.cell? ⟨a.block, a.off + i * P.cellsOf e + j, none⟩ = some u ∧ u.oneCell' = true ∧ DRel w (Old w) q u := by
         intro i y j q hy hq
         have hi : i < len := by rw [← hyl]; exact (List.getElem?_eq_some_iff.1 hy).1
         obtain ⟨cells, hc, c1, c2, _⟩ := hys i y hy
         obtain ⟨_, g1, g2⟩ := World.cells?_some hc
         have hj : j < P.cellsOf e := by rw [← c2]; exact (List.getElem?_eq_some_iff.1 hq).1
         have e1 := List.getElem?_eq_getElem (show j < cells.length by omega)
         have e2 := g2 j hj
         have hs := (hsp (by omega)).1
         obtain ⟨bk, off, sp⟩ := a
         simp only at hs
         subst hs
         rw [Addr.add_lit, Addr.add_lit, e1] at e2
         exact ⟨_, e2, (c1.2 j q _ hq e1).2, (c1.2 j q _ hq e1).1⟩
        have := DRel.sl (w := w) (F := Old w) (P.cellsOf e) ys (decide (cap = len)) (some a) cap a.block a.off (fun i j => (w.cell? ⟨a.block, a.off + i * P.cellsOf e + j, none⟩).getD undef) (by omega) (fun ht => by rw [hyl]; simpa using ht)
         (fun h0 => by
          have := (hsp (by omega)).1
          obtain ⟨bk, off, sp⟩ := a
          simp only at this
          subst this
          rfl)
         (fun h0 => (hsp (by omega)).2) (fun i y hy => by obtain ⟨_, _, _, c2, _⟩ := hys i y hy; exact c2)
         (fun i y j q hy hq => by obtain ⟨u, h1, _⟩ := hcell i y j q hy hq; rw [h1]; rfl)
         (fun i y j q hy hq => by obtain ⟨u, h1, h2, _⟩ := hcell i y j q hy hq; rw [h1]; exact h2)
         (fun i y j q hy hq => by obtain ⟨u, h1, _, h3⟩ := hcell i y j q hy hq; rw [h1]; exact h3)
        rw [hyl] at this
        exact this
       ·cases h
    ·match cs, h1, h2 with
     | [v], _, h2 => exact h2 v rfl
     | a :: b :: r, _, _ => simp [DataW.trod, hu] at h
   case struct fs =>
    simp only [DataW.trod, hu] at h
    have h' : (if cs.length = P.cellsOf t then ((fs.toList.mapM fun f => DataW.trod enc P w 0 spare true fuel f.type ((cs.drop f.offset).take (P.cellsOf f.type))).map fun xs => (DataW.agg (xs.map (·.1)), xs.flatMap (·.2))) else none) = some x := by
     revert h
     cases cs with
     | nil => exact id
     | cons v r => cases r <;> (cases v <;> exact id)
    split at h'
    ·rename_i hlen
     simp only [Option.map_eq_some_iff] at h'
     obtain ⟨ys, hys, hxx⟩ := h'
     obtain ⟨xs, c1, t1⟩ := fields_dat (fun t cs x ht hx hl => dat hT fuel t cs x ht hx hl) fs.toList 0 (P.cellsOf t) cs ys hb hlen (Nat.zero_le _) hys fun n hn => hw n (by rw [← hxx]; simp only [DataW.weights, hu]; exact hn)
     rw [List.drop_zero] at c1
     refine ⟨xs, c1, ?_⟩
     simp only [TyD, hu]
     exact ⟨by rw [c1.1, hlen], fun f hf => by simpa using (t1 f hf).2⟩
    ·cases h'
end
end Go.Proofs.YtjnfkifdgojdaaaGreat.V

/- slices.SortFunc at structs of plain cells, by the kit's own theorem: what the row holds then. -/
import Derived.Test.YtjnfkifdgojdaaaGreatV30
import Derived.Shelf.SlSortCmp.WholeK
namespace Go.Proofs.YtjnfkifdgojdaaaGreat.V
open Go Go.Sort Go.Lib Go.Shelf Go.RowKit
set_option linter.unusedVariables false
set_option linter.unusedSimpArgs false
set_option linter.unusedSectionVars false
variable [Inhabited Flag]
structure PlainEnc {T : Type} (e : T → List D) (ev : T → List Value) (k : Nat) : Prop where
 len : ∀ t, (e t).length = k
 lenv : ∀ t, (ev t).length = k
 one : ∀ t, ∀ v ∈ ev t, v.oneCell' = true
 rel : ∀ (w : World) (F : Nat → Prop) (t : T) (j : Nat) (y : D) (u : Value), (e t)[j]? = some y → (ev t)[j]? = some u → DRel w F y u
 uniq : ∀ (w : World) (F : Nat → Prop) (t : T) (j : Nat) (y : D) (u : Value), (e t)[j]? = some y → DRel w F y u → (ev t)[j]? = some u
def eAgg {T : Type} (e : T → List D) (t : T) : D := .agg (e t)
section
variable {P : Program} {C : Calling} {T : Type} [Inhabited T] {e : T → List D} {ev : T → List Value} {k : Nat}
theorem world_grown {w w' : World} (ho : w'.os = w.os) (ht : w'.tape = w.tape) (hp : w'.output = w.output) (hd : w.drawn ≤ w'.drawn) (hs : w.heap.size ≤ w'.heap.size) (hk : ∀ b, b < w.heap.size → w'.heap[b]? = w.heap[b]?) : ∃ q os', w' = grow (w.drewN q) os' := by
 refine ⟨w'.drawn - w.drawn, w'.heap.extract w.heap.size w'.heap.size, ?_⟩
 have hh : w'.heap = w.heap ++ w'.heap.extract w.heap.size w'.heap.size := by
  apply Array.ext_getElem?
  intro i
  rcases Nat.lt_or_ge i w.heap.size with h | h
  ·rw [hk i h, Array.getElem?_append_left h]
  ·rw [Array.getElem?_append_right h]
   by_cases h2 : i < w'.heap.size
   ·rw [Array.getElem?_eq_getElem h2, Array.getElem?_eq_getElem (by simp; omega)]
    simp only [Array.getElem_extract]
    congr 2
    omega
   ·rw [Array.getElem?_eq_none (by omega), Array.getElem?_eq_none (by simp; omega)]
 cases w' with
 | mk heap tape drawn os output =>
  simp only at ho ht hp hd hh
  subst ho
  subst ht
  subst hp
  unfold grow World.drewN
  dsimp only
  rw [World.mk.injEq]
  exact ⟨hh, rfl, by omega, rfl, rfl⟩
theorem cmp_lays (hq : drOn) (hl : ∀ x ∈ (default : Flag).laid, False) (hC : Sound P C) (he : PlainEnc e ev k) {g : FuncId} (hfn : ∃ fn, P.funcs[g]? = some fn ∧ fn.body.isNone = false) {cf : T → T → Int} (hc : ∀ x y, C g [.d (eAgg e x), .d (eAgg e y)] [] = some (.ret (.d (.int .i64 (cf x y))), [])) (x y : T) (W : World) :
  Calls P g #[.agg (ev x).toArray, .agg (ev y).toArray] W fun e w' => e = .returned (.int .i64 (cf x y)) ∧ ∃ q os', w' = grow (W.drewN q) os' := by
 have hS : SRel W (fun _ => False) (fun _ => none) [] := ⟨fun _ _ h => by simp at h, fun _ _ => rfl, fun _ _ h => (by cases h), fun _ h => h.elim, fun _ _ _ _ _ h => by simp at h, fun x h => (hl x h).elim⟩
 have ag : ∀ t : T, DRel W (fun _ => False) (eAgg e t) (.agg (ev t).toArray) := fun t => by
  refine .agg _ _ (by simp [he.len, he.lenv]) (fun j u hj => he.one t u ?_) (fun j y u hy hu => he.rel _ _ t j y u hy (by simpa using hu))
  have : (ev t)[j]? = some u := by simpa using hj
  exact List.mem_of_getElem? this
 have hA : ARel W (fun _ => False) (fun _ => none) [.d (eAgg e x), .d (eAgg e y)] #[.agg (ev x).toArray, .agg (ev y).toArray] := by
  refine ⟨rfl, fun j a u ha hu => ?_⟩
  match j, ha, hu with
  | 0, ha, hu => simp at ha hu; subst ha; subst hu; exact .d _ _ (ag x)
  | 1, ha, hu => simp at ha hu; subst ha; subst hu; exact .d _ _ (ag y)
  | j + 2, ha, _ => simp at ha
 rcases hC g _ _ _ _ (hc x y) W _ _ _ hS hA with ⟨fn, _, _, _, h⟩ | ⟨v, w', h, _⟩
 ·refine h.mono fun e' w' ⟨F', β', h1, h2, h3⟩ => ?_
  cases e' with
  | returned u =>
   refine ⟨?_, world_grown h3.os h3.tape h3.output (h3.drew hq) h3.size fun b hb => h3.keep b hb fun id o ho => by simp at ho⟩
   cases h1 with
   | d _ _ h => cases h; rfl
  | panicked ch => exact h1.elim
  | outgrown => exact h1.elim
 ·exfalso
  obtain ⟨fn, hf, hb⟩ := hfn
  unfold callFunc at h
  by_cases hn : fn.name = "runtime.NumGoroutine"
  ·simp [hf, hn] at h
  ·have hb' : ¬ fn.body = none := by
    intro e
    rw [e] at hb
    cases hb
   first | (simp [hf, hn, hb'] at h; done) | (simp [hf, hn, hb'] at h)
def sortT (cf : T → T → Int) (l : List T) : List T := (pdq (ltOf cf) l.toArray 0 l.length (Lib.bitLen l.length) true true).toList
theorem sortT_spec (cf : T → T → Int) (hO : SWO (ltOf cf)) (l : List T) : (sortT cf l).Perm l ∧ (sortT cf l).length = l.length ∧ ∀ (i j : Nat) (x y : T), i < j → (sortT cf l)[i]? = some x → (sortT cf l)[j]? = some y → 0 ≤ cf y x := by
 have h := pdq_sorts (ltOf cf) hO l.toArray 0 l.length (Lib.bitLen l.length) true true (Nat.zero_le _) (by simp) (Or.inl rfl)
 unfold sortT
 generalize pdq (ltOf cf) l.toArray 0 l.length (Lib.bitLen l.length) true true = A at h
 obtain ⟨⟨h1, _, h2⟩, h3⟩ := h
 have hs : A.size = l.length := by simpa using h1
 have e1 : ∀ (a : Array T) (n : Nat), a.size = n → a.extract 0 n = a := by
  intro a n hn
  subst hn
  simp
 rw [e1 A _ hs, e1 l.toArray _ (by simp)] at h2
 refine ⟨by simpa using h2, by simp [hs], fun i j x y hij hx hy => ?_⟩
 have hj : j < l.length := by
  have := (List.getElem?_eq_some_iff.1 hy).1
  simp only [Array.length_toList, hs] at this
  exact this
 have h4 := h3 i j (Nat.zero_le _) hij hj
 rw [getElem!_pos A j (by omega), getElem!_pos A i (by omega)] at h4
 have hx' : A[i]'(by omega) = x := by
  have := (List.getElem?_eq_some_iff.1 hx).2
  simpa using this
 have hy' : A[j]'(by omega) = y := by
  have := (List.getElem?_eq_some_iff.1 hy).2
  simpa using this
 rw [hx', hy'] at h4
 unfold ltOf at h4
 simpa using h4
theorem flatK_get {ev : T → List Value} {k : Nat} {d : Array T} {i r : Nat} {t : T} {u : Value} (hr : r < k) (ht : d[i]? = some t) (hu : (ev t)[r]? = some u) : (flatK ev k d)[i * k + r]? = some u := by
 have hi := (Array.getElem?_eq_some_iff.1 ht).1
 have lt : i * k + r < d.size * k := by
  have := Nat.mul_le_mul_right k (show i + 1 ≤ d.size from hi)
  rw [Nat.add_mul, Nat.one_mul] at this
  omega
 have e1 : (i * k + r) / k = i := by
  rw [Nat.mul_comm, Nat.mul_add_div (by omega), Nat.div_eq_of_lt hr, Nat.add_zero]
 have e2 : (i * k + r) % k = r := by
  rw [Nat.mul_comm, Nat.mul_add_mod, Nat.mod_eq_of_lt hr]
 rw [Array.getElem?_eq_getElem (by rw [size_flatK]; exact lt)]
 have g := get_flatK ev k d _ lt
 rw [getElem!_pos _ _ (by rw [size_flatK]; exact lt), e1, e2, getElem!_pos d i hi] at g
 rw [g]
 have ht' : d[i] = t := (Array.getElem?_eq_some_iff.1 ht).2
 rw [ht', getElem!_pos _ r (List.getElem?_eq_some_iff.1 hu).1]
 rw [(List.getElem?_eq_some_iff.1 hu).2]
variable {w : World} {F : Nat → Prop} {β : Bl}
def xsOf (e : T → List D) (l : List T) : List AV := (l.map (eAgg e)).map .d
theorem xsOf_get {l : List T} {i : Nat} {x : AV} (h : (xsOf e l)[i]? = some x) : ∃ t, l[i]? = some t ∧ x = .d (eAgg e t) := by
 simp only [xsOf, List.getElem?_map, Option.map_eq_some_iff] at h
 obtain ⟨d, ⟨t, h1, rfl⟩, rfl⟩ := h
 exact ⟨t, h1, rfl⟩
theorem cells_eAgg {t : T} {r : Nat} {y : AV} (h : (AV.d (eAgg e t)).cells[r]? = some y) : ∃ d, (e t)[r]? = some d ∧ y = .d d := by
 simp only [AV.cells, eAgg, List.getElem?_map, Option.map_eq_some_iff] at h
 obtain ⟨d, h1, rfl⟩ := h
 exact ⟨d, h1, rfl⟩
theorem holds_of {b : Nat} {c : Array Value} {Ty : TypeId} (he : PlainEnc e ev k) {l : List T} (hh : w.heap[b]? = some (.cells c Ty (0, 0))) (hsz : l.length * k ≤ c.size)
  (hr : ∀ (i : Nat) (x : AV) (j : Nat) (y : AV) (u : Value), (xsOf e l)[i]? = some x → x.cells[j]? = some y → c[i * k + j]? = some u → VRel w F β y u ∧ u.oneCell' = true) : HoldsK ev k w b 0 l.toArray := by
 intro j hj
 rw [size_flatK, List.size_toArray] at hj
 have k0 : 0 < k := by
  rcases Nat.eq_zero_or_pos k with h | h
  ·subst h; omega
  ·exact h
 have hi : j / k < l.length := by rw [Nat.div_lt_iff_lt_mul k0]; exact hj
 have hm : j % k < k := Nat.mod_lt _ k0
 have ej : j / k * k + j % k = j := Nat.div_add_mod' j k
 obtain ⟨t, ht⟩ : ∃ t, l[j / k]? = some t := ⟨_, List.getElem?_eq_getElem hi⟩
 obtain ⟨d, hd⟩ : ∃ d, (e t)[j % k]? = some d := ⟨_, List.getElem?_eq_getElem (by rw [he.len]; exact hm)⟩
 obtain ⟨u, hu⟩ : ∃ u, c[j]? = some u := ⟨_, Array.getElem?_eq_getElem (by omega)⟩
 have hv := (hr (j / k) (.d (eAgg e t)) (j % k) (.d d) u (by simp [xsOf, ht]) (by simp [AV.cells, eAgg, hd]) (by rw [ej]; exact hu)).1
 have hdr : DRel w F d u := by cases hv with | d _ _ h => exact h
 have hev := he.uniq w F t (j % k) d u hd hdr
 have hf := flatK_get (d := l.toArray) hm (by simpa using ht) hev
 rw [ej] at hf
 have hlt := (Array.getElem?_eq_some_iff.1 hf).1
 constructor
 ·show w.cell? ⟨b, 0 + j, none⟩ = some ((flatK ev k l.toArray)[j]!)
  rw [getElem!_pos (flatK ev k l.toArray) j hlt, (Array.getElem?_eq_some_iff.1 hf).2]
  simp [World.cell?, hh, hu]
 ·show w.frozen? ⟨b, 0 + j, none⟩ = false
  simp [World.frozen?, hh]
theorem heap_putRow_other (w : World) (b : Nat) (d : Array Value) {q : Nat} (h : q ≠ b) : (putRow id w b 0 d).heap[q]? = w.heap[q]? := by
 unfold putRow mapBlock
 simp only [Array.getElem?_modify]
 rw [if_neg (Ne.symm h)]
theorem heap_putRow_self (w : World) (b : Nat) (d : Array Value) {c : Array Value} {Ty : TypeId} {fr : Nat × Nat} (h : w.heap[b]? = some (.cells c Ty fr)) : (putRow id w b 0 d).heap[b]? = some (.cells (putCells id 0 d c) Ty fr) := by
 unfold putRow mapBlock
 simp only [Array.getElem?_modify, if_true, h, Option.map_some]
 rfl
theorem putCells_get (d c : Array Value) (j : Nat) (hj : j < d.size) : (putCells id 0 d c)[j]? = if j < c.size then d[j]? else none := by
 unfold putCells
 rw [Array.getElem?_mapIdx]
 by_cases h : j < c.size
 ·rw [if_pos h, Array.getElem?_eq_getElem h, Array.getElem?_eq_getElem hj]
  simp only [Option.map_some, id]
  rw [if_pos ⟨by omega, by omega⟩, Nat.sub_zero, getElem!_pos d j hj]
 ·rw [if_neg h, Array.getElem?_eq_none (by omega)]
  rfl
theorem grow_ext {sto : List Obj} (hS : SRel w F β sto) (os : Array Go.Obj) : SRel (grow w os) F β sto ∧ Ext w F β sto (grow w os) F β sto := by
 have hold : ∀ b, b < w.heap.size → (grow w os).heap[b]? = w.heap[b]? := fun b hb => by
  show (w.heap ++ os)[b]? = _
  rw [Array.getElem?_append_left hb]
 have hsz : w.heap.size ≤ (grow w os).heap.size := by show _ ≤ (w.heap ++ os).size; simp
 have hm : Mono w F β (grow w os) F β := ⟨fun _ h => h, fun b hb => hold b (hS.flt b hb), fun _ _ h => h, fun b c T fr h => ⟨c, by rw [hold b (Array.getElem?_eq_some_iff.1 h).1]; exact h, rfl⟩⟩
 refine ⟨⟨fun id y hy => (hS.obj id y hy).mono hm rfl (fun b hb => hold b (hS.lt id b hb)) (fun _ _ _ hf => hf), hS.dom, fun id b hb => Nat.lt_of_lt_of_le (hS.lt id b hb) hsz, fun b hb => Nat.lt_of_lt_of_le (hS.flt b hb) hsz, hS.inj, hS.gl.mono hm⟩,
  ⟨hm, rfl, rfl, rfl, fun _ => Nat.le_refl _, hsz, fun b hb _ => hold b hb, Nat.le_refl _, fun _ _ => rfl, fun id b hid hb => (by rw [hS.dom id hid] at hb; cases hb), fun _ h => .inl h, fun _ y hy => ⟨y, hy, fun h => h⟩⟩⟩
theorem sort_sound {ρ : Ren} (L : SlLaysF0.n6 P ρ) (aE : ∀ w, (isAgg (ρ.t 24)).run P w = .ok true w) (zE : ∀ w, (Go.sizeOf (ρ.t 24)).run P w = .ok k w) (he : PlainEnc e ev k) (hk0 : 0 < k) {cf : T → T → Int} (hO : SWO (ltOf cf)) {g : FuncId} (eg : ∀ args w, (callFunc g args).run P w = .ok (.enter g args) w)
  (hcl : ∀ x y W, Calls P g #[.agg (ev x).toArray, .agg (ev y).toArray] W fun e w' => e = .returned (.int .i64 (cf x y)) ∧ ∃ q os', w' = grow (W.drewN q) os')
  {fn : Func} (hfn : P.funcs[ρ.f 6]? = some fn) (hfn2 : (fn.name == "runtime.NumGoroutine") = false) (hfn3 : fn.body.isNone = false)
  {l : List T} (hl : 0 < l.length) (hl2 : l.length < 4611686018427387904) {t : Bool} {us : Array Value}
  (hS : SRel w F β [.row k (xsOf e l) false]) (hA : ARel w F β [.row 0 k 0 l.length t, .d (.func (.func g) [] [])] us) :
  CallsF P (ρ.f 6) us w (Res w F β [.row k (xsOf e l) false] (.ret (.tup [])) [.row k (xsOf e (sortT cf l)) false]) := by
 refine .inl ⟨fn, hfn, hfn2, hfn3, ?_⟩
 obtain ⟨hA1, hA2⟩ := hA
 obtain ⟨u0, u1, rfl⟩ : ∃ u0 u1, us = #[u0, u1] := by
  have : us.size = 2 := hA1
  exact ⟨us[0], us[1], by apply Array.ext <;> simp [this]; intro i h1 h2; match i, h2 with | 0, _ => rfl | 1, _ => rfl⟩
 have v0 := hA2 0 _ u0 rfl rfl
 have v1 := hA2 1 _ u1 rfl rfl
 obtain rfl : u1 = .func (.func g) #[] #[] := by
  cases v1 with
  | d _ _ h =>
   cases h with
   | func _ _ _ us vs ha hb _ _ =>
    have h1 : us = #[] := Array.eq_empty_of_size_eq_zero (by simpa using ha)
    have h2 : vs = #[] := Array.eq_empty_of_size_eq_zero (by simpa using hb)
    rw [h1, h2]
 cases v0 with
 | row _ _ _ _ _ a cap hlc ht hb =>
  obtain ⟨b, c0, Ty0, fr0, hβ, rfl, hh0, hcs⟩ := hb (by omega)
  have ho := hS.obj 0 _ rfl
  obtain ⟨_, hes, hrow⟩ := ho
  obtain ⟨c, Ty, fr, hh, hsz, hrel, _, hfz⟩ := hrow b hβ
  obtain ⟨hnF, rfl⟩ := hfz rfl
  have hxl : (xsOf e l).length = l.length := by simp [xsOf]
  rw [hxl] at hsz
  have hH : HoldsK ev k w b 0 l.toArray := holds_of (F := F) (β := β) he hh hsz hrel
  have hblk : b < w.heap.size := hS.lt 0 b hβ
  have hcon := AnyQ.slices_SortFunc_eq L k aE zE ev he.lenv he.one cf hO g #[] b 0 cap l.toArray w eg (fun m os dk _ x y => hcl x y _) hH hblk (by simpa using hl2)
  rw [Nat.zero_mul]
  rw [List.size_toArray] at hcon
  refine hcon.mono fun e' w' ⟨h1, n, os, h2⟩ => ?_
  subst h1
  subst h2
  -- the row written, then blocks behind
  generalize hd : pdq (ltOf cf) l.toArray 0 l.length (Lib.bitLen l.length) true true = d' at *
  have hsp := sortT_spec cf hO l
  have hs' : sortT cf l = d'.toList := by unfold sortT; rw [hd]
  have hds : d'.size = l.length := by have := hsp.2.1; rw [hs'] at this; simpa using this
  obtain ⟨w1, hw1⟩ : ∃ w1, w1 = putRowK ev k (Go.Sort.ahead w n) b 0 d' := ⟨_, rfl⟩
  have hsub : ∀ q, q ≠ b → w1.heap[q]? = w.heap[q]? := fun q hq => by rw [hw1]; exact heap_putRow_other _ _ _ hq
  have hself : ∀ (c' : Array Value) (T' : TypeId) (fr' : Nat × Nat), w.heap[b]? = some (.cells c' T' fr') → w1.heap[b]? = some (.cells (putCells id 0 (flatK ev k d') c') T' fr') := fun c' T' fr' h => by rw [hw1]; exact heap_putRow_self _ _ _ h
  have hm : ∀ (c' : Array Value), (putCells id 0 (flatK ev k d') c').size = c'.size := fun c' => by simp [putCells]
  obtain ⟨r1, r2⟩ := write_obj (w' := w1) hS 0 b _ (.row k (xsOf e (sortT cf l)) false) rfl rfl hβ rfl (by rw [hw1]; rfl) (by rw [hw1]; rfl) (by rw [hw1]; rfl) (fun _ => by rw [hw1]; exact Nat.le_add_right _ _) (by rw [hw1]; exact size_putRow _ _ _ _ _) hsub
   (fun c' T' fr' h => ⟨_, hself c' T' fr' h, hm c'⟩) hnF (fun hmono => by
    refine ⟨fun h => (by rw [hβ] at h; cases h), fun i x hx => ?_, fun b' hb' => ?_⟩
    ·obtain ⟨t', _, rfl⟩ := xsOf_get hx
     simp [AV.cells, eAgg, he.len]
    ·rw [hβ] at hb'
     cases hb'
     refine ⟨_, Ty, (0, 0), hself _ _ _ hh, by rw [hm]; simp [xsOf, hsp.2.1]; exact hsz, fun i x j y u hx hy hu => ?_, fun h => (by cases h), fun _ => ⟨hnF, rfl⟩⟩
     obtain ⟨t', ht', rfl⟩ := xsOf_get hx
     obtain ⟨dd, hdd, rfl⟩ := cells_eAgg hy
     have hj : j < k := by have := (List.getElem?_eq_some_iff.1 hdd).1; rw [he.len] at this; exact this
     obtain ⟨u', hu'⟩ : ∃ u', (ev t')[j]? = some u' := ⟨_, List.getElem?_eq_getElem (by rw [he.lenv]; exact hj)⟩
     rw [hs'] at ht'
     have hf := flatK_get (d := d') hj (by simpa using ht') hu'
     have hlt := (Array.getElem?_eq_some_iff.1 hf).1
     rw [putCells_get _ _ _ hlt] at hu
     split at hu
     ·rw [hf] at hu
      have hu3 : u' = u := Option.some.inj hu
      rw [← hu3]
      exact ⟨.d _ _ (he.rel _ _ t' j dd u' hdd hu'), he.one t' u' (List.mem_of_getElem? hu')⟩
     ·cases hu)
  obtain ⟨g1, g2⟩ := grow_ext r1 os
  have hfin : sortWorldK ev k w b 0 n d' os = grow w1 os := by rw [hw1]; rfl
  rw [hfin]
  exact ⟨F, β, .tup _ _ rfl (fun j y u hy => by simp at hy), g1, r2.trans g2⟩
end
end Go.Proofs.YtjnfkifdgojdaaaGreat.V

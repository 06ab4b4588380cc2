/- What the evaluator's values and stores are in the machine's world; what of it stays when the world goes on. -/
import Derived.Test.YtjnfkifdgojdaaaGreatV1
import Derived.Laws.AppendOwn
import Derived.Laws.Cells
import Derived.Deep.Quiet
import Derived.Below
namespace Go.Proofs.YtjnfkifdgojdaaaGreat.V
open Go
set_option linter.unusedVariables false
set_option linter.unusedSimpArgs false
set_option linter.unusedSectionVars false
abbrev Bl := Nat → Option Nat
inductive DRel (w : World) (F : Nat → Prop) : D → Value → Prop
 | bool (b : Bool) : DRel w F (.bool b) (.bool b)
 | int (k : IntKind) (n : Int) : DRel w F (.int k n) (.int k n)
 | str (s : ByteArray) : DRel w F (.str s) (.string s)
 | sl (es : Nat) (xs : List D) (t : Bool) (a : Option Addr) (cap b off : Nat) (cell : Nat → Nat → Value)
   (hlc : xs.length ≤ cap) (ht : t = true → cap = xs.length)
   (ha : 0 < xs.length → a = some ⟨b, off, none⟩) (hF : 0 < xs.length → F b)
   (hes : ∀ (i : Nat) (x : D), xs[i]? = some x → x.cells.length = es)
   (hc : ∀ (i : Nat) (x : D) (j : Nat) (y : D), xs[i]? = some x → x.cells[j]? = some y → w.cell? ⟨b, off + i * es + j, none⟩ = some (cell i j))
   (h1 : ∀ (i : Nat) (x : D) (j : Nat) (y : D), xs[i]? = some x → x.cells[j]? = some y → (cell i j).oneCell' = true)
   (hr : ∀ (i : Nat) (x : D) (j : Nat) (y : D), xs[i]? = some x → x.cells[j]? = some y → DRel w F y (cell i j)) : DRel w F (.sl es xs t) (.slice a xs.length cap)
 | ptr (cs : List D) (b off : Nat) (cell : Nat → Value) (hF : F b)
   (hc : ∀ (j : Nat) (y : D), cs[j]? = some y → w.cell? ⟨b, off + j, none⟩ = some (cell j))
   (h1 : ∀ (j : Nat) (y : D), cs[j]? = some y → (cell j).oneCell' = true)
   (hr : ∀ (j : Nat) (y : D), cs[j]? = some y → DRel w F y (cell j)) : DRel w F (.ptr cs) (.pointer (some ⟨b, off, none⟩))
 | nilp : DRel w F .nilp (.pointer none)
 | nilf : DRel w F .nilf .nilFunc
 | nili : DRel w F .nili .nilIface
 | nilm : DRel w F .nilm (.map none)
 | agg (cs : List D) (vs : Array Value) (hs : vs.size = cs.length) (h1 : ∀ (j : Nat) (u : Value), vs[j]? = some u → u.oneCell' = true)
   (hr : ∀ (j : Nat) (y : D) (u : Value), cs[j]? = some y → vs[j]? = some u → DRel w F y u) : DRel w F (.agg cs) (.agg vs)
 | iface (t : TypeId) (x : D) (v : Value) (hr : DRel w F x v) : DRel w F (.iface t x) (.iface t v)
 | func (fn : Fn) (a b : List D) (us vs : Array Value) (ha : us.size = a.length) (hb : vs.size = b.length)
   (hra : ∀ (j : Nat) (y : D) (u : Value), a[j]? = some y → us[j]? = some u → DRel w F y u) (hrb : ∀ (j : Nat) (y : D) (u : Value), b[j]? = some y → vs[j]? = some u → DRel w F y u) : DRel w F (.func fn a b) (.func fn us vs)
inductive VRel (w : World) (F : Nat → Prop) (β : Bl) : AV → Value → Prop
 | d (x : D) (v : Value) (h : DRel w F x v) : VRel w F β (.d x) v
 | row (id es lo len : Nat) (t : Bool) (a : Option Addr) (cap : Nat) (hlc : len ≤ cap) (ht : t = true → cap = len)
   (hb : 0 < cap → ∃ (b : Nat) (c : Array Value) (T : TypeId) (fr : Nat × Nat), β id = some b ∧ a = some ⟨b, lo * es, none⟩ ∧ w.heap[b]? = some (.cells c T fr) ∧ (lo + cap) * es ≤ c.size) :
   VRel w F β (.row id es lo len t) (.slice a len cap)
 | ptr (id es i off b : Nat) (hb : β id = some b) : VRel w F β (.ptr id es i off) (.pointer (some ⟨b, i * es + off, none⟩))
 | map (id b : Nat) (hb : β id = some b) : VRel w F β (.map id) (.map (some b))
 | iter (id b : Nat) (hb : β id = some b) : VRel w F β (.iter id) (.pointer (some ⟨b, 0, none⟩))
 | agg (cs : List AV) (vs : Array Value) (hs : vs.size = cs.length) (h1 : ∀ (j : Nat) (u : Value), vs[j]? = some u → u.oneCell' = true)
   (hr : ∀ (j : Nat) (y : AV) (u : Value), cs[j]? = some y → vs[j]? = some u → VRel w F β y u) : VRel w F β (.agg cs) (.agg vs)
 | tup (cs : List AV) (vs : Array Value) (hs : vs.size = cs.length) (hr : ∀ (j : Nat) (y : AV) (u : Value), cs[j]? = some y → vs[j]? = some u → VRel w F β y u) : VRel w F β (.tup cs) (.tuple vs)
 | iface (t : TypeId) (x : AV) (v : Value) (hr : VRel w F β x v) : VRel w F β (.iface t x) (.iface t v)
 | func (fn : Fn) (a b : List AV) (us vs : Array Value) (ha : us.size = a.length) (hb : vs.size = b.length)
   (hra : ∀ (j : Nat) (y : AV) (u : Value), a[j]? = some y → us[j]? = some u → VRel w F β y u) (hrb : ∀ (j : Nat) (y : AV) (u : Value), b[j]? = some y → vs[j]? = some u → VRel w F β y u) : VRel w F β (.func fn a b) (.func fn us vs)
 | box (cs : List AV) (b off : Nat) (cell : Nat → Value) (hF : F b)
   (hc : ∀ (j : Nat) (y : AV), cs[j]? = some y → w.cell? ⟨b, off + j, none⟩ = some (cell j))
   (h1 : ∀ (j : Nat) (y : AV), cs[j]? = some y → (cell j).oneCell' = true)
   (hr : ∀ (j : Nat) (y : AV), cs[j]? = some y → VRel w F β y (cell j)) : VRel w F β (.box cs) (.pointer (some ⟨b, off, none⟩))
 | undef (v : Value) : VRel w F β .undef v
def ORel (w : World) (F : Nat → Prop) (β : Bl) (id : Nat) : Obj → Prop
 | .row es xs z => (β id = none → xs = []) ∧ (∀ (i : Nat) (x : AV), xs[i]? = some x → x.cells.length = es) ∧ ∀ b, β id = some b → ∃ (c : Array Value) (T : TypeId) (fr : Nat × Nat), w.heap[b]? = some (.cells c T fr) ∧ xs.length * es ≤ c.size ∧
   (∀ (i : Nat) (x : AV) (j : Nat) (y : AV) (u : Value), xs[i]? = some x → x.cells[j]? = some y → c[i * es + j]? = some u → VRel w F β y u ∧ u.oneCell' = true) ∧
   (z = true → F b) ∧ (z = false → ¬ F b ∧ fr = (0, 0))
 | .mp kvs z => ∃ (b : Nat) (es : Array MapEntry) (clock : Nat), β id = some b ∧ ¬ F b ∧ w.heap[b]? = some (.map es clock) ∧ es.size = kvs.length ∧ (z = false → clock = es.size ∧ ∀ (i : Nat) (e : MapEntry), es[i]? = some e → e.born = i) ∧
   (∀ (i : Nat) (e : MapEntry) (k : D) (v : AV), es[i]? = some e → kvs[i]? = some (k, v) → DRel w F k e.key ∧ VRel w F β v e.val)
 | .iter s p => ∃ b, β id = some b ∧ ¬ F b ∧ w.heap[b]? = some (.stringIter s p)
 | .dead => True
def Obj.live : Obj → Bool
 | .dead => false
 | _ => true
def Obj.wr : Obj → Bool
 | .dead => false
 | .row _ _ z => !z
 | _ => true
structure Flag where
 on : Prop
 laid : List (Nat × Array Value) := []
def drOn [Inhabited Flag] : Prop := (default : Flag).on
def Known [Inhabited Flag] (w : World) (F : Nat → Prop) : Prop := ∀ x ∈ (default : Flag).laid, F x.1 ∧ ∃ (T : TypeId) (fr : Nat × Nat), w.heap[x.1]? = some (.cells x.2 T fr)
structure SRel [Inhabited Flag] (w : World) (F : Nat → Prop) (β : Bl) (sto : List Obj) : Prop where
 obj : ∀ id o, sto[id]? = some o → ORel w F β id o
 dom : ∀ id, sto.length ≤ id → β id = none
 lt : ∀ id b, β id = some b → b < w.heap.size
 flt : ∀ b, F b → b < w.heap.size
 inj : ∀ id id' o o' b, sto[id]? = some o → sto[id']? = some o' → o.live = true → o'.live = true → β id = some b → β id' = some b → id = id'
 gl : Known w F
def ERel (w : World) (F : Nat → Prop) (β : Bl) (nt : Nat) (env : Env) (tmps : Array Value) : Prop :=
 tmps.size = nt ∧ ∀ n, VRel w F β (look n env) (tmps.getD n undef)
structure Mono (w : World) (F : Nat → Prop) (β : Bl) (w' : World) (F' : Nat → Prop) (β' : Bl) : Prop where
 hF : ∀ b, F b → F' b
 hw : ∀ b, F b → w'.heap[b]? = w.heap[b]?
 hβ : ∀ id b, β id = some b → β' id = some b
 hsh : ∀ (b : Nat) (c : Array Value) (T : TypeId) (fr : Nat × Nat), w.heap[b]? = some (.cells c T fr) → ∃ c' : Array Value, w'.heap[b]? = some (.cells c' T fr) ∧ c'.size = c.size
theorem Mono.refl (w : World) (F : Nat → Prop) (β : Bl) : Mono w F β w F β :=
 ⟨fun _ h => h, fun _ _ => rfl, fun _ _ h => h, fun b c T fr h => ⟨c, h, rfl⟩⟩
theorem Mono.trans {w : World} {F : Nat → Prop} {β : Bl} {w1 : World} {F1 : Nat → Prop} {β1 : Bl} {w2 : World} {F2 : Nat → Prop} {β2 : Bl} (h : Mono w F β w1 F1 β1) (k : Mono w1 F1 β1 w2 F2 β2) : Mono w F β w2 F2 β2 :=
 ⟨fun b hb => k.hF b (h.hF b hb), fun b hb => (k.hw b (h.hF b hb)).trans (h.hw b hb), fun id b hb => k.hβ id b (h.hβ id b hb), fun b c T fr hb => by
  obtain ⟨c1, h1, e1⟩ := h.hsh b c T fr hb
  obtain ⟨c2, h2, e2⟩ := k.hsh b c1 T fr h1
  exact ⟨c2, h2, e2.trans e1⟩⟩
theorem cell?_of_heap {w w' : World} {a : Addr} (h : w'.heap[a.block]? = w.heap[a.block]?) : w'.cell? a = w.cell? a := by simp [World.cell?, h]
theorem DRel.mono' {w : World} {F : Nat → Prop} {w' : World} {F' : Nat → Prop} (hF : ∀ b, F b → F' b) (hw : ∀ b, F b → w'.heap[b]? = w.heap[b]?) {x : D} {v : Value} (h : DRel w F x v) : DRel w' F' x v := by
 induction h with
 | bool b => exact .bool b
 | int k n => exact .int k n
 | str s => exact .str s
 | sl es xs t a cap b off cell hlc ht ha hb hes hc h1 hr ih =>
  refine .sl es xs t a cap b off cell hlc ht ha (fun h => hF _ (hb h)) hes (fun i x j y hx hy => ?_) h1 ih
  have hlen : 0 < xs.length := by
   rcases Nat.eq_zero_or_pos xs.length with h0 | h0
   ·rw [List.getElem?_eq_none (by omega)] at hx; cases hx
   ·exact h0
  rw [← hc i x j y hx hy]
  exact cell?_of_heap (hw b (hb hlen))
 | ptr cs b off cell hb hc h1 hr ih =>
  exact .ptr cs b off cell (hF _ hb) (fun j y hy => by rw [← hc j y hy]; exact cell?_of_heap (hw b hb)) h1 ih
 | nilp => exact .nilp
 | nilf => exact .nilf
 | nili => exact .nili
 | nilm => exact .nilm
 | agg cs vs hs h1 hr ih => exact .agg cs vs hs h1 ih
 | iface t x v hr ih => exact .iface t x v ih
 | func fn a b us vs ha hb hra hrb iha ihb => exact .func fn a b us vs ha hb iha ihb
theorem DRel.mono {w : World} {F : Nat → Prop} {β : Bl} {w' : World} {F' : Nat → Prop} {β' : Bl} (m : Mono w F β w' F' β') {x : D} {v : Value} (h : DRel w F x v) : DRel w' F' x v := h.mono' m.hF m.hw
theorem VRel.mono {w : World} {F : Nat → Prop} {β : Bl} {w' : World} {F' : Nat → Prop} {β' : Bl} (m : Mono w F β w' F' β') {x : AV} {v : Value} (h : VRel w F β x v) : VRel w' F' β' x v := by
 induction h with
 | d x v h => exact .d x v (h.mono m)
 | row id es lo len t a cap hlc ht hb =>
  refine .row id es lo len t a cap hlc ht fun hc => ?_
  obtain ⟨b, c, T, fr, h1, h2, h3, h4⟩ := hb hc
  obtain ⟨c', h5, h6⟩ := m.hsh b c T fr h3
  exact ⟨b, c', T, fr, m.hβ _ _ h1, h2, h5, by rw [h6]; exact h4⟩
 | ptr id es i off b hb => exact .ptr id es i off b (m.hβ _ _ hb)
 | map id b hb => exact .map id b (m.hβ _ _ hb)
 | iter id b hb => exact .iter id b (m.hβ _ _ hb)
 | agg cs vs hs h1 hr ih => exact .agg cs vs hs h1 ih
 | tup cs vs hs hr ih => exact .tup cs vs hs ih
 | iface t x v hr ih => exact .iface t x v ih
 | func fn a b us vs ha hb hra hrb iha ihb => exact .func fn a b us vs ha hb iha ihb
 | box cs b off cell hb hc h1 hr ih => exact .box cs b off cell (m.hF _ hb) (fun j y hy => by rw [← hc j y hy]; exact cell?_of_heap (m.hw b hb)) h1 ih
 | undef v => exact .undef v
theorem ERel.mono {w : World} {F : Nat → Prop} {β : Bl} {w' : World} {F' : Nat → Prop} {β' : Bl} {nt : Nat} {env : Env} {tmps : Array Value} (m : Mono w F β w' F' β') (h : ERel w F β nt env tmps) : ERel w' F' β' nt env tmps :=
 ⟨h.1, fun n => (h.2 n).mono m⟩
theorem ORel.mono {w : World} {F : Nat → Prop} {β : Bl} {w' : World} {F' : Nat → Prop} {β' : Bl} (m : Mono w F β w' F' β') {id : Nat} {o : Obj} (h : ORel w F β id o) (hβ : β' id = β id)
  (hb : ∀ b, β id = some b → w'.heap[b]? = w.heap[b]?) (hnF : ∀ b, β id = some b → o.wr = true → F' b → F b) : ORel w' F' β' id o := by
 cases o with
 | row es xs z =>
  obtain ⟨h0, hes, h1⟩ := h
  refine ⟨fun hn => h0 (hβ ▸ hn), hes, fun b hb' => ?_⟩
  rw [hβ] at hb'
  obtain ⟨c, T, fr, h2, h3, h4, h5, h6⟩ := h1 b hb'
  refine ⟨c, T, fr, by rw [hb b hb']; exact h2, h3, fun i x j y u hx hy hu => ⟨(h4 i x j y u hx hy hu).1.mono m, (h4 i x j y u hx hy hu).2⟩, fun hz => m.hF _ (h5 hz), fun hz => ⟨fun hf => (h6 hz).1 (hnF b hb' (by simp [Obj.wr, hz]) hf), (h6 hz).2⟩⟩
 | mp kvs z =>
  obtain ⟨b, es, clock, h1, h2, h3, h4, h4z, h5⟩ := h
  exact ⟨b, es, clock, by rw [hβ]; exact h1, fun hf => h2 (hnF b h1 rfl hf), by rw [hb b h1]; exact h3, h4, h4z, fun i e k v he hk => ⟨(h5 i e k v he hk).1.mono m, (h5 i e k v he hk).2.mono m⟩⟩
 | iter s p =>
  obtain ⟨b, h1, h2, h3⟩ := h
  exact ⟨b, by rw [hβ]; exact h1, fun hf => h2 (hnF b h1 rfl hf), by rw [hb b h1]; exact h3⟩
 | dead => trivial
theorem VRel.cellsOf {w : World} {F : Nat → Prop} {β : Bl} {x : AV} {v : Value} (h : VRel w F β x v) (hx : x ≠ .undef) (ht : ∀ cs, x ≠ .tup cs) :
  v.cells.size = x.cells.length ∧ (∀ (j : Nat) (y : AV) (u : Value), x.cells[j]? = some y → v.cells[j]? = some u → VRel w F β y u) ∧ (∀ (j : Nat) (u : Value), v.cells[j]? = some u → u.oneCell' = true) := by
 have one : ∀ (x : AV) (v : Value), VRel w F β x v → x.cells = [x] → v.cells = #[v] → v.oneCell' = true →
   v.cells.size = x.cells.length ∧ (∀ (j : Nat) (y : AV) (u : Value), x.cells[j]? = some y → v.cells[j]? = some u → VRel w F β y u) ∧ (∀ (j : Nat) (u : Value), v.cells[j]? = some u → u.oneCell' = true) := by
  intro x v h hc hv h1
  rw [hc, hv]
  refine ⟨rfl, fun j y u hy hu => ?_, fun j u hu => ?_⟩
  ·cases j with
   | zero => simp at hy hu; subst hy; subst hu; exact h
   | succ j => simp at hy
  ·cases j with
   | zero => simp at hu; subst hu; exact h1
   | succ j => simp at hu
 cases h with
 | d x v h =>
  cases h with
  | agg cs vs hs h1 hr =>
   refine ⟨by simp [Value.cells, AV.cells, hs], fun j y u hy hu => ?_, fun j u hu => h1 j u hu⟩
   simp only [AV.cells, List.getElem?_map, Option.map_eq_some_iff] at hy
   obtain ⟨z, hz, rfl⟩ := hy
   exact .d _ _ (hr j z u hz hu)
  | bool b => exact one _ _ (.d _ _ (.bool b)) rfl rfl rfl
  | int k n => exact one _ _ (.d _ _ (.int k n)) rfl rfl rfl
  | str s => exact one _ _ (.d _ _ (.str s)) rfl rfl rfl
  | sl es xs t a cap b off cell hlc ht' ha hb hes hc h1 hr => exact one _ _ (.d _ _ (.sl es xs t a cap b off cell hlc ht' ha hb hes hc h1 hr)) rfl rfl rfl
  | ptr cs b off cell hb hc h1 hr => exact one _ _ (.d _ _ (.ptr cs b off cell hb hc h1 hr)) rfl rfl rfl
  | nilp => exact one _ _ (.d _ _ .nilp) rfl rfl rfl
  | nilf => exact one _ _ (.d _ _ .nilf) rfl rfl rfl
  | nili => exact one _ _ (.d _ _ .nili) rfl rfl rfl
  | nilm => exact one _ _ (.d _ _ .nilm) rfl rfl rfl
  | iface t x v hr => exact one _ _ (.d _ _ (.iface t x v hr)) rfl rfl rfl
  | func fn a b us vs ha hb hra hrb => exact one _ _ (.d _ _ (.func fn a b us vs ha hb hra hrb)) rfl rfl rfl
 | row id es lo len t a cap hlc ht' hb => exact one _ _ (.row id es lo len t a cap hlc ht' hb) rfl rfl rfl
 | ptr id es i off b hb => exact one _ _ (.ptr id es i off b hb) rfl rfl rfl
 | map id b hb => exact one _ _ (.map id b hb) rfl rfl rfl
 | iter id b hb => exact one _ _ (.iter id b hb) rfl rfl rfl
 | agg cs vs hs h1 hr => exact ⟨hs, hr, h1⟩
 | tup cs vs hs hr => exact absurd rfl (ht cs)
 | iface t x v hr => exact one _ _ (.iface t x v hr) rfl rfl rfl
 | func fn a b us vs ha hb hra hrb => exact one _ _ (.func fn a b us vs ha hb hra hrb) rfl rfl rfl
 | box cs b off cell hb hc h1 hr => exact one _ _ (.box cs b off cell hb hc h1 hr) rfl rfl rfl
 | undef v => exact absurd rfl hx
end Go.Proofs.YtjnfkifdgojdaaaGreat.V

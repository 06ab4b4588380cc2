/- Cuts, new blocks. -/
import Derived.Test.YtjnfkifdgojdaaaGreatV7
namespace Go.Proofs.YtjnfkifdgojdaaaGreat.V
open Go
set_option linter.unusedVariables false
set_option linter.unusedSimpArgs false
set_option linter.unusedSectionVars false
variable [Inhabited Flag]
section
variable {P : Program} {w : World} {F : Nat → Prop} {β : Bl} {o : Oper} {ρ : Operand → Value} {sto : List Obj}

def ORelO (w : World) (F : Nat → Prop) (β : Bl) (x : Option AV) (u : Option Value) : Prop := match x, u with
  | none, none => True
  | some v, some u => VRel w F β v u
  | _, _ => False
theorem run_sliceBound {k : IntKind} {n : Int} {y : Nat} {code : BoundsCode} (h0 : 0 ≤ n) (h1 : n.toNat ≤ y) : (Instr.sliceBound (.int k n) y code).run P w = .ok n.toNat w := by
  unfold Instr.sliceBound
  have : 0 ≤ n ∧ n ≤ (y : Int) := ⟨h0, by omega⟩
  simp [asIntOf, this]
theorem run_bounds {isS : Bool} {len cap l h : Nat} {ck : Option Nat} {t : Bool} {lo hi mx : Option AV} {lo' hi' mx' : Option Value} (hb : bounds len ck lo hi mx = some (l, h, t)) (hlc : len ≤ cap)
    (hl : ORelO w F β lo lo') (hh : ORelO w F β hi hi') (hm : ORelO w F β mx mx') (hmh : mx.isSome → hi.isSome) :
    ∃ m, (Instr.sliceBounds isS len cap lo' hi' mx').run P w = .ok (l, h, m) w ∧ l ≤ h ∧ h ≤ len ∧ h ≤ m ∧ m ≤ cap ∧ (t = true → (∀ c, ck = some c → c = cap) → m = h) := by
  unfold bounds at hb
  simp only at hb
  split at hb
  · rename_i l1 h1 el eh
    split at hb
    · rename_i hle
      have low : ∀ (y : Nat), l1 ≤ y → ∀ code, (match lo' with | some v => Instr.sliceBound v y code | none => pure 0).run P w = .ok l1 w := by
        intro y hy code
        cases lo with
        | none => cases lo' with
          | none => simp at el; subst el; rfl
          | some _ => exact hl.elim
        | some v => cases lo' with
          | none => exact hl.elim
          | some u =>
            simp only at el
            split at el
            · rename_i n hn
              split at el
              · rename_i h0
                cases el
                obtain ⟨k, rfl⟩ := intOf_inv hn hl
                exact run_sliceBound h0 hy
              · cases el
            · cases el
      have high : ∀ (v : AV) (u : Value), hi = some v → hi' = some u → ∀ y, h1 ≤ y → ∀ code, (Instr.sliceBound u y code).run P w = .ok h1 w := by
        intro v u e1 e2 y hy code
        subst e1; subst e2
        simp only at eh
        split at eh
        · rename_i n hn
          split at eh
          · rename_i h0
            cases eh
            obtain ⟨k, rfl⟩ := intOf_inv hn hh
            exact run_sliceBound h0 hy
          · cases eh
        · cases eh
      cases mx with
      | none =>
        cases mx' with
        | some _ => exact hm.elim
        | none =>
          simp only at hb
          cases hb
          refine ⟨cap, ?_, hle.1, hle.2, by omega, Nat.le_refl _, fun ht hc => ?_⟩
          · unfold Instr.sliceBounds
            cases hi with
            | none =>
              cases hi' with
              | some _ => exact hh.elim
              | none =>
                simp at eh
                subst eh
                have := low len hle.1 .sliceB
                cases lo' <;> simp at this <;> simp [this]
            | some v =>
              cases hi' with
              | none => exact hh.elim
              | some u =>
                have e1 := high v u rfl rfl cap (by omega) (if isS then .sliceAcap else .sliceAlen)
                have := low h hle.1 .sliceB
                cases lo' <;> simp at this <;> simp [e1, this]
          · have := hc h (by simpa using ht)
            omega
      | some v =>
        cases mx' with
        | none => exact hm.elim
        | some u =>
          simp only at hb
          split at hb
          · rename_i n hn
            split at hb
            · rename_i hnh
              cases hb
              obtain ⟨k, rfl⟩ := intOf_inv hn hm
              have em := run_sliceBound (P := P) (w := w) (k := k) (n := n) (y := cap) (code := if isS then .slice3Acap else .slice3Alen) (by omega) (by omega)
              have hn' : n.toNat = h := by omega
              rw [hn'] at em
              refine ⟨h, ?_, hle.1, hle.2, Nat.le_refl _, by omega, fun _ _ => rfl⟩
              unfold Instr.sliceBounds
              cases hi with
              | none => simp at hmh
              | some v2 =>
                cases hi' with
                | none => exact hh.elim
                | some u2 =>
                  have e1 := high v2 u2 rfl rfl h (Nat.le_refl _) .slice3B
                  have := low h hle.1 .slice3C
                  cases lo' <;> simp at this <;> simp [em, e1, this]
            · cases hb
          · cases hb
    · cases hb
  · cases hb

theorem ok_slstr (hS : SRel w F β sto) {t : TypeId} {x : Operand} {lo hi : Option Operand} (ho : o.op = .slice t x lo hi none) (ht : P.underlying t = some .string) {s : ByteArray} (hx : VRel w F β (.d (.str s)) (ρ x)) {l h : Nat} {tt : Bool} {lo' hi' : Option AV}
    (hb : bounds s.size none lo' hi' none = some (l, h, tt)) (hl : ORelO w F β lo' (lo.map ρ)) (hh : ORelO w F β hi' (hi.map ρ)) : OK P o ρ w F β sto (.d (.str (s.extract l h))) sto := by
  obtain ⟨m, hm, _⟩ := run_bounds (P := P) (isS := false) (cap := s.size) (mx' := none) hb (Nat.le_refl _) hl hh trivial (by simp)
  refine .same hS (.string (s.extract l h)) ?_ (.d _ _ (.str _))
  unfold execOp
  rw [ho]; dsimp only; rw [inv_str hx]
  simp [Instr.sliceAt, Instr.slice, run_underlying ht, hm]
theorem ok_sl (hS : SRel w F β sto) {t e : TypeId} {x : Operand} {lo hi mx : Option Operand} (ho : o.op = .slice t x lo hi mx) (ht : P.underlying t = some (.slice e)) {i : TypeInfo} (hi' : P.info? e = some i) {v v' : AV} (hx : VRel w F β v (ρ x)) {l h : Nat} {tt : Bool} {a1 a2 a3 : Option AV}
    (hl : ORelO w F β a1 (lo.map ρ)) (hh : ORelO w F β a2 (hi.map ρ)) (hm : ORelO w F β a3 (mx.map ρ)) (hmh : a3.isSome → a2.isSome)
    (hv : (∃ es xs t0, v = .d (.sl es xs t0) ∧ (es = i.size ∨ xs = []) ∧ bounds xs.length (if t0 then some xs.length else none) a1 a2 a3 = some (l, h, tt) ∧ v' = .d (.sl i.size ((xs.drop l).take (h - l)) tt)) ∨
      (∃ id lo0 n t0, v = .row id i.size lo0 n t0 ∧ bounds n (if t0 then some n else none) a1 a2 a3 = some (l, h, tt) ∧ v' = .row id i.size (lo0 + l) (h - l) tt)) : OK P o ρ w F β sto v' sto := by
  have run : ∀ (a : Option Addr) (len cap m : Nat), ρ x = .slice a len cap → (Instr.sliceBounds true len cap (lo.map ρ) (hi.map ρ) (mx.map ρ)).run P w = .ok (l, h, m) w →
      (execOp ρ o).run P w = .ok (.value (.slice (if m = l then a else a.map (·.add (l * i.size))) (h - l) (m - l))) w := by
    intro a len cap m e1 e2
    unfold execOp
    rw [ho]; dsimp only; rw [e1]
    simp [Instr.sliceAt, Instr.slice, run_underlying ht, e2, run_sizeOf' hi']
  rcases hv with ⟨es, xs, t0, rfl, hes0, hb, rfl⟩ | ⟨id, lo0, n, t0, rfl, hb, rfl⟩
  · generalize hu : ρ x = u at hx
    cases hx with | d x v hd => cases hd with | sl es xs t a cap b off cell hlc ht' ha hF hes hc h1 hr =>
      obtain ⟨m, em, h2, h3, h4, h5, h6⟩ := run_bounds (P := P) (isS := true) hb hlc hl hh hm hmh
      have hlen : ((xs.drop l).take (h - l)).length = h - l := by simp; omega
      have key := run a _ cap m hu em
      rw [← hlen] at key
      refine .same hS _ key (.d _ _ (.sl i.size _ tt _ (m - l) b (off + l * es) (fun q j => cell (l + q) j) (by omega) (fun htt => ?_) (fun hp => ?_) (fun hp => hF (by omega)) (fun q x hx => ?_) (fun q x j y hx hy => ?_) (fun q x j y hx hy => ?_) (fun q x j y hx hy => ?_)))
      · have := h6 htt (fun c hc => by split at hc; · cases hc; rename_i ht0; exact (ht' ht0).symm
                                       · cases hc)
        omega
      · have he : es = i.size := by
          rcases hes0 with h | h
          · exact h
          · subst h; simp at hp
        subst he
        rw [if_neg (by omega), ha (by omega)]
        simp [Addr.add_lit]
      all_goals
        rw [List.getElem?_take] at hx
        split at hx
        · rw [List.getElem?_drop] at hx
          first
            | (rw [hes _ x hx]
               rcases hes0 with h | h
               · exact h
               · subst h; simp at hx)
            | (have he : es = i.size := by
                 rcases hes0 with h | h
                 · exact h
                 · subst h; simp at hx
               have := hc _ x j y hx hy
               rw [← he]
               rw [Nat.add_mul, ← Nat.add_assoc] at this
               exact this)
            | exact h1 _ x j y hx hy
            | exact hr _ x j y hx hy
        · cases hx
  · generalize hu : ρ x = u at hx
    cases hx with | row id es lo len t a cap hlc ht' hbk =>
      obtain ⟨m, em, h2, h3, h4, h5, h6⟩ := run_bounds (P := P) (isS := true) hb hlc hl hh hm hmh
      refine .same hS _ (run a _ cap m hu em) (.row id i.size (lo0 + l) (h - l) tt _ (m - l) (by omega) (fun htt => ?_) (fun hp => ?_))
      · have := h6 htt (fun c hc => by split at hc; · cases hc; rename_i ht0; exact (ht' ht0).symm
                                       · cases hc)
        omega
      · obtain ⟨b, c, T, fr, e1, rfl, e3, e4⟩ := hbk (by omega)
        refine ⟨b, c, T, fr, e1, ?_, e3, ?_⟩
        · rw [if_neg (by omega)]
          simp [Addr.add_lit, Nat.add_mul]
        · have : (lo0 + l + (m - l)) * i.size ≤ (lo0 + cap) * i.size := Nat.mul_le_mul_right _ (by omega)
          omega

theorem run_zero {t : TypeId} {i : TypeInfo} {z : Value} (hi : P.info? t = some i) (hz : i.zero = some z) (w : World) : (zeroValue t).run P w = .ok z w := by simp [zeroValue, typeInfo, hi, hz]
theorem zeroCells_spec {t : TypeId} {zs : List D} (h : zeroCells' P t = some zs) : ∃ i z, P.info? t = some i ∧ i.zero = some z ∧ constCs z.cells.toList = some zs := by
  unfold zeroCells' at h
  split at h
  · rename_i i hi
    split at h
    · rename_i z hz; exact ⟨i, z, hi, hz, h⟩
    · cases h
  · cases h
theorem elemOf_rel {ag : Bool} {zs : List D} {z : Value} (hz : constCs z.cells.toList = some zs) (hag : (ag || zs.length == 1) = true) : (elemOf ag zs).cells.length = zs.length ∧ CRel w F β (elemOf ag zs).cells z.cells ∧ (elemOf ag zs).solid = true := by
  obtain ⟨h1, h2⟩ := constCs_rel _ _ hz
  have hcells : (elemOf ag zs).cells = zs.map .d ∧ (elemOf ag zs).solid = true := by
    unfold elemOf
    cases ag with
    | true => exact ⟨rfl, rfl⟩
    | false =>
      simp at hag
      match zs, hag with
      | [x], _ =>
        have := h2 0 x (z.cells.toList[0]'(by rw [h1]; simp)) rfl (List.getElem?_eq_getElem _)
        exact ⟨(constC_one this).2.1, rfl⟩
  refine ⟨by rw [hcells.1]; simp, ⟨by rw [hcells.1]; simpa using h1, fun j y u hy hu => ?_, fun j u hu => ?_⟩, hcells.2⟩
  · rw [hcells.1] at hy
    simp only [List.getElem?_map, Option.map_eq_some_iff] at hy
    obtain ⟨x, hx, rfl⟩ := hy
    exact .d _ _ (constC_rel (h2 j x u hx (by simpa using hu)))
  · have hj : j < zs.length := by have := (Array.getElem?_eq_some_iff.1 hu).1; simp at h1; omega
    exact (constC_one (h2 j _ u (List.getElem?_eq_getElem hj) (by simpa using hu))).2.2.1

theorem one_row (hS : SRel w F β sto) (c : Array Value) (T : TypeId) (x : AV) (es : Nat) (hx : CRel w F β x.cells c) (hes : x.cells.length = es) :
    SRel (w.alloc (.cells c T)) F (upB β sto.length w.heap.size) (sto ++ [.row es [x] false]) ∧ Ext w F β sto (w.alloc (.cells c T)) F (upB β sto.length w.heap.size) (sto ++ [.row es [x] false]) := by
  refine alloc_row hS c T es [x] (fun i y hy => ?_) (by simp [hx.1, hes]) (fun i y j z u hy hz hu => ?_)
  · cases i with
    | zero => simp at hy; subst hy; exact hes
    | succ i => simp at hy
  · cases i with
    | zero =>
      simp at hy; subst hy
      simp at hu
      exact ⟨hx.2.1 j z u hz hu, hx.2.2 j u hu⟩
    | succ i => simp at hy
theorem ok_alloc (hS : SRel w F β sto) {e : TypeId} (ho : o.op = .alloc e) {ag : Bool} {zs : List D} (hz : zeroCells' P e = some zs) (hag : (ag || zs.length == 1) = true) : OK P o ρ w F β sto (.ptr sto.length zs.length 0 0) (sto ++ [.row zs.length [elemOf ag zs] false]) := by
  obtain ⟨i, z, hi, hz1, hz2⟩ := zeroCells_spec hz
  obtain ⟨h1, h2, _⟩ := elemOf_rel (w := w) (F := F) (β := β) hz2 hag
  obtain ⟨h3, h4⟩ := one_row hS z.cells e (elemOf ag zs) zs.length h2 h1
  refine ⟨.pointer (some ⟨w.heap.size, 0, none⟩), _, F, _, .inl ?_, ?_, h3, h4⟩
  · unfold execOp
    rw [ho]
    simp [Instr.alloc, run_zero hi hz1, newVar, newRow]
  · have := VRel.ptr (w := w.alloc (.cells z.cells e)) (F := F) sto.length zs.length 0 0 w.heap.size (upB_self β sto.length w.heap.size)
    simpa using this
theorem ok_box (hS : SRel w F β sto) {e : TypeId} {x : Operand} (ho : o.op = .box e x) {es : Nat} {v : AV} (hv : VRel w F β v (ρ x)) (hs : v.solid = true) (hes : v.cells.length = es) : OK P o ρ w F β sto (.ptr sto.length es 0 0) (sto ++ [.row es [v] false]) := by
  obtain ⟨h3, h4⟩ := one_row hS (ρ x).cells e v es (hv.cr hs) hes
  refine ⟨.pointer (some ⟨w.heap.size, 0, none⟩), _, F, _, .inl ?_, ?_, h3, h4⟩
  · unfold execOp
    rw [ho]
    simp [Instr.box, newVar, newRow]
  · have := VRel.ptr (w := w.alloc (.cells (ρ x).cells e)) (F := F) sto.length es 0 0 w.heap.size (upB_self β sto.length w.heap.size)
    simpa using this
theorem ok_nilrow (hS : SRel w F β sto) {x : Operand} (ho : o.op = .move x ∨ o.op = .assign x) (hx : ρ x = .slice none 0 0) (es : Nat) : OK P o ρ w F β sto (.row sto.length es 0 0 true) (sto ++ [.row es [] false]) := by
  have hn : β sto.length = none := hS.dom _ (Nat.le_refl _)
  have hget : ∀ (id : Nat) (y : Obj), (sto ++ [Obj.row es [] false])[id]? = some y → (id < sto.length ∧ sto[id]? = some y) ∨ (id = sto.length ∧ y = .row es [] false) := by
    intro id y hy
    rcases Nat.lt_trichotomy id sto.length with h | h | h
    · rw [List.getElem?_append_left h] at hy; exact .inl ⟨h, hy⟩
    · subst h; simp at hy; exact .inr ⟨rfl, hy.symm⟩
    · rw [List.getElem?_eq_none (by simp; omega)] at hy; cases hy
  refine ⟨.slice none 0 0, w, F, β, .inl ?_, .row _ _ _ _ _ _ 0 (Nat.le_refl _) (fun _ => rfl) (fun h => by omega), ⟨fun id y hy => ?_, fun id hid => hS.dom id (by simp at hid; omega), hS.lt, hS.flt, fun id id' y y' b hy hy' hl hl' hb hb' => ?_, hS.gl⟩, ⟨Mono.refl _ _ _, rfl, rfl, rfl, fun _ => Nat.le_refl _, Nat.le_refl _, fun _ _ _ => rfl, by simp, fun _ _ => rfl, fun id b hid hb => (by rw [hS.dom id hid] at hb; cases hb), fun _ h => .inl h, fun id y hy => ⟨y, by rw [List.getElem?_append_left (List.getElem?_eq_some_iff.1 hy).1]; exact hy, fun h => h⟩⟩⟩
  · unfold execOp
    rcases ho with ho | ho <;> rw [ho] <;> simp [hx]
  · rcases hget id y hy with ⟨_, h⟩ | ⟨rfl, rfl⟩
    · exact hS.obj id y h
    · exact ⟨fun _ => rfl, fun i x h => by simp at h, fun b hb => by rw [hn] at hb; cases hb⟩
  · rcases hget id y hy with ⟨_, h⟩ | ⟨rfl, rfl⟩
    · rcases hget id' y' hy' with ⟨_, h'⟩ | ⟨rfl, rfl⟩
      · exact hS.inj id id' y y' b h h' hl hl' hb hb'
      · rw [hn] at hb'; cases hb'
    · rw [hn] at hb; cases hb
theorem ok_mov (hS : SRel w F β sto) {x : Operand} (ho : o.op = .move x ∨ o.op = .assign x) {v : AV} (hv : VRel w F β v (ρ x)) : OK P o ρ w F β sto v sto := by
  refine .same hS (ρ x) ?_ hv
  unfold execOp
  rcases ho with ho | ho <;> rw [ho] <;> rfl
end
end Go.Proofs.YtjnfkifdgojdaaaGreat.V

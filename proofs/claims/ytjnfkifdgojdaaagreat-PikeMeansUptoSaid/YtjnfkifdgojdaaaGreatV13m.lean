/- Arrays and maps: single operations. -/
import Derived.Test.YtjnfkifdgojdaaaGreatV13
namespace Go.Proofs.YtjnfkifdgojdaaaGreat.V
open Go
set_option linter.unusedVariables false
set_option linter.unusedSimpArgs false
set_option linter.unusedSectionVars false
variable [Inhabited Flag]
section
variable {P : Program} {w : World} {F : Nat → Prop} {β : Bl} {ρ : Operand → Value} {sto : List Obj} {o : Oper}

theorem ok_iaddra (hS : SRel w F β sto) {t e : TypeId} {x i : Operand} (ho : o.op = .indexAddr t x i) {len : Nat} (ht : P.underlying t = some (.array len e)) {ti : TypeInfo} (hi : P.info? e = some ti) {k : IntKind} {n : Int} (hn : ρ i = .int k n) (h0 : 0 ≤ n) (h1 : n < len)
    {v v' : AV} (hx : VRel w F β v (ρ x)) (hv : (∃ id es k off, v = .ptr id es k off ∧ v' = .ptr id es k (off + n.toNat * ti.size)) ∨ (∃ cs, v = .d (.ptr cs) ∧ v' = .d (.ptr (cs.drop (n.toNat * ti.size))))) : OK P o ρ w F β sto v' sto := by
  have run : ∀ (b off : Nat), ρ x = .pointer (some ⟨b, off, none⟩) → (execOp ρ o).run P w = .ok (.value (.pointer (some ⟨b, off + n.toNat * ti.size, none⟩))) w := by
    intro b off e
    unfold execOp
    rw [ho]; dsimp only; rw [e, hn]
    have h2 : 0 ≤ n ∧ n < (len : Int) := ⟨h0, h1⟩
    simp [Instr.indexAt, asIntOf, run_underlying ht, Instr.sureAddr, h2, run_sizeOf' hi, Addr.add_lit]
  rcases hv with ⟨id, es, k, off, rfl, rfl⟩ | ⟨cs, rfl, rfl⟩
  · obtain ⟨b, hb, e⟩ := inv_ptr hx
    refine .same hS _ (run _ _ e) ?_
    rw [Nat.add_assoc]
    exact .ptr id es k _ b hb
  · obtain ⟨b, off, cell, e, hF, hc, h1, hr⟩ := inv_dptr hx
    exact .same hS _ (run _ _ e) (.d _ _ (DRel.drop hF hc h1 hr _))

theorem ok_idxa (hS : SRel w F β sto) {t te : TypeId} {x i : Operand} (ho : o.op = .index t x i) {len : Nat} (ht : P.underlying t = some (.array len te)) {d : TypeDesc} {ti : TypeInfo} (hd : P.underlying te = some d) (hi : P.info? te = some ti) {k : IntKind} {n : Int} (hn : ρ i = .int k n) (h0 : 0 ≤ n) (h1 : n < len)
    {e v : AV} (hv : readCells (if isAggD d then some ti.size else none) (n.toNat * ti.size) e = some v) (he : (∃ cs, e = .d (.agg cs)) ∨ ∃ cs, e = .agg cs) (hx : VRel w F β e (ρ x)) : OK P o ρ w F β sto v sto := by
  obtain ⟨us, eu⟩ := agg_val he hx
  have hsol : e.solid = true := by rcases he with ⟨cs, rfl⟩ | ⟨cs, rfl⟩ <;> rfl
  have hcr := hx.cr hsol
  rw [eu] at hcr hx
  obtain ⟨z, hz1, hz2⟩ : ∃ z, (part te us (n.toNat * ti.size)).run P w = .ok z w ∧ VRel w F β v z := by
    cases had : isAggD d with
    | false =>
      rw [had] at hv
      obtain ⟨z, h1, h2, _⟩ := readCells_one (u := .agg us) hv hcr
      exact ⟨z, run_part hd hi us _ z (fun _ => h1) (fun h => by rw [had] at h; cases h), h2⟩
    | true =>
      rw [had] at hv
      rcases readCells_many hv hcr with ⟨h1, h2⟩ | ⟨h1, h2, h3, _⟩
      · exact ⟨_, run_part hd hi us _ _ (fun h => by rw [had] at h; cases h) (fun _ => rfl), h2⟩
      · refine ⟨_, run_part hd hi us _ _ (fun h => by rw [had] at h; cases h) (fun _ => rfl), ?_⟩
        rw [h1, h2, h3, Nat.zero_add]
        simpa [Value.cells] using hx
  refine .same hS z ?_ hz2
  unfold execOp
  rw [ho]; dsimp only; rw [eu, hn]
  have h2 : 0 ≤ n ∧ n < (len : Int) := ⟨h0, h1⟩
  simp [Instr.index, asIntOf, run_underlying ht, h2, run_sizeOf' hi, hz1]

theorem equal_struct {xt : TypeId} {ks : List SK} (hp : plainStruct P xt = some ks) {a b : List D} {t : Bool} {u v : Value} (ha : DRel w F (.agg a) u) (hb : DRel w F (.agg b) v) (ht : eqK ks a b = some t) : (Op.equal xt u v).run P w = .ok t w := by
  cases ha with | agg _ us s1 _ r1 =>
  cases hb with | agg _ vs s2 _ r2 =>
  unfold plainStruct at hp
  split at hp
  · rename_i fs hfs
    split at hp
    · rename_i hc
      simp only [Bool.and_eq_true, Bool.not_eq_true'] at hc
      obtain ⟨n, hn⟩ : ∃ n, Op.equal xt (.agg us) (.agg vs) = Op.equalIn (n + 1 + 1) xt (.agg us) (.agg vs) := ⟨9998, rfl⟩
      rw [hn]
      unfold Op.equalIn
      simp only [Sem.run_bind, run_underlying hfs, Result.andThen_ok, run_program, hc.1, Bool.false_eq_true, if_false, Sem.run_pure]
      have := eq_loop (P := P) (w := w) (F := F) n us vs fs.toList 0 ks a b t hp ht (fun j z hz => ⟨us[j]'(by rw [s1]; exact (List.getElem?_eq_some_iff.1 hz).1), by simp, r1 j z _ hz (Array.getElem?_eq_getElem _)⟩) (fun j z hz => ⟨vs[j]'(by rw [s2]; exact (List.getElem?_eq_some_iff.1 hz).1), by simp, r2 j z _ hz (Array.getElem?_eq_getElem _)⟩)
      rw [← Array.forIn_toList, this]
      cases t <;> rfl
    · cases hp
  · cases hp
theorem keyKinds_spec {t : TypeId} {ag : Bool} {ks : List SK} (h : keyKinds P t = some (ag, ks)) : ∃ d, P.underlying t = some d ∧ ((ag = false ∧ ∃ k, skOf d = some k ∧ ks = [k]) ∨ (ag = true ∧ skOf d = none ∧ plainStruct P t = some ks)) := by
  unfold keyKinds at h
  split at h
  · rename_i d hd
    refine ⟨d, hd, ?_⟩
    split at h
    · rename_i k hk
      cases h
      exact .inl ⟨rfl, k, hk, rfl⟩
    · rename_i hk
      simp only [Option.map_eq_some_iff] at h
      obtain ⟨ks', h1, h2⟩ := h
      cases h2
      exact .inr ⟨rfl, hk, h1⟩
  · cases h
theorem sameNow_one {k : SK} {d : TypeDesc} (hk : skOf d = some k) {x y : D} {b : Bool} {u v : Value} (h : eqK [k] [x] [y] = some b) (hx : DRel w F x u) (hy : DRel w F y v) : Instr.sameNow d u v = some b := by
  cases d <;> simp only [skOf] at hk <;> (try (cases hk; done)) <;> cases hk
  · cases x <;> (try (simp [eqK] at h; done)) <;> cases y <;> (try (simp [eqK] at h; done))
    simp only [eqK] at h
    cases hx; cases hy
    split at h <;> rename_i hab <;> cases h <;> simp [Instr.sameNow, hab]
  · cases x <;> (try (simp [eqK] at h; done)) <;> cases y <;> (try (simp [eqK] at h; done))
    simp only [eqK] at h
    cases hx; cases hy
    split at h
    · rename_i hkk
      subst hkk
      split at h <;> rename_i hab <;> cases h <;> simp [Instr.sameNow, hab]
    · cases h
  · cases x <;> (try (simp [eqK] at h; done)) <;> cases y <;> (try (simp [eqK] at h; done))
    simp only [eqK] at h
    cases hx; cases hy
    split at h <;> rename_i hab <;> cases h <;> simp [Instr.sameNow, hab, beq_ba]
def KVs (w : World) (F : Nat → Prop) (β : Bl) (es : List MapEntry) (kvs : List (D × AV)) : Prop :=
  es.length = kvs.length ∧ ∀ (i : Nat) (e : MapEntry) (k : D) (v : AV), es[i]? = some e → kvs[i]? = some (k, v) → DRel w F k e.key ∧ VRel w F β v e.val
theorem KVs.tail {e : MapEntry} {es : List MapEntry} {p : D × AV} {kvs : List (D × AV)} (h : KVs w F β (e :: es) (p :: kvs)) : KVs w F β es kvs :=
  ⟨by have := h.1; simpa using this, fun i e' k v he hk => h.2 (i + 1) e' k v (by simpa using he) (by simpa using hk)⟩
def Found (w : World) (F : Nat → Prop) (β : Bl) (ag : Bool) (ks : List SK) (kd : D) (es : List MapEntry) (kvs : List (D × AV)) (s : Nat) : Option (Nat × AV) → Option (Nat × Value) → Prop
  | none, r => r = none
  | some (i, v), r => ∃ e x, s ≤ i ∧ es[i - s]? = some e ∧ kvs[i - s]? = some (x, v) ∧ keyEq ag ks kd x = some true ∧ r = some (i, e.val)
theorem Found.up {ag : Bool} {ks : List SK} {kd : D} {e : MapEntry} {es : List MapEntry} {p : D × AV} {kvs : List (D × AV)} {s : Nat} {r : Option (Nat × AV)} {r' : Option (Nat × Value)} (h : Found w F β ag ks kd es kvs (s + 1) r r') : Found w F β ag ks kd (e :: es) (p :: kvs) s r r' := by
  cases r with
  | none => exact h
  | some q =>
    obtain ⟨i, v⟩ := q
    obtain ⟨e', x, h1, h2, h3, h4, h5⟩ := h
    have e1 : i - s = (i - (s + 1)) + 1 := by omega
    exact ⟨e', x, by omega, by rw [e1]; simpa using h2, by rw [e1]; simpa using h3, h4, h5⟩
theorem findNow_run {k : SK} {d : TypeDesc} (hk : skOf d = some k) {kd : D} {ku : Value} (hku : DRel w F kd ku) : ∀ (es : List MapEntry) (kvs : List (D × AV)) (s : Nat) (r : Option (Nat × AV)), KVs w F β es kvs → findKV false [k] kd kvs s = some r →
    ∃ r', Instr.findNow d ku es s = some r' ∧ Found w F β false [k] kd es kvs s r r'
  | [], [], s, r, _, h => by simp only [findKV] at h; cases h; exact ⟨none, rfl, rfl⟩
  | [], p :: kvs, s, r, hR, _ => by have := hR.1; simp at this
  | e :: es, [], s, r, hR, _ => by have := hR.1; simp at this
  | e :: es, (x, v) :: kvs, s, r, hR, h => by
    obtain ⟨hx, hv⟩ := hR.2 0 e x v rfl rfl
    simp only [findKV] at h
    split at h
    · rename_i he
      cases h
      have := sameNow_one hk he hku hx
      exact ⟨some (s, e.val), by simp only [Instr.findNow, this], e, x, Nat.le_refl _, by simp, by simp, he, rfl⟩
    · rename_i he
      have := sameNow_one hk he hku hx
      obtain ⟨r', h1, h2⟩ := findNow_run hk hku es kvs (s + 1) r hR.tail h
      exact ⟨r', by simp only [Instr.findNow, this]; exact h1, h2.up⟩
    · cases h
theorem findAsk_run {kt : TypeId} {ks : List SK} (hp : plainStruct P kt = some ks) {kd : D} {ku : Value} (hku : DRel w F kd ku) : ∀ (es : List MapEntry) (kvs : List (D × AV)) (s : Nat) (r : Option (Nat × AV)), KVs w F β es kvs → findKV true ks kd kvs s = some r →
    ∃ r', (Instr.findAsking kt ku es s).run P w = .ok r' w ∧ Found w F β true ks kd es kvs s r r'
  | [], [], s, r, _, h => by simp only [findKV] at h; cases h; exact ⟨none, by simp [Instr.findAsking], rfl⟩
  | [], p :: kvs, s, r, hR, _ => by have := hR.1; simp at this
  | e :: es, [], s, r, hR, _ => by have := hR.1; simp at this
  | e :: es, (x, v) :: kvs, s, r, hR, h => by
    obtain ⟨hx, hv⟩ := hR.2 0 e x v rfl rfl
    have key : ∀ b, keyEq true ks kd x = some b → (Op.equal kt ku e.key).run P w = .ok b w := by
      intro b hb
      unfold keyEq at hb
      split at hb
      · contradiction
      · exact equal_struct hp hku hx hb
      · cases hb
    simp only [findKV] at h
    split at h
    · rename_i he
      cases h
      exact ⟨some (s, e.val), by simp [Instr.findAsking, key _ he], e, x, Nat.le_refl _, by simp, by simp, he, rfl⟩
    · rename_i he
      obtain ⟨r', h1, h2⟩ := findAsk_run hp hku es kvs (s + 1) r hR.tail h
      exact ⟨r', by simp [Instr.findAsking, key _ he, h1], h2.up⟩
    · cases h
theorem findKey_run {kt : TypeId} {ag : Bool} {ks : List SK} (hkk : keyKinds P kt = some (ag, ks)) {kd : D} {ku : Value} (hku : DRel w F kd ku) {es : Array MapEntry} {kvs : List (D × AV)} {r : Option (Nat × AV)} (hR : KVs w F β es.toList kvs) (h : findKV ag ks kd kvs 0 = some r) :
    ∃ r', (Instr.findKey kt ku es.toList).run P w = .ok r' w ∧ Found w F β ag ks kd es.toList kvs 0 r r' := by
  obtain ⟨d, hd, hc⟩ := keyKinds_spec hkk
  rcases hc with ⟨rfl, k, hk, rfl⟩ | ⟨rfl, hk, hp⟩
  · obtain ⟨r', h1, h2⟩ := findNow_run hk hku es.toList kvs 0 r hR h
    exact ⟨r', by simp [Instr.findKey, run_underlying hd, h1], h2⟩
  · obtain ⟨r', h1, h2⟩ := findAsk_run hp hku es.toList kvs 0 r hR h
    refine ⟨r', ?_, h2⟩
    cases hl : es.toList with
    | nil =>
      rw [hl] at h1
      simp only [Instr.findAsking, Sem.run_pure, Result.ok.injEq, and_true] at h1
      subst h1
      simp [Instr.findKey, run_underlying hd, Instr.findNow]
    | cons e r0 =>
      have hn : Instr.sameNow d ku e.key = none := by
        unfold plainStruct at hp
        split at hp
        · rename_i fs hfs
          rw [hd] at hfs; cases hfs
          simp [Instr.sameNow]
        · cases hp
      rw [hl] at h1
      simp [Instr.findKey, run_underlying hd, Instr.findNow, hn, h1]
theorem check_loop (empty : Bool) (n : Nat) (us : Array Value) : ∀ (l : List Field) (i : Nat) (ks : List SK), kindsFrom P l i = some ks → i + ks.length ≤ us.size →
    (forIn l (() : Unit) fun (f : Field) _ =>
            if f.name ≠ "_" then do
              Instr.checkKey empty (n + 1) f.type (← part f.type us f.offset)
              pure (ForInStep.yield ())
            else pure (ForInStep.yield ())).run P w = .ok () w
  | [], i, ks, hk, _ => by simp
  | f :: l, i, ks, hk, hs => by
    simp only [kindsFrom] at hk
    split at hk
    · rename_i hc
      simp only [Bool.and_eq_true, bne_iff_ne, beq_iff_eq] at hc
      split at hk
      · rename_i d ks' hd hks
        split at hk
        · rename_i k hsk
          cases hk
          simp only [List.length_cons] at hs
          have hag : isAggD d = false := by cases d <;> simp [skOf] at hsk <;> rfl
          have p1 : (part f.type us f.offset).run P w = .ok (us[i]'(by omega)) w := by
            unfold part
            simp only [Sem.run_bind, run_isAgg' hd, Result.andThen_ok, hag, Bool.false_eq_true, if_false, hc.2]
            rw [show us[i]? = some (us[i]'(by omega)) from Array.getElem?_eq_getElem _]
            rfl
          have p2 : ∀ v, (Instr.checkKey empty (n + 1) f.type v).run P w = .ok () w := by
            intro v
            unfold Instr.checkKey
            cases d <;> simp [skOf] at hsk <;> simp [run_underlying hd]
          have := check_loop empty n us l (i + 1) ks' hks (by omega)
          simp only [List.forIn_cons, hc.1, ne_eq, not_false_eq_true, if_true, Sem.run_bind, p1, p2, Result.andThen_ok, Sem.run_pure]
          exact this
        · cases hk
      · cases hk
    · cases hk
theorem checkKey_run {kt : TypeId} {ag : Bool} {ks : List SK} (hkk : keyKinds P kt = some (ag, ks)) {kd : D} {ku : Value} (hku : DRel w F kd ku) (hs : keyShape ag ks kd = true) (empty : Bool) : (Instr.checkKey empty 10000 kt ku).run P w = .ok () w := by
  obtain ⟨d, hd, hc⟩ := keyKinds_spec hkk
  obtain ⟨n, hn⟩ : ∃ n, Instr.checkKey empty 10000 kt ku = Instr.checkKey empty (n + 1 + 1) kt ku := ⟨9998, rfl⟩
  rw [hn]
  rcases hc with ⟨rfl, k, hk, rfl⟩ | ⟨rfl, hk, hp⟩
  · unfold Instr.checkKey
    cases d <;> simp [skOf] at hk <;> simp [run_underlying hd]
  · unfold keyShape at hs
    split at hs
    · contradiction
    · rename_i ks' a
      cases hku with | agg _ us s1 _ r1 =>
      unfold plainStruct at hp
      split at hp
      · rename_i fs hfs
        rw [hd] at hfs; cases hfs
        split at hp
        · have := check_loop (P := P) (w := w) empty n us fs.toList 0 _ hp (by simp at hs; omega)
          unfold Instr.checkKey
          simp only [Sem.run_bind, run_underlying hd, Result.andThen_ok]
          rw [← Array.forIn_toList]
          first
            | simpa using this
            | (simp only [ne_eq, ite_not, bind_pure_comp] at this ⊢
               rw [this]
               rfl)
        · cases hp
      · cases hp
    · cases hs
theorem same_zip (n : Nat) : ∀ (a b : List Value), a.length = b.length → (∀ (i : Nat) (x y : Value), a[i]? = some x → b[i]? = some y → Instr.sameBits n x y = true) → ((a.zip b).all fun (x, y) => Instr.sameBits n x y) = true
  | [], b, _, _ => by simp
  | x :: a, [], h, _ => by simp at h
  | x :: a, y :: b, h, hh => by
    simp only [List.zip_cons_cons, List.all_cons, Bool.and_eq_true]
    exact ⟨hh 0 x y rfl rfl, same_zip n a b (by simpa using h) (fun i u v h1 h2 => hh (i + 1) u v (by simpa using h1) (by simpa using h2))⟩
theorem eqK_get : ∀ {ks : List SK} {a b : List D}, eqK ks a b = some true → a.length = b.length ∧ ∀ (i : Nat) (x y : D), a[i]? = some x → b[i]? = some y → ∃ k, eqK [k] [x] [y] = some true
  | [], a, b, h => by
    cases a with
    | nil => cases b with
      | nil => exact ⟨rfl, fun i x y hx => by simp at hx⟩
      | cons _ _ => simp [eqK] at h
    | cons _ _ => simp [eqK] at h
  | k :: ks, a, b, h => by
    obtain ⟨x, r, y, q, rfl, rfl, hc⟩ := eqK_cons h
    rcases hc with ⟨h1, h2⟩ | ⟨_, h2⟩
    · obtain ⟨h3, h4⟩ := eqK_get h2
      refine ⟨by simp [h3], fun i u v hu hv => ?_⟩
      cases i with
      | zero => simp at hu hv; subst hu; subst hv; exact ⟨k, h1⟩
      | succ i => exact h4 i u v (by simpa using hu) (by simpa using hv)
    · cases h2
theorem same_one {k : SK} {x y : D} {u v : Value} (h : eqK [k] [x] [y] = some true) (hx : DRel w F x u) (hy : DRel w F y v) (n : Nat) : Instr.sameBits n u v = true := by
  cases k <;> cases x <;> (try (simp [eqK] at h; done)) <;> cases y <;> (try (simp [eqK] at h; done)) <;> simp only [eqK] at h <;> cases hx <;> cases hy
  · split at h
    · rename_i e; subst e; cases n <;> simp [Instr.sameBits]
    · cases h
  · split at h
    · rename_i e
      split at h
      · rename_i e2; subst e; subst e2; cases n <;> simp [Instr.sameBits]
      · cases h
    · cases h
  · split at h
    · rename_i e; subst e; cases n <;> simp [Instr.sameBits, beq_ba]
    · cases h
theorem flip_one {k : SK} {x y : D} (h : eqK [k] [x] [y] = some true) : eqK [k] [y] [x] = some true := by
  cases k <;> cases x <;> (try (simp [eqK] at h; done)) <;> cases y <;> (try (simp [eqK] at h; done)) <;> simp only [eqK] at h ⊢
  · split at h
    · rename_i e; simp [e]
    · cases h
  · split at h
    · rename_i e
      split at h
      · rename_i e2; simp [e, e2]
      · cases h
    · cases h
  · split at h
    · rename_i e; simp [e]
    · cases h
theorem same_struct {ks : List SK} {a b : List D} (h : eqK ks a b = some true) {u v : Value} (hx : DRel w F (.agg a) u) (hy : DRel w F (.agg b) v) : Instr.sameBits 10000 v u = true := by
  obtain ⟨h3, h4⟩ := eqK_get h
  cases hx with | agg _ us s1 _ r1 =>
  cases hy with | agg _ vs s2 _ r2 =>
  show (vs.size == us.size && (vs.toList.zip us.toList).all fun (x, y) => Instr.sameBits 9999 x y) = true
  simp only [Bool.and_eq_true, beq_iff_eq]
  refine ⟨by omega, same_zip _ _ _ (by simp; omega) fun i p q hp' hq' => ?_⟩
  have l1 : i < us.size := by have := (List.getElem?_eq_some_iff.1 hq').1; simpa using this
  obtain ⟨a', ha'⟩ : ∃ z, a[i]? = some z := ⟨a[i]'(by omega), List.getElem?_eq_getElem (by omega)⟩
  obtain ⟨b', hb'⟩ : ∃ z, b[i]? = some z := ⟨b[i]'(by omega), List.getElem?_eq_getElem (by omega)⟩
  obtain ⟨k, hk'⟩ := h4 i a' b' ha' hb'
  exact same_one (flip_one hk') (r2 i b' p hb' (by simpa using hp')) (r1 i a' q ha' (by simpa using hq')) _
theorem same_key {ag : Bool} {ks : List SK} {kt : TypeId} (hkk : keyKinds P kt = some (ag, ks)) {x y : D} {u v : Value} (h : keyEq ag ks x y = some true) (hx : DRel w F x u) (hy : DRel w F y v) : Instr.sameBits 10000 v u = true := by
  obtain ⟨d, hd, hc⟩ := keyKinds_spec hkk
  rcases hc with ⟨rfl, k, hk, rfl⟩ | ⟨rfl, hk, hp⟩
  · exact same_one (flip_one h) hy hx _
  · unfold keyEq at h
    split at h
    · contradiction
    · exact same_struct h hx hy
    · cases h
theorem mapOf_spec {m : AV} {id : Nat} {kvs : List (D × AV)} {z : Bool} (h : mapOf sto m = some (id, kvs, z)) : m = .map id ∧ sto[id]? = some (.mp kvs z) := by
  unfold mapOf at h
  split at h
  · split at h
    · rename_i hs; cases h; exact ⟨rfl, hs⟩
    · cases h
  · cases h
theorem kdOf_spec {ag : Bool} {ks : List SK} {v : AV} {x : D} (h : kdOf ag ks v = some x) : v = .d x ∧ keyShape ag ks x = true := by
  unfold kdOf at h
  split at h
  · split at h
    · rename_i hs; cases h; exact ⟨rfl, hs⟩
    · cases h
  · cases h
theorem zeroD_spec {t : TypeId} {z : D} (h : zeroD P t = some z) : ∃ i v, P.info? t = some i ∧ i.zero = some v ∧ constD v = some z := by
  unfold zeroD at h
  split at h
  · rename_i i hi
    split at h
    · rename_i v hv; exact ⟨i, v, hi, hv, h⟩
    · cases h
  · cases h
theorem lookV_rel {ok : Bool} {v : AV} {b : Bool} {u : Value} (h : VRel w F β v u) : VRel w F β (lookV ok v b) (if ok then .tuple #[u, .bool b] else u) := by
  cases ok with
  | false => simpa [lookV] using h
  | true =>
    refine .tup _ _ rfl fun j y x hy hx => ?_
    match j with
    | 0 => simp at hy hx; subst hy; subst hx; exact h
    | 1 => simp at hy hx; subst hy; subst hx; exact .d _ _ (.bool _)
    | j + 2 => simp at hy
theorem ok_lookup (hS : SRel w F β sto) {t kt et : TypeId} {x k : Operand} {ok : Bool} (ho : o.op = .lookup t x k ok) (ht : P.underlying t = some (.map kt et)) {ag : Bool} {ks : List SK} (hkk : keyKinds P kt = some (ag, ks)) {zd : D} (hz : zeroD P et = some zd)
    {kv : AV} (hk : VRel w F β kv (ρ k)) {kd : D} (hkd : kdOf ag ks kv = some kd) {v : AV}
    (hv : (VRel w F β (.d .nilm) (ρ x) ∧ v = lookV ok (.d zd) false) ∨ (∃ m id kvs z r, VRel w F β m (ρ x) ∧ mapOf sto m = some (id, kvs, z) ∧ findKV ag ks kd kvs 0 = some r ∧ v = (match r with
      | some (_, y) => lookV ok y true
      | none => lookV ok (.d zd) false))) : OK P o ρ w F β sto v sto := by
  obtain ⟨zi, zv, h1, h2, h3⟩ := zeroD_spec hz
  have hzr : VRel w F β (.d zd) zv := .d _ _ (constD_rel h3)
  have hsh := (kdOf_spec hkd).2
  rw [(kdOf_spec hkd).1] at hk
  obtain ⟨ku, eku⟩ : ∃ u, ρ k = u := ⟨_, rfl⟩
  rw [eku] at hk
  cases hk with | d _ _ hku =>
  rcases hv with ⟨hx, rfl⟩ | ⟨m, id, kvs, z, r, hx, hm, hf, rfl⟩
  · obtain ⟨xu, exu⟩ : ∃ u, ρ x = u := ⟨_, rfl⟩
    rw [exu] at hx
    cases hx with | d _ _ hxx =>
    cases hxx
    refine .same hS (if ok then .tuple #[zv, .bool false] else zv) ?_ (lookV_rel hzr)
    unfold execOp
    rw [ho]; dsimp only; rw [exu, eku]
    obtain ⟨d, hd, _⟩ := keyKinds_spec hkk
    have hck := checkKey_run (P := P) hkk hku hsh true
    obtain ⟨r', hr1, hr2⟩ := findKey_run (P := P) (w := w) (F := F) (β := β) (es := #[]) (kvs := []) (r := none) hkk hku ⟨rfl, fun i e k v h => by simp at h⟩ rfl
    have : r' = none := hr2
    subst this
    have hr1' : (Instr.findKey kt ku []).run P w = .ok none w := hr1
    cases ok <;> simp [Instr.lookup, run_underlying ht, hck, hr1', run_zero h1 h2]
  · obtain ⟨rfl, hs⟩ := mapOf_spec hm
    obtain ⟨b, es, clock, g1, g2, g3, g4, _, g5⟩ := hS.obj id _ hs
    obtain ⟨xu, exu⟩ : ∃ u, ρ x = u := ⟨_, rfl⟩
    rw [exu] at hx
    cases hx with | map _ b' hb =>
    rw [g1] at hb; cases hb
    have hck := checkKey_run (P := P) hkk hku hsh es.isEmpty
    obtain ⟨r', hr1, hr2⟩ := findKey_run (P := P) (w := w) hkk hku (es := es) ⟨by simpa using g4, fun i e k v he hv => g5 i e k v (by simpa using he) hv⟩ hf
    have hgo : (getObj b).run P w = .ok (.map es clock) w := by simp [getObj, Sem.run, g3]
    cases r with
    | none =>
      have : r' = none := hr2
      subst this
      refine .same hS (if ok then .tuple #[zv, .bool false] else zv) ?_ (lookV_rel hzr)
      unfold execOp
      rw [ho]; dsimp only; rw [exu, eku]
      cases ok <;> simp [Instr.lookup, run_underlying ht, hgo, hck, hr1, run_zero h1 h2]
    | some q =>
      obtain ⟨i, y⟩ := q
      obtain ⟨e, xk, _, q2, q3, _, rfl⟩ := hr2
      have hy := (g5 i e xk y (by simpa using q2) (by simpa using q3)).2
      refine .same hS (if ok then .tuple #[e.val, .bool true] else e.val) ?_ (lookV_rel hy)
      unfold execOp
      rw [ho]; dsimp only; rw [exu, eku]
      cases ok <;> simp [Instr.lookup, run_underlying ht, hgo, hck, hr1]
theorem write_map (hS : SRel w F β sto) {id b : Nat} {kvs : List (D × AV)} {z : Bool} (hs : sto[id]? = some (.mp kvs z)) (hb : β id = some b) {es : Array MapEntry} {clock : Nat} (h3 : w.heap[b]? = some (.map es clock)) (h2 : ¬ F b) {es' : Array MapEntry} {clock' : Nat} {kvs' : List (D × AV)} {z' : Bool}
    (h4 : es'.size = kvs'.length) (h4z : z' = false → clock' = es'.size ∧ ∀ (i : Nat) (e : MapEntry), es'[i]? = some e → e.born = i) (h5 : ∀ (i : Nat) (e : MapEntry) (k : D) (v : AV), es'[i]? = some e → kvs'[i]? = some (k, v) → DRel w F k e.key ∧ VRel w F β v e.val) :
    SRel { w with heap := w.heap.set! b (.map es' clock') } F β (sto.set id (.mp kvs' z')) ∧ Ext w F β sto { w with heap := w.heap.set! b (.map es' clock') } F β (sto.set id (.mp kvs' z')) := by
  have hlt : b < w.heap.size := hS.lt id b hb
  exact write_obj (w' := { w with heap := w.heap.set! b (.map es' clock') }) hS id b _ (.mp kvs' z') hs rfl hb rfl rfl rfl rfl (fun _ => Nat.le_refl _) (by simp) (fun k hk => by simp [Array.getElem?_setIfInBounds_ne (Ne.symm hk)])
      (fun c T fr hh => by rw [h3] at hh; cases hh) h2 (fun hm => ⟨b, es', clock', hb, h2, by simp [hlt], h4, h4z, fun i e k v he hk => ⟨(h5 i e k v he hk).1.mono hm, (h5 i e k v he hk).2.mono hm⟩⟩)
theorem keyStays_run {old new : Value} (h : Instr.sameBits 10000 old new = true) : (Instr.keyThatStays old new).run P w = .ok new w := by simp [Instr.keyThatStays, h]
theorem ok_mapupd (hS : SRel w F β sto) {t kt et : TypeId} {m k v : Operand} (ho : o.op = .mapUpdate t m k v ∨ o.op = .insert t m k v) (ht : P.underlying t = some (.map kt et)) {ag : Bool} {ks : List SK} (hkk : keyKinds P kt = some (ag, ks))
    {mv : AV} (hm : VRel w F β mv (ρ m)) {id : Nat} {kvs : List (D × AV)} {z : Bool} (hmm : mapOf sto mv = some (id, kvs, z)) {kv : AV} (hk : VRel w F β kv (ρ k)) {kd : D} (hkd : kdOf ag ks kv = some kd) {vv : AV} (hv : VRel w F β vv (ρ v)) {r : Option (Nat × AV)}
    (hf : findKV ag ks kd kvs 0 = some r) : OK P o ρ w F β sto (.tup []) (sto.set id (.mp (match r with
      | some (i, _) => kvs.set i (kd, vv)
      | none => kvs ++ [(kd, vv)]) z)) := by
  have hsh := (kdOf_spec hkd).2
  rw [(kdOf_spec hkd).1] at hk
  obtain ⟨ku, eku⟩ : ∃ u, ρ k = u := ⟨_, rfl⟩
  rw [eku] at hk
  cases hk with | d _ _ hku =>
  obtain ⟨rfl, hs⟩ := mapOf_spec hmm
  obtain ⟨b, es, clock, g1, g2, g3, g4, g4z, g5⟩ := hS.obj id _ hs
  obtain ⟨mu, emu⟩ : ∃ u, ρ m = u := ⟨_, rfl⟩
  rw [emu] at hm
  cases hm with | map _ b' hb =>
  rw [g1] at hb; cases hb
  have hck := checkKey_run (P := P) hkk hku hsh false
  obtain ⟨r', hr1, hr2⟩ := findKey_run (P := P) (w := w) hkk hku (es := es) ⟨by simpa using g4, fun i e k v he hv => g5 i e k v (by simpa using he) hv⟩ hf
  have hgo : (getObj b).run P w = .ok (.map es clock) w := by simp [getObj, Sem.run, g3]
  cases r with
  | none =>
    have : r' = none := hr2
    subst this
    obtain ⟨r1, r2⟩ := write_map hS hs g1 g3 g2 (es' := es.push { key := ku, val := ρ v, born := clock }) (clock' := clock + 1) (kvs' := kvs ++ [(kd, vv)]) (z' := z) (by simp [g4]) (fun hz => by
        obtain ⟨a1, a2⟩ := g4z hz
        refine ⟨by simp [a1], fun i e he => ?_⟩
        rw [Array.getElem?_push] at he
        split at he
        · rename_i hi; cases he; simp [a1, hi]
        · exact a2 i e he) (fun i e k' v' he hk' => by
        rw [Array.getElem?_push] at he
        split at he
        · rename_i hi
          cases he
          rw [List.getElem?_append_right (by omega), show i - kvs.length = 0 by omega] at hk'
          simp at hk'
          obtain ⟨rfl, rfl⟩ := hk'
          exact ⟨hku, hv⟩
        · rename_i hi
          have : i < es.size := (Array.getElem?_eq_some_iff.1 he).1
          rw [List.getElem?_append_left (by omega)] at hk'
          exact g5 i e k' v' he hk')
    refine ⟨undef, _, F, β, .inr ⟨?_, rfl⟩, .tup [] #[] rfl (fun _ _ _ h => by simp at h), r1, r2⟩
    unfold execOp
    rcases ho with ho | ho <;> rw [ho] <;> dsimp only <;> rw [emu, eku] <;>
    simp [Instr.mapUpdate, run_underlying ht, hgo, hck, hr1, setObj, Sem.run, g3]
  | some q =>
    obtain ⟨i, y⟩ := q
    obtain ⟨e, xk, _, q2, q3, q4, rfl⟩ := hr2
    have hi : es[i]? = some e := by simpa using q2
    have hi2 : kvs[i]? = some (xk, y) := by simpa using q3
    have hki := keyStays_run (P := P) (w := w) (same_key hkk q4 hku (g5 i e xk y hi hi2).1)
    obtain ⟨r1, r2⟩ := write_map hS hs g1 g3 g2 (es' := es.modify i fun e => { e with key := ku, val := ρ v }) (clock' := clock) (kvs' := kvs.set i (kd, vv)) (z' := z) (by simp [g4]) (fun hz => by
        obtain ⟨a1, a2⟩ := g4z hz
        refine ⟨by simp [a1], fun j e' he => ?_⟩
        rw [Array.getElem?_modify] at he
        split at he
        · rename_i hj; subst hj; rw [hi] at he; cases he; exact a2 i e hi
        · exact a2 j e' he) (fun j e' k' v' he hk' => by
        rw [Array.getElem?_modify] at he
        split at he
        · rename_i hj; subst hj; rw [hi] at he; cases he
          rw [List.getElem?_set_self (List.getElem?_eq_some_iff.1 hi2).1] at hk'
          cases hk'
          exact ⟨hku, hv⟩
        · rename_i hj
          rw [List.getElem?_set_ne hj] at hk'
          exact g5 j e' k' v' he hk')
    refine ⟨undef, _, F, β, .inr ⟨?_, rfl⟩, .tup [] #[] rfl (fun _ _ _ h => by simp at h), r1, r2⟩
    unfold execOp
    rcases ho with ho | ho <;> rw [ho] <;> dsimp only <;> rw [emu, eku] <;>
    simp [Instr.mapUpdate, run_underlying ht, hgo, hck, hr1, hi, hki, setObj, Sem.run, g3]
theorem ok_mapent (hS : SRel w F β sto) {t kt et : TypeId} {m k : Operand} (ho : o.op = .mapEntry t m k) (ht : P.underlying t = some (.map kt et)) {ag : Bool} {ks : List SK} (hkk : keyKinds P kt = some (ag, ks)) {zd : D} (hz : zeroD P et = some zd)
    {mv : AV} (hm : VRel w F β mv (ρ m)) {id : Nat} {kvs : List (D × AV)} (hmm : mapOf sto mv = some (id, kvs, false)) {kv : AV} (hk : VRel w F β kv (ρ k)) {kd : D} (hkd : kdOf ag ks kv = some kd) {r : Option (Nat × AV)}
    (hf : findKV ag ks kd kvs 0 = some r) : OK P o ρ w F β sto (match r with
      | some (i, y) => .tup [y, .d (.int .i64 i)]
      | none => .tup [.d zd, .d (.int .i64 kvs.length)]) (sto.set id (.mp (match r with
      | some (i, y) => kvs.set i (kd, y)
      | none => kvs ++ [(kd, .d zd)]) false)) := by
  obtain ⟨zi, zv, h1, h2, h3⟩ := zeroD_spec hz
  have hzr : VRel w F β (.d zd) zv := .d _ _ (constD_rel h3)
  have pair : ∀ {a b : AV} {u v : Value}, VRel w F β a u → VRel w F β b v → VRel w F β (.tup [a, b]) (.tuple #[u, v]) := by
    intro a b u v h1 h2
    refine .tup _ _ rfl fun j y x hy hx => ?_
    match j with
    | 0 => simp at hy hx; subst hy; subst hx; exact h1
    | 1 => simp at hy hx; subst hy; subst hx; exact h2
    | j + 2 => simp at hy
  have hsh := (kdOf_spec hkd).2
  rw [(kdOf_spec hkd).1] at hk
  obtain ⟨ku, eku⟩ : ∃ u, ρ k = u := ⟨_, rfl⟩
  rw [eku] at hk
  cases hk with | d _ _ hku =>
  obtain ⟨rfl, hs⟩ := mapOf_spec hmm
  obtain ⟨b, es, clock, g1, g2, g3, g4, g4z, g5⟩ := hS.obj id _ hs
  obtain ⟨a1, a2⟩ := g4z rfl
  obtain ⟨mu, emu⟩ : ∃ u, ρ m = u := ⟨_, rfl⟩
  rw [emu] at hm
  cases hm with | map _ b' hb =>
  rw [g1] at hb; cases hb
  have hck := checkKey_run (P := P) hkk hku hsh false
  obtain ⟨r', hr1, hr2⟩ := findKey_run (P := P) (w := w) hkk hku (es := es) ⟨by simpa using g4, fun i e k v he hv => g5 i e k v (by simpa using he) hv⟩ hf
  have hgo : (getObj b).run P w = .ok (.map es clock) w := by simp [getObj, Sem.run, g3]
  cases r with
  | none =>
    have : r' = none := hr2
    subst this
    obtain ⟨r1, r2⟩ := write_map hS hs g1 g3 g2 (es' := es.push { key := ku, val := zv, born := clock }) (clock' := clock + 1) (kvs' := kvs ++ [(kd, .d zd)]) (z' := false) (by simp [g4]) (fun hz => by
        refine ⟨by simp [a1], fun i e he => ?_⟩
        rw [Array.getElem?_push] at he
        split at he
        · rename_i hi; cases he; simp [a1, hi]
        · exact a2 i e he) (fun i e k' v' he hk' => by
        rw [Array.getElem?_push] at he
        split at he
        · rename_i hi
          cases he
          rw [List.getElem?_append_right (by omega), show i - kvs.length = 0 by omega] at hk'
          simp at hk'
          obtain ⟨rfl, rfl⟩ := hk'
          exact ⟨hku, hzr⟩
        · rename_i hi
          have : i < es.size := (Array.getElem?_eq_some_iff.1 he).1
          rw [List.getElem?_append_left (by omega)] at hk'
          exact g5 i e k' v' he hk')
    refine ⟨.tuple #[zv, goInt clock], _, F, β, .inl ?_, (pair hzr (by rw [a1, g4]; exact .d _ _ (.int _ _))).mono r2.1, r1, r2⟩
    unfold execOp
    rw [ho]; dsimp only; rw [emu, eku]
    simp [Instr.mapEntry, run_underlying ht, hgo, hck, hr1, setObj, Sem.run, g3, run_zero h1 h2]
  | some q =>
    obtain ⟨i, y⟩ := q
    obtain ⟨e, xk, _, q2, q3, q4, rfl⟩ := hr2
    have hi : es[i]? = some e := by simpa using q2
    have hi2 : kvs[i]? = some (xk, y) := by simpa using q3
    have hki := keyStays_run (P := P) (w := w) (same_key hkk q4 hku (g5 i e xk y hi hi2).1)
    have hy := (g5 i e xk y hi hi2).2
    obtain ⟨r1, r2⟩ := write_map hS hs g1 g3 g2 (es' := es.modify i fun e => { e with key := ku }) (clock' := clock) (kvs' := kvs.set i (kd, y)) (z' := false) (by simp [g4]) (fun hz => by
        refine ⟨by simp [a1], fun j e' he => ?_⟩
        rw [Array.getElem?_modify] at he
        split at he
        · rename_i hj; subst hj; rw [hi] at he; cases he; exact a2 i e hi
        · exact a2 j e' he) (fun j e' k' v' he hk' => by
        rw [Array.getElem?_modify] at he
        split at he
        · rename_i hj; subst hj; rw [hi] at he; cases he
          rw [List.getElem?_set_self (List.getElem?_eq_some_iff.1 hi2).1] at hk'
          cases hk'
          exact ⟨hku, hy⟩
        · rename_i hj
          rw [List.getElem?_set_ne hj] at hk'
          exact g5 j e' k' v' he hk')
    refine ⟨.tuple #[e.val, goInt e.born], _, F, β, .inl ?_, (pair hy (by rw [a2 i e hi]; exact .d _ _ (.int _ _))).mono r2.1, r1, r2⟩
    unfold execOp
    rw [ho]; dsimp only; rw [emu, eku]
    simp [Instr.mapEntry, run_underlying ht, hgo, hck, hr1, hi, hki, setObj, Sem.run, g3]
theorem find_born (es : Array MapEntry) (h : ∀ (i : Nat) (e : MapEntry), es[i]? = some e → e.born = i) {i : Nat} (hi : i < es.size) : es.findIdx? (fun e => (e.born : Int) == (i : Int)) = some i := by
  rw [Array.findIdx?_eq_some_iff_getElem]
  refine ⟨hi, ?_, fun j hj => ?_⟩
  · have := h i _ (Array.getElem?_eq_getElem hi)
    simp [this]
  · have := h j _ (Array.getElem?_eq_getElem (by omega))
    simp [this]; omega
theorem ok_entst (hS : SRel w F β sto) {t : TypeId} {m s v : Operand} (ho : o.op = .entryStore t m s v) {mv : AV} (hm : VRel w F β mv (ρ m)) {id : Nat} {kvs : List (D × AV)} (hmm : mapOf sto mv = some (id, kvs, false)) {sv : AV} (hsv : VRel w F β sv (ρ s)) {n : Int} (hn : intOf sv = some n) (h0 : 0 ≤ n)
    {vv : AV} (hv : VRel w F β vv (ρ v)) {kd : D} {old : AV} (hg : kvs[n.toNat]? = some (kd, old)) : OK P o ρ w F β sto (.tup []) (sto.set id (.mp (kvs.set n.toNat (kd, vv)) false)) := by
  obtain ⟨kk, hkk⟩ := intOf_inv hn hsv
  obtain ⟨rfl, hs⟩ := mapOf_spec hmm
  obtain ⟨b, es, clock, g1, g2, g3, g4, g4z, g5⟩ := hS.obj id _ hs
  obtain ⟨a1, a2⟩ := g4z rfl
  obtain ⟨mu, emu⟩ : ∃ u, ρ m = u := ⟨_, rfl⟩
  rw [emu] at hm
  cases hm with | map _ b' hb =>
  rw [g1] at hb; cases hb
  have hl : n.toNat < kvs.length := (List.getElem?_eq_some_iff.1 hg).1
  have hfb := find_born es a2 (i := n.toNat) (by omega)
  rw [show ((n.toNat : Nat) : Int) = n by omega] at hfb
  have hgo : (getObj b).run P w = .ok (.map es clock) w := by simp [getObj, Sem.run, g3]
  have hi : es[n.toNat]? = some (es[n.toNat]'(by omega)) := Array.getElem?_eq_getElem _
  obtain ⟨r1, r2⟩ := write_map hS hs g1 g3 g2 (es' := es.modify n.toNat fun e => { e with val := ρ v }) (clock' := clock) (kvs' := kvs.set n.toNat (kd, vv)) (z' := false) (by simp [g4]) (fun hz => by
      refine ⟨by simp [a1], fun j e' he => ?_⟩
      rw [Array.getElem?_modify] at he
      split at he
      · rename_i hj; rw [← hj, hi] at he; cases he; rw [← hj]; exact a2 _ (es[n.toNat]'(by omega)) hi
      · exact a2 j e' he) (fun j e' k' v' he hk' => by
      rw [Array.getElem?_modify] at he
      split at he
      · rename_i hj; subst hj; rw [hi] at he; cases he
        rw [List.getElem?_set_self hl] at hk'
        cases hk'
        exact ⟨(g5 _ _ _ _ hi hg).1, hv⟩
      · rename_i hj
        rw [List.getElem?_set_ne hj] at hk'
        exact g5 j e' k' v' he hk')
  refine ⟨undef, _, F, β, .inr ⟨?_, rfl⟩, .tup [] #[] rfl (fun _ _ _ h => by simp at h), r1, r2⟩
  unfold execOp
  rw [ho]; dsimp only; rw [emu, hkk]
  simp [Instr.entryStore, hgo, asInt, asIntOf, hfb, setObj, Sem.run, g3]
theorem ok_delete (hS : SRel w F β sto) {args : Array Operand} {ts : Array TypeId} {m k : Operand} {t kt et : TypeId} (ho : o.op = .call ⟨.builtin .delete, #[m, k], ts⟩) (hts : ts[0]? = some t) (ht : P.underlying t = some (.map kt et)) {ag : Bool} {ks : List SK} (hkk : keyKinds P kt = some (ag, ks))
    {mv : AV} (hm : VRel w F β mv (ρ m)) {id : Nat} {kvs : List (D × AV)} {z : Bool} (hmm : mapOf sto mv = some (id, kvs, z)) {kv : AV} (hk : VRel w F β kv (ρ k)) {kd : D} (hkd : kdOf ag ks kv = some kd) {r : Option (Nat × AV)}
    (hf : findKV ag ks kd kvs 0 = some r) : OK P o ρ w F β sto (.tup []) (sto.set id (match r with
      | some (i, _) => .mp (kvs.eraseIdx i) true
      | none => .mp kvs z)) := by
  have hsh := (kdOf_spec hkd).2
  rw [(kdOf_spec hkd).1] at hk
  obtain ⟨ku, eku⟩ : ∃ u, ρ k = u := ⟨_, rfl⟩
  rw [eku] at hk
  cases hk with | d _ _ hku =>
  obtain ⟨rfl, hs⟩ := mapOf_spec hmm
  obtain ⟨b, es, clock, g1, g2, g3, g4, g4z, g5⟩ := hS.obj id _ hs
  obtain ⟨mu, emu⟩ : ∃ u, ρ m = u := ⟨_, rfl⟩
  rw [emu] at hm
  cases hm with | map _ b' hb =>
  rw [g1] at hb; cases hb
  have hck := checkKey_run (P := P) hkk hku hsh es.isEmpty
  obtain ⟨r', hr1, hr2⟩ := findKey_run (P := P) (w := w) hkk hku (es := es) ⟨by simpa using g4, fun i e k v he hv => g5 i e k v (by simpa using he) hv⟩ hf
  have hgo : (getObj b).run P w = .ok (.map es clock) w := by simp [getObj, Sem.run, g3]
  cases r with
  | none =>
    have : r' = none := hr2
    subst this
    obtain ⟨r1, r2⟩ := write_map hS hs g1 g3 g2 (es' := es) (clock' := clock) (kvs' := kvs) (z' := z) g4 g4z g5
    refine ⟨.tuple #[], _, F, β, .inl ?_, .tup _ _ rfl (fun j y u hy => by simp at hy), r1, r2⟩
    unfold execOp
    rw [ho]
    simp [resolve, invoke, builtin, Builtin.delete_, hts, run_underlying ht, emu, eku, hgo, hck, hr1, setObj, Sem.run, g3]
  | some q =>
    obtain ⟨i, y⟩ := q
    obtain ⟨e, xk, _, q2, q3, q4, rfl⟩ := hr2
    have hi : es[i]? = some e := by simpa using q2
    have hil : i < es.size := (Array.getElem?_eq_some_iff.1 hi).1
    obtain ⟨r1, r2⟩ := write_map hS hs g1 g3 g2 (es' := es.eraseIdxIfInBounds i) (clock' := clock) (kvs' := kvs.eraseIdx i) (z' := true) (by
        rw [Array.eraseIdxIfInBounds, dif_pos hil, Array.size_eraseIdx, List.length_eraseIdx, if_pos (by omega), g4]) (fun hz => by cases hz) (fun j e' k' v' he hk' => by
        rw [Array.eraseIdxIfInBounds, dif_pos hil, Array.getElem?_eraseIdx] at he
        rw [List.getElem?_eraseIdx] at hk'
        split at he
        · rename_i hj; rw [if_pos hj] at hk'; exact g5 j e' k' v' he hk'
        · rename_i hj; rw [if_neg hj] at hk'; exact g5 (j + 1) e' k' v' he hk')
    refine ⟨.tuple #[], _, F, β, .inl ?_, .tup _ _ rfl (fun j y u hy => by simp at hy), r1, r2⟩
    unfold execOp
    rw [ho]
    simp [resolve, invoke, builtin, Builtin.delete_, hts, run_underlying ht, emu, eku, hgo, hck, hr1, setObj, Sem.run, g3]
end
end Go.Proofs.YtjnfkifdgojdaaaGreat.V

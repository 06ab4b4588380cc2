/- Without fuel: what the table's functions do, whatever the fuel. -/
import Derived.Test.YtjnfkifdgojdaaaGreatV26
namespace Go.Proofs.YtjnfkifdgojdaaaGreat.V
open Go
set_option linter.unusedVariables false
set_option linter.unusedSimpArgs false
set_option linter.unusedSectionVars false
variable [Inhabited Flag]
open Classical

theorem Le.refl (C : Calling) : Le C C := fun _ _ _ _ h => h
section
variable (V : FuncId → Option VFn) (X : Calling)
noncomputable def lim : Calling := fun f a s => if h : ∃ r, ∃ k, callF V X k f a s = some r then some h.choose else none
variable {V X}
theorem callF_up {k k' : Nat} (hk : k ≤ k') : Le (callF V X k) (callF V X k') := fun _ _ _ _ h => callF_mono hk _ _ _ _ h
theorem lim_of {k : Nat} {f : FuncId} {a : List AV} {s : List Obj} {r : Out × List Obj} (h : callF V X k f a s = some r) : lim V X f a s = some r := by
  have hx : ∃ r, ∃ k, callF V X k f a s = some r := ⟨r, k, h⟩
  unfold lim
  rw [dif_pos hx]
  obtain ⟨k', h'⟩ := hx.choose_spec
  have e1 := callF_up (Nat.le_max_left k k') _ _ _ _ h
  have e2 := callF_up (Nat.le_max_right k k') _ _ _ _ h'
  rw [e1] at e2
  exact e2.symm
theorem lim_elim {f : FuncId} {a : List AV} {s : List Obj} {r : Out × List Obj} (h : lim V X f a s = some r) : ∃ k, callF V X k f a s = some r := by
  unfold lim at h
  split at h
  · rename_i hx
    cases h
    exact hx.choose_spec
  · cases h
variable {byref : FuncId → List Nat}
theorem callOp_lim {f : AV} {args : List AV} {sto : List Obj} {r : Out × List Obj} (h : callOp (lim V X) byref f args sto = some r) : ∃ k, callOp (callF V X k) byref f args sto = some r := by
  unfold callOp at h ⊢
  have go : ∀ (g : FuncId) (vs : List AV), (match prep (byref g) 0 vs sto with
      | some (vs', sto') =>
        (match lim V X g (renL (renId (reach sto' fuelR (refsL vs') [])) vs') (pickS (renId (reach sto' fuelR (refsL vs') [])) sto' (reach sto' fuelR (refsL vs') [])) with
          | some (out, sto1) => if (reach sto' fuelR (refsL vs') []).length ≤ sto1.length then
              some (renOut (backId (reach sto' fuelR (refsL vs') []) sto'.length) out, putBack (backId (reach sto' fuelR (refsL vs') []) sto'.length) (reach sto' fuelR (refsL vs') []) sto1 sto') else none
          | none => none)
      | none => none) = some r → ∃ k, (match prep (byref g) 0 vs sto with
      | some (vs', sto') =>
        (match callF V X k g (renL (renId (reach sto' fuelR (refsL vs') [])) vs') (pickS (renId (reach sto' fuelR (refsL vs') [])) sto' (reach sto' fuelR (refsL vs') [])) with
          | some (out, sto1) => if (reach sto' fuelR (refsL vs') []).length ≤ sto1.length then
              some (renOut (backId (reach sto' fuelR (refsL vs') []) sto'.length) out, putBack (backId (reach sto' fuelR (refsL vs') []) sto'.length) (reach sto' fuelR (refsL vs') []) sto1 sto') else none
          | none => none)
      | none => none) = some r := by
    intro g vs h
    split at h
    · split at h
      · rename_i out sto1 hc
        obtain ⟨k, hk⟩ := lim_elim hc
        exact ⟨k, by rw [hk]; exact h⟩
      · cases h
    · cases h
  split at h
  · exact go _ _ h
  · exact go _ _ h
  · cases h
theorem pureCall_lim {f : AV} {args : List AV} {r : AV} (h : pureCall (lim V X) f args = some r) : ∃ k, pureCall (callF V X k) f args = some r := by
  unfold pureCall at h ⊢
  split at h
  · split at h
    · rename_i hd
      split at h
      · rename_i x hc
        obtain ⟨k, hk⟩ := lim_elim hc
        exact ⟨k, by rw [if_pos hd, hk]; exact h⟩
      · cases h
    · cases h
  · cases h
theorem evalOps_lim : ∀ {l : List VOper} {st : St} {r : Ex × St}, evalOps (lim V X) byref l st = some r → ∃ k, evalOps (callF V X k) byref l st = some r
  | [], st, r, h => ⟨0, h⟩
  | o :: l, st, r, h => by
    simp only [evalOps] at h ⊢
    split at h
    · cases h
    · split at h
      · rename_i hw
        split at h
        · rename_i f args
          split at h
          · rename_i v sto' hc
            obtain ⟨k1, h1⟩ := callOp_lim hc
            obtain ⟨k2, h2⟩ := evalOps_lim h
            refine ⟨max k1 k2, ?_⟩
            rw [callOp_le (callF_up (Nat.le_max_left k1 k2)) h1]
            simp only [hw, if_true]
            exact evalOps_le (callF_up (Nat.le_max_right k1 k2)) h2
          · rename_i v sto' hc
            obtain ⟨k1, h1⟩ := callOp_lim hc
            refine ⟨k1, ?_⟩
            rw [h1]
            simp only [hw, if_true]
            exact h
          · cases h
        · simp only [hw, if_true]
          exact ⟨0, h⟩
        · rename_i hn1 hn2
          split at h
          · rename_i v sto' he
            simp only [hw, if_true]
            exact evalOps_lim h
          · cases h
      · rename_i hw
        obtain ⟨k, hk⟩ := evalOps_lim h
        exact ⟨k, by rw [if_neg hw]; exact hk⟩
theorem effQ_no {C C' : Calling} {o : VOper} {env : Env} {sto : List Obj} {r : AV × List Obj} (h : effQ C o env sto = some r) : valQ C' o env sto = none := by
  unfold effQ at h
  split at h
  · rename_i f args e
    split at h
    · rename_i hm
      unfold valQ
      rw [hm.2.1]
      dsimp only
      rw [if_pos rfl]
      by_cases hmp : o.apart.contains mapMark = true
      · have hap : apartOk o env = false := by
          unfold apartOk
          rw [e]
          dsimp only
          rw [hmp]
          rfl
        rw [hap]
        rfl
      rw [e]
      have : pureCall C' (f.ev env) (evs env args) = none := by
        have hn := hm.2.2.resolve_right hmp
        unfold needsE at hn
        unfold pureCall
        split at hn
        · rename_i g a b e2
          rw [if_neg (by simpa using hn)]
        · rename_i hne
          first
            | rfl
            | (split
               · rename_i g a b e2; exact absurd e2 (hne _ _ _)
               · rfl)
            | simp_all
      simp [evalQop, this]
    · cases h
  · cases h
theorem effQ_lim {o : VOper} {env : Env} {sto : List Obj} {r : AV × List Obj} (h : effQ (lim V X) o env sto = some r) : ∃ k, effQ (callF V X k) o env sto = some r := by
  unfold effQ at h ⊢
  split at h
  · split at h
    · rename_i hm
      split at h
      · rename_i x stx hc
        obtain ⟨k, hk⟩ := callOp_lim hc
        exact ⟨k, by rw [if_pos hm, hk]; exact h⟩
      · cases h
    · cases h
  · cases h
theorem stepQ_lim {o : VOper} {st st' : St} (hs : stepQ (lim V X) o st = some st') : ∃ k, stepQ (callF V X k) o st = some st' := by
  unfold stepQ at hs ⊢
  split at hs
  · rename_i v sto' hv
    unfold valE at hv
    split at hv
    case h_2 =>
      obtain ⟨k, hk⟩ := effQ_lim hv
      exact ⟨k, by unfold valE; rw [effQ_no (C' := callF V X k) hv, hk]; exact hs⟩
    rename_i r0 hv'
    cases hv
    replace hv := hv'
    have : ∃ k, valQ (callF V X k) o st.env st.sto = some (v, sto') := by
      unfold valQ at hv ⊢
      split at hv
      · cases hv
      · split at hv
        · rename_i hw
          simp only [hw, if_true]
          split at hv
          case isFalse => cases hv
          rename_i hap
          simp only [hap, if_true]
          by_cases hc : ∃ f xs, o.op = .call f xs
          · obtain ⟨f, xs, e⟩ := hc
            rw [e] at hv ⊢
            simp only [evalQop] at hv ⊢
            split at hv
            · rename_i v' hp
              obtain ⟨k, hk⟩ := pureCall_lim hp
              exact ⟨k, by rw [hk]; exact hv⟩
            · cases hv
          · refine ⟨0, ?_⟩
            cases ho : o.op <;> rw [ho] at hv <;> first | exact hv | exact absurd ⟨_, _, ho⟩ hc
        · rename_i hw
          exact ⟨0, by rw [if_neg hw]; exact hv⟩
    obtain ⟨k, hk⟩ := this
    exact ⟨k, by rw [valE_of hk]; exact hs⟩
  · cases hs
theorem evalQ_lim : ∀ {l : List VOper} {st r : St}, evalQ (lim V X) l st = some r → ∃ k, evalQ (callF V X k) l st = some r
  | [], st, r, h => ⟨0, h⟩
  | o :: l, st, r, h => by
    simp only [evalQ] at h
    split at h
    · rename_i st' hs
      obtain ⟨k1, h1⟩ := stepQ_lim hs
      obtain ⟨k2, h2⟩ := evalQ_lim h
      refine ⟨max k1 k2, ?_⟩
      have e1 : evalQ (callF V X (max k1 k2)) [o] st = some st' := evalQ_le (callF_up (Nat.le_max_left k1 k2)) (l := [o]) (by simp only [evalQ, h1])
      simp only [evalQ] at e1 ⊢
      cases hs' : stepQ (callF V X (max k1 k2)) o st with
      | none => rw [hs'] at e1; cases e1
      | some s =>
        rw [hs'] at e1
        cases e1
        exact evalQ_le (callF_up (Nat.le_max_right k1 k2)) h2
    · cases h
theorem iter_lim {g : Nat → St → Option (Ex × St)} {f : St → Option (Ex × St)} (hup : ∀ k k' st r, k ≤ k' → g k st = some r → g k' st = some r) (hf : ∀ st r, f st = some r → ∃ k, g k st = some r) : ∀ {n : Nat} {st : St} {r : Ex × St}, iter f n st = some r → ∃ k, iter (g k) n st = some r
  | 0, _, _, h => by simp [iter] at h
  | n + 1, st, r, h => by
    simp only [iter] at h
    split at h
    · rename_i st' h1
      obtain ⟨k1, e1⟩ := hf _ _ h1
      obtain ⟨k2, e2⟩ := iter_lim hup hf h
      refine ⟨max k1 k2, ?_⟩
      simp only [iter, hup _ _ _ _ (Nat.le_max_left k1 k2) e1]
      exact iter_le (Le.refl noX) (fun st r h => hup _ _ st r (Nat.le_max_right k1 k2) h) (Nat.le_refl n) e2
    · rename_i e st' hne h1
      obtain ⟨k1, e1⟩ := hf _ _ h1
      refine ⟨k1, ?_⟩
      simp only [iter, e1]
      cases e <;> first | exact h | exact (hne rfl).elim
    · cases h
theorem eval_up {k k' : Nat} (hk : k ≤ k') {pin n n' : Nat} (hn : n ≤ n') {c : VCode} {st : St} {r : Ex × St} (h : eval (callF V X k) byref pin n c st = some r) : eval (callF V X k') byref pin n' c st = some r := eval_le (callF_up hk) hn h
theorem eval_lim {pin n : Nat} : ∀ {c : VCode} {st : St} {r : Ex × St}, eval (lim V X) byref pin n c st = some r → ∃ k, eval (callF V X k) byref pin n c st = some r
  | .skip, st, r, h => ⟨0, h⟩
  | .reg false ops keep, st, r, h => by
    simp only [eval] at h ⊢
    split at h
    · rename_i e st' h1
      obtain ⟨k, hk⟩ := evalOps_lim h1
      exact ⟨k, by rw [hk]; exact h⟩
    · cases h
  | .reg true ops keep, st, r, h => by
    simp only [eval] at h ⊢
    split at h
    · rename_i st' h1
      obtain ⟨k, hk⟩ := evalQ_lim h1
      exact ⟨k, by rw [hk]; exact h⟩
    · cases h
  | .seq a b, st, r, h => by
    simp only [eval] at h ⊢
    split at h
    · rename_i st' h1
      obtain ⟨k1, e1⟩ := eval_lim h1
      obtain ⟨k2, e2⟩ := eval_lim h
      refine ⟨max k1 k2, ?_⟩
      rw [eval_up (Nat.le_max_left k1 k2) (Nat.le_refl n) e1]
      exact eval_up (Nat.le_max_right k1 k2) (Nat.le_refl n) e2
    · rename_i e st' hne h1
      obtain ⟨k1, e1⟩ := eval_lim h1
      refine ⟨k1, ?_⟩
      rw [e1]
      cases e <;> first | exact h | exact (hne rfl).elim
    · cases h
  | .cond c a b, st, r, h => by
    simp only [eval] at h ⊢
    split at h
    · split at h
      · rename_i ht; simp only [if_pos ht]; exact eval_lim h
      · rename_i ht; simp only [if_neg ht]; exact eval_lim h
    · cases h
  | .block id c, st, r, h => by
    simp only [eval] at h ⊢
    split at h
    · rename_i i st' h1
      obtain ⟨k, hk⟩ := eval_lim h1
      exact ⟨k, by rw [hk]; exact h⟩
    · rename_i e st' hne h1
      obtain ⟨k, hk⟩ := eval_lim h1
      refine ⟨k, ?_⟩
      rw [hk]
      cases e <;> first | exact h | exact (hne _ rfl).elim
    · cases h
  | .loop keep c, st, r, h => by
    simp only [eval] at h ⊢
    exact iter_lim (g := fun k st => eval (callF V X k) byref pin n c (gcSt pin keep st)) (fun k k' st r hk => eval_up hk (Nat.le_refl n)) (fun st r h => eval_lim h) h
  | .exit id, st, r, h => ⟨0, h⟩
  | .ret, st, r, h => ⟨0, h⟩
  | .virt t off es, st, r, h => ⟨0, h⟩
  | .frz t, st, r, h => ⟨0, h⟩
  | .stuck, st, r, h => by simp only [eval] at h; cases h
theorem evalFn_lim {n : Nat} {fn : VFn} {args : List AV} {sto : List Obj} {r : Out × List Obj} (h : evalFn (lim V X) byref n fn args sto = some r) : ∃ k, evalFn (callF V X k) byref n fn args sto = some r := by
  unfold evalFn at h ⊢
  split at h
  · rename_i ha
    simp only [if_pos ha]
    have key : ∀ x, eval (lim V X) byref sto.length n fn.code ⟨numbered 0 args, sto⟩ = some x → ∃ k, eval (callF V X k) byref sto.length n fn.code ⟨numbered 0 args, sto⟩ = some x := fun x hx => eval_lim hx
    split at h
    · rename_i st h1
      obtain ⟨k, hk⟩ := key _ h1
      exact ⟨k, by rw [hk]; exact h⟩
    · rename_i st h1
      obtain ⟨k, hk⟩ := key _ h1
      exact ⟨k, by rw [hk]; exact h⟩
    · rename_i x st h1
      obtain ⟨k, hk⟩ := key _ h1
      exact ⟨k, by rw [hk]; exact h⟩
    · cases h
  · cases h
end
def byrefOf (V : FuncId → Option VFn) : FuncId → List Nat := fun g => match V g with
  | some h => h.byref
  | none => []
theorem lim_fn {V : FuncId → Option VFn} {X : Calling} {f : FuncId} {fn : VFn} (hV : V f = some fn) {args : List AV} {sto : List Obj} {r : Out × List Obj} (hX : X f args sto = none) (h : ∃ n0, ∀ n, n0 ≤ n → evalFn (lim V X) (byrefOf V) n fn args sto = some r) : lim V X f args sto = some r := by
  obtain ⟨n, h⟩ := h
  obtain ⟨k, hk⟩ := evalFn_lim (h n (Nat.le_refl n))
  refine lim_of (k := max n k + 1) ?_
  have e1 : callF V X (max n k + 1) f args sto = evalFn (callF V X (max n k)) (byrefOf V) (max n k) fn args sto := by simp only [callF, hX, hV]; rfl
  rw [e1]
  exact evalFn_le (callF_up (Nat.le_max_right n k)) (Nat.le_max_left n k) hk
theorem lim_x {V : FuncId → Option VFn} {X : Calling} {f : FuncId} {args : List AV} {sto : List Obj} {r : Out × List Obj} (h : X f args sto = some r) : lim V X f args sto = some r :=
  lim_of (k := 0) (by simp only [callF]; exact h)
theorem lim_sound {P : Program} (hm : P.follows .mixedOrders = true) {V : FuncId → Option VFn} (hV : TableOk P V) {X : Calling} (hX : Sound P X) : Sound P (lim V X) := by
  intro f args sto out sto' h
  obtain ⟨k, hk⟩ := lim_elim h
  exact callF_sound hm hV hX k f args sto out sto' hk
def Lp (C : Calling) (byref : FuncId → List Nat) (pin : Nat) (keep : List Nat) (c : VCode) (S : St) (r : Ex × St) : Prop :=
  ∃ n0, ∀ n, n0 ≤ n → ∀ st, gcSt pin keep st = S → iter (fun st => eval C byref pin n c (gcSt pin keep st)) n st = some r
theorem Lp.step {C : Calling} {byref : FuncId → List Nat} {pin : Nat} {keep : List Nat} {c : VCode} {S S1 : St} {r : Ex × St} (st1 : St) (h : ∃ n0, ∀ n, n0 ≤ n → eval C byref pin n c S = some (.nrm, st1)) (hg : gcSt pin keep st1 = S1) (h2 : Lp C byref pin keep c S1 r) : Lp C byref pin keep c S r := by
  obtain ⟨n1, h1⟩ := h
  obtain ⟨n2, h2⟩ := h2
  refine ⟨max n1 n2 + 1, fun n hn st hst => ?_⟩
  obtain ⟨m, rfl⟩ : ∃ m, n = m + 1 := ⟨n - 1, by omega⟩
  simp only [iter]
  rw [hst, h1 (m + 1) (by omega)]
  dsimp only
  exact iter_le (Le.refl C) (fun st r hh => eval_le (Le.refl C) (Nat.le_succ m) hh) (Nat.le_refl m) (h2 m (by omega) st1 hg)
theorem Lp.exit {C : Calling} {byref : FuncId → List Nat} {pin : Nat} {keep : List Nat} {c : VCode} {S : St} {e : Ex} {st1 : St} (h : ∃ n0, ∀ n, n0 ≤ n → eval C byref pin n c S = some (e, st1)) (he : e ≠ .nrm) : Lp C byref pin keep c S (e, st1) := by
  obtain ⟨n1, h1⟩ := h
  refine ⟨n1 + 1, fun n hn st hst => ?_⟩
  obtain ⟨m, rfl⟩ : ∃ m, n = m + 1 := ⟨n - 1, by omega⟩
  simp only [iter]
  rw [hst, h1 (m + 1) (by omega)]
  cases e <;> first | rfl | exact (he rfl).elim
end Go.Proofs.YtjnfkifdgojdaaaGreat.V

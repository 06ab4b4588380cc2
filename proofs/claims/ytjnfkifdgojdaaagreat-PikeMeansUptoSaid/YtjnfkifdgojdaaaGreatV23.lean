/- More fuel does no harm. -/
import Derived.Test.YtjnfkifdgojdaaaGreatV22
namespace Go.Proofs.YtjnfkifdgojdaaaGreat.V
open Go
set_option linter.unusedVariables false
set_option linter.unusedSimpArgs false
set_option linter.unusedSectionVars false

def Le (C C' : Calling) : Prop := ∀ f a s r, C f a s = some r → C' f a s = some r
section
variable {C C' : Calling} (hC : Le C C') {byref : FuncId → List Nat}
include hC
theorem callOp_le {f : AV} {args : List AV} {sto : List Obj} {r : Out × List Obj} (h : callOp C byref f args sto = some r) : callOp C' byref f args sto = some r := by
  unfold callOp at h ⊢
  have go : ∀ (g : FuncId) (vs : List AV), (match prep (byref g) 0 vs sto with
      | some (vs', sto') =>
        (match C g (renL (renId (reach sto' fuelR (refsL vs') [])) vs') (pickS (renId (reach sto' fuelR (refsL vs') [])) sto' (reach sto' fuelR (refsL vs') [])) with
          | some (out, sto1) => if (reach sto' fuelR (refsL vs') []).length ≤ sto1.length then
              some (renOut (backId (reach sto' fuelR (refsL vs') []) sto'.length) out, putBack (backId (reach sto' fuelR (refsL vs') []) sto'.length) (reach sto' fuelR (refsL vs') []) sto1 sto') else none
          | none => none)
      | none => none) = some r → (match prep (byref g) 0 vs sto with
      | some (vs', sto') =>
        (match C' g (renL (renId (reach sto' fuelR (refsL vs') [])) vs') (pickS (renId (reach sto' fuelR (refsL vs') [])) sto' (reach sto' fuelR (refsL vs') [])) with
          | some (out, sto1) => if (reach sto' fuelR (refsL vs') []).length ≤ sto1.length then
              some (renOut (backId (reach sto' fuelR (refsL vs') []) sto'.length) out, putBack (backId (reach sto' fuelR (refsL vs') []) sto'.length) (reach sto' fuelR (refsL vs') []) sto1 sto') else none
          | none => none)
      | none => none) = some r := by
    intro g vs h
    split at h
    · split at h
      · rename_i out sto1 hc
        rw [hC _ _ _ _ hc]
        exact h
      · cases h
    · cases h
  split at h
  · exact go _ _ h
  · exact go _ _ h
  · cases h
theorem evalOps_le : ∀ {l : List VOper} {st : St} {r : Ex × St}, evalOps C byref l st = some r → evalOps C' byref l st = some r
  | [], st, r, h => h
  | o :: l, st, r, h => by
    simp only [evalOps] at h ⊢
    split at h
    · cases h
    · split at h
      · rename_i hw
        split at h
        · split at h
          · rename_i v sto' hc
            rw [callOp_le hC hc]
            simp only [hw, if_true]
            exact evalOps_le h
          · rename_i v sto' hc
            rw [callOp_le hC hc]
            simp only [hw, if_true]
            exact h
          · cases h
        · simp only [hw, if_true]
          exact h
        · rename_i hn1 hn2
          split at h
          · rename_i v sto' he
            simp only [hw, if_true]
            exact evalOps_le h
          · cases h
      · rename_i hw
        rw [if_neg hw]
        exact evalOps_le h
theorem pureCall_le {f : AV} {args : List AV} {r : AV} (h : pureCall C f args = some r) : pureCall C' f args = some r := by
  unfold pureCall at h ⊢
  split at h
  · split at h
    · rename_i hd
      split at h
      · rename_i x hc
        rw [if_pos hd, hC _ _ _ _ hc]
        exact h
      · cases h
    · cases h
  · cases h
theorem effQ_le {o : VOper} {env : Env} {sto : List Obj} {r : AV × List Obj} (h : effQ C o env sto = some r) : effQ C' o env sto = some r := by
  unfold effQ at h ⊢
  split at h
  · split at h
    · rename_i hm
      rw [if_pos hm]
      split at h
      · rename_i x stx hc
        rw [callOp_le hC hc]; exact h
      · cases h
    · cases h
  · cases h
theorem effQ_none {o : VOper} {env : Env} {sto : List Obj} {r : AV × List Obj} (h : effQ C o env sto = some r) : valQ C' o env sto = none := by
  unfold effQ at h
  split at h
  · rename_i f args e
    split at h
    · rename_i hm
      unfold valQ
      rw [hm.2.1]
      dsimp only
      rw [if_pos rfl]
      by_cases hmp : o.apart.contains mapMark = true
      · have hap : apartOk o env = false := by
          unfold apartOk
          rw [e]
          dsimp only
          rw [hmp]
          rfl
        rw [hap]
        rfl
      rw [e]
      have : pureCall C' (f.ev env) (evs env args) = none := by
        have hn := hm.2.2.resolve_right hmp
        unfold needsE at hn
        unfold pureCall
        split at hn
        · rename_i g a b e2
          rw [if_neg (by simpa using hn)]
        · rename_i hne
          first
            | rfl
            | (split
               · rename_i g a b e2; exact absurd e2 (hne _ _ _)
               · rfl)
            | simp_all
      simp [evalQop, this]
    · cases h
  · cases h
theorem evalQ_le : ∀ {l : List VOper} {st r : St}, evalQ C l st = some r → evalQ C' l st = some r
  | [], st, r, h => h
  | o :: l, st, r, h => by
    simp only [evalQ] at h ⊢
    split at h
    · rename_i st' hs
      have : stepQ C' o st = some st' := by
        unfold stepQ at hs ⊢
        split at hs
        · rename_i v sto' hv
          suffices hsuff : valE C' o st.env st.sto = some (v, sto') by
            rw [hsuff]; exact hs
          unfold valE at hv
          split at hv
          case h_2 =>
            have h1 := effQ_le hC hv
            unfold valE
            rw [effQ_none hC hv]
            exact h1
          rename_i r0 hv'
          cases hv
          replace hv := hv'
          refine valE_of ?_
          have : valQ C' o st.env st.sto = some (v, sto') := by
            unfold valQ at hv ⊢
            split at hv
            · cases hv
            · split at hv
              · rename_i hw
                simp only [hw, if_true]
                split at hv
                case isFalse => cases hv
                rename_i hap
                simp only [hap, if_true]
                by_cases hc : ∃ f xs, o.op = .call f xs
                · obtain ⟨f, xs, e⟩ := hc
                  rw [e] at hv ⊢
                  simp only [evalQop] at hv ⊢
                  split at hv
                  · rename_i v' hp
                    rw [pureCall_le hC hp]
                    exact hv
                  · cases hv
                · cases ho : o.op <;> rw [ho] at hv <;> first | exact hv | exact absurd ⟨_, _, ho⟩ hc
              · rename_i hw
                rw [if_neg hw]
                exact hv
          exact this
        · cases hs
      rw [this]
      exact evalQ_le h
    · cases h
theorem iter_le {f f' : St → Option (Ex × St)} (hf : ∀ st r, f st = some r → f' st = some r) : ∀ {n n' : Nat} {st : St} {r : Ex × St}, n ≤ n' → iter f n st = some r → iter f' n' st = some r
  | 0, _, _, _, _, h => by simp [iter] at h
  | n + 1, 0, _, _, hn, _ => by omega
  | n + 1, n' + 1, st, r, hn, h => by
    simp only [iter] at h ⊢
    split at h
    · rename_i st' h1
      rw [hf _ _ h1]
      exact iter_le hf (by omega) h
    · rename_i e st' hne h1
      rw [hf _ _ h1]
      cases e <;> first | exact h | exact (hne rfl).elim
    · cases h
theorem eval_le {pin n n' : Nat} (hn : n ≤ n') : ∀ {c : VCode} {st : St} {r : Ex × St}, eval C byref pin n c st = some r → eval C' byref pin n' c st = some r
  | .skip, st, r, h => h
  | .reg false ops keep, st, r, h => by
    simp only [eval] at h ⊢
    split at h
    · rename_i e st' h1
      rw [evalOps_le hC h1]; exact h
    · cases h
  | .reg true ops keep, st, r, h => by
    simp only [eval] at h ⊢
    split at h
    · rename_i st' h1
      rw [evalQ_le hC h1]; exact h
    · cases h
  | .seq a b, st, r, h => by
    simp only [eval] at h ⊢
    split at h
    · rename_i st' h1
      rw [eval_le hn h1]
      exact eval_le hn h
    · rename_i e st' hne h1
      rw [eval_le hn h1]
      cases e <;> first | exact h | exact (hne rfl).elim
    · cases h
  | .cond c a b, st, r, h => by
    simp only [eval] at h ⊢
    split at h
    · split at h
      · rename_i ht; rw [if_pos ht]; exact eval_le hn h
      · rename_i ht; rw [if_neg ht]; exact eval_le hn h
    · cases h
  | .block id c, st, r, h => by
    simp only [eval] at h ⊢
    split at h
    · rename_i i st' h1
      rw [eval_le hn h1]; exact h
    · rename_i e st' hne h1
      rw [eval_le hn h1]
      cases e <;> first | exact h | exact (hne _ rfl).elim
    · cases h
  | .loop keep c, st, r, h => by
    simp only [eval] at h ⊢
    exact iter_le hC (fun st r h => eval_le hn h) hn h
  | .exit id, st, r, h => h
  | .ret, st, r, h => h
  | .virt t off es, st, r, h => h
  | .frz t, st, r, h => h
  | .stuck, st, r, h => by simp only [eval] at h; cases h
theorem evalFn_le {n n' : Nat} (hn : n ≤ n') {fn : VFn} {args : List AV} {sto : List Obj} {r : Out × List Obj} (h : evalFn C byref n fn args sto = some r) : evalFn C' byref n' fn args sto = some r := by
  unfold evalFn at h ⊢
  split at h
  · rename_i ha
    rw [if_pos ha]
    split at h
    · rename_i st h1; rw [eval_le hC hn h1]; exact h
    · rename_i st h1; rw [eval_le hC hn h1]; exact h
    · rename_i x st h1; rw [eval_le hC hn h1]; exact h
    · cases h
  · cases h
end
theorem callF_succ (V : FuncId → Option VFn) (X : Calling) : ∀ k, Le (callF V X k) (callF V X (k + 1))
  | 0 => fun f a s r h => by
    simp only [callF] at h ⊢
    rw [h]
  | k + 1 => fun f a s r h => by
    simp only [callF] at h ⊢
    split at h
    · exact h
    · split at h
      · exact evalFn_le (callF_succ V X k) (Nat.le_succ k) h
      · cases h
theorem callF_mono {V : FuncId → Option VFn} {X : Calling} {k k' : Nat} (h : k ≤ k') : Le (callF V X k) (callF V X k') := by
  induction h with
  | refl => exact fun _ _ _ _ h => h
  | step _ ih => exact fun f a s r h => callF_succ V X _ _ _ _ _ (ih _ _ _ _ h)
end Go.Proofs.YtjnfkifdgojdaaaGreat.V

/- Contracts: merging as the reference does it, ranges compared. -/
import Derived.Test.YtpghocjfmddpkaaVP
import Derived.Test.YtpghocjfmddpkaaN1
set_option linter.unusedSimpArgs false
set_option linter.unusedSectionVars false
namespace Go.Proofs.Ytpghocjfmddpkaa.V
open Go
set_option linter.unusedVariables false
theorem at_drop {α : Type} {l : List α} {k : Nat} {y : α} {r : List α} (h : l.drop k = y :: r) : l[(k : Int).toNat]? = some y ∧ l.drop (k + 1) = r ∧ k < l.length := by
  have hk : k < l.length := by
    apply Classical.byContradiction
    intro hn
    rw [List.drop_eq_nil_of_le (by omega)] at h
    cases h
  rw [List.drop_eq_getElem_cons hk] at h
  cases h
  exact ⟨by simp [hk], rfl, hk⟩
theorem drop_nil_le {α : Type} {l : List α} {k : Nat} (h : l.drop k = []) : l.length ≤ k := by simpa using h
theorem w64k {k : Nat} (h : k < 9223372036854775807) : w64 ((k : Int) + 1) := in64 (by omega) (by omega)
/-- What is small enough to be reckoned with. -/
instance : DecidableEq Range := fun a b => by
  cases a; cases b
  rw [Range.mk.injEq]
  infer_instance
def small (n : Nat) : Prop := n * 16 ≤ 140737488355300
theorem small_lt {n : Nat} (h : small n) : n < 9000000000000 := by unfold small at h; omega

set_option maxHeartbeats 2000000 in
theorem ref_ins {l : SL Range} {i : Int} {outt : Bool} {out : List Range} (hs : small out.length) (ho : ∀ r ∈ out, okR r) : ∀ (rest : List Range) (k : Nat) (x : Range) (next : List Range) (nextt put : Bool), out.drop k = rest → okR x → next.length + rest.length + (if put then 0 else 1) ≤ out.length + 1 →
    (∃ z0 z2 z3, ref09_Merge_l0 out x next l outt i nextt put k (ref09_Merge_l0_x0 out z0 (next ++ ins x put rest) l outt i z2 z3)) ∨
    (∃ z0 z1 z2 z3, ref09_Merge_l0 out x next l outt i nextt put k (ref09_Merge_l0_x1 out z0 z1 l outt i z2 z3) ∧ z1 ++ [z0] = next ++ ins x put rest)
  | [], k, x, next, nextt, put, hd, hx, hn => by
    have hk := drop_nil_le hd
    cases put with
    | true => exact .inl ⟨x, nextt, k, by rw [show next ++ ins x true [] = next by simp [ins]]; exact ref09_Merge_l0_e3 (by omega)⟩
    | false => exact .inr ⟨x, next, nextt, k, ref09_Merge_l0_e7 (by omega), by simp [ins]⟩
  | r :: rest, k, x, next, nextt, put, hd, hx, hn => by
    obtain ⟨h1, h2, h3⟩ := at_drop hd
    have hr : okR r := ho r (List.mem_of_mem_drop (by rw [hd]; exact List.mem_cons_self ..))
    have hsm := small_lt hs
    unfold okR top at hx hr
    have w1 : w64 (r.To + 1) := in64 (by omega) (by omega)
    have w2 : w64 (x.To + 1) := in64 (by omega) (by omega)
    have w3 : w64 ((k : Int) + 1) := w64k (by omega)
    have e1 : ((k : Int) + 1) = ((k + 1 : Nat) : Int) := by omega
    have lk : (k : Int) < (out.length : Int) := by omega
    unfold small at hs
    simp only [List.length_cons] at hn
    simp only [ins]
    split
    · rename_i c1
      have ih := ref_ins (l := l) (i := i) (outt := outt) (out := out) hs ho rest (k + 1) x (next ++ [r]) false put h2 hx (by simp only [List.length_append, List.length_singleton]; omega)
      have hb : (next.length + 1) * 16 ≤ 140737488355328 := by split at hn <;> omega
      rw [List.append_assoc, List.singleton_append] at ih
      cases put with
      | true =>
        rcases ih with ⟨z0, z2, z3, h⟩ | ⟨z0, z1, z2, z3, h, h'⟩
        · exact .inl ⟨z0, z2, z3, ref09_Merge_l0_s0 lk (by omega) h1 w1 c1 hb w3 h⟩
        · exact .inr ⟨z0, z1, z2, z3, ref09_Merge_l0_s0 lk (by omega) h1 w1 c1 hb w3 h, h'⟩
      | false =>
        rcases ih with ⟨z0, z2, z3, h⟩ | ⟨z0, z1, z2, z3, h, h'⟩
        · exact .inl ⟨z0, z2, z3, ref09_Merge_l0_s4 lk (by omega) h1 w1 c1 hb w3 h⟩
        · exact .inr ⟨z0, z1, z2, z3, ref09_Merge_l0_s4 lk (by omega) h1 w1 c1 hb w3 h, h'⟩
    · rename_i c1
      split
      · rename_i c2
        cases put with
        | true =>
          have ih := ref_ins (l := l) (i := i) (outt := outt) (out := out) hs ho rest (k + 1) x (next ++ [r]) false true h2 hx (by simp only [List.length_append, List.length_singleton]; simp at hn ⊢; omega)
          have hb : (next.length + 1) * 16 ≤ 140737488355328 := by simp at hn; omega
          rw [List.append_assoc] at ih
          rcases ih with ⟨z0, z2, z3, h⟩ | ⟨z0, z1, z2, z3, h, h'⟩
          · exact .inl ⟨z0, z2, z3, ref09_Merge_l0_s1 lk (by omega) h1 w1 c1 w2 c2 hb w3 h⟩
          · exact .inr ⟨z0, z1, z2, z3, ref09_Merge_l0_s1 lk (by omega) h1 w1 c1 w2 c2 hb w3 h, h'⟩
        | false =>
          have ih := ref_ins (l := l) (i := i) (outt := outt) (out := out) hs ho rest (k + 1) x ((next ++ [x]) ++ [r]) false true h2 hx (by simp only [List.length_append, List.length_singleton]; simp at hn ⊢; omega)
          have hb : (next.length + 1) * 16 ≤ 140737488355328 := by simp at hn; omega
          have hb2 : ((next ++ [x]).length + 1) * 16 ≤ 140737488355328 := by simp at hn ⊢; omega
          have e2 : next ++ [x] ++ [r] ++ ins x true rest = next ++ ((if false = true then [r] else [x, r]) ++ ins x true rest) := by simp
          rw [e2] at ih
          rcases ih with ⟨z0, z2, z3, h⟩ | ⟨z0, z1, z2, z3, h, h'⟩
          · exact .inl ⟨z0, z2, z3, ref09_Merge_l0_s5 lk (by omega) h1 w1 c1 w2 c2 hb hb2 w3 h⟩
          · exact .inr ⟨z0, z1, z2, z3, ref09_Merge_l0_s5 lk (by omega) h1 w1 c1 w2 c2 hb hb2 w3 h, h'⟩
      · rename_i c2
        have ih := ref_ins (l := l) (i := i) (outt := outt) (out := out) hs ho rest (k + 1) ⟨min x.From r.From, max x.To r.To⟩ next nextt put h2 (by unfold okR top; dsimp only; omega) (by omega)
        cases put with
        | true =>
          rcases ih with ⟨z0, z2, z3, h⟩ | ⟨z0, z1, z2, z3, h, h'⟩
          · exact .inl ⟨z0, z2, z3, ref09_Merge_l0_s2 lk (by omega) h1 w1 c1 w2 c2 w3 h⟩
          · exact .inr ⟨z0, z1, z2, z3, ref09_Merge_l0_s2 lk (by omega) h1 w1 c1 w2 c2 w3 h, h'⟩
        | false =>
          rcases ih with ⟨z0, z2, z3, h⟩ | ⟨z0, z1, z2, z3, h, h'⟩
          · exact .inl ⟨z0, z2, z3, ref09_Merge_l0_s6 lk (by omega) h1 w1 c1 w2 c2 w3 h⟩
          · exact .inr ⟨z0, z1, z2, z3, ref09_Merge_l0_s6 lk (by omega) h1 w1 c1 w2 c2 w3 h, h'⟩
theorem ref_merge_loop {l : SL Range} (hs : small (l.xs.length + 1)) : ∀ (rest : List Range) (k : Nat) (out : List Range) (outt : Bool), l.xs.drop k = rest → Canon out → out.length ≤ k → ∃ t z, ref09_Merge_l1 out l outt k (ref09_Merge_l1_x0 (rest.foldl stepM out) l t z)
  | [], k, out, outt, hd, hc, hk => ⟨outt, k, ref09_Merge_l1_e3 (by have := drop_nil_le hd; omega)⟩
  | r :: rest, k, out, outt, hd, hc, hk => by
    obtain ⟨h1, h2, h3⟩ := at_drop hd
    have hsm := small_lt hs
    have w3 : w64 ((k : Int) + 1) := w64k (by omega)
    have e1 : ((k : Int) + 1) = ((k + 1 : Nat) : Int) := by omega
    have lk : (k : Int) < (l.xs.length : Int) := by omega
    have hlen := stepM_length out r
    rw [List.foldl_cons]
    by_cases c : (clip r).From > (clip r).To
    · obtain ⟨t, z, h⟩ := ref_merge_loop hs rest (k + 1) out outt h2 hc (by omega)
      rw [show stepM out r = out by unfold stepM; rw [if_pos c]]
      exact ⟨t, z, ref09_Merge_l1_s0 lk (by omega) h1 c w3 h⟩
    · have hx : okR (clip r) := by
        unfold clip at c
        unfold okR clip
        dsimp only at c ⊢
        omega
      have e2 : stepM out r = ins (clip r) false out := by unfold stepM; rw [if_neg c]
      have hso : small out.length := by unfold small at hs ⊢; omega
      have hc2 := (stepM_spec r hc).1
      rcases ref_ins (l := l) (i := k) (outt := outt) hso hc.all out 0 (clip r) [] true false (by simp) hx (by simp) with ⟨z0, z2, z3, h⟩ | ⟨z0, z1, z2, z3, h, h'⟩
      · obtain ⟨t, z, hr⟩ := ref_merge_loop hs rest (k + 1) (stepM out r) z2 h2 hc2 (by omega)
        rw [e2] at hr ⊢
        exact ⟨t, z, ref09_Merge_l1_s1 lk (by omega) h1 c h w3 (by rw [List.nil_append]; exact hr)⟩
      · obtain ⟨t, z, hr⟩ := ref_merge_loop hs rest (k + 1) (stepM out r) false h2 hc2 (by omega)
        rw [e2] at hr ⊢
        rw [List.nil_append] at h'
        rw [← h'] at hr ⊢
        have hl : z1.length + 1 ≤ out.length + 1 := by
          have := congrArg List.length h'
          rw [e2] at hlen
          simp only [List.length_append, List.length_singleton] at this
          omega
        exact ⟨t, z, ref09_Merge_l1_s2 lk (by omega) h1 c h (by unfold small at hs; omega) w3 hr⟩
theorem ref_merge {l : SL Range} (hs : small (l.xs.length + 1)) : ∃ t, ref09_Merge l ⟨2, mergeR l.xs, t⟩ := by
  obtain ⟨t, z, h⟩ := ref_merge_loop hs l.xs 0 [] true (by simp) .nil (by simp)
  exact ⟨t, ref09_Merge_r0 h⟩
/-! ### Ranges held against each other -/
theorem eqK_range (a b : Range) : eqK [.int, .int] [(di a.From), (di a.To)] [(di b.From), (di b.To)] = some (decide (a = b)) := by
  show (if IntKind.i64 = IntKind.i64 then (if a.From = b.From then (if IntKind.i64 = IntKind.i64 then (if a.To = b.To then some true else some false) else none) else some false) else none) = _
  rw [if_pos rfl, if_pos rfl]
  cases a; cases b
  simp only [Range.mk.injEq]
  split
  · split <;> simp_all
  · simp_all
theorem ref_ranges_loop {a b : SL Range} (hs : small a.xs.length) (hl : a.xs.length = b.xs.length) : ∀ (ra rb : List Range) (k : Nat), a.xs.drop k = ra → b.xs.drop k = rb → (ra = rb ∧ ∃ z, ref09_Ranges_l0 a b k (ref09_Ranges_l0_x1 a b z)) ∨ (ra ≠ rb ∧ ref09_Ranges_l0 a b k ref09_Ranges_l0_x0)
  | [], rb, k, ha, hb => by
    have := drop_nil_le ha
    have : rb = [] := by rw [← hb]; exact List.drop_eq_nil_of_le (by omega)
    exact .inl ⟨this.symm, k, ref09_Ranges_l0_e2 (by omega)⟩
  | x :: ra, rb, k, ha, hb => by
    obtain ⟨h1, h2, h3⟩ := at_drop ha
    cases rb with
    | nil => have := drop_nil_le hb; omega
    | cons y rb =>
      obtain ⟨g1, g2, g3⟩ := at_drop hb
      have hsm := small_lt hs
      have w3 : w64 ((k : Int) + 1) := w64k (by omega)
      have e1 : ((k : Int) + 1) = ((k + 1 : Nat) : Int) := by omega
      have lk : (k : Int) < (a.xs.length : Int) := by omega
      by_cases e : x = y
      · subst e
        rcases ref_ranges_loop hs hl ra rb (k + 1) h2 g2 with ⟨e2, z, h⟩ | ⟨e2, h⟩
        · exact .inl ⟨by rw [e2], z, ref09_Ranges_l0_s0 lk (by omega) h1 g1 (by rw [eqK_range]; simp) w3 h⟩
        · exact .inr ⟨fun hh => e2 (List.cons.inj hh).2, ref09_Ranges_l0_s0 lk (by omega) h1 g1 (by rw [eqK_range]; simp) w3 h⟩
      · exact .inr ⟨fun hh => e (List.cons.inj hh).1, ref09_Ranges_l0_e1 lk (by omega) h1 g1 (by rw [eqK_range]; simp [e])⟩
theorem ref_ranges {a b : SL Range} (hs : small a.xs.length) : ref09_Ranges a b (decide (a.xs = b.xs)) := by
  by_cases hl : a.xs.length = b.xs.length
  · rcases ref_ranges_loop hs hl a.xs b.xs 0 (by simp) (by simp) with ⟨e, z, h⟩ | ⟨e, h⟩
    · rw [decide_eq_true e]; exact ref09_Ranges_r2 (by omega) h
    · rw [decide_eq_false e]; exact ref09_Ranges_r1 (by omega) h
  · rw [decide_eq_false (fun e => hl (congrArg List.length e))]
    exact ref09_Ranges_r0 (by omega)
end Go.Proofs.Ytpghocjfmddpkaa.V

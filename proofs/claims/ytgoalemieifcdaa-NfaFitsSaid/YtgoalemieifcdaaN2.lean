/- Contracts: merging as the reference does it, ranges compared. -/
import Derived.Test.YtgoalemieifcdaaVP
import Derived.Test.YtgoalemieifcdaaN1
namespace Go.Proofs.Ytgoalemieifcdaa.V
open Go
set_option linter.unusedVariables false
theorem at_drop {α : Type} {l : List α} {k : Nat} {y : α} {r : List α} (h : l.drop k = y :: r) : l[(k : Int).toNat]? = some y ∧ l.drop (k + 1) = r ∧ k < l.length := by
  have hk : k < l.length := by
    apply Classical.byContradiction
    intro hn
    rw [List.drop_eq_nil_of_le (by omega)] at h
    cases h
  rw [List.drop_eq_getElem_cons hk] at h
  cases h
  exact ⟨by simp [hk], rfl, hk⟩
theorem drop_nil_le {α : Type} {l : List α} {k : Nat} (h : l.drop k = []) : l.length ≤ k := by simpa using h
theorem w64k {k : Nat} (h : k < 9223372036854775807) : w64 ((k : Int) + 1) := in64 (by omega) (by omega)
/-- What is small enough to be reckoned with. -/
instance : DecidableEq Range := fun a b => by
  cases a; cases b
  rw [Range.mk.injEq]
  infer_instance
def small (n : Nat) : Prop := n * 16 ≤ 140737488355300
theorem small_lt {n : Nat} (h : small n) : n < 9000000000000 := by unfold small at h; omega

set_option maxHeartbeats 2000000 in
theorem eqK_range (a b : Range) : eqK [.int, .int] [(di a.From), (di a.To)] [(di b.From), (di b.To)] = some (decide (a = b)) := by
  show (if IntKind.i64 = IntKind.i64 then (if a.From = b.From then (if IntKind.i64 = IntKind.i64 then (if a.To = b.To then some true else some false) else none) else some false) else none) = _
  rw [if_pos rfl, if_pos rfl]
  cases a; cases b
  simp only [Range.mk.injEq]
  split
  · split <;> simp_all
  · simp_all
theorem equal_loop {a b : SL Range} (hs : small a.xs.length) (hl : a.xs.length = b.xs.length) : ∀ (ra rb : List Range) (k : Nat), a.xs.drop k = ra → b.xs.drop k = rb → (ra = rb ∧ ∃ z, sl_Equal_Range_l0 a b (a.xs.length : Int) k (sl_Equal_Range_l0_x1 a b (a.xs.length : Int) z)) ∨ (ra ≠ rb ∧ sl_Equal_Range_l0 a b (a.xs.length : Int) k sl_Equal_Range_l0_x0)
  | [], rb, k, ha, hb => by
    have := drop_nil_le ha
    have : rb = [] := by rw [← hb]; exact List.drop_eq_nil_of_le (by omega)
    exact .inl ⟨this.symm, k, sl_Equal_Range_l0_e2 (by omega)⟩
  | x :: ra, rb, k, ha, hb => by
    obtain ⟨h1, h2, h3⟩ := at_drop ha
    cases rb with
    | nil => have := drop_nil_le hb; omega
    | cons y rb =>
      obtain ⟨g1, g2, g3⟩ := at_drop hb
      have hsm := small_lt hs
      have w3 : w64 ((k : Int) + 1) := w64k (by omega)
      have e1 : ((k : Int) + 1) = ((k + 1 : Nat) : Int) := by omega
      have lk : (k : Int) < (a.xs.length : Int) := by omega
      by_cases e : x = y
      · subst e
        rcases equal_loop hs hl ra rb (k + 1) h2 g2 with ⟨e2, z, h⟩ | ⟨e2, h⟩
        · exact .inl ⟨by rw [e2], z, sl_Equal_Range_l0_s0 lk (by omega) h1 g1 (by rw [eqK_range]; simp) w3 h⟩
        · exact .inr ⟨fun hh => e2 (List.cons.inj hh).2, sl_Equal_Range_l0_s0 lk (by omega) h1 g1 (by rw [eqK_range]; simp) w3 h⟩
      · exact .inr ⟨fun hh => e (List.cons.inj hh).1, sl_Equal_Range_l0_e1 lk (by omega) h1 g1 (by rw [eqK_range]; simp [e])⟩
theorem equal_ranges {a b : SL Range} (hs : small a.xs.length) : sl_Equal_Range a b (decide (a.xs = b.xs)) := by
  by_cases hl : a.xs.length = b.xs.length
  · rcases equal_loop hs hl a.xs b.xs 0 (by simp) (by simp) with ⟨e, z, h⟩ | ⟨e, h⟩
    · rw [decide_eq_true e]; exact sl_Equal_Range_r2 (by omega) h
    · rw [decide_eq_false e]; exact sl_Equal_Range_r1 (by omega) h
  · rw [decide_eq_false (fun e => hl (congrArg List.length e))]
    exact sl_Equal_Range_r0 (by omega)
end Go.Proofs.Ytgoalemieifcdaa.V

/- What the second form's bound gives: lengths. -/
import Derived.Test.YtpghocjfmddpkaaV34
import Derived.Test.YtpghocjfmddpkaaRows
import Derived.OpenShut
import Derived.Deep.Slices
namespace Go.Proofs.Ytpghocjfmddpkaa.V
open Go
open Go.ChangeShapes Go.WideShapes Go.Deep
set_option linter.unusedVariables false
set_option linter.unnecessarySimpa false
set_option linter.unusedSimpArgs false
set_option linter.unusedSectionVars false
theorem bulk_pos {H : Type} (d : DataW H) : 1 ≤ Rows.uptoBulk d := by
  cases d with
  | lit l => cases l <;> simp [Rows.uptoBulk]
  | _ => simp [Rows.uptoBulk]
theorem bulk_len {H : Type} : ∀ l : List (DataW H), l.length ≤ Rows.uptoBulkAll l
  | [] => by simp [Rows.uptoBulkAll]
  | d :: r => by
    have h1 := bulk_pos d
    have h2 := bulk_len r
    simp only [Rows.uptoBulkAll, List.length_cons]
    omega
theorem bulk_mem {H : Type} {d : DataW H} : ∀ {l : List (DataW H)} {n : Nat}, Rows.uptoBulkAll l ≤ n → d ∈ l → Rows.uptoBulk d ≤ n
  | x :: r, n, h, hd => by
    simp only [Rows.uptoBulkAll] at h
    rcases List.mem_cons.1 hd with rfl | hd
    · omega
    · exact bulk_mem (by omega) hd
theorem slice_bulk {H : Type} {enc : TypeId × Value → H} {P : Program} {w : World} {spare : Nat → Bool} {F : Nat → Prop} {α : Type} {es : Nat} {e0 : α → D} {s : SL α} {v : Value} {t e : TypeId} {d : DataW H} {p : List MemPlace}
    (hd : DRel w F (slD es e0 s) v) (h : DataW.Trod enc P w 0 spare true t v d p) (ht : P.underlying t = some (.slice e)) : s.xs.length ≤ Rows.uptoBulk d := by
  have hv : ∃ a c, v = .slice a s.xs.length c := by
    have hl := len_dl e0 s.xs
    generalize hx : slD es e0 s = x at hd
    cases hd with
    | sl es' xs t' a cap b off cell hlc ht' ha hF hes hc h1 hr =>
      unfold slD at hx
      injection hx with h1 h2 h3
      subst h2
      exact ⟨a, cap, by rw [hl]⟩
    | _ => unfold slD at hx; cases hx
  obtain ⟨a, c, rfl⟩ := hv
  obtain ⟨m, hm⟩ := h
  rcases open_slice ht hm with ⟨h1, h2⟩ | ⟨a', len, cap, m', n', D', Pl, h1, _, _, _, _, h2, _⟩
  · have : (Value.slice a s.xs.length c) = .slice none 0 0 := by
      have := congrArg List.head? h1
      simpa [Value.cells] using this
    injection this with _ h3 _
    omega
  · have : (Value.slice a s.xs.length c) = .slice (some a') len cap := by
      have := congrArg List.head? h1
      simpa [Value.cells] using this
    injection this with _ h3 _
    have h4 : d = (.slice ((List.range len).map D') ((List.range (m' - len)).map fun j => D' (len + j))) := congrArg Prod.fst h2
    rw [h4]
    simp only [Rows.uptoBulk]
    have := bulk_len ((List.range len).map D')
    rw [List.length_map, List.length_range] at this
    omega
theorem str_bulk {H : Type} {enc : TypeId × Value → H} {P : Program} {w : World} {spare : Nat → Bool} {F : Nat → Prop} {s : ByteArray} {v : Value} {t : TypeId} {d : DataW H} {p : List MemPlace}
    (hd : DRel w F (.str s) v) (h : DataW.Trod enc P w 0 spare true t v d p) (ht : P.underlying t = some .string) : s.size ≤ Rows.uptoBulk d := by
  cases hd
  obtain ⟨m, hm⟩ := h
  obtain ⟨s', h1, h2, h3⟩ := DataW.trod_string ht hm
  have e : s = s' := by
    have := congrArg List.head? h1
    simpa [Value.cells] using this
  have h4 : d = .lit (.string s'.data.toList) := congrArg Prod.fst h2
  rw [h4, e]
  simp only [Rows.uptoBulk]
  rw [Array.length_toList]
  show s'.data.size ≤ _
  omega
end Go.Proofs.Ytpghocjfmddpkaa.V

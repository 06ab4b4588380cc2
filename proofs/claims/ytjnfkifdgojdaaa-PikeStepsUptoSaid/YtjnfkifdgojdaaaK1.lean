/- What is come to from some states: plain theory of a worklist. -/
import Derived.Test.YtjnfkifdgojdaaaV30
namespace Go.Proofs.Ytjnfkifdgojdaaa.V
set_option linter.unusedVariables false
set_option linter.unnecessarySimpa false
set_option linter.unusedSimpArgs false
set_option linter.unusedSectionVars false
theorem nodup_le : ∀ (n : Nat) (l : List Int), l.Nodup → (∀ x ∈ l, 0 ≤ x ∧ x < n) → l.length ≤ n
  | 0, l, _, hr => by
    cases l with
    | nil => exact Nat.le_refl _
    | cons x l =>
      have := hr x (List.mem_cons_self ..)
      omega
  | n + 1, l, hn, hr => by
    have h1 := nodup_le n (l.erase n) (hn.erase _) (fun x hx => by
      have hx2 := (hn.mem_erase_iff).1 hx
      have := hr x hx2.2
      have := hx2.1
      omega)
    by_cases hm : (n : Int) ∈ l
    · rw [List.length_erase_of_mem hm] at h1
      omega
    · rw [List.erase_of_not_mem hm] at h1
      omega
/-- What is come to. -/
inductive Clos (nx : Int → List Int) (src : List Int) : Int → Prop
  | base {x} (h : x ∈ src) : Clos nx src x
  | step {x y} (h : Clos nx src x) (hy : y ∈ nx x) : Clos nx src y
theorem Clos.mono {nx : Int → List Int} {a b : List Int} (h : ∀ x ∈ a, x ∈ b) {x : Int} (hx : Clos nx a x) : Clos nx b x := by
  induction hx with
  | base h1 => exact .base (h _ h1)
  | step _ hy ih => exact .step ih hy
theorem Clos.congr {nx : Int → List Int} {a b : List Int} (h : ∀ x, x ∈ a ↔ x ∈ b) (x : Int) : Clos nx a x ↔ Clos nx b x :=
  ⟨Clos.mono fun x hx => (h x).1 hx, Clos.mono fun x hx => (h x).2 hx⟩
theorem Clos.lt {nx : Int → List Int} {n : Nat} {src : List Int} (hs : ∀ x ∈ src, 0 ≤ x ∧ x < n) (hn : ∀ x : Int, 0 ≤ x → x < n → ∀ y ∈ nx x, 0 ≤ y ∧ y < n) {x : Int} (h : Clos nx src x) : 0 ≤ x ∧ x < n := by
  induction h with
  | base h => exact hs _ h
  | step _ hy ih => exact hn _ ih.1 ih.2 _ hy
structure WInv (nx : Int → List Int) (src all todo : List Int) : Prop where
  nodup : all.Nodup
  ina : ∀ x ∈ all, Clos nx src x
  int : ∀ x ∈ todo, Clos nx src x
  src : ∀ x ∈ src, x ∈ all ∨ x ∈ todo
  nxt : ∀ x ∈ all, ∀ y ∈ nx x, y ∈ all ∨ y ∈ todo
theorem WInv.start (nx : Int → List Int) (src : List Int) : WInv nx src [] src :=
  ⟨.nil, fun _ h => by simp at h, fun _ h => .base h, fun _ h => .inr h, fun _ h => by simp at h⟩
theorem WInv.skip {nx : Int → List Int} {src all todo : List Int} {x : Int} (h : WInv nx src all (todo ++ [x])) (hx : x ∈ all) : WInv nx src all todo :=
  ⟨h.nodup, h.ina, fun y hy => h.int y (List.mem_append_left _ hy), fun y hy => by
    rcases h.src y hy with h1 | h1
    · exact .inl h1
    · rcases List.mem_append.1 h1 with h2 | h2
      · exact .inr h2
      · rw [List.mem_singleton.1 h2]; exact .inl hx, fun z hz y hy => by
    rcases h.nxt z hz y hy with h1 | h1
    · exact .inl h1
    · rcases List.mem_append.1 h1 with h2 | h2
      · exact .inr h2
      · rw [List.mem_singleton.1 h2]; exact .inl hx⟩
theorem WInv.new {nx : Int → List Int} {src all todo : List Int} {x : Int} (h : WInv nx src all (todo ++ [x])) (hx : x ∉ all) : WInv nx src (all ++ [x]) (todo ++ nx x) := by
  have hc := h.int x (List.mem_append_right _ (List.mem_singleton_self x))
  refine ⟨?_, fun y hy => ?_, fun y hy => ?_, fun y hy => ?_, fun z hz y hy => ?_⟩
  · rw [List.nodup_append]
    refine ⟨h.nodup, List.pairwise_singleton _ _, fun a ha b hb => ?_⟩
    rw [List.mem_singleton.1 hb]
    rintro rfl
    exact hx ha
  · rcases List.mem_append.1 hy with h1 | h1
    · exact h.ina y h1
    · rw [List.mem_singleton.1 h1]; exact hc
  · rcases List.mem_append.1 hy with h1 | h1
    · exact h.int y (List.mem_append_left _ h1)
    · exact .step hc h1
  · rcases h.src y hy with h1 | h1
    · exact .inl (List.mem_append_left _ h1)
    · rcases List.mem_append.1 h1 with h2 | h2
      · exact .inr (List.mem_append_left _ h2)
      · exact .inl (List.mem_append_right _ h2)
  · rcases List.mem_append.1 hz with h0 | h0
    · rcases h.nxt z h0 y hy with h1 | h1
      · exact .inl (List.mem_append_left _ h1)
      · rcases List.mem_append.1 h1 with h2 | h2
        · exact .inr (List.mem_append_left _ h2)
        · exact .inl (List.mem_append_right _ h2)
    · rw [List.mem_singleton.1 h0] at hy
      exact .inr (List.mem_append_right _ hy)
theorem WInv.done {nx : Int → List Int} {src all : List Int} (h : WInv nx src all []) (x : Int) : x ∈ all ↔ Clos nx src x := by
  refine ⟨h.ina x, fun hx => ?_⟩
  induction hx with
  | base h1 =>
    rcases h.src _ h1 with h2 | h2
    · exact h2
    · simp at h2
  | step _ hy ih =>
    rcases h.nxt _ ih _ hy with h2 | h2
    · exact h2
    · simp at h2
theorem nodup_ext_length {a b : List Int} (ha : a.Nodup) (hb : b.Nodup) (h : ∀ x, x ∈ a ↔ x ∈ b) : a.length = b.length := by
  have one : ∀ (a b : List Int), a.Nodup → (∀ x ∈ a, x ∈ b) → a.length ≤ b.length := by
    intro a
    induction a with
    | nil => intro b _ _; simp
    | cons x a ih =>
      intro b hn hs
      have hx : x ∈ b := hs x (List.mem_cons_self ..)
      have h1 := ih (b.erase x) (List.nodup_cons.1 hn).2 (fun y hy => by
        have hne : y ≠ x := by rintro rfl; exact (List.nodup_cons.1 hn).1 hy
        exact (List.mem_erase_of_ne hne).2 (hs y (List.mem_cons_of_mem _ hy)))
      rw [List.length_erase_of_mem hx] at h1
      have := List.length_pos_of_mem hx
      simp only [List.length_cons]
      omega
  exact Nat.le_antisymm (one a b ha fun x hx => (h x).1 hx) (one b a hb fun x hx => (h x).2 hx)
end Go.Proofs.Ytjnfkifdgojdaaa.V

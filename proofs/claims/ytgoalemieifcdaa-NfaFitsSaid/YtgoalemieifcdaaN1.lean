/- Ranges, in plain Lean: sets of numbers by ranges in order; merging. -/
import Derived.Test.YtgoalemieifcdaaVE
namespace Go.Proofs.Ytgoalemieifcdaa.V
open Go

def top : Int := 1114111
/-- A range that may stand in a set. -/
def okR (r : Range) : Prop := 0 ≤ r.From ∧ r.From ≤ r.To ∧ r.To ≤ top
def gap (a b : Range) : Prop := a.To + 1 < b.From
/-- A set: ranges in order, none touching another. -/
inductive Canon : List Range → Prop
  | nil : Canon []
  | one {r} (h : okR r) : Canon [r]
  | cons {a b l} (h : okR a) (g : gap a b) (t : Canon (b :: l)) : Canon (a :: b :: l)
def inR (p : Int) (r : Range) : Prop := r.From ≤ p ∧ p ≤ r.To
def In (p : Int) (l : List Range) : Prop := ∃ r ∈ l, inR p r
theorem Canon.head {a : Range} {l : List Range} (h : Canon (a :: l)) : okR a := by cases h <;> assumption
theorem Canon.tail {a : Range} {l : List Range} (h : Canon (a :: l)) : Canon l := by
  cases h with
  | one h => exact .nil
  | cons h g t => exact t
theorem Canon.all {l : List Range} (h : Canon l) : ∀ r ∈ l, okR r := by
  induction h with
  | nil => intro r hr; cases hr
  | one h => intro r hr; simp at hr; subst hr; exact h
  | cons h g t ih =>
    intro r hr
    rcases List.mem_cons.1 hr with rfl | hr
    · exact h
    · exact ih r hr
/-- All that follows lies beyond. -/
theorem Canon.beyond {a : Range} {l : List Range} (h : Canon (a :: l)) : ∀ r ∈ l, a.To + 1 < r.From := by
  induction l generalizing a with
  | nil => intro r hr; cases hr
  | cons b l ih =>
    intro r hr
    cases h with
    | cons h g t =>
      rcases List.mem_cons.1 hr with rfl | hr
      · exact g
      · have h1 := ih t r hr
        have h2 := t.head
        unfold gap at g
        unfold okR at h2
        omega
theorem Canon.cons' {a : Range} {l : List Range} (h : okR a) (hl : Canon l) (hb : ∀ r ∈ l, a.To + 1 < r.From) : Canon (a :: l) := by
  cases l with
  | nil => exact .one h
  | cons b l => exact .cons h (hb b (List.mem_cons_self ..)) hl
theorem In_nil (p : Int) : ¬ In p [] := by rintro ⟨r, h, _⟩; cases h
theorem In_cons (p : Int) (a : Range) (l : List Range) : In p (a :: l) ↔ inR p a ∨ In p l := by
  unfold In
  constructor
  · rintro ⟨r, hr, hp⟩
    rcases List.mem_cons.1 hr with rfl | hr
    · exact .inl hp
    · exact .inr ⟨r, hr, hp⟩
  · rintro (h | ⟨r, hr, hp⟩)
    · exact ⟨a, List.mem_cons_self .., h⟩
    · exact ⟨r, List.mem_cons_of_mem _ hr, hp⟩
theorem In_append (p : Int) (a b : List Range) : In p (a ++ b) ↔ In p a ∨ In p b := by
  induction a with
  | nil => simp [In_nil]
  | cons x a ih => rw [List.cons_append, In_cons, In_cons, ih, or_assoc]
theorem In_perm {p : Int} {a b : List Range} (h : a.Perm b) : In p a ↔ In p b := by
  unfold In
  exact ⟨fun ⟨r, hr, hp⟩ => ⟨r, h.mem_iff.1 hr, hp⟩, fun ⟨r, hr, hp⟩ => ⟨r, h.mem_iff.2 hr, hp⟩⟩
/-- A set is told by what is in it. -/
theorem Canon.ext {a b : List Range} (ha : Canon a) (hb : Canon b) (h : ∀ p, In p a ↔ In p b) : a = b := by
  induction a generalizing b with
  | nil =>
    cases b with
    | nil => rfl
    | cons y b =>
      have hy := hb.head
      exact absurd ((h y.From).2 ⟨y, List.mem_cons_self .., Int.le_refl _, hy.2.1⟩) (In_nil _)
  | cons x a ih =>
    have hx := ha.head
    cases b with
    | nil => exact absurd ((h x.From).1 ⟨x, List.mem_cons_self .., Int.le_refl _, hx.2.1⟩) (In_nil _)
    | cons y b =>
      have hy := hb.head
      unfold okR at hx hy
      -- what is in a set lies at its first range's begin or beyond
      have low : ∀ {z : Range} {l : List Range} {p : Int}, Canon (z :: l) → In p (z :: l) → z.From ≤ p := by
        intro z l p hc hp
        rw [In_cons] at hp
        rcases hp with hp | ⟨r, hr, hp⟩
        · exact hp.1
        · have := hc.beyond r hr
          have := hc.head
          unfold okR at this
          unfold inR at hp
          omega
      have e1 : x.From = y.From := by
        have h1 := low hb ((h x.From).1 ⟨x, List.mem_cons_self .., Int.le_refl _, hx.2.1⟩)
        have h2 := low ha ((h y.From).2 ⟨y, List.mem_cons_self .., Int.le_refl _, hy.2.1⟩)
        omega
      -- one behind the end of the first range is in none
      have out : ∀ {z : Range} {l : List Range}, Canon (z :: l) → ¬ In (z.To + 1) (z :: l) := by
        intro z l hc hp
        rw [In_cons] at hp
        rcases hp with hp | ⟨r, hr, hp⟩
        · unfold inR at hp; omega
        · have := hc.beyond r hr
          unfold inR at hp
          omega
      have e2 : x.To = y.To := by
        apply Classical.byContradiction
        intro hne
        rcases Int.lt_or_gt_of_ne hne with hlt | hgt
        · exact out ha ((h (x.To + 1)).2 ((In_cons _ _ _).2 (.inl ⟨by omega, by omega⟩)))
        · exact out hb ((h (y.To + 1)).1 ((In_cons _ _ _).2 (.inl ⟨by omega, by omega⟩)))
      have e : x = y := by cases x; cases y; simp_all
      subst e
      congr 1
      refine ih ha.tail hb.tail fun p => ?_
      have hp := h p
      rw [In_cons, In_cons] at hp
      constructor
      · intro hi
        rcases hp.1 (.inr hi) with h1 | h1
        · obtain ⟨r, hr, hr2⟩ := hi
          have := ha.beyond r hr
          unfold inR at h1 hr2
          omega
        · exact h1
      · intro hi
        rcases hp.2 (.inr hi) with h1 | h1
        · obtain ⟨r, hr, hr2⟩ := hi
          have := hb.beyond r hr
          unfold inR at h1 hr2
          omega
        · exact h1

/-! ### One by one, as the reference does -/
def clip (r : Range) : Range := ⟨max r.From 0, min r.To top⟩
theorem inR_clip (p : Int) (r : Range) : inR p (clip r) ↔ (0 ≤ p ∧ p ≤ top) ∧ inR p r := by
  unfold inR clip
  dsimp only
  omega
def ins (x : Range) (put : Bool) : List Range → List Range
  | [] => if put then [] else [x]
  | r :: rs => if r.To + 1 < x.From then r :: ins x put rs
    else if x.To + 1 < r.From then (if put then [r] else [x, r]) ++ ins x true rs
    else ins ⟨min x.From r.From, max x.To r.To⟩ put rs
theorem ins_length (x : Range) (put : Bool) (l : List Range) : (ins x put l).length ≤ l.length + (if put then 0 else 1) := by
  induction l generalizing x put with
  | nil => cases put <;> simp [ins]
  | cons r l ih =>
    simp only [ins]
    split
    · have := ih x put; simp only [List.length_cons]; omega
    · split
      · have := ih x true
        cases put <;> simp at * <;> omega
      · have := ih ⟨min x.From r.From, max x.To r.To⟩ put
        simp only [List.length_cons]; omega
/-- What lies beyond stays, where the new one is put already. -/
theorem ins_true {x : Range} : ∀ {l : List Range}, (∀ r ∈ l, x.To + 1 < r.From) → okR x → (∀ r ∈ l, okR r) → ins x true l = l
  | [], _, _, _ => rfl
  | r :: l, h, hx, ho => by
    have h1 := h r (List.mem_cons_self ..)
    have h2 := ho r (List.mem_cons_self ..)
    unfold okR at hx h2
    simp only [ins]
    rw [if_neg (by omega), if_pos h1]
    simp only [if_true, List.singleton_append]
    rw [ins_true (fun r hr => h r (List.mem_cons_of_mem _ hr)) hx fun r hr => ho r (List.mem_cons_of_mem _ hr)]
theorem ins_false {x : Range} {l : List Range} (hx : okR x) (hl : Canon l) : Canon (ins x false l) ∧ (∀ p, In p (ins x false l) ↔ inR p x ∨ In p l) ∧ ∀ q, (q + 1 < x.From) → (∀ r ∈ l, q + 1 < r.From) → ∀ r ∈ ins x false l, q + 1 < r.From := by
  induction l generalizing x with
  | nil =>
    refine ⟨.one hx, fun p => ?_, fun q h1 _ r hr => ?_⟩
    · show In p [x] ↔ _
      rw [In_cons]
    · simp [ins] at hr; subst hr; exact h1
  | cons r l ih =>
    have hr := hl.head
    have hb := hl.beyond
    simp only [ins]
    split
    · rename_i h1
      obtain ⟨c, m, b⟩ := ih hx hl.tail
      refine ⟨.cons' hr c (b r.To h1 hb), fun p => ?_, fun q h2 h3 s hs => ?_⟩
      · rw [In_cons, m, In_cons]
        constructor
        · rintro (h | h | h)
          · exact .inr (.inl h)
          · exact .inl h
          · exact .inr (.inr h)
        · rintro (h | h | h)
          · exact .inr (.inl h)
          · exact .inl h
          · exact .inr (.inr h)
      · rcases List.mem_cons.1 hs with rfl | hs
        · exact h3 s (List.mem_cons_self ..)
        · exact b q h2 (fun t ht => h3 t (List.mem_cons_of_mem _ ht)) s hs
    · rename_i h1
      split
      · rename_i h2
        have hbx : ∀ s ∈ l, x.To + 1 < s.From := fun s hs => by
          have := hb s hs
          unfold okR at hr
          omega
        rw [ins_true hbx hx fun s hs => hl.tail.all s hs]
        refine ⟨.cons hx h2 hl, fun p => ?_, fun q h3 h4 s hs => ?_⟩
        · show In p (x :: r :: l) ↔ _
          rw [In_cons]
        · have hs : s ∈ x :: r :: l := hs
          rcases List.mem_cons.1 hs with rfl | hs
          · exact h3
          · exact h4 s hs
      · rename_i h2
        have hx' : okR ⟨min x.From r.From, max x.To r.To⟩ := by
          unfold okR at hx hr ⊢
          dsimp only
          omega
        obtain ⟨c, m, b⟩ := ih hx' hl.tail
        refine ⟨c, fun p => ?_, fun q h3 h4 s hs => ?_⟩
        · rw [m, In_cons]
          have : inR p ⟨min x.From r.From, max x.To r.To⟩ ↔ inR p x ∨ inR p r := by
            unfold okR at hx hr
            unfold inR
            dsimp only
            omega
          rw [this, or_assoc]
        · refine b q ?_ (fun t ht => h4 t (List.mem_cons_of_mem _ ht)) s hs
          have := h4 r (List.mem_cons_self ..)
          show q + 1 < min x.From r.From
          omega
def stepM (out : List Range) (r : Range) : List Range := if (clip r).From > (clip r).To then out else ins (clip r) false out
def mergeR (l : List Range) : List Range := l.foldl stepM []
theorem stepM_spec {out : List Range} (r : Range) (h : Canon out) : Canon (stepM out r) ∧ ∀ p, In p (stepM out r) ↔ In p out ∨ ((0 ≤ p ∧ p ≤ top) ∧ inR p r) := by
  unfold stepM
  split
  · rename_i h1
    refine ⟨h, fun p => ⟨.inl, ?_⟩⟩
    rintro (h2 | h2)
    · exact h2
    · have := (inR_clip p r).2 h2
      unfold inR at this
      omega
  · rename_i h1
    have hx : okR (clip r) := by
      unfold clip at h1
      unfold okR clip
      dsimp only at h1 ⊢
      omega
    obtain ⟨c, m, _⟩ := ins_false hx h
    refine ⟨c, fun p => ?_⟩
    rw [m, inR_clip, or_comm]
theorem merge_from {l : List Range} : ∀ {out : List Range}, Canon out → Canon (l.foldl stepM out) ∧ ∀ p, In p (l.foldl stepM out) ↔ In p out ∨ ((0 ≤ p ∧ p ≤ top) ∧ In p l) := by
  induction l with
  | nil => intro out h; exact ⟨h, fun p => by simp [In_nil]⟩
  | cons r l ih =>
    intro out h
    obtain ⟨c, m⟩ := stepM_spec r h
    obtain ⟨c2, m2⟩ := ih c
    refine ⟨c2, fun p => ?_⟩
    show In p (l.foldl stepM (stepM out r)) ↔ _
    rw [m2, m, In_cons]
    constructor
    · rintro ((h | h) | h)
      · exact .inl h
      · exact .inr ⟨h.1, .inl h.2⟩
      · exact .inr ⟨h.1, .inr h.2⟩
    · rintro (h | ⟨h, h2 | h2⟩)
      · exact .inl (.inl h)
      · exact .inl (.inr ⟨h, h2⟩)
      · exact .inr ⟨h, h2⟩
theorem mergeR_canon (l : List Range) : Canon (mergeR l) := (merge_from (l := l) .nil).1
theorem mergeR_in (l : List Range) (p : Int) : In p (mergeR l) ↔ (0 ≤ p ∧ p ≤ top) ∧ In p l := by
  have := (merge_from (l := l) .nil).2 p
  rw [show mergeR l = l.foldl stepM [] from rfl, this]
  simp [In_nil]
theorem mergeR_self {l : List Range} (h : Canon l) : mergeR l = l := by
  refine (mergeR_canon l).ext h fun p => ?_
  rw [mergeR_in]
  refine ⟨fun h => h.2, fun hp => ⟨?_, hp⟩⟩
  obtain ⟨r, hr, hp⟩ := hp
  have := h.all r hr
  unfold okR at this
  unfold inR at hp
  omega
theorem mergeR_iff (l : List Range) : mergeR l = l ↔ Canon l := ⟨fun h => h ▸ mergeR_canon l, mergeR_self⟩
theorem stepM_length (out : List Range) (r : Range) : (stepM out r).length ≤ out.length + 1 := by
  unfold stepM
  split
  · omega
  · have := ins_length (clip r) false out
    simpa using this
theorem foldM_length (l : List Range) : ∀ out : List Range, (l.foldl stepM out).length ≤ out.length + l.length := by
  induction l with
  | nil => intro out; simp
  | cons r l ih =>
    intro out
    have h1 := ih (stepM out r)
    have h2 := stepM_length out r
    simp only [List.foldl_cons, List.length_cons]
    omega

/-! ### Sorted, then from left to right, as the program does -/
def stepS (out : List Range) (r : Range) : List Range := match out.getLast? with
  | some a => if r.From ≤ a.To + 1 then out.dropLast ++ [⟨a.From, max a.To r.To⟩] else out ++ [r]
  | none => out ++ [r]
/-- From left to right: what is there is a set; its last range begins ahead of all that comes. -/
theorem stepS_spec {out : List Range} {r : Range} (h : Canon out) (hr : okR r) (hlast : ∀ a, out.getLast? = some a → a.From ≤ r.From) : Canon (stepS out r) ∧ (∀ p, In p (stepS out r) ↔ In p out ∨ inR p r) ∧ ∀ a, (stepS out r).getLast? = some a → a.From ≤ r.From := by
  induction out with
  | nil => exact ⟨.one hr, fun p => by show In p [r] ↔ _; rw [In_cons]; simp [In_nil], fun a ha => by simp [stepS] at ha; subst ha; exact Int.le_refl _⟩
  | cons x out ih =>
    cases out with
    | nil =>
      have hx := h.head
      have hl := hlast x rfl
      unfold stepS
      simp only [List.getLast?_singleton]
      split
      · rename_i h1
        simp only [List.dropLast_singleton, List.nil_append]
        refine ⟨.one (by unfold okR at hx hr ⊢; dsimp only; omega), fun p => ?_, fun a ha => ?_⟩
        · rw [In_cons, In_cons]
          have : inR p ⟨x.From, max x.To r.To⟩ ↔ inR p x ∨ inR p r := by
            unfold okR at hx hr
            unfold inR
            dsimp only
            omega
          rw [this]
          simp [In_nil]
        · simp at ha; subst ha; exact hl
      · rename_i h1
        refine ⟨.cons hx (by unfold gap; omega) (.one hr), fun p => ?_, fun a ha => ?_⟩
        · rw [In_append, In_cons p r]; simp [In_nil]
        · simp at ha; subst ha; exact Int.le_refl _
    | cons y out =>
      obtain ⟨c, m, b⟩ := ih h.tail (fun a ha => hlast a (by simpa using ha))
      have e : stepS (x :: y :: out) r = x :: stepS (y :: out) r := by
        unfold stepS
        have : (x :: y :: out).getLast? = (y :: out).getLast? := by simp
        rw [this]
        cases h2 : (y :: out).getLast? with
        | none => simp at h2
        | some a =>
          dsimp only
          split <;> simp
      rw [e]
      have hne : stepS (y :: out) r ≠ [] := by
        unfold stepS
        split
        · split <;> simp
        · simp
      have hb := h.beyond
      have hx := h.head
      refine ⟨.cons' h.head c fun s hs => ?_, fun p => ?_, fun a ha => ?_⟩
      · -- what follows begins at a number that was in it
        have hs' := c.all s hs
        have : In s.From (stepS (y :: out) r) := ⟨s, hs, Int.le_refl _, hs'.2.1⟩
        rcases (m s.From).1 this with ⟨t, ht, ht2⟩ | ht
        · have := hb t ht
          unfold inR at ht2
          omega
        · have h1 := hb y (List.mem_cons_self ..)
          obtain ⟨z, hz⟩ : ∃ z, (y :: out).getLast? = some z := by
            cases h2 : (y :: out).getLast? with
            | none => simp at h2
            | some z => exact ⟨z, rfl⟩
          have h2 := hlast z (by simpa using hz)
          have h3 := hb z (List.mem_of_getLast? hz)
          unfold inR at ht
          omega
      · rw [In_cons, m, In_cons p x (y :: out), or_assoc]
      · refine b a ?_
        rw [List.getLast?_cons_of_ne_nil hne] at ha
        exact ha
theorem foldS_spec {l : List Range} : ∀ {out : List Range}, Canon out → (∀ r ∈ l, okR r) → l.Pairwise (fun a b => a.From ≤ b.From) → (∀ a, out.getLast? = some a → ∀ r ∈ l, a.From ≤ r.From) → Canon (l.foldl stepS out) ∧ ∀ p, In p (l.foldl stepS out) ↔ In p out ∨ In p l := by
  induction l with
  | nil => intro out h _ _ _; exact ⟨h, fun p => by simp [In_nil]⟩
  | cons r l ih =>
    intro out h ho hp hl
    obtain ⟨c, m, b⟩ := stepS_spec h (ho r (List.mem_cons_self ..)) fun a ha => hl a ha r (List.mem_cons_self ..)
    obtain ⟨c2, m2⟩ := ih c (fun s hs => ho s (List.mem_cons_of_mem _ hs)) (List.Pairwise.of_cons hp) fun a ha s hs => by
      have h1 := b a ha
      have h2 := List.rel_of_pairwise_cons hp hs
      omega
    refine ⟨c2, fun p => ?_⟩
    show In p (l.foldl stepS (stepS out r)) ↔ _
    rw [m2, m, In_cons, or_assoc]
def clipped (l : List Range) : List Range := (l.map clip).filter fun r => decide (r.From ≤ r.To)
theorem clipped_ok (l : List Range) : ∀ r ∈ clipped l, okR r := by
  intro r hr
  simp only [clipped, List.mem_filter, List.mem_map, decide_eq_true_eq] at hr
  obtain ⟨⟨s, hs, rfl⟩, h⟩ := hr
  unfold clip at h ⊢
  unfold okR
  dsimp only at h ⊢
  omega
theorem clipped_in (l : List Range) (p : Int) : In p (clipped l) ↔ (0 ≤ p ∧ p ≤ top) ∧ In p l := by
  constructor
  · rintro ⟨r, hr, hp⟩
    simp only [clipped, List.mem_filter, List.mem_map] at hr
    obtain ⟨⟨s, hs, rfl⟩, _⟩ := hr
    have := (inR_clip p s).1 hp
    exact ⟨this.1, s, hs, this.2⟩
  · rintro ⟨h, s, hs, hp⟩
    have h2 := (inR_clip p s).2 ⟨h, hp⟩
    refine ⟨clip s, ?_, h2⟩
    simp only [clipped, List.mem_filter, List.mem_map, decide_eq_true_eq]
    refine ⟨⟨s, hs, rfl⟩, ?_⟩
    unfold inR at h2
    omega
/-- Sorted by where they begin and merged: the same set. -/
theorem sorted_merge {l s : List Range} (hp : s.Perm (clipped l)) (hs : s.Pairwise (fun a b => a.From ≤ b.From)) : s.foldl stepS [] = mergeR l := by
  obtain ⟨c, m⟩ := foldS_spec (l := s) .nil (fun r hr => clipped_ok l r (hp.mem_iff.1 hr)) hs fun a ha => by simp at ha
  refine c.ext (mergeR_canon l) fun p => ?_
  rw [m, mergeR_in, In_perm hp, clipped_in]
  simp [In_nil]
end Go.Proofs.Ytgoalemieifcdaa.V

/- Numbers: limbs, what is reckoned, texts (several texts together). -/
import Derived.Test.YtpghocjfmddpkaaVE
import Derived.Test.YtpghocjfmddpkaaVP
import Derived.Test.YtpghocjfmddpkaaV30
import Derived.Lib.DecodeN
import Derived.Test.YtpghocjfmddpkaaVPL
namespace Go.Proofs.Ytpghocjfmddpkaa.V
section
open Go

def top : Int := 1114111
/-- A range that may stand in a set. -/
def okR (r : Range) : Prop := 0 ≤ r.From ∧ r.From ≤ r.To ∧ r.To ≤ top
def gap (a b : Range) : Prop := a.To + 1 < b.From
/-- A set: ranges in order, none touching another. -/
inductive Canon : List Range → Prop
  | nil : Canon []
  | one {r} (h : okR r) : Canon [r]
  | cons {a b l} (h : okR a) (g : gap a b) (t : Canon (b :: l)) : Canon (a :: b :: l)
def inR (p : Int) (r : Range) : Prop := r.From ≤ p ∧ p ≤ r.To
def In (p : Int) (l : List Range) : Prop := ∃ r ∈ l, inR p r
theorem Canon.head {a : Range} {l : List Range} (h : Canon (a :: l)) : okR a := by cases h <;> assumption
theorem Canon.tail {a : Range} {l : List Range} (h : Canon (a :: l)) : Canon l := by
  cases h with
  | one h => exact .nil
  | cons h g t => exact t
theorem Canon.all {l : List Range} (h : Canon l) : ∀ r ∈ l, okR r := by
  induction h with
  | nil => intro r hr; cases hr
  | one h => intro r hr; simp at hr; subst hr; exact h
  | cons h g t ih =>
    intro r hr
    rcases List.mem_cons.1 hr with rfl | hr
    · exact h
    · exact ih r hr
/-- All that follows lies beyond. -/
theorem Canon.beyond {a : Range} {l : List Range} (h : Canon (a :: l)) : ∀ r ∈ l, a.To + 1 < r.From := by
  induction l generalizing a with
  | nil => intro r hr; cases hr
  | cons b l ih =>
    intro r hr
    cases h with
    | cons h g t =>
      rcases List.mem_cons.1 hr with rfl | hr
      · exact g
      · have h1 := ih t r hr
        have h2 := t.head
        unfold gap at g
        unfold okR at h2
        omega
theorem Canon.cons' {a : Range} {l : List Range} (h : okR a) (hl : Canon l) (hb : ∀ r ∈ l, a.To + 1 < r.From) : Canon (a :: l) := by
  cases l with
  | nil => exact .one h
  | cons b l => exact .cons h (hb b (List.mem_cons_self ..)) hl
theorem In_nil (p : Int) : ¬ In p [] := by rintro ⟨r, h, _⟩; cases h
theorem In_cons (p : Int) (a : Range) (l : List Range) : In p (a :: l) ↔ inR p a ∨ In p l := by
  unfold In
  constructor
  · rintro ⟨r, hr, hp⟩
    rcases List.mem_cons.1 hr with rfl | hr
    · exact .inl hp
    · exact .inr ⟨r, hr, hp⟩
  · rintro (h | ⟨r, hr, hp⟩)
    · exact ⟨a, List.mem_cons_self .., h⟩
    · exact ⟨r, List.mem_cons_of_mem _ hr, hp⟩
theorem In_append (p : Int) (a b : List Range) : In p (a ++ b) ↔ In p a ∨ In p b := by
  induction a with
  | nil => simp [In_nil]
  | cons x a ih => rw [List.cons_append, In_cons, In_cons, ih, or_assoc]
theorem In_perm {p : Int} {a b : List Range} (h : a.Perm b) : In p a ↔ In p b := by
  unfold In
  exact ⟨fun ⟨r, hr, hp⟩ => ⟨r, h.mem_iff.1 hr, hp⟩, fun ⟨r, hr, hp⟩ => ⟨r, h.mem_iff.2 hr, hp⟩⟩
/-- A set is told by what is in it. -/
theorem Canon.ext {a b : List Range} (ha : Canon a) (hb : Canon b) (h : ∀ p, In p a ↔ In p b) : a = b := by
  induction a generalizing b with
  | nil =>
    cases b with
    | nil => rfl
    | cons y b =>
      have hy := hb.head
      exact absurd ((h y.From).2 ⟨y, List.mem_cons_self .., Int.le_refl _, hy.2.1⟩) (In_nil _)
  | cons x a ih =>
    have hx := ha.head
    cases b with
    | nil => exact absurd ((h x.From).1 ⟨x, List.mem_cons_self .., Int.le_refl _, hx.2.1⟩) (In_nil _)
    | cons y b =>
      have hy := hb.head
      unfold okR at hx hy
      -- what is in a set lies at its first range's begin or beyond
      have low : ∀ {z : Range} {l : List Range} {p : Int}, Canon (z :: l) → In p (z :: l) → z.From ≤ p := by
        intro z l p hc hp
        rw [In_cons] at hp
        rcases hp with hp | ⟨r, hr, hp⟩
        · exact hp.1
        · have := hc.beyond r hr
          have := hc.head
          unfold okR at this
          unfold inR at hp
          omega
      have e1 : x.From = y.From := by
        have h1 := low hb ((h x.From).1 ⟨x, List.mem_cons_self .., Int.le_refl _, hx.2.1⟩)
        have h2 := low ha ((h y.From).2 ⟨y, List.mem_cons_self .., Int.le_refl _, hy.2.1⟩)
        omega
      -- one behind the end of the first range is in none
      have out : ∀ {z : Range} {l : List Range}, Canon (z :: l) → ¬ In (z.To + 1) (z :: l) := by
        intro z l hc hp
        rw [In_cons] at hp
        rcases hp with hp | ⟨r, hr, hp⟩
        · unfold inR at hp; omega
        · have := hc.beyond r hr
          unfold inR at hp
          omega
      have e2 : x.To = y.To := by
        apply Classical.byContradiction
        intro hne
        rcases Int.lt_or_gt_of_ne hne with hlt | hgt
        · exact out ha ((h (x.To + 1)).2 ((In_cons _ _ _).2 (.inl ⟨by omega, by omega⟩)))
        · exact out hb ((h (y.To + 1)).1 ((In_cons _ _ _).2 (.inl ⟨by omega, by omega⟩)))
      have e : x = y := by cases x; cases y; simp_all
      subst e
      congr 1
      refine ih ha.tail hb.tail fun p => ?_
      have hp := h p
      rw [In_cons, In_cons] at hp
      constructor
      · intro hi
        rcases hp.1 (.inr hi) with h1 | h1
        · obtain ⟨r, hr, hr2⟩ := hi
          have := ha.beyond r hr
          unfold inR at h1 hr2
          omega
        · exact h1
      · intro hi
        rcases hp.2 (.inr hi) with h1 | h1
        · obtain ⟨r, hr, hr2⟩ := hi
          have := hb.beyond r hr
          unfold inR at h1 hr2
          omega
        · exact h1

/-! ### One by one, as the reference does -/
def clip (r : Range) : Range := ⟨max r.From 0, min r.To top⟩
theorem inR_clip (p : Int) (r : Range) : inR p (clip r) ↔ (0 ≤ p ∧ p ≤ top) ∧ inR p r := by
  unfold inR clip
  dsimp only
  omega
def ins (x : Range) (put : Bool) : List Range → List Range
  | [] => if put then [] else [x]
  | r :: rs => if r.To + 1 < x.From then r :: ins x put rs
    else if x.To + 1 < r.From then (if put then [r] else [x, r]) ++ ins x true rs
    else ins ⟨min x.From r.From, max x.To r.To⟩ put rs
theorem ins_length (x : Range) (put : Bool) (l : List Range) : (ins x put l).length ≤ l.length + (if put then 0 else 1) := by
  induction l generalizing x put with
  | nil => cases put <;> simp [ins]
  | cons r l ih =>
    simp only [ins]
    split
    · have := ih x put; simp only [List.length_cons]; omega
    · split
      · have := ih x true
        cases put <;> simp at * <;> omega
      · have := ih ⟨min x.From r.From, max x.To r.To⟩ put
        simp only [List.length_cons]; omega
/-- What lies beyond stays, where the new one is put already. -/
theorem ins_true {x : Range} : ∀ {l : List Range}, (∀ r ∈ l, x.To + 1 < r.From) → okR x → (∀ r ∈ l, okR r) → ins x true l = l
  | [], _, _, _ => rfl
  | r :: l, h, hx, ho => by
    have h1 := h r (List.mem_cons_self ..)
    have h2 := ho r (List.mem_cons_self ..)
    unfold okR at hx h2
    simp only [ins]
    rw [if_neg (by omega), if_pos h1]
    simp only [if_true, List.singleton_append]
    rw [ins_true (fun r hr => h r (List.mem_cons_of_mem _ hr)) hx fun r hr => ho r (List.mem_cons_of_mem _ hr)]
theorem ins_false {x : Range} {l : List Range} (hx : okR x) (hl : Canon l) : Canon (ins x false l) ∧ (∀ p, In p (ins x false l) ↔ inR p x ∨ In p l) ∧ ∀ q, (q + 1 < x.From) → (∀ r ∈ l, q + 1 < r.From) → ∀ r ∈ ins x false l, q + 1 < r.From := by
  induction l generalizing x with
  | nil =>
    refine ⟨.one hx, fun p => ?_, fun q h1 _ r hr => ?_⟩
    · show In p [x] ↔ _
      rw [In_cons]
    · simp [ins] at hr; subst hr; exact h1
  | cons r l ih =>
    have hr := hl.head
    have hb := hl.beyond
    simp only [ins]
    split
    · rename_i h1
      obtain ⟨c, m, b⟩ := ih hx hl.tail
      refine ⟨.cons' hr c (b r.To h1 hb), fun p => ?_, fun q h2 h3 s hs => ?_⟩
      · rw [In_cons, m, In_cons]
        constructor
        · rintro (h | h | h)
          · exact .inr (.inl h)
          · exact .inl h
          · exact .inr (.inr h)
        · rintro (h | h | h)
          · exact .inr (.inl h)
          · exact .inl h
          · exact .inr (.inr h)
      · rcases List.mem_cons.1 hs with rfl | hs
        · exact h3 s (List.mem_cons_self ..)
        · exact b q h2 (fun t ht => h3 t (List.mem_cons_of_mem _ ht)) s hs
    · rename_i h1
      split
      · rename_i h2
        have hbx : ∀ s ∈ l, x.To + 1 < s.From := fun s hs => by
          have := hb s hs
          unfold okR at hr
          omega
        rw [ins_true hbx hx fun s hs => hl.tail.all s hs]
        refine ⟨.cons hx h2 hl, fun p => ?_, fun q h3 h4 s hs => ?_⟩
        · show In p (x :: r :: l) ↔ _
          rw [In_cons]
        · have hs : s ∈ x :: r :: l := hs
          rcases List.mem_cons.1 hs with rfl | hs
          · exact h3
          · exact h4 s hs
      · rename_i h2
        have hx' : okR ⟨min x.From r.From, max x.To r.To⟩ := by
          unfold okR at hx hr ⊢
          dsimp only
          omega
        obtain ⟨c, m, b⟩ := ih hx' hl.tail
        refine ⟨c, fun p => ?_, fun q h3 h4 s hs => ?_⟩
        · rw [m, In_cons]
          have : inR p ⟨min x.From r.From, max x.To r.To⟩ ↔ inR p x ∨ inR p r := by
            unfold okR at hx hr
            unfold inR
            dsimp only
            omega
          rw [this, or_assoc]
        · refine b q ?_ (fun t ht => h4 t (List.mem_cons_of_mem _ ht)) s hs
          have := h4 r (List.mem_cons_self ..)
          show q + 1 < min x.From r.From
          omega
def stepM (out : List Range) (r : Range) : List Range := if (clip r).From > (clip r).To then out else ins (clip r) false out
def mergeR (l : List Range) : List Range := l.foldl stepM []
theorem stepM_spec {out : List Range} (r : Range) (h : Canon out) : Canon (stepM out r) ∧ ∀ p, In p (stepM out r) ↔ In p out ∨ ((0 ≤ p ∧ p ≤ top) ∧ inR p r) := by
  unfold stepM
  split
  · rename_i h1
    refine ⟨h, fun p => ⟨.inl, ?_⟩⟩
    rintro (h2 | h2)
    · exact h2
    · have := (inR_clip p r).2 h2
      unfold inR at this
      omega
  · rename_i h1
    have hx : okR (clip r) := by
      unfold clip at h1
      unfold okR clip
      dsimp only at h1 ⊢
      omega
    obtain ⟨c, m, _⟩ := ins_false hx h
    refine ⟨c, fun p => ?_⟩
    rw [m, inR_clip, or_comm]
theorem merge_from {l : List Range} : ∀ {out : List Range}, Canon out → Canon (l.foldl stepM out) ∧ ∀ p, In p (l.foldl stepM out) ↔ In p out ∨ ((0 ≤ p ∧ p ≤ top) ∧ In p l) := by
  induction l with
  | nil => intro out h; exact ⟨h, fun p => by simp [In_nil]⟩
  | cons r l ih =>
    intro out h
    obtain ⟨c, m⟩ := stepM_spec r h
    obtain ⟨c2, m2⟩ := ih c
    refine ⟨c2, fun p => ?_⟩
    show In p (l.foldl stepM (stepM out r)) ↔ _
    rw [m2, m, In_cons]
    constructor
    · rintro ((h | h) | h)
      · exact .inl h
      · exact .inr ⟨h.1, .inl h.2⟩
      · exact .inr ⟨h.1, .inr h.2⟩
    · rintro (h | ⟨h, h2 | h2⟩)
      · exact .inl (.inl h)
      · exact .inl (.inr ⟨h, h2⟩)
      · exact .inr ⟨h, h2⟩
theorem mergeR_canon (l : List Range) : Canon (mergeR l) := (merge_from (l := l) .nil).1
theorem mergeR_in (l : List Range) (p : Int) : In p (mergeR l) ↔ (0 ≤ p ∧ p ≤ top) ∧ In p l := by
  have := (merge_from (l := l) .nil).2 p
  rw [show mergeR l = l.foldl stepM [] from rfl, this]
  simp [In_nil]
theorem stepM_length (out : List Range) (r : Range) : (stepM out r).length ≤ out.length + 1 := by
  unfold stepM
  split
  · omega
  · have := ins_length (clip r) false out
    simpa using this
theorem foldM_length (l : List Range) : ∀ out : List Range, (l.foldl stepM out).length ≤ out.length + l.length := by
  induction l with
  | nil => intro out; simp
  | cons r l ih =>
    intro out
    have h1 := ih (stepM out r)
    have h2 := stepM_length out r
    simp only [List.foldl_cons, List.length_cons]
    omega

/-! ### Sorted, then from left to right, as the program does -/
def stepS (out : List Range) (r : Range) : List Range := match out.getLast? with
  | some a => if r.From ≤ a.To + 1 then out.dropLast ++ [⟨a.From, max a.To r.To⟩] else out ++ [r]
  | none => out ++ [r]
/-- From left to right: what is there is a set; its last range begins ahead of all that comes. -/
theorem stepS_spec {out : List Range} {r : Range} (h : Canon out) (hr : okR r) (hlast : ∀ a, out.getLast? = some a → a.From ≤ r.From) : Canon (stepS out r) ∧ (∀ p, In p (stepS out r) ↔ In p out ∨ inR p r) ∧ ∀ a, (stepS out r).getLast? = some a → a.From ≤ r.From := by
  induction out with
  | nil => exact ⟨.one hr, fun p => by show In p [r] ↔ _; rw [In_cons]; simp [In_nil], fun a ha => by simp [stepS] at ha; subst ha; exact Int.le_refl _⟩
  | cons x out ih =>
    cases out with
    | nil =>
      have hx := h.head
      have hl := hlast x rfl
      unfold stepS
      simp only [List.getLast?_singleton]
      split
      · rename_i h1
        simp only [List.dropLast_singleton, List.nil_append]
        refine ⟨.one (by unfold okR at hx hr ⊢; dsimp only; omega), fun p => ?_, fun a ha => ?_⟩
        · rw [In_cons, In_cons]
          have : inR p ⟨x.From, max x.To r.To⟩ ↔ inR p x ∨ inR p r := by
            unfold okR at hx hr
            unfold inR
            dsimp only
            omega
          rw [this]
          simp [In_nil]
        · simp at ha; subst ha; exact hl
      · rename_i h1
        refine ⟨.cons hx (by unfold gap; omega) (.one hr), fun p => ?_, fun a ha => ?_⟩
        · rw [In_append, In_cons p r]; simp [In_nil]
        · simp at ha; subst ha; exact Int.le_refl _
    | cons y out =>
      obtain ⟨c, m, b⟩ := ih h.tail (fun a ha => hlast a (by simpa using ha))
      have e : stepS (x :: y :: out) r = x :: stepS (y :: out) r := by
        unfold stepS
        have : (x :: y :: out).getLast? = (y :: out).getLast? := by simp
        rw [this]
        cases h2 : (y :: out).getLast? with
        | none => simp at h2
        | some a =>
          dsimp only
          split <;> simp
      rw [e]
      have hne : stepS (y :: out) r ≠ [] := by
        unfold stepS
        split
        · split <;> simp
        · simp
      have hb := h.beyond
      have hx := h.head
      refine ⟨.cons' h.head c fun s hs => ?_, fun p => ?_, fun a ha => ?_⟩
      · -- what follows begins at a number that was in it
        have hs' := c.all s hs
        have : In s.From (stepS (y :: out) r) := ⟨s, hs, Int.le_refl _, hs'.2.1⟩
        rcases (m s.From).1 this with ⟨t, ht, ht2⟩ | ht
        · have := hb t ht
          unfold inR at ht2
          omega
        · have h1 := hb y (List.mem_cons_self ..)
          obtain ⟨z, hz⟩ : ∃ z, (y :: out).getLast? = some z := by
            cases h2 : (y :: out).getLast? with
            | none => simp at h2
            | some z => exact ⟨z, rfl⟩
          have h2 := hlast z (by simpa using hz)
          have h3 := hb z (List.mem_of_getLast? hz)
          unfold inR at ht
          omega
      · rw [In_cons, m, In_cons p x (y :: out), or_assoc]
      · refine b a ?_
        rw [List.getLast?_cons_of_ne_nil hne] at ha
        exact ha
theorem foldS_spec {l : List Range} : ∀ {out : List Range}, Canon out → (∀ r ∈ l, okR r) → l.Pairwise (fun a b => a.From ≤ b.From) → (∀ a, out.getLast? = some a → ∀ r ∈ l, a.From ≤ r.From) → Canon (l.foldl stepS out) ∧ ∀ p, In p (l.foldl stepS out) ↔ In p out ∨ In p l := by
  induction l with
  | nil => intro out h _ _ _; exact ⟨h, fun p => by simp [In_nil]⟩
  | cons r l ih =>
    intro out h ho hp hl
    obtain ⟨c, m, b⟩ := stepS_spec h (ho r (List.mem_cons_self ..)) fun a ha => hl a ha r (List.mem_cons_self ..)
    obtain ⟨c2, m2⟩ := ih c (fun s hs => ho s (List.mem_cons_of_mem _ hs)) (List.Pairwise.of_cons hp) fun a ha s hs => by
      have h1 := b a ha
      have h2 := List.rel_of_pairwise_cons hp hs
      omega
    refine ⟨c2, fun p => ?_⟩
    show In p (l.foldl stepS (stepS out r)) ↔ _
    rw [m2, m, In_cons, or_assoc]
def clipped (l : List Range) : List Range := (l.map clip).filter fun r => decide (r.From ≤ r.To)
theorem clipped_ok (l : List Range) : ∀ r ∈ clipped l, okR r := by
  intro r hr
  simp only [clipped, List.mem_filter, List.mem_map, decide_eq_true_eq] at hr
  obtain ⟨⟨s, hs, rfl⟩, h⟩ := hr
  unfold clip at h ⊢
  unfold okR
  dsimp only at h ⊢
  omega
theorem clipped_in (l : List Range) (p : Int) : In p (clipped l) ↔ (0 ≤ p ∧ p ≤ top) ∧ In p l := by
  constructor
  · rintro ⟨r, hr, hp⟩
    simp only [clipped, List.mem_filter, List.mem_map] at hr
    obtain ⟨⟨s, hs, rfl⟩, _⟩ := hr
    have := (inR_clip p s).1 hp
    exact ⟨this.1, s, hs, this.2⟩
  · rintro ⟨h, s, hs, hp⟩
    have h2 := (inR_clip p s).2 ⟨h, hp⟩
    refine ⟨clip s, ?_, h2⟩
    simp only [clipped, List.mem_filter, List.mem_map, decide_eq_true_eq]
    refine ⟨⟨s, hs, rfl⟩, ?_⟩
    unfold inR at h2
    omega
/-- Sorted by where they begin and merged: the same set. -/
theorem sorted_merge {l s : List Range} (hp : s.Perm (clipped l)) (hs : s.Pairwise (fun a b => a.From ≤ b.From)) : s.foldl stepS [] = mergeR l := by
  obtain ⟨c, m⟩ := foldS_spec (l := s) .nil (fun r hr => clipped_ok l r (hp.mem_iff.1 hr)) hs fun a ha => by simp at ha
  refine c.ext (mergeR_canon l) fun p => ?_
  rw [m, mergeR_in, In_perm hp, clipped_in]
  simp [In_nil]
end
section
open Go
set_option linter.unusedVariables false
theorem at_drop {α : Type} {l : List α} {k : Nat} {y : α} {r : List α} (h : l.drop k = y :: r) : l[(k : Int).toNat]? = some y ∧ l.drop (k + 1) = r ∧ k < l.length := by
  have hk : k < l.length := by
    apply Classical.byContradiction
    intro hn
    rw [List.drop_eq_nil_of_le (by omega)] at h
    cases h
  rw [List.drop_eq_getElem_cons hk] at h
  cases h
  exact ⟨by simp [hk], rfl, hk⟩
theorem drop_nil_le {α : Type} {l : List α} {k : Nat} (h : l.drop k = []) : l.length ≤ k := by simpa using h
theorem w64k {k : Nat} (h : k < 9223372036854775807) : w64 ((k : Int) + 1) := in64 (by omega) (by omega)
/-- What is small enough to be reckoned with. -/
instance : DecidableEq Range := fun a b => by
  cases a; cases b
  rw [Range.mk.injEq]
  infer_instance
def small (n : Nat) : Prop := n * 16 ≤ 140737488355300
theorem small_lt {n : Nat} (h : small n) : n < 9000000000000 := by unfold small at h; omega

/-! ### Ranges held against each other -/
theorem eqK_range (a b : Range) : eqK [.int, .int] [(di a.From), (di a.To)] [(di b.From), (di b.To)] = some (decide (a = b)) := by
  show (if IntKind.i64 = IntKind.i64 then (if a.From = b.From then (if IntKind.i64 = IntKind.i64 then (if a.To = b.To then some true else some false) else none) else some false) else none) = _
  rw [if_pos rfl, if_pos rfl]
  cases a; cases b
  simp only [Range.mk.injEq]
  split
  · split <;> simp_all
  · simp_all
end
section
open Go
set_option linter.unusedVariables false
set_option linter.unusedSimpArgs false
set_option linter.unusedSectionVars false
theorem clip_filter (r : Range) (rest : List Range) : clipped (r :: rest) = (if (clip r).From ≤ (clip r).To then [clip r] else []) ++ clipped rest := by
  unfold clipped
  rw [List.map_cons, List.filter_cons]
  by_cases h : (clip r).From ≤ (clip r).To
  · rw [if_pos (by simpa using h), if_pos h]; rfl
  · rw [if_neg (by simpa using h), if_neg h]; rfl
theorem clipped_length (l : List Range) : (clipped l).length ≤ l.length := by
  unfold clipped
  have := List.length_filter_le (fun r : Range => decide (r.From ≤ r.To)) (l.map clip)
  simpa using this
theorem rx_merge_l0 {l : SL Range} (hs : small (l.xs.length + 1)) : ∀ (rest : List Range) (k : Nat) (all : List Range) (t : Bool), l.xs.drop k = rest → all.length ≤ k → ∃ t' z, rx_Merge_l0 all t l (l.xs.length : Int) k (rx_Merge_l0_x0 (all ++ clipped rest) t' l (l.xs.length : Int) z)
  | [], k, all, t, hd, hk => ⟨t, k, by rw [show all ++ clipped [] = all by simp [clipped]]; exact rx_Merge_l0_e2 (by have := drop_nil_le hd; omega)⟩
  | r :: rest, k, all, t, hd, hk => by
    obtain ⟨h1, h2, h3⟩ := at_drop hd
    have hsm := small_lt hs
    have w3 : w64 ((k : Int) + 1) := w64k (by omega)
    have lk : (k : Int) < (l.xs.length : Int) := by omega
    rw [clip_filter]
    by_cases c : (clip r).From ≤ (clip r).To
    · rw [if_pos c, ← List.append_assoc]
      obtain ⟨t', z, h⟩ := rx_merge_l0 hs rest (k + 1) (all ++ [clip r]) false h2 (by simp only [List.length_append, List.length_singleton]; omega)
      exact ⟨t', z, rx_Merge_l0_s0 lk (by omega) h1 c (by unfold small at hs; omega) w3 h⟩
    · rw [if_neg c, List.nil_append]
      obtain ⟨t', z, h⟩ := rx_merge_l0 hs rest (k + 1) all t h2 (by omega)
      exact ⟨t', z, rx_Merge_l0_s1 lk (by omega) h1 c w3 h⟩
theorem rx_merge_l1 {t36 : List Range} {t : Bool} (hs : small (t36.length + 1)) (ho : ∀ r ∈ t36, okR r) : ∀ (rest : List Range) (k : Nat) (out : List Range) (outt : Bool), t36.drop k = rest → (∀ r ∈ out, okR r) → out.length ≤ k → ∃ z4 z6, rx_Merge_l1 out t36 outt out.length t t36.length (t36.length : Int) k (rx_Merge_l1_x0 (rest.foldl stepS out) t36 z4 (rest.foldl stepS out).length t t36.length (t36.length : Int) z6)
  | [], k, out, outt, hd, hout, hk => ⟨outt, k, rx_Merge_l1_e3 (by have := drop_nil_le hd; omega)⟩
  | r :: rest, k, out, outt, hd, hout, hk => by
    obtain ⟨h1, h2, h3⟩ := at_drop hd
    have hr : okR r := ho r (List.mem_of_mem_drop (by rw [hd]; exact List.mem_cons_self ..))
    have hsm := small_lt hs
    have w3 : w64 ((k : Int) + 1) := w64k (by omega)
    have lk : (k : Int) < (t36.length : Int) := by omega
    rw [List.foldl_cons]
    cases hl : out.getLast? with
    | none =>
      have e0 : out = [] := by simpa using hl
      have e : stepS out r = out ++ [r] := by unfold stepS; rw [hl]
      obtain ⟨z4, z6, h⟩ := rx_merge_l1 hs ho rest (k + 1) (stepS out r) false h2 (by rw [e, e0]; simpa using hr) (by rw [e, e0]; simp)
      rw [e] at h ⊢
      refine ⟨z4, z6, rx_Merge_l1_s2 lk (by omega) h1 (by omega) (by rw [e0]; simp) (by unfold small at hs; omega) (Nat.le_refl _) w3 ?_⟩
      rw [List.take_length]
      exact h
    | some a =>
      have hne : out ≠ [] := by intro e; rw [e] at hl; simp at hl
      have hpos : 0 < out.length := List.length_pos_iff.2 hne
      have ha : okR a := hout a (List.mem_of_getLast? hl)
      have hget : out[((out.length : Int) - 1).toNat]? = some a := by
        rw [show ((out.length : Int) - 1).toNat = out.length - 1 by omega, ← List.getLast?_eq_getElem?]
        exact hl
      have w1 : w64 ((out.length : Int) - 1) := in64 (by omega) (by omega)
      have w2 : w64 (a.To + 1) := in64 (by unfold okR at ha; omega) (by unfold okR top at ha; omega)
      by_cases c : r.From ≤ a.To + 1
      · have e : stepS out r = out.dropLast ++ [⟨a.From, max a.To r.To⟩] := by unfold stepS; rw [hl]; dsimp only; rw [if_pos c]
        have e2 : out.set ((out.length : Int) - 1).toNat (Range.mk a.From (max a.To r.To)) = stepS out r := by
          rw [e, show ((out.length : Int) - 1).toNat = out.length - 1 by omega]
          have h9 : out = out.dropLast ++ [a] := by
            have e9 := List.dropLast_concat_getLast hne
            rw [List.getLast?_eq_some_getLast hne] at hl
            rw [Option.some.inj hl] at e9
            exact e9.symm
          conv => lhs; rw [h9]
          have hdl : out.dropLast.length = out.length - 1 := by simp
          rw [List.set_append_right _ _ (by rw [← h9, hdl]; omega)]
          rw [← h9, hdl]
          simp
        have elen : (stepS out r).length = out.length := by rw [← e2]; simp
        obtain ⟨z4, z6, h⟩ := rx_merge_l1 hs ho rest (k + 1) (stepS out r) outt h2 (by
          rw [e]
          intro s hs'
          rcases List.mem_append.1 hs' with h | h
          · exact hout s ((List.dropLast_sublist out).subset h)
          · simp at h; subst h; unfold okR at ha hr ⊢; dsimp only; omega) (by omega)
        rw [elen] at h
        refine ⟨z4, z6, rx_Merge_l1_s0 lk (by omega) h1 (by omega) (by omega) w1 (by omega) hget (by omega) w2 c w3 ?_⟩
        rw [e2]
        exact h
      · have e : stepS out r = out ++ [r] := by unfold stepS; rw [hl]; dsimp only; rw [if_neg c]
        obtain ⟨z4, z6, h⟩ := rx_merge_l1 hs ho rest (k + 1) (stepS out r) false h2 (by
          rw [e]
          intro s hs'
          rcases List.mem_append.1 hs' with h | h
          · exact hout s h
          · simp at h; subst h; exact hr) (by rw [e]; simp; omega)
        rw [e] at h ⊢
        refine ⟨z4, z6, rx_Merge_l1_s1 lk (by omega) h1 (by omega) (by omega) w1 (by omega) hget (by omega) w2 c (by unfold small at hs; omega) (Nat.le_refl _) w3 ?_⟩
        rw [List.take_length]
        exact h
theorem sort_none_t : callF tab XX 12 16 [.row 0 2 0 0 true, .d (.func (.func 17) [] [])] [.row 2 [] false] = some (.ret (.tup []), [.row 2 [] false]) := by kernel_rfl
theorem sort_none_f : callF tab XX 12 16 [.row 0 2 0 0 false, .d (.func (.func 17) [] [])] [.row 2 [] false] = some (.ret (.tup []), [.row 2 [] false]) := by kernel_rfl
theorem cmpR_le {a b : Range} (h : 0 ≤ cmpR b a) : a.From ≤ b.From := by
  unfold cmpR cmpI at h
  split at h
  · omega
  · omega
theorem sort_run {l : List Range} (t : Bool) (h : l.length < 4611686018427387904) : ∃ s, sl_SortFunc_Range l t l.length s ∧ s.Perm l ∧ s.Pairwise (fun a b => a.From ≤ b.From) := by
  cases l with
  | nil =>
    refine ⟨[], ?_, .nil, .nil⟩
    cases t with
    | true => exact lim_of sort_none_t
    | false => exact lim_of sort_none_f
  | cons x r =>
    obtain ⟨h1, h2, h3⟩ := sortT_spec cmpR swo_R (x :: r)
    refine ⟨sortT cmpR (x :: r), R_sort (by simp) h, h1, ?_⟩
    rw [List.pairwise_iff_getElem]
    intro i j hi hj hij
    have := h3 i j _ _ hij (List.getElem?_eq_getElem hi) (List.getElem?_eq_getElem hj)
    exact cmpR_le this
theorem mergeR_length (l : List Range) : (mergeR l).length ≤ l.length := by
  have := foldM_length l []
  simpa [mergeR] using this
theorem rx_merge {l : SL Range} (hs : small (l.xs.length + 1)) : ∃ t, rx_Merge l (mergeR l.xs) (mergeR l.xs).length t := by
  obtain ⟨t', z, h0⟩ := rx_merge_l0 hs l.xs 0 [] true (by simp) (by simp)
  rw [List.nil_append] at h0
  have hcl := clipped_length l.xs
  have hsm := small_lt hs
  obtain ⟨s, h1, h2, h3⟩ := sort_run (l := clipped l.xs) t' (by omega)
  have hsl : s.length = (clipped l.xs).length := h2.length_eq
  obtain ⟨z4, z6, h4⟩ := rx_merge_l1 (t36 := s) (t := t') (by unfold small at hs ⊢; omega) (fun r hr => clipped_ok l.xs r (h2.mem_iff.1 hr)) s 0 [] true (by simp) (by simp) (by simp)
  rw [sorted_merge h2 h3] at h4
  rw [hsl] at h4
  exact ⟨z4, rx_Merge_r0 h0 h1 h4⟩
/-! ### Turning round -/
def holes : Int → List Range → List Range
  | _, [] => []
  | f, r :: l => (if r.From > f then [⟨f, r.From - 1⟩] else []) ++ holes (r.To + 1) l
theorem holes_length : ∀ (f : Int) (a : List Range), (holes f a).length ≤ a.length
  | f, [] => by simp [holes]
  | f, r :: a => by
    have := holes_length (r.To + 1) a
    simp only [holes, List.length_append, List.length_cons]
    split <;> simp <;> omega
def lastR : Range := ⟨1114112, 1114112⟩
def turnR (l : List Range) : List Range := holes 0 (mergeR l ++ [lastR])
theorem rx_turn_loop {t11 : List Range} {tt : Bool} (hs : small (t11.length + 1)) (ho : ∀ r ∈ t11, 0 ≤ r.From ∧ r.From ≤ 1114112 ∧ 0 ≤ r.To ∧ r.To ≤ 1114112) : ∀ (rest : List Range) (k : Nat) (out : List Range) (outt : Bool) (f : Int), t11.drop k = rest → out.length ≤ k →
    ∃ z1 z2 z3, rx_Turn_l0 out t11 outt f tt (t11.length : Int) k (rx_Turn_l0_x0 (out ++ holes f rest) t11 z1 z2 tt (t11.length : Int) z3)
  | [], k, out, outt, f, hd, hk => ⟨outt, f, k, by simp only [holes, List.append_nil]; exact rx_Turn_l0_e2 (by have := drop_nil_le hd; omega)⟩
  | r :: rest, k, out, outt, f, hd, hk => by
    obtain ⟨h1, h2, h3⟩ := at_drop hd
    have hr := ho r (List.mem_of_mem_drop (i := k) (by rw [hd]; exact List.mem_cons_self ..))
    have hsm := small_lt hs
    have w3 : w64 ((k : Int) + 1) := w64k (by omega)
    have w1 : w64 (r.From - 1) := in64 (by omega) (by omega)
    have w2 : w64 (r.To + 1) := in64 (by omega) (by omega)
    simp only [holes]
    by_cases c : r.From > f
    · rw [if_pos c, ← List.append_assoc]
      obtain ⟨z1, z2, z3, h⟩ := rx_turn_loop hs ho rest (k + 1) (out ++ [⟨f, r.From - 1⟩]) false (r.To + 1) h2 (by simp; omega)
      exact ⟨z1, z2, z3, rx_Turn_l0_s0 (by omega) (by omega) h1 c w1 (by unfold small at hs; omega) w2 w3 h⟩
    · rw [if_neg c, List.nil_append]
      obtain ⟨z1, z2, z3, h⟩ := rx_turn_loop hs ho rest (k + 1) out outt (r.To + 1) h2 (by omega)
      exact ⟨z1, z2, z3, rx_Turn_l0_s1 (by omega) (by omega) h1 c w2 w3 h⟩
theorem rx_turn {l : SL Range} (hs : small (l.xs.length + 3)) : ∃ t, rx_Turn l ⟨2, turnR l.xs, t⟩ := by
  obtain ⟨t, h⟩ := rx_merge (l := l) (by unfold small at hs ⊢; omega)
  have hl := mergeR_length l.xs
  have ho : ∀ r ∈ mergeR l.xs ++ [lastR], 0 ≤ r.From ∧ r.From ≤ 1114112 ∧ 0 ≤ r.To ∧ r.To ≤ 1114112 := by
    intro r hr
    rcases List.mem_append.1 hr with h | h
    · have := (mergeR_canon l.xs).all r h
      unfold okR top at this
      omega
    · rw [List.mem_singleton] at h
      rw [h]
      exact ⟨by decide, by decide, by decide, by decide⟩
  have hs' : small ((mergeR l.xs ++ [lastR]).length + 1) := by
    rw [List.length_append, List.length_singleton]
    have key : ∀ n m : Nat, small (n + 3) → m ≤ n → small (m + 1 + 1) := by intro n m; unfold small; omega
    exact key _ _ hs hl
  obtain ⟨z1, z2, z3, h3⟩ := rx_turn_loop (t11 := mergeR l.xs ++ [lastR]) (tt := false) hs' ho (mergeR l.xs ++ [lastR]) 0 [] true 0 List.drop_zero (Nat.le_refl _)
  rw [List.nil_append] at h3
  have key2 : ∀ n m : Nat, small (n + 3) → m ≤ n → (m + 1) * 16 ≤ 140737488355328 := by intro n m; unfold small; omega
  refine ⟨z1, rx_Turn_r0 (z2 := z2) (z3 := z3) h (key2 _ _ hs hl) (Nat.le_refl _) ?_⟩
  rw [List.take_length]
  exact h3
end
section
open Go
set_option linter.unusedVariables false
set_option linter.unnecessarySimpa false
set_option linter.unusedSimpArgs false
set_option linter.unusedSectionVars false
def lowB (c : Int) : Int := if c = 224 then 160 else if c = 240 then 144 else 128
def highB (c : Int) : Int := if c = 237 then 159 else if c = 244 then 143 else 191
abbrev tlB (d : Int) : Prop := 128 ≤ d ∧ d ≤ 191
/-- Bytes that are text, and its code points. -/
inductive GP : List Int → List Int → Prop
  | nil : GP [] []
  | one {b l p} (h0 : 0 ≤ b) (h1 : b < 128) (h : GP l p) : GP (b :: l) (b :: p)
  | two {b c l p} (h0 : 194 ≤ b) (h1 : b ≤ 223) (hc : tlB c) (h : GP l p) : GP (b :: c :: l) ((b % 32 * 64 + c % 64) :: p)
  | three {b c d l p} (h0 : 224 ≤ b) (h1 : b ≤ 239) (hc : lowB b ≤ c ∧ c ≤ highB b) (hd : tlB d) (h : GP l p) : GP (b :: c :: d :: l) ((b % 16 * 4096 + c % 64 * 64 + d % 64) :: p)
  | four {b c d e l p} (h0 : 240 ≤ b) (h1 : b ≤ 244) (hc : lowB b ≤ c ∧ c ≤ highB b) (hd : tlB d) (he : tlB e) (h : GP l p) : GP (b :: c :: d :: e :: l) ((b % 8 * 262144 + c % 64 * 4096 + d % 64 * 64 + e % 64) :: p)
theorem GP.len {l p : List Int} (h : GP l p) : p.length ≤ l.length := by
  induction h with
  | nil => exact Nat.le_refl _
  | one _ _ _ ih => simpa using ih
  | two _ _ _ _ ih => simp only [List.length_cons]; omega
  | three _ _ _ _ _ ih => simp only [List.length_cons]; omega
  | four _ _ _ _ _ _ ih => simp only [List.length_cons]; omega
theorem GP.uniq {l p q : List Int} (h : GP l p) (k : GP l q) : p = q := by
  induction h generalizing q with
  | nil => cases k; rfl
  | one h0 h1 h ih =>
    cases k with
    | one _ _ k => rw [ih k]
    | two _ _ _ k => omega
    | three _ _ _ _ k => omega
    | four _ _ _ _ _ k => omega
  | two h0 h1 hc h ih =>
    cases k with
    | one _ _ k => omega
    | two _ _ _ k => rw [ih k]
    | three _ _ _ _ k => omega
    | four _ _ _ _ _ k => omega
  | three h0 h1 hc hd h ih =>
    cases k with
    | one _ _ k => omega
    | two _ _ _ k => omega
    | three _ _ _ _ k => rw [ih k]
    | four _ _ _ _ _ k => omega
  | four h0 h1 hc hd he h ih =>
    cases k with
    | one _ _ k => omega
    | two _ _ _ k => omega
    | three _ _ _ _ k => omega
    | four _ _ _ _ _ k => rw [ih k]
/-- Bytes of which so many must still go on, the next one between two. -/
inductive GM : List Int → Int → Int → Int → Prop
  | base {l p lo hi} (h : GP l p) : GM l 0 lo hi
  | more {c l k lo hi} (hk : 0 < k) (hc : lo ≤ c ∧ c ≤ hi) (h : GM l (k - 1) 128 191) : GM (c :: l) k lo hi
def GoodT (l : List Int) : Prop := ∃ p, GP l p
theorem gm0 {l : List Int} {lo hi : Int} : GM l 0 lo hi ↔ GoodT l := by
  constructor
  · intro h
    cases h with
    | base h => exact ⟨_, h⟩
    | more hk _ _ => omega
  · rintro ⟨p, h⟩
    exact .base h
theorem gm_nil {k lo hi : Int} (h : 0 < k) : ¬ GM [] k lo hi := by
  intro g
  cases g with
  | base _ => omega
theorem gm_cons {c : Int} {l : List Int} {k lo hi : Int} (h : 0 < k) : GM (c :: l) k lo hi ↔ (lo ≤ c ∧ c ≤ hi) ∧ GM l (k - 1) 128 191 := by
  constructor
  · intro g
    cases g with
    | base _ => omega
    | more _ hc h => exact ⟨hc, h⟩
  · rintro ⟨hc, g⟩
    exact .more h hc g
/-- How many go on behind a first byte; -1: it begins nothing. -/
def goesL (c : Int) : Int := if c < 128 then 0 else if c < 194 ∨ c > 244 then -1 else if c < 224 then 1 else if c < 240 then 2 else 3
theorem gm_one {l : List Int} {lo hi : Int} : GM l 1 lo hi ↔ ∃ c r, l = c :: r ∧ (lo ≤ c ∧ c ≤ hi) ∧ GoodT r := by
  cases l with
  | nil => exact ⟨fun g => absurd g (gm_nil (by decide)), fun ⟨_, _, h, _⟩ => by cases h⟩
  | cons c r =>
    rw [gm_cons (by decide), show (1 : Int) - 1 = 0 by decide, gm0]
    exact ⟨fun h => ⟨c, r, rfl, h⟩, fun ⟨_, _, h, h2⟩ => by cases h; exact h2⟩
theorem gm_two {l : List Int} {lo hi : Int} : GM l 2 lo hi ↔ ∃ c d r, l = c :: d :: r ∧ (lo ≤ c ∧ c ≤ hi) ∧ tlB d ∧ GoodT r := by
  cases l with
  | nil => exact ⟨fun g => absurd g (gm_nil (by decide)), fun ⟨_, _, _, h, _⟩ => by cases h⟩
  | cons c r =>
    rw [gm_cons (by decide), show (2 : Int) - 1 = 1 by decide, gm_one]
    exact ⟨fun ⟨h, d, r', e, h2⟩ => ⟨c, d, r', by rw [e], h, h2⟩, fun ⟨_, _, _, h, h2⟩ => by cases h; exact ⟨h2.1, _, _, rfl, h2.2⟩⟩
theorem gm_three {l : List Int} {lo hi : Int} : GM l 3 lo hi ↔ ∃ c d e r, l = c :: d :: e :: r ∧ (lo ≤ c ∧ c ≤ hi) ∧ tlB d ∧ tlB e ∧ GoodT r := by
  cases l with
  | nil => exact ⟨fun g => absurd g (gm_nil (by decide)), fun ⟨_, _, _, _, h, _⟩ => by cases h⟩
  | cons c r =>
    rw [gm_cons (by decide), show (3 : Int) - 1 = 2 by decide, gm_two]
    exact ⟨fun ⟨h, d, e, r', e', h2⟩ => ⟨c, d, e, r', by rw [e'], h, h2⟩, fun ⟨_, _, _, _, h, h2⟩ => by cases h; exact ⟨h2.1, _, _, _, rfl, h2.2⟩⟩
theorem good_cons {c : Int} {l : List Int} (h0 : 0 ≤ c) : GoodT (c :: l) ↔ 0 ≤ goesL c ∧ GM l (goesL c) (lowB c) (highB c) := by
  unfold goesL
  by_cases h1 : c < 128
  · rw [if_pos h1, gm0]
    constructor
    · rintro ⟨p, h⟩
      cases h with
      | one _ _ h => exact ⟨Int.le_refl _, _, h⟩
      | two _ _ _ h => omega
      | three _ _ _ _ h => omega
      | four _ _ _ _ _ h => omega
    · rintro ⟨_, p, h⟩
      exact ⟨_, .one h0 h1 h⟩
  · rw [if_neg h1]
    by_cases h2 : c < 194 ∨ c > 244
    · rw [if_pos h2]
      constructor
      · rintro ⟨p, h⟩
        cases h with
        | one _ _ h => omega
        | two _ _ _ h => omega
        | three _ _ _ _ h => omega
        | four _ _ _ _ _ h => omega
      · rintro ⟨h, _⟩
        omega
    · rw [if_neg h2]
      by_cases h3 : c < 224
      · rw [if_pos h3, gm_one]
        have el : lowB c = 128 := by unfold lowB; rw [if_neg (by omega), if_neg (by omega)]
        have eh : highB c = 191 := by unfold highB; rw [if_neg (by omega), if_neg (by omega)]
        rw [el, eh]
        constructor
        · rintro ⟨p, h⟩
          cases h with
          | one _ _ h => omega
          | two _ _ hc h => exact ⟨by decide, _, _, rfl, hc, _, h⟩
          | three _ _ _ _ h => omega
          | four _ _ _ _ _ h => omega
        · rintro ⟨_, d, r, rfl, hd, p, h⟩
          exact ⟨_, .two (by omega) (by omega) hd h⟩
      · rw [if_neg h3]
        by_cases h4 : c < 240
        · rw [if_pos h4, gm_two]
          constructor
          · rintro ⟨p, h⟩
            cases h with
            | one _ _ h => omega
            | two _ _ hc h => omega
            | three _ _ hc hd h => exact ⟨by decide, _, _, _, rfl, hc, hd, _, h⟩
            | four _ _ _ _ _ h => omega
          · rintro ⟨_, d, e, r, rfl, hd, he, p, h⟩
            exact ⟨_, .three (by omega) (by omega) hd he h⟩
        · rw [if_neg h4, gm_three]
          constructor
          · rintro ⟨p, h⟩
            cases h with
            | one _ _ h => omega
            | two _ _ hc h => omega
            | three _ _ hc hd h => omega
            | four _ _ hc hd he h => exact ⟨by decide, _, _, _, _, rfl, hc, hd, he, _, h⟩
          · rintro ⟨_, d, e, f, r, rfl, hd, he, hf, p, h⟩
            exact ⟨_, .four (by omega) (by omega) hd he hf h⟩
theorem good_nil : GoodT [] := ⟨_, .nil⟩
/-! ### As the model reads it -/
theorem dec_one (n b0 b1 b2 b3 : Nat) (h : b0 < 128) : Lib.decodeN n b0 b1 b2 b3 = (b0, 1) := by
  unfold Lib.decodeN
  rw [if_pos h]
theorem dec_two (n b0 b1 b2 b3 : Nat) (h0 : 194 ≤ b0) (h1 : b0 ≤ 223) (hn : 1 < n) (hc : 128 ≤ b1 ∧ b1 ≤ 191) : Lib.decodeN n b0 b1 b2 b3 = (b0 % 32 * 64 + b1 % 64, 2) := by
  unfold Lib.decodeN
  rw [if_neg (by omega), if_pos (by omega), if_pos (by omega)]
theorem dec_three (n b0 b1 b2 b3 : Nat) (h0 : 224 ≤ b0) (h1 : b0 ≤ 239) (hn : 2 < n) (hc : 128 ≤ b1 ∧ b1 ≤ 191) (hl : b0 = 224 → 160 ≤ b1) (hh : b0 = 237 → b1 ≤ 159) (hd : 128 ≤ b2 ∧ b2 ≤ 191) :
    Lib.decodeN n b0 b1 b2 b3 = (b0 % 16 * 4096 + b1 % 64 * 64 + b2 % 64, 3) := by
  unfold Lib.decodeN
  rw [if_neg (by omega), if_neg (by omega), if_pos (by omega), if_pos (by omega)]
theorem dec_four (n b0 b1 b2 b3 : Nat) (h0 : 240 ≤ b0) (h1 : b0 ≤ 244) (hn : 3 < n) (hc : 128 ≤ b1 ∧ b1 ≤ 191) (hl : b0 = 240 → 144 ≤ b1) (hh : b0 = 244 → b1 ≤ 143) (hd : 128 ≤ b2 ∧ b2 ≤ 191) (he : 128 ≤ b3 ∧ b3 ≤ 191) :
    Lib.decodeN n b0 b1 b2 b3 = (b0 % 8 * 262144 + b1 % 64 * 4096 + b2 % 64 * 64 + b3 % 64, 4) := by
  unfold Lib.decodeN
  rw [if_neg (by omega), if_neg (by omega), if_neg (by omega), if_pos (by omega), if_pos (by omega)]
theorem low_ge (c : Int) : 128 ≤ lowB c := by unfold lowB; split <;> (try split) <;> omega
theorem high_le (c : Int) : highB c ≤ 191 := by unfold highB; split <;> (try split) <;> omega
theorem byte_drop {s : ByteArray} {i : Nat} {x : Int} {r : List Int} (h : (strInts s).drop i = x :: r) : i < s.size ∧ ((s.get! i).toNat : Int) = x ∧ (strInts s).drop (i + 1) = r := by
  have hl : i < (strInts s).length := by
    apply Classical.byContradiction
    intro hn
    rw [List.drop_eq_nil_of_le (by omega)] at h
    cases h
  have hs : (strInts s).length = s.size := by
    unfold strInts
    rw [List.length_map, Array.length_toList]
    rfl
  rw [List.drop_eq_getElem_cons hl] at h
  obtain ⟨h1, h2⟩ := List.cons.inj h
  refine ⟨by omega, ?_, h2⟩
  rw [← h1]
  have hi : i < s.data.size := by rw [hs] at hl; exact hl
  simp only [strInts, List.getElem_map, Array.getElem_toList]
  congr 2
  show s.data[i]! = _
  rw [getElem!_pos s.data i hi]
/-- At a place of text: the code point, and what is behind it. -/
theorem gp_decode {s : ByteArray} {i : Nat} {l p : List Int} (hl : (strInts s).drop i = l) (h : GP l p) (hne : l ≠ []) : ∃ (c : Nat) (w : Nat) (q : List Int), Utf8.decode s i = (c, w) ∧ p = (c : Int) :: q ∧ GP ((strInts s).drop (i + w)) q ∧ i < s.size ∧ 1 ≤ w ∧ i + w ≤ s.size := by
  rw [Lib.decode_at]
  cases h with
  | nil => exact absurd rfl hne
  | @one b l p h0 h1 h =>
    obtain ⟨k1, k2, k3⟩ := byte_drop hl
    refine ⟨_, _, _, dec_one _ _ _ _ _ (by omega), by rw [k2], by rw [k3]; exact h, k1, Nat.le_refl _, by omega⟩
  | @two b c l p h0 h1 hc h =>
    obtain ⟨k1, k2, k3⟩ := byte_drop hl
    obtain ⟨j1, j2, j3⟩ := byte_drop k3
    refine ⟨_, _, _, dec_two _ _ _ _ _ (by omega) (by omega) (by omega) (by omega), ?_, by rw [j3]; exact h, k1, by omega, by omega⟩
    rw [← k2, ← j2]
    congr 1
  | @three b c d l p h0 h1 hc hd h =>
    obtain ⟨k1, k2, k3⟩ := byte_drop hl
    obtain ⟨j1, j2, j3⟩ := byte_drop k3
    obtain ⟨m1, m2, m3⟩ := byte_drop j3
    replace m2 : ((s.get! (i + 2)).toNat : Int) = d := m2
    have a1 := low_ge b
    have a2 := high_le b
    have e1 : b = 224 → lowB b = 160 := fun e => by unfold lowB; rw [if_pos e]
    have e2 : b = 237 → highB b = 159 := fun e => by unfold highB; rw [if_pos e]
    refine ⟨_, _, _, dec_three _ _ _ _ _ (by omega) (by omega) (by omega) (by omega) (fun e => by have := e1 (by omega); omega) (fun e => by have := e2 (by omega); omega) (by omega), ?_, by rw [m3]; exact h, k1, by omega, by omega⟩
    rw [← k2, ← j2, ← m2]
    congr 1
  | @four b c d e l p h0 h1 hc hd he h =>
    obtain ⟨k1, k2, k3⟩ := byte_drop hl
    obtain ⟨j1, j2, j3⟩ := byte_drop k3
    obtain ⟨m1, m2, m3⟩ := byte_drop j3
    obtain ⟨n1, n2, n3⟩ := byte_drop m3
    replace m2 : ((s.get! (i + 2)).toNat : Int) = d := m2
    replace n2 : ((s.get! (i + 3)).toNat : Int) = e := n2
    have a1 := low_ge b
    have a2 := high_le b
    have e1 : b = 240 → lowB b = 144 := fun e => by unfold lowB; rw [if_neg (by omega), if_pos e]
    have e2 : b = 244 → highB b = 143 := fun e => by unfold highB; rw [if_neg (by omega), if_pos e]
    refine ⟨_, _, _, dec_four _ _ _ _ _ (by omega) (by omega) (by omega) (by omega) (fun e => by have := e1 (by omega); omega) (fun e => by have := e2 (by omega); omega) (by omega) (by omega), ?_, by rw [n3]; exact h, k1, by omega, by omega⟩
    rw [← k2, ← j2, ← m2, ← n2]
    congr 1
end
section
open Go
set_option linter.unusedVariables false
set_option linter.unnecessarySimpa false
set_option linter.unusedSimpArgs false
set_option linter.unusedSectionVars false
theorem drop_cons {α : Type} {l : List α} {k : Nat} {y : α} {r : List α} (h : l.drop k = y :: r) : l[k]? = some y ∧ l.drop (k + 1) = r ∧ k < l.length := by
  have hl : k < l.length := by
    apply Classical.byContradiction
    intro hn
    rw [List.drop_eq_nil_of_le (by omega)] at h
    cases h
  rw [List.drop_eq_getElem_cons hl] at h
  obtain ⟨h1, h2⟩ := List.cons.inj h
  exact ⟨by rw [List.getElem?_eq_getElem hl, h1], h2, hl⟩
theorem drop_len {α : Type} {l : List α} {k : Nat} (h : l.drop k = []) : l.length ≤ k := by simpa using h
theorem goes_run (c : Int) : ∃ lo hi, utf_goes c (goesL c) lo hi ∧ (0 < goesL c → lo = lowB c ∧ hi = highB c) := by
  unfold goesL
  by_cases h1 : c < 128
  · rw [if_pos h1]; exact ⟨_, _, utf_goes_r0 h1, fun h => by omega⟩
  · rw [if_neg h1]
    by_cases h2 : c < 194
    · rw [if_pos (.inl h2)]; exact ⟨_, _, utf_goes_r1 h1 h2, fun h => by omega⟩
    · by_cases h3 : c > 244
      · rw [if_pos (.inr h3)]; exact ⟨_, _, utf_goes_r2 h1 h2 h3, fun h => by omega⟩
      · rw [if_neg (by omega)]
        unfold lowB highB
        by_cases h4 : c < 224
        · rw [if_pos h4]; exact ⟨_, _, utf_goes_r3 h1 h2 h3 h4, fun _ => by rw [if_neg (by omega), if_neg (by omega), if_neg (by omega), if_neg (by omega)]; exact ⟨rfl, rfl⟩⟩
        · rw [if_neg h4]
          by_cases h5 : c = 224
          · rw [if_pos (by omega)]; exact ⟨_, _, utf_goes_r4 h1 h2 h3 h4 h5, fun _ => by simp [h5]⟩
          · by_cases h6 : c = 237
            · rw [if_pos (by omega)]; exact ⟨_, _, utf_goes_r5 h1 h2 h3 h4 h5 h6, fun _ => by simp [h6]⟩
            · by_cases h7 : c < 240
              · rw [if_pos h7]; exact ⟨_, _, utf_goes_r6 h1 h2 h3 h4 h5 h6 h7, fun _ => by simp [h5, h6]; omega⟩
              · rw [if_neg h7]
                by_cases h8 : c = 240
                · exact ⟨_, _, utf_goes_r7 h1 h2 h3 h4 h5 h6 h7 h8, fun _ => by simp [h8]⟩
                · by_cases h9 : c = 244
                  · exact ⟨_, _, utf_goes_r8 h1 h2 h3 h4 h5 h6 h7 h8 h9, fun _ => by simp [h9]⟩
                  · exact ⟨_, _, utf_goes_r9 h1 h2 h3 h4 h5 h6 h7 h8 h9, fun _ => by simp [h5, h6, h8, h9]⟩
theorem goesL_le (c : Int) : goesL c ≤ 3 := by unfold goesL; split <;> (try split) <;> (try split) <;> (try split) <;> omega
def isBytes (l : List Int) : Prop := ∀ x ∈ l, 0 ≤ x ∧ x < 256
theorem utf_good_loop {b : SL Int} (hb : isBytes b.xs) (hs : b.xs.length < 1000000000000000) : ∀ (rest : List Int) (i : Nat) (left low high : Int), b.xs.drop i = rest → 0 ≤ left → left ≤ 3 →
    (GM rest left low high ∧ ∃ lo hi z, utf_Good_l0 b left low high b (b.xs.length : Int) i (utf_Good_l0_x1 b 0 lo hi b (b.xs.length : Int) z)) ∨
    (¬ GM rest left low high ∧ ((∃ z, utf_Good_l0 b left low high b (b.xs.length : Int) i (utf_Good_l0_x0 z)) ∨ ∃ k lo hi z, k ≠ 0 ∧ utf_Good_l0 b left low high b (b.xs.length : Int) i (utf_Good_l0_x1 b k lo hi b (b.xs.length : Int) z)))
  | [], i, left, low, high, hd, h0, h3 => by
    have hl := drop_len hd
    by_cases h : left = 0
    · subst h
      exact .inl ⟨gm0.2 good_nil, _, _, _, utf_Good_l0_e5 (by omega)⟩
    · exact .inr ⟨gm_nil (by omega), .inr ⟨left, _, _, _, h, utf_Good_l0_e5 (by omega)⟩⟩
  | c :: r, i, left, low, high, hd, h0, h3 => by
    obtain ⟨k1, k2, k3⟩ := drop_cons hd
    have kg : b.xs[((i : Nat) : Int).toNat]? = some c := by rw [Int.toNat_natCast]; exact k1
    have hc := hb c (List.mem_of_getElem? k1)
    have w1 : w64 ((i : Int) + 1) := in64 (by omega) (by omega)
    have ei : ((i : Int) + 1) = ((i + 1 : Nat) : Int) := by omega
    by_cases h : left = 0
    · subst h
      obtain ⟨lo, hi, g1, g2⟩ := goes_run c
      have hg3 := goesL_le c
      rw [gm0, good_cons hc.1]
      by_cases hn : goesL c < 0
      · exact .inr ⟨fun h => by omega, .inl ⟨_, utf_Good_l0_e0 (by omega) (by omega) kg rfl g1 hn⟩⟩
      · have e : GM r (goesL c) lo hi ↔ GM r (goesL c) (lowB c) (highB c) := by
          by_cases hz : goesL c = 0
          · rw [hz, gm0, gm0]
          · obtain ⟨e1, e2⟩ := g2 (by omega)
            rw [e1, e2]
        have st : ∀ {rs_ : Ex × XSt}, utf_Good_l0 b (goesL c) lo hi b (b.xs.length : Int) ((i + 1 : Nat) : Int) rs_ → utf_Good_l0 b 0 low high b (b.xs.length : Int) i rs_ := fun hk => utf_Good_l0_s1 (by omega) (by omega) kg rfl g1 hn w1 (by rw [ei]; exact hk)
        rcases utf_good_loop hb hs r (i + 1) (goesL c) lo hi k2 (by omega) hg3 with ⟨j1, l', h', z, j2⟩ | ⟨j1, ⟨z, j2⟩ | ⟨k, l', h', z, j3, j2⟩⟩
        · exact .inl ⟨⟨by omega, e.1 j1⟩, _, _, _, st j2⟩
        · exact .inr ⟨fun h => j1 (e.2 h.2), .inl ⟨_, st j2⟩⟩
        · exact .inr ⟨fun h => j1 (e.2 h.2), .inr ⟨k, _, _, _, j3, st j2⟩⟩
    · rw [gm_cons (by omega)]
      by_cases hl : c < low
      · exact .inr ⟨fun h => by omega, .inl ⟨_, utf_Good_l0_e2 (by omega) (by omega) kg h hl⟩⟩
      · by_cases hh : c > high
        · exact .inr ⟨fun h => by omega, .inl ⟨_, utf_Good_l0_e3 (by omega) (by omega) kg h hl hh⟩⟩
        · have w2 : w64 (left - 1) := in64 (by omega) (by omega)
          have st : ∀ {rs_ : Ex × XSt}, utf_Good_l0 b (left - 1) 128 191 b (b.xs.length : Int) ((i + 1 : Nat) : Int) rs_ → utf_Good_l0 b left low high b (b.xs.length : Int) i rs_ := fun hk => utf_Good_l0_s4 (by omega) (by omega) kg h hl hh w2 w1 (by rw [ei]; exact hk)
          rcases utf_good_loop hb hs r (i + 1) (left - 1) 128 191 k2 (by omega) (by omega) with ⟨j1, l', h', z, j2⟩ | ⟨j1, ⟨z, j2⟩ | ⟨k, l', h', z, j3, j2⟩⟩
          · exact .inl ⟨⟨by omega, j1⟩, _, _, _, st j2⟩
          · exact .inr ⟨fun h => j1 h.2, .inl ⟨_, st j2⟩⟩
          · exact .inr ⟨fun h => j1 h.2, .inr ⟨k, _, _, _, j3, st j2⟩⟩
theorem utf_good_run {b : SL Int} (hb : isBytes b.xs) (hs : b.xs.length < 1000000000000000) : (GoodT b.xs ∧ ∃ n, utf_Good b n true) ∨ (¬ GoodT b.xs ∧ ∃ n, utf_Good b n false) := by
  rcases utf_good_loop hb hs b.xs 0 0 128 191 (by simp) (by decide) (by decide) with ⟨j1, l', h', z, j2⟩ | ⟨j1, ⟨z, j2⟩ | ⟨k, l', h', z, j3, j2⟩⟩
  · exact .inl ⟨gm0.1 j1, _, utf_Good_r1 j2 rfl⟩
  · exact .inr ⟨fun h => j1 (gm0.2 h), _, utf_Good_r0 j2⟩
  · exact .inr ⟨fun h => j1 (gm0.2 h), _, utf_Good_r2 j2 j3⟩
theorem strInts_bytes {l : List Int} (hb : isBytes l) : strInts (⟨(bytesOf l).toArray⟩ : ByteArray) = l := by
  unfold strInts bytesOf
  simp only [List.map_map]
  conv => rhs; rw [← List.map_id l]
  apply List.map_congr_left
  intro x hx
  have := hb x hx
  simp only [Function.comp, UInt8.toNat_ofNat', id]
  omega
theorem utf_points_loop {s : ByteArray} (hs : s.size < 1000000000000) : ∀ (q : List Int) (i : Nat) (out : List Int) (t : Bool), GP ((strInts s).drop i) q → out.length + q.length < 1000000000000 → ∃ z t', utf_Points_l0 out s i t (utf_Points_l0_x0 (out ++ q) s z t')
  | [], i, out, t, h, hl => by
    have hn : (strInts s).drop i = [] := by
      cases hd : (strInts s).drop i with
      | nil => rfl
      | cons x r => rw [hd] at h; cases h
    have : ¬ i < s.size := by
      have := drop_len hn
      have e : (strInts s).length = s.size := by unfold strInts; rw [List.length_map, Array.length_toList]; rfl
      omega
    rw [List.append_nil]
    exact ⟨_, _, utf_Points_l0_e1 this⟩
  | x :: q, i, out, t, h, hl => by
    have hne : (strInts s).drop i ≠ [] := by
      intro e
      rw [e] at h
      cases h
    obtain ⟨c, w, q', h1, h2, h3, h4, h5, h6⟩ := gp_decode rfl h hne
    cases h2
    simp only [List.length_cons] at hl
    have hc : c < 2000000 := by
      have := Lib.decode_at s i
      rw [h1] at this
      have h9 : c = (Lib.decodeN (s.size - i) (s.get! i).toNat (s.get! (i + 1)).toNat (s.get! (i + 2)).toNat (s.get! (i + 3)).toNat).1 := by rw [← this]
      have b0 := UInt8.toNat_lt (s.get! i)
      rw [h9]
      unfold Lib.decodeN
      repeat' split
      all_goals first | omega | (dsimp only; omega)
    obtain ⟨z, t', g⟩ := utf_points_loop hs q (i + w) (out ++ [(c : Int)]) false h3 (by simp; omega)
    rw [List.append_assoc] at g
    exact ⟨z, t', utf_Points_l0_s0 h4 h1 (in64 (by omega) (by omega)) (by omega) g⟩
theorem utf_points_run {b : SL Int} (hb : isBytes b.xs) (hs : b.xs.length < 100000000000) : (∃ p t, GP b.xs p ∧ utf_Points b ⟨1, p, t⟩ 0) ∨ (¬ GoodT b.xs ∧ utf_Points b ⟨1, [], true⟩ 10) := by
  rcases utf_good_run hb (by omega) with ⟨⟨p, hp⟩, n, h⟩ | ⟨hn, n, h⟩
  · have e := strInts_bytes hb
    have hsz : (⟨(bytesOf b.xs).toArray⟩ : ByteArray).size = b.xs.length := by
      show ((bytesOf b.xs).toArray).size = _
      simp [bytesOf]
    obtain ⟨z, t, g⟩ := utf_points_loop (s := ⟨(bytesOf b.xs).toArray⟩) (by rw [hsz]; omega) p 0 [] true (by rw [e, List.drop_zero]; exact hp) (by have := hp.len; simp; omega)
    rw [List.nil_append] at g
    exact .inl ⟨p, t, hp, utf_Points_r0 h g⟩
  · exact .inr ⟨hn, utf_Points_r1 h⟩
/-! ### The document's answer -/
end
section
open Go
set_option linter.unusedVariables false
set_option linter.unusedSimpArgs false
set_option linter.unusedSectionVars false
set_option linter.unnecessarySimpa false
abbrev dP : VDef := d13
def Rx0 : Rx := Rx.mk 0 ⟨0, [], true⟩ 0 0 false ⟨0, [], true⟩
def bsOf (s : ByteArray) : SL Int := ⟨1, strInts s, false⟩
abbrev wrongD : D := .iface 50 (.agg [])
theorem evalL3 {C : Calling} {byref : FuncId → List Nat} {pin n : Nat} {l : List VCode} {c1 c2 c3 : VCode} {st st1 st2 : St} {r : Ex × St} (hl : l = [c1, c2, c3]) (h1 : eval C byref pin n c1 st = some (.nrm, st1)) (h2 : eval C byref pin n c2 st1 = some (.nrm, st2))
    (h3 : eval C byref pin n c3 st2 = some r) : evalL C byref pin n l st = some r := by
  subst hl
  obtain ⟨e, st3⟩ := r
  simp only [evalL, h1, h2, h3]
  cases e <;> rfl
theorem evalD_ret {C : Calling} {byref : FuncId → List Nat} {n : Nat} {d : VDef} {args : List AV} {sto : List Obj} {st : St} {r : Out × List Obj} (hn : args.length = d.fn.np) (h1 : evalL C byref sto.length n d.pre ⟨numbered 0 args, sto⟩ = some (.ret, st)) (h2 : finish sto.length d.fn st = some r) :
    evalD C byref n d args sto = some r := by
  simp only [evalD, hn, if_true, h1, h2]
theorem evalD_out {C : Calling} {byref : FuncId → List Nat} {n : Nat} {d : VDef} {args : List AV} {sto sto1 sto3 : List Obj} {st st2 : St} {v x : AV} {e : Ex} {rv : D} {r : Out × List Obj} (hn : args.length = d.fn.np) (h1 : evalL C byref sto.length n d.pre ⟨numbered 0 args, sto⟩ = some (.nrm, st)) (h2 : evalOp st.env st.sto d.clo = some (v, sto1)) (hf : noFirst v = true)
    (h3 : eval C byref sto1.length n d.rest ⟨put (some d.t) v st.env, sto1⟩ = some (e, st2)) (he : (e = .nrm ∨ e = .ret) ∧ rv = .nili ∨ e = .pan (.d rv))
    (h4 : callOp (evalG C byref n d) (fun _ => []) v [.d rv] st2.sto = some (.ret x, sto3)) (h5 : finish sto.length d.fn ⟨st2.env, sto3⟩ = some r) :
    evalD C byref n d args sto = some r := by
  have e0 : sto1.length = sto1.length := rfl
  rcases he with ⟨rfl | rfl, rfl⟩ | rfl <;> simp only [evalD, hn, if_true, h1, h2, hf, h3, h4, h5, and_self]
theorem xc {C : Calling} {byref : FuncId → List Nat} {pin n : Nat} {c : VCode} {st st' : XSt} {e : Ex} {p : Option Prop} (a : List Ans) (h : xCode C byref pin n c st a = some (p, (e, st'), [])) (hp : holdsO p) : eval C byref pin n c st.den = some (e, st'.den) := xCode_sound h hp
theorem xf {pin : Nat} {fn : VFn} {st : XSt} {p : Option Prop} {q : Out × List XO} (a : List Ans) (h : xFinish pin fn st a = some (p, q, [])) (hp : holdsO p) : finish pin fn st.den = some (q.1, dens q.2) := xFinish_sound h hp
def dC (i : Nat) : VCode := (dP.pre[i]?).getD .skip
def dS0 (s : ByteArray) : XSt := ⟨[(0, .d (.str s))], []⟩
def dO (x : Rx) (e : Int) : List XO := [.o (.row 6 [.d (e_Rx x)] false), .o (.row 1 [ai e] false)]
def dS1 (s : ByteArray) : XSt := ⟨[(0, .d (.str s)), (2, .ptr 0 6 0 0), (3, .ptr 1 1 0 0)], dO Rx0 0⟩
def dS2 (s : ByteArray) (q : SL Int) (e : Int) : XSt := ⟨[(0, .d (.str s)), (2, .ptr 0 6 0 0), (3, .ptr 1 1 0 0), (4, .d (slD 1 (D.int .i64) q)), (5, ai e)], dO Rx0 0⟩
section
variable {s : ByteArray} {C : Calling} {byref : FuncId → List Nat} {n : Nat}
theorem pre0 : eval C byref 0 n (dC 0) (dS0 s).den = some (.nrm, (dS1 s).den) := xc (p := none) [] (by kernel_rfl) trivial
theorem pre1 {q : SL Int} {e : Int} (h : utf_Points (bsOf s) q e) : eval R byT 0 n (dC 1) (dS1 s).den = some (.nrm, (dS2 s q e).den) :=
  xc (p := some _) [.z (slD 1 (D.int .u8) (bsOf s)), .out (.ret (.tup [(.d (slD 1 (D.int .i64) q)), (ai e)])) []] (by kernel_rfl) (And.intro (str_bytes s) h)
def dS3 (q : SL Int) : XSt := ⟨[(2, .ptr 0 6 0 0), (3, .ptr 1 1 0 0), (4, .d (slD 1 (D.int .i64) q)), (19, ab false)], dO Rx0 0⟩
def dR : XSt := ⟨[(2, .ptr 0 6 0 0), (3, .ptr 1 1 0 0)], dO Rx0 90⟩
theorem pre2a {q : SL Int} {e : Int} (h : e ≠ 0) : eval R byT 0 n (dC 2) (dS2 s q e).den = some (.ret, dR.den) :=
  xc (p := some _) [.b true] (by kernel_rfl) h
theorem pre2b {q : SL Int} {e : Int} (h : e = 0) (hs : (s.size : Int) > 4096) : eval R byT 0 n (dC 2) (dS2 s q e).den = some (.ret, dR.den) :=
  xc (p := some _) [.b false, .b true] (by kernel_rfl) (And.intro (Classical.not_not.2 h) hs)
theorem pre2c {q : SL Int} {e : Int} (h : e = 0) (hs : ¬ (s.size : Int) > 4096) : eval R byT 0 n (dC 2) (dS2 s q e).den = some (.nrm, (dS3 q).den) :=
  xc (p := some _) [.b false, .b false] (by kernel_rfl) (And.intro (Classical.not_not.2 h) hs)
theorem parse_bad {q : SL Int} {e : Int} (h : utf_Points (bsOf s) q e) (he : e ≠ 0 ∨ ((s.size : Int) > 4096)) : L.rx_Parse s Rx0 90 :=
  L.R_parse ⟨0, fun n _ => by
    have h2 : eval R byT 0 n (dC 2) (dS2 s q e).den = some (.ret, dR.den) := by
      by_cases e0 : e = 0
      · exact pre2b e0 (he.resolve_left (by simpa using e0))
      · exact pre2a e0
    exact evalD_ret rfl (evalL3 rfl pre0 (pre1 h) h2) (xf (st := dR) (p := none) (q := (.ret (.tup [.d (e_Rx Rx0), ai 90]), [])) [] (by kernel_rfl) trivial)⟩
def dV : AV := .func (.func 20) [] [.ptr 0 6 0 0, .ptr 1 1 0 0]
theorem clo_run {q : SL Int} : evalOp (dS3 q).den.env (dS3 q).den.sto dP.clo = some (dV, dens (dO Rx0 0)) := by kernel_rfl
def dS4 (q : SL Int) : XSt := ⟨put (some dP.t) dV (dS3 q).env, dO Rx0 0⟩
def dP0 : AV := .ptr 0 6 0 0
def dP1 : AV := .ptr 1 1 0 0
def dOr (x : Rx) (e : Int) (s0 : rx_reader) : List XO := dO x e ++ [.o (.row 2 [.d (e_rx_reader s0)] false)]
def dS5 (x : Rx) (s0 : rx_reader) : XSt := ⟨[(2, dP0), (3, dP1)], dOr x 0 s0⟩
theorem rest_ok {q : SL Int} {x : Rx} {s0 : rx_reader} (h : rx_reader_pattern ⟨q, 0⟩ x s0) (h0 : (s0.s_.xs.length : Int) = 0) (hm : rx_must true) : eval R byT 2 n dP.rest (dS4 q).den = some (.ret, (dS5 x s0).den) :=
  xc (p := some _) [.out (.ret (.d (e_Rx x))) [(.o (.row 2 [(.d (e_rx_reader s0))] false))], .n s0.s_.xs.length, .b true, .out (.ret (.tup [])) []] (by kernel_rfl) (And.intro h (And.intro (len_dl (D.int .i64) s0.s_.xs) (And.intro h0 hm)))
theorem rest_more {q : SL Int} {x : Rx} {s0 : rx_reader} (h : rx_reader_pattern ⟨q, 0⟩ x s0) (h0 : ¬ (s0.s_.xs.length : Int) = 0) (hm : rx_must_pan false) : eval R byT 2 n dP.rest (dS4 q).den = some (.pan (.d wrongD), (dS5 x s0).den) :=
  xc (p := some _) [.out (.ret (.d (e_Rx x))) [(.o (.row 2 [(.d (e_rx_reader s0))] false))], .n s0.s_.xs.length, .b false, .out (.pan (.d wrongD)) []] (by kernel_rfl) (And.intro h (And.intro (len_dl (D.int .i64) s0.s_.xs) (And.intro h0 hm)))
def dS7 (s0 : rx_reader) : XSt := ⟨[(2, dP0), (3, dP1), (6, .ptr 2 2 0 0)], dOr Rx0 0 s0⟩
theorem rest_pan {q : SL Int} {s0 : rx_reader} (h : rx_reader_pattern_pan ⟨q, 0⟩ s0) : eval R byT 2 n dP.rest (dS4 q).den = some (.pan (.d wrongD), (dS7 s0).den) :=
  xc (p := some _) [.out (.pan (.d wrongD)) [(.o (.row 2 [(.d (e_rx_reader s0))] false))]] (by kernel_rfl) h
theorem evalG_run {C : Calling} {byref : FuncId → List Nat} {n : Nat} {d : VDef} {f : FuncId} {rv : AV} {vs : List AV} {sto : List Obj} {st : St} {r : Out × List Obj} (hf : f = d.g ∧ vs.length = d.gfn.np) (h1 : eval C byref sto.length n d.gc ⟨(d.rt, rv) :: numbered 0 vs, sto⟩ = some (.nrm, st)) (h2 : finish sto.length d.gfn st = some r) : evalG C byref n d f (rv :: vs) sto = some r := by
  simp only [evalG, hf, and_self, if_true, h1, h2]
theorem gc_nil {x : Rx} {e : Int} : evalG R byT n dP 20 [.d .nili, dP0, dP1] (dens (dO x e)) = some (.ret (.tup []), dens (dO x e)) :=
  evalG_run ⟨rfl, rfl⟩ (xc (st := ⟨[(5, .d .nili), (0, dP0), (1, dP1)], dO x e⟩) (st' := ⟨[], dO x e⟩) (p := some _) [.b true] (by kernel_rfl) (rfl : isNil .iface (.d .nili) = some true)) (xf (st := ⟨[], dO x e⟩) (p := none) (q := (.ret (.tup []), dO x e)) [] (by kernel_rfl) trivial)
theorem gc_pan {x : Rx} {e : Int} : evalG R byT n dP 20 [.d wrongD, dP0, dP1] (dens (dO x e)) = some (.ret (.tup []), dens (dO Rx0 90)) :=
  evalG_run ⟨rfl, rfl⟩ (xc (st := ⟨[(5, .d wrongD), (0, dP0), (1, dP1)], dO x e⟩) (st' := ⟨[], dO Rx0 90 ++ [.o (.row 0 [.d (.agg [])] false)]⟩) (p := some _) [.b false] (by kernel_rfl) (rfl : isNil .iface (.d wrongD) = some false)) (xf (st := ⟨[], dO Rx0 90 ++ [.o (.row 0 [.d (.agg [])] false)]⟩) (p := none) (q := (.ret (.tup []), dO Rx0 90)) [] (by kernel_rfl) trivial)
theorem xcall {C : Calling} {byref : FuncId → List Nat} {f : AV} {args : List AV} {sto : List XO} (a : List Ans) {p : Option Prop} {out : Out} {sto' : List XO} (h : xCall C byref f args sto a = some (p, (out, sto'), [])) (hp : holdsO p) : callOp C byref f args (dens sto) = some (out, dens sto') := xCall_sound h hp
theorem parse_ok {q : SL Int} {x : Rx} {s0 : rx_reader} (hq : utf_Points (bsOf s) q 0) (hs : ¬ (s.size : Int) > 4096) (h : rx_reader_pattern ⟨q, 0⟩ x s0) (h0 : (s0.s_.xs.length : Int) = 0) (hm : rx_must true) : L.rx_Parse s x 0 :=
  L.R_parse ⟨0, fun n _ => evalD_out (x := .tup []) (rv := .nili) rfl (evalL3 rfl pre0 (pre1 hq) (pre2c rfl hs)) clo_run rfl (rest_ok h h0 hm) (.inl ⟨.inr rfl, rfl⟩)
    (xcall (sto := dOr x 0 s0) (sto' := dOr x 0 s0) (out := .ret (.tup [])) (p := some _) [.out (.ret (.tup [])) (dO x 0)] (by kernel_rfl) (gc_nil (n := n) (x := x) (e := 0)))
    (xf (st := ⟨[(2, dP0), (3, dP1)], dOr x 0 s0⟩) (p := none) (q := (.ret (.tup [.d (e_Rx x), ai 0]), [])) [] (by kernel_rfl) trivial)⟩
theorem parse_more {q : SL Int} {x : Rx} {s0 : rx_reader} (hq : utf_Points (bsOf s) q 0) (hs : ¬ (s.size : Int) > 4096) (h : rx_reader_pattern ⟨q, 0⟩ x s0) (h0 : ¬ (s0.s_.xs.length : Int) = 0) (hm : rx_must_pan false) : L.rx_Parse s Rx0 90 :=
  L.R_parse ⟨0, fun n _ => evalD_out (x := .tup []) (rv := wrongD) rfl (evalL3 rfl pre0 (pre1 hq) (pre2c rfl hs)) clo_run rfl (rest_more h h0 hm) (.inr rfl)
    (xcall (sto := dOr x 0 s0) (sto' := dOr Rx0 90 s0) (out := .ret (.tup [])) (p := some _) [.out (.ret (.tup [])) (dO Rx0 90)] (by kernel_rfl) (gc_pan (n := n) (x := x) (e := 0)))
    (xf (st := ⟨(dS5 x s0).env, dOr Rx0 90 s0⟩) (p := none) (q := (.ret (.tup [.d (e_Rx Rx0), ai 90]), [])) [] (by kernel_rfl) trivial)⟩
theorem parse_pan {q : SL Int} {s0 : rx_reader} (hq : utf_Points (bsOf s) q 0) (hs : ¬ (s.size : Int) > 4096) (h : rx_reader_pattern_pan ⟨q, 0⟩ s0) : L.rx_Parse s Rx0 90 :=
  L.R_parse ⟨0, fun n _ => evalD_out (x := .tup []) (rv := wrongD) rfl (evalL3 rfl pre0 (pre1 hq) (pre2c rfl hs)) clo_run rfl (rest_pan h) (.inr rfl)
    (xcall (sto := dOr Rx0 0 s0) (sto' := dOr Rx0 90 s0) (out := .ret (.tup [])) (p := some _) [.out (.ret (.tup [])) (dO Rx0 90)] (by kernel_rfl) (gc_pan (n := n) (x := Rx0) (e := 0)))
    (xf (st := ⟨(dS7 s0).env, dOr Rx0 90 s0⟩) (p := none) (q := (.ret (.tup [.d (e_Rx Rx0), ai 90]), [])) [] (by kernel_rfl) trivial)⟩
end
end
section
open Go
set_option linter.unusedVariables false
set_option linter.unusedSimpArgs false
set_option linter.unusedSectionVars false
set_option linter.unnecessarySimpa false
/-- A tree by what counts. -/
inductive PT where
  | node (kind : Int) (rs : List Range) (min max : Int) (lazy : Bool) (sub : List PT)
/-- What reading gives: too little fuel; no pattern; something. -/
inductive Rs (α : Type) where
  | out
  | bad
  | ok (a : α)
def Pa (α : Type) : Type := List Int → Rs (α × List Int)
def pb {α β : Type} (f : Pa α) (g : α → Pa β) : Pa β := fun l => match f l with
  | .out => .out
  | .bad => .bad
  | .ok (a, r) => g a r
def pr {α : Type} (a : α) : Pa α := fun l => .ok (a, l)
def fl {α : Type} : Pa α := fun _ => .bad
def no {α : Type} : Pa α := fun _ => .out
def takeM : List Int → List Int → Option (List Int)
  | [], l => some l
  | c :: w, x :: l => if x = c then takeM w l else none
  | _ :: _, [] => none
/-- A text, if it stands there. -/
def opt (w : List Int) : Pa Bool := fun l => match takeM w l with
  | some r => .ok (true, r)
  | none => .ok (false, l)
def tst (p : List Int → Bool) : Pa Bool := fun l => .ok (p l, l)
def nxt : Pa Int := fun l => match l with
  | [] => .bad
  | c :: r => .ok (c, r)
def grd (b : Bool) : Pa Unit := if b = true then pr () else fl
def iff {α : Type} (b : Bool) (f g : Pa α) : Pa α := if b = true then f else g
def inB (c : Int) (w : List Int) : Bool := decide (0 ≤ c ∧ c < 128) && w.contains c
def synW : List Int := [94, 36, 92, 46, 42, 43, 63, 40, 41, 91, 93, 123, 125, 124]
def hexW : List Int := [48, 49, 50, 51, 52, 53, 54, 55, 56, 57, 97, 98, 99, 100, 101, 102, 65, 66, 67, 68, 69, 70]
def leafT (k : Int) : PT := .node k [] 0 0 false []
def setT (rs : List Range) : PT := .node 2 rs 0 0 false []
def severalM (k : Int) : List PT → PT
  | [] => leafT 1
  | [x] => x
  | l => .node k [] 0 0 false l
def hd (l : List Int) : Int := match l with
  | [] => -1
  | c :: _ => c
def isDig (c : Int) : Bool := decide (48 ≤ c ∧ c ≤ 57)
def numL : Int → Pa Int
  | n, [] => .ok (n, [])
  | n, c :: r => if isDig c = true then (if n * 10 + c - 48 ≤ 1000 then numL (n * 10 + c - 48) r else .bad) else .ok (n, c :: r)
def numP : Pa Int := pb (tst fun l => isDig (hd l)) fun b => iff b (numL 0) (pr (-1))
/-- A count, or none. -/
def countP : Pa (Option (Int × Int)) :=
  pb (opt [42]) fun b => iff b (pr (some (0, -1))) <|
  pb (opt [43]) fun b => iff b (pr (some (1, -1))) <|
  pb (opt [63]) fun b => iff b (pr (some (0, 1))) <|
  pb (opt [123]) fun b => iff (!b) (pr none) <|
  pb numP fun low => pb (opt [44]) fun c => pb (iff c numP (pr low)) fun high =>
  pb (grd (decide (0 ≤ low ∧ (high < 0 ∨ low ≤ high)))) fun _ => pb (opt [125]) fun d => pb (grd d) fun _ => pr (some (low, high))
def hexD (c : Int) : Int := c % 16 + (if c > 57 then 9 else 0)
def hexP : Nat → Int → Pa Int
  | 0, x => pr x
  | n + 1, x => pb nxt fun c => pb (grd (inB c hexW)) fun _ => hexP n (x * 16 + hexD c)
def uniL : Int → Pa Int
  | x, [] => .bad
  | x, c :: r => if c = 125 then .ok (x, r) else if inB c hexW = true then uniL (min (x * 16 + hexD c) 1114112) r else .bad
def pointOk (x : Int) : Bool := decide (0 ≤ x ∧ x ≤ 1114111 ∧ ¬ (55296 ≤ x ∧ x ≤ 57343))
def unicodeP : Pa Int :=
  pb (opt [123]) fun b => iff b
    (pb (hexP 1 0) fun x => pb (uniL x) fun y => pb (grd (pointOk y)) fun _ => pr y) <|
  pb (hexP 4 0) fun x => iff (decide (x < 55296 ∨ x > 57343)) (pr x) <|
  pb (opt [92, 117]) fun c => pb (grd c) fun _ => pb (hexP 4 0) fun y => pb (grd (decide (x ≤ 56319 ∧ 56320 ≤ y ∧ y ≤ 57343))) fun _ => pr (65536 + (x - 55296) * 1024 + (y - 56320))
def kindsL (c : Int) : List Range :=
  if c = 100 then [⟨48, 57⟩] else if c = 119 then [⟨48, 57⟩, ⟨65, 90⟩, ⟨95, 95⟩, ⟨97, 122⟩]
  else [⟨9, 13⟩, ⟨32, 32⟩, ⟨160, 160⟩, ⟨5760, 5760⟩, ⟨8192, 8202⟩, ⟨8232, 8233⟩, ⟨8239, 8239⟩, ⟨8287, 8287⟩, ⟨12288, 12288⟩, ⟨65279, 65279⟩]
def kindsM (c : Int) : List Range := if c = 100 ∨ c = 119 ∨ c = 115 then kindsL c else turnR (kindsL (c + 32))
def oneR (p : Int) : List Range := [⟨p, p⟩]
def plainE (c : Int) : Option Int := if c = 116 then some 9 else if c = 110 then some 10 else if c = 118 then some 11 else if c = 102 then some 12 else if c = 114 then some 13 else none
def isLet (c : Int) : Bool := decide ((65 ≤ c ∧ c ≤ 90) ∨ (97 ≤ c ∧ c ≤ 122))
/-- What stands behind a backslash; whether it is a set of a letter. -/
def escapeP : Pa (List Range × Bool) :=
  pb nxt fun c => iff (inB c [100, 119, 115, 68, 87, 83]) (pr (kindsM c, true)) <|
  match plainE c with
  | some p => pr (oneR p, false)
  | none =>
    iff (decide (c = 48)) (pb (tst fun l => isDig (hd l)) fun b => pb (grd (!b)) fun _ => pr (oneR 0, false)) <|
    iff (decide (c = 99)) (pb nxt fun x => pb (grd (isLet x)) fun _ => pr (oneR (x % 32), false)) <|
    iff (decide (c = 120)) (pb (hexP 2 0) fun x => pr (oneR x, false)) <|
    iff (decide (c = 117)) (pb unicodeP fun x => pr (oneR x, false)) <|
    pb (grd (inB c (synW ++ [47]))) fun _ => pr (oneR c, false)
def markP : Pa (List Range × Bool) :=
  pb (opt [92, 98]) fun b => iff b (pr (oneR 8, false)) <|
  pb (opt [92, 45]) fun b => iff b (pr (oneR 45, false)) <|
  pb (opt [92]) fun b => iff b escapeP <|
  pb nxt fun c => pr (oneR c, false)
def fromOf : List Range → Int
  | [] => 0
  | r :: _ => r.From
/-- Does a range go on here? -/
def goesOn (l : List Int) : Bool := match l with
  | [] => false
  | [c] => decide (c = 45)
  | c :: e :: _ => decide (c = 45) && !decide (e = 93)
def classL : Nat → List Range → Pa (List Range)
  | 0, _ => no
  | n + 1, acc => pb (opt [93]) fun b => iff b (pr acc) <|
    pb markP fun a => pb (tst goesOn) fun g => iff g
      (pb nxt fun _ => pb markP fun b => pb (grd (decide (a.2 = false ∧ b.2 = false ∧ fromOf a.1 ≤ fromOf b.1))) fun _ => classL n (acc ++ [⟨fromOf a.1, fromOf b.1⟩]))
      (classL n (acc ++ a.1))
def classP (n : Nat) : Pa (List Range) := pb (opt [94]) fun t => pb (classL n []) fun l => pr (if t = true then turnR l else mergeR l)
def dotL : List Range := [⟨10, 10⟩, ⟨13, 13⟩, ⟨8232, 8233⟩]
/-- An atom that is no group. -/
def setP (n : Nat) : Pa PT :=
  pb (opt [46]) fun b => iff b (pr (setT (turnR dotL))) <|
  pb (opt [91]) fun b => iff b (pb (classP n) fun l => pr (setT l)) <|
  pb (opt [92]) fun b => iff b (pb escapeP fun a => pr (setT a.1)) <|
  pb nxt fun c => pb (grd (!inB c synW)) fun _ => pr (setT (oneR c))
def rowOn (l : List Int) : Bool := match l with
  | [] => false
  | c :: _ => !inB c [124, 41]
mutual
def patP : Nat → Int → Pa PT
  | 0, _ => no
  | n + 1, d => pb (rowP n d []) fun x => altsP n d [x]
def altsP : Nat → Int → List PT → Pa PT
  | 0, _, _ => no
  | n + 1, d, acc => pb (opt [124]) fun b => iff b (pb (rowP n d []) fun x => altsP n d (acc ++ [x])) (pr (severalM 4 acc))
def rowP : Nat → Int → List PT → Pa PT
  | 0, _, _ => no
  | n + 1, d, acc => pb (tst rowOn) fun b => iff b (pb (termP n d) fun x => rowP n d (acc ++ [x])) (pr (severalM 3 acc))
def termP : Nat → Int → Pa PT
  | 0, _ => no
  | n + 1, d =>
    pb (opt [94]) fun b => iff b (pr (leafT 6)) <|
    pb (opt [36]) fun b => iff b (pr (leafT 7)) <|
    pb (opt [92, 98]) fun b => iff b (pr (leafT 8)) <|
    pb (opt [92, 66]) fun b => iff b (pr (leafT 9)) <|
    pb (atomP n d) fun x => pb countP fun c => match c with
      | none => pr x
      | some (lo, hi) => pb (opt [63]) fun z => pr (.node 5 [] lo hi z [x])
def atomP : Nat → Int → Pa PT
  | 0, _ => no
  | n + 1, d =>
    pb (opt [40, 63, 58]) fun b => pb (iff b (pr true) (opt [40])) fun g => iff g
      (pb (tst fun l => decide (hd l = 63)) fun q => pb (grd (!q)) fun _ => pb (grd (decide (d + 1 ≤ 200))) fun _ => pb (patP n (d + 1)) fun x => pb (opt [41]) fun z => pb (grd z) fun _ => pr x)
      (setP n)
end
def parseM (n : Nat) (p : List Int) : Rs PT := match patP n 0 p with
  | .out => .out
  | .bad => .bad
  | .ok (x, r) => if r = [] then .ok x else .bad
end
section
open Go
set_option linter.unusedVariables false
set_option linter.unusedSimpArgs false
set_option linter.unusedSectionVars false
set_option linter.unnecessarySimpa false
/-- What may stand behind: nothing, or a parenthesis that ends. -/
def Tl (t : List Int) : Prop := t = [] ∨ ∃ t', t = 41 :: t'
/-- What is read does not hang on what stands behind, and the rest is what stands behind. -/
structure Lcl {α : Type} (f : Pa α) : Prop where
  loc : ∀ {l t : List Int} {a : α} {r : List Int}, Tl t → f l = .ok (a, r) → f (l ++ t) = .ok (a, r ++ t)
  suf : ∀ {l : List Int} {a : α} {r : List Int}, f l = .ok (a, r) → r <:+ l
variable {α β : Type}
theorem pb_ok {f : Pa α} {g : α → Pa β} {l : List Int} {b : β} {r : List Int} (h : pb f g l = .ok (b, r)) : ∃ a l1, f l = .ok (a, l1) ∧ g a l1 = .ok (b, r) := by
  unfold pb at h
  split at h
  · cases h
  · cases h
  · rename_i a l1 e; exact ⟨a, l1, e, h⟩
theorem pb_run {f : Pa α} {g : α → Pa β} {l l1 : List Int} {a : α} (h : f l = .ok (a, l1)) : pb f g l = g a l1 := by
  unfold pb; rw [h]
theorem good_pb {f : Pa α} {g : α → Pa β} (hf : Lcl f) (hg : ∀ a, Lcl (g a)) : Lcl (pb f g) where
  loc ht h := by
    obtain ⟨a, l1, h1, h2⟩ := pb_ok h
    rw [pb_run (hf.loc ht h1)]
    exact (hg a).loc ht h2
  suf h := by
    obtain ⟨a, l1, h1, h2⟩ := pb_ok h
    exact ((hg a).suf h2).trans (hf.suf h1)
theorem good_pr (a : α) : Lcl (pr a) where
  loc _ h := by cases h; rfl
  suf h := by cases h; exact List.suffix_refl _
theorem good_fl : Lcl (fl : Pa α) where
  loc _ h := by cases h
  suf h := by cases h
theorem good_no : Lcl (no : Pa α) where
  loc _ h := by cases h
  suf h := by cases h
theorem good_grd (b : Bool) : Lcl (grd b) := by
  unfold grd; split
  · exact good_pr _
  · exact good_fl
theorem good_iff {b : Bool} {f g : Pa α} (hf : Lcl f) (hg : Lcl g) : Lcl (iff b f g) := by
  unfold iff; split
  · exact hf
  · exact hg
theorem good_nxt : Lcl nxt where
  loc {l t a r} _ h := by
    cases l with
    | nil => cases h
    | cons c s => cases h; rfl
  suf {l a r} h := by
    cases l with
    | nil => cases h
    | cons c s => cases h; exact List.suffix_cons _ _
theorem takeM_some : ∀ {w l r : List Int}, takeM w l = some r → l = w ++ r
  | [], l, r, h => by simp only [takeM] at h; cases h; rfl
  | c :: w, [], r, h => by simp [takeM] at h
  | c :: w, x :: l, r, h => by
    simp only [takeM] at h
    split at h
    · rename_i e; subst e; rw [takeM_some h]; rfl
    · cases h
theorem takeM_app : ∀ (w r : List Int), takeM w (w ++ r) = some r
  | [], r => rfl
  | c :: w, r => by simp [takeM, takeM_app w r]
theorem takeM_tl : ∀ {w l t : List Int}, (41 : Int) ∉ w → Tl t → takeM w l = none → takeM w (l ++ t) = none
  | [], l, t, _, _, h => by simp [takeM] at h
  | c :: w, [], t, hw, ht, h => by
    rcases ht with rfl | ⟨t', rfl⟩
    · rfl
    · simp only [List.nil_append, takeM]
      rw [if_neg (by intro e; exact hw (by rw [← e]; simp))]
  | c :: w, x :: l, t, hw, ht, h => by
    simp only [List.cons_append, takeM] at h ⊢
    split
    · rename_i e
      rw [if_pos e] at h
      exact takeM_tl (by intro k; exact hw (List.mem_cons_of_mem _ k)) ht h
    · rfl
theorem good_opt {w : List Int} (hw : (41 : Int) ∉ w) : Lcl (opt w) where
  loc {l t a r} ht h := by
    unfold opt at h ⊢
    split at h
    · rename_i r' e
      cases h
      rw [takeM_some e, List.append_assoc, takeM_app]
    · rename_i e
      cases h
      rw [takeM_tl hw ht e]
  suf {l a r} h := by
    unfold opt at h
    split at h
    · rename_i r' e
      cases h
      rw [takeM_some e]
      exact List.suffix_append _ _
    · cases h; exact List.suffix_refl _
theorem must_ok {w : List Int} {f : Pa α} {l r : List Int} {a : α} (h : pb (opt w) (fun z => pb (grd z) fun _ => f) l = .ok (a, r)) : ∃ l1, l = w ++ l1 ∧ f l1 = .ok (a, r) := by
  obtain ⟨z, l1, h1, h2⟩ := pb_ok h
  unfold opt at h1
  split at h1
  · rename_i r' e
    cases h1
    exact ⟨_, takeM_some e, h2⟩
  · cases h1; cases h2
theorem must_run {w : List Int} {f : Pa α} {l : List Int} : pb (opt w) (fun z => pb (grd z) fun _ => f) (w ++ l) = f l := by
  have : opt w (w ++ l) = .ok (true, l) := by unfold opt; rw [takeM_app]
  rw [pb_run this]; rfl
theorem good_must {w : List Int} {f : Pa α} (hf : Lcl f) : Lcl (pb (opt w) fun z => pb (grd z) fun _ => f) where
  loc {l t a r} ht h := by
    obtain ⟨l1, rfl, h2⟩ := must_ok h
    rw [List.append_assoc, must_run]
    exact hf.loc ht h2
  suf {l a r} h := by
    obtain ⟨l1, rfl, h2⟩ := must_ok h
    exact (hf.suf h2).trans (List.suffix_append _ _)
theorem good_tst {p : List Int → Bool} (hp : ∀ l t, Tl t → p (l ++ t) = p l) : Lcl (tst p) where
  loc {l t a r} ht h := by
    unfold tst at h ⊢
    cases h
    rw [hp _ _ ht]
  suf {l a r} h := by unfold tst at h; cases h; exact List.suffix_refl _
theorem hd_tl {p : Int → Bool} (h : p 41 = p (-1)) (l t : List Int) (ht : Tl t) : p (hd (l ++ t)) = p (hd l) := by
  cases l with
  | cons c s => rfl
  | nil =>
    rcases ht with rfl | ⟨t', rfl⟩
    · rfl
    · exact h
theorem good_numL : ∀ (n : Int), Lcl (numL n) := by
  have loc : ∀ (l : List Int) (n : Int) {t : List Int} {a : Int} {r : List Int}, Tl t → numL n l = .ok (a, r) → numL n (l ++ t) = .ok (a, r ++ t) := by
    intro l
    induction l with
    | nil =>
      intro n t a r ht h
      simp only [numL] at h
      cases h
      rcases ht with rfl | ⟨t', rfl⟩
      · rfl
      · rfl
    | cons c s ih =>
      intro n t a r ht h
      simp only [List.cons_append, numL] at h ⊢
      split at h
      · rename_i e
        rw [if_pos e]
        split at h
        · rename_i e2
          rw [if_pos e2]
          exact ih _ ht h
        · cases h
      · rename_i e
        rw [if_neg e]
        cases h; rfl
  have suf : ∀ (l : List Int) (n : Int) {a : Int} {r : List Int}, numL n l = .ok (a, r) → r <:+ l := by
    intro l
    induction l with
    | nil => intro n a r h; simp only [numL] at h; cases h; exact List.suffix_refl _
    | cons c s ih =>
      intro n a r h
      simp only [numL] at h
      split at h
      · split at h
        · exact (ih _ h).trans (List.suffix_cons _ _)
        · cases h
      · cases h; exact List.suffix_refl _
  exact fun n => ⟨fun ht h => loc _ n ht h, fun h => suf _ n h⟩
theorem good_uniL : ∀ (n : Int), Lcl (uniL n) := by
  have loc : ∀ (l : List Int) (n : Int) {t : List Int} {a : Int} {r : List Int}, Tl t → uniL n l = .ok (a, r) → uniL n (l ++ t) = .ok (a, r ++ t) := by
    intro l
    induction l with
    | nil => intro n t a r ht h; simp only [uniL] at h; cases h
    | cons c s ih =>
      intro n t a r ht h
      simp only [List.cons_append, uniL] at h ⊢
      split at h
      · rename_i e
        rw [if_pos e]; cases h; rfl
      · rename_i e
        rw [if_neg e]
        split at h
        · rename_i e2
          rw [if_pos e2]
          exact ih _ ht h
        · cases h
  have suf : ∀ (l : List Int) (n : Int) {a : Int} {r : List Int}, uniL n l = .ok (a, r) → r <:+ l := by
    intro l
    induction l with
    | nil => intro n a r h; simp only [uniL] at h; cases h
    | cons c s ih =>
      intro n a r h
      simp only [uniL] at h
      split at h
      · cases h; exact List.suffix_cons _ _
      · split at h
        · exact (ih _ h).trans (List.suffix_cons _ _)
        · cases h
  exact fun n => ⟨fun ht h => loc _ n ht h, fun h => suf _ n h⟩
theorem good_dig : Lcl (tst fun l => isDig (hd l)) := good_tst fun l t ht => hd_tl (p := isDig) (by decide) l t ht
theorem good_numP : Lcl numP := good_pb good_dig fun b => good_iff (good_numL 0) (good_pr _)
theorem good_countP : Lcl countP :=
  good_pb (good_opt (by decide)) fun _ => good_iff (good_pr _) <|
  good_pb (good_opt (by decide)) fun _ => good_iff (good_pr _) <|
  good_pb (good_opt (by decide)) fun _ => good_iff (good_pr _) <|
  good_pb (good_opt (by decide)) fun _ => good_iff (good_pr _) <|
  good_pb good_numP fun _ => good_pb (good_opt (by decide)) fun _ => good_pb (good_iff good_numP (good_pr _)) fun _ =>
  good_pb (good_grd _) fun _ => good_must (good_pr _)
theorem good_hexP : ∀ (n : Nat) (x : Int), Lcl (hexP n x)
  | 0, x => good_pr _
  | n + 1, x => good_pb good_nxt fun _ => good_pb (good_grd _) fun _ => good_hexP n _
theorem good_unicodeP : Lcl unicodeP :=
  good_pb (good_opt (by decide)) fun _ => good_iff
    (good_pb (good_hexP 1 0) fun x => good_pb (good_uniL x) fun _ => good_pb (good_grd _) fun _ => good_pr _) <|
  good_pb (good_hexP 4 0) fun _ => good_iff (good_pr _) <| good_must <| good_pb (good_hexP 4 0) fun _ => good_pb (good_grd _) fun _ => good_pr _
theorem good_escapeP : Lcl escapeP :=
  good_pb good_nxt fun c => good_iff (good_pr _) <| by
    split
    · exact good_pr _
    · exact good_iff (good_pb good_dig fun _ => good_pb (good_grd _) fun _ => good_pr _) <|
        good_iff (good_pb good_nxt fun _ => good_pb (good_grd _) fun _ => good_pr _) <|
        good_iff (good_pb (good_hexP 2 0) fun _ => good_pr _) <|
        good_iff (good_pb good_unicodeP fun _ => good_pr _) <|
        good_pb (good_grd _) fun _ => good_pr _
theorem good_markP : Lcl markP :=
  good_pb (good_opt (by decide)) fun _ => good_iff (good_pr _) <|
  good_pb (good_opt (by decide)) fun _ => good_iff (good_pr _) <|
  good_pb (good_opt (by decide)) fun _ => good_iff good_escapeP <|
  good_pb good_nxt fun _ => good_pr _
theorem goesOn_tl (l t : List Int) (ht : Tl t) : goesOn (l ++ t) = goesOn l := by
  rcases ht with rfl | ⟨t', rfl⟩
  · rw [List.append_nil]
  · match l with
    | [] =>
      cases t' with
      | nil => rfl
      | cons x y => rfl
    | [c] => simp [goesOn]
    | c :: e :: r => rfl
theorem good_goesOn : Lcl (tst goesOn) := good_tst goesOn_tl
theorem good_classL : ∀ (n : Nat) (acc : List Range), Lcl (classL n acc)
  | 0, _ => good_no
  | n + 1, acc => good_pb (good_opt (by decide)) fun _ => good_iff (good_pr _) <|
    good_pb good_markP fun a => good_pb good_goesOn fun _ => good_iff
      (good_pb good_nxt fun _ => good_pb good_markP fun b => good_pb (good_grd _) fun _ => good_classL n _)
      (good_classL n _)
theorem good_classP (n : Nat) : Lcl (classP n) := good_pb (good_opt (by decide)) fun _ => good_pb (good_classL n []) fun _ => good_pr _
theorem good_setP (n : Nat) : Lcl (setP n) :=
  good_pb (good_opt (by decide)) fun _ => good_iff (good_pr _) <|
  good_pb (good_opt (by decide)) fun _ => good_iff (good_pb (good_classP n) fun _ => good_pr _) <|
  good_pb (good_opt (by decide)) fun _ => good_iff (good_pb good_escapeP fun _ => good_pr _) <|
  good_pb good_nxt fun _ => good_pb (good_grd _) fun _ => good_pr _
theorem good_rowOn : Lcl (tst rowOn) := good_tst fun l t ht => by
  cases l with
  | cons c s => rfl
  | nil =>
    rcases ht with rfl | ⟨t', rfl⟩
    · rfl
    · rfl
structure Lcl5 (n : Nat) : Prop where
  pat : ∀ d, Lcl (patP n d)
  alts : ∀ d acc, Lcl (altsP n d acc)
  row : ∀ d acc, Lcl (rowP n d acc)
  term : ∀ d, Lcl (termP n d)
  atom : ∀ d, Lcl (atomP n d)
theorem good5 : ∀ n, Lcl5 n
  | 0 => by
    refine ⟨fun d => ?_, fun d a => ?_, fun d a => ?_, fun d => ?_, fun d => ?_⟩
    · rw [patP]; exact good_no
    · rw [altsP]; exact good_no
    · rw [rowP]; exact good_no
    · rw [termP]; exact good_no
    · rw [atomP]; exact good_no
  | n + 1 => by
    have ih := good5 n
    refine ⟨fun d => ?_, fun d a => ?_, fun d a => ?_, fun d => ?_, fun d => ?_⟩
    · rw [patP]; exact good_pb (ih.row _ _) fun _ => ih.alts _ _
    · rw [altsP]; exact good_pb (good_opt (by decide)) fun _ => good_iff (good_pb (ih.row _ _) fun _ => ih.alts _ _) (good_pr _)
    · rw [rowP]; exact good_pb good_rowOn fun _ => good_iff (good_pb (ih.term _) fun _ => ih.row _ _) (good_pr _)
    · rw [termP]
      exact good_pb (good_opt (by decide)) fun _ => good_iff (good_pr _) <| good_pb (good_opt (by decide)) fun _ => good_iff (good_pr _) <|
        good_pb (good_opt (by decide)) fun _ => good_iff (good_pr _) <| good_pb (good_opt (by decide)) fun _ => good_iff (good_pr _) <|
        good_pb (ih.atom _) fun _ => good_pb good_countP fun c => by
          split
          · exact good_pr _
          · exact good_pb (good_opt (by decide)) fun _ => good_pr _
    · rw [atomP]
      exact good_pb (good_opt (by decide)) fun _ => good_pb (good_iff (good_pr _) (good_opt (by decide))) fun _ => good_iff
        (good_pb (good_tst fun l t ht => hd_tl (p := fun c => decide (c = 63)) (by decide) l t ht) fun _ => good_pb (good_grd _) fun _ => good_pb (good_grd _) fun _ => good_pb (ih.pat _) fun _ => good_must (good_pr _))
        (good_setP n)
end
section
open Go
set_option linter.unusedVariables false
set_option linter.unusedSimpArgs false
set_option linter.unusedSectionVars false
set_option linter.unnecessarySimpa false
variable {α β : Type}
/-- Something is read. -/
def Strict (f : Pa α) : Prop := ∀ {l : List Int} {a : α} {r : List Int}, f l = .ok (a, r) → r.length < l.length
theorem suf_len {l r : List Int} (h : r <:+ l) : r.length ≤ l.length := h.length_le
theorem strict_l {f : Pa α} {g : α → Pa β} (hf : Strict f) (hg : ∀ a, Lcl (g a)) : Strict (pb f g) := by
  intro l b r h
  obtain ⟨a, l1, h1, h2⟩ := pb_ok h
  have := hf h1
  have := suf_len ((hg a).suf h2)
  omega
theorem strict_nxt : Strict nxt := by
  intro l a r h
  cases l with
  | nil => cases h
  | cons c s => cases h; simp
theorem opt_true {w l r : List Int} (h : opt w l = .ok (true, r)) : l = w ++ r := by
  unfold opt at h
  split at h
  · rename_i r' e; cases h; exact takeM_some e
  · cases h
theorem opt_false {w l r : List Int} (h : opt w l = .ok (false, r)) : r = l ∧ takeM w l = none := by
  unfold opt at h
  split at h
  · cases h
  · rename_i e; cases h; exact ⟨rfl, e⟩
theorem strict_opt {w : List Int} {f g : Pa α} (hw : 0 < w.length) (hf : Lcl f) (hg : Strict g) : Strict (pb (opt w) fun b => iff b f g) := by
  intro l a r h
  obtain ⟨b, l1, h1, h2⟩ := pb_ok h
  cases b with
  | true =>
    have e := opt_true h1
    have := suf_len (hf.suf h2)
    rw [e, List.length_append]
    omega
  | false =>
    have e := (opt_false h1).1
    subst e
    exact hg h2
theorem strict_markP : Strict markP :=
  strict_opt (by decide) (good_pr _) <| strict_opt (by decide) (good_pr _) <| strict_opt (by decide) good_escapeP <| strict_l strict_nxt fun _ => good_pr _
theorem strict_setP (n : Nat) : Strict (setP n) :=
  strict_opt (by decide) (good_pr _) <| strict_opt (by decide) (good_pb (good_classP n) fun _ => good_pr _) <| strict_opt (by decide) (good_pb good_escapeP fun _ => good_pr _) <|
  strict_l strict_nxt fun _ => good_pb (good_grd _) fun _ => good_pr _
/-- What an atom begins with. -/
theorem atom_ok {n : Nat} {d : Int} {l r : List Int} {x : PT} (h : atomP (n + 1) d l = .ok (x, r)) :
    (∃ p l1 l2, (p = [40] ∨ p = [40, 63, 58]) ∧ l = p ++ l1 ∧ (p = [40] → takeM [40, 63, 58] l = none) ∧ hd l1 ≠ 63 ∧ d + 1 ≤ 200 ∧ patP n (d + 1) l1 = .ok (x, 41 :: r) ∧ l2 = l1) ∨ (takeM [40, 63, 58] l = none ∧ takeM [40] l = none ∧ setP n l = .ok (x, r)) := by
  rw [atomP] at h
  obtain ⟨b, l1, h1, h2⟩ := pb_ok h
  obtain ⟨g, l2, h3, h4⟩ := pb_ok h2
  have grp : ∀ {p : List Int}, (p = [40] ∨ p = [40, 63, 58]) → (p = [40] → takeM [40, 63, 58] l = none) → l = p ++ l2 → g = true → (∃ p l1 l2, (p = [40] ∨ p = [40, 63, 58]) ∧ l = p ++ l1 ∧ (p = [40] → takeM [40, 63, 58] l = none) ∧ hd l1 ≠ 63 ∧ d + 1 ≤ 200 ∧ patP n (d + 1) l1 = .ok (x, 41 :: r) ∧ l2 = l1) := by
    intro p hp hn e hg
    subst hg
    simp only [iff, if_true] at h4
    obtain ⟨q, l3, h5, h6⟩ := pb_ok h4
    unfold tst at h5
    cases h5
    obtain ⟨_, l4, h7, h8⟩ := pb_ok h6
    unfold grd at h7
    split at h7
    · rename_i hq
      cases h7
      obtain ⟨_, l5, h9, h10⟩ := pb_ok h8
      unfold grd at h9
      split at h9
      · rename_i hd'
        cases h9
        obtain ⟨y, l6, h11, h12⟩ := pb_ok h10
        obtain ⟨l7, e2, h13⟩ := must_ok h12
        subst e2
        cases h13
        exact ⟨p, _, _, hp, e, hn, by simpa using hq, by simpa using hd', h11, rfl⟩
      · cases h9
    · cases h7
  cases b with
  | true =>
    cases h3
    exact .inl (grp (.inr rfl) (by intro k; cases k) (opt_true h1) rfl)
  | false =>
    obtain ⟨rfl, e1⟩ := opt_false h1
    cases g with
    | true => exact .inl (grp (.inl rfl) (fun _ => e1) (opt_true h3) rfl)
    | false =>
      obtain ⟨rfl, e2⟩ := opt_false h3
      exact .inr ⟨e1, e2, h4⟩
theorem strict_atomP : ∀ (n : Nat) (d : Int), Strict (atomP n d)
  | 0, d => by intro h; rw [atomP] at h; cases h
  | n + 1, d => by
    intro h
    rcases atom_ok h with ⟨p, l1, l2, hp, rfl, _, _, _, h1, _⟩ | ⟨_, _, h1⟩
    · have := suf_len (((good5 n).pat (d + 1)).suf h1)
      rcases hp with rfl | rfl <;> simp at this ⊢ <;> omega
    · exact strict_setP n h1
theorem strict_termP : ∀ (n : Nat) (d : Int), Strict (termP n d)
  | 0, d => by intro h; rw [termP] at h; cases h
  | n + 1, d => by
    rw [termP]
    exact strict_opt (by decide) (good_pr _) <| strict_opt (by decide) (good_pr _) <| strict_opt (by decide) (good_pr _) <| strict_opt (by decide) (good_pr _) <|
      strict_l (strict_atomP n d) fun _ => good_pb good_countP fun c => by
        split
        · exact good_pr _
        · exact good_pb (good_opt (by decide)) fun _ => good_pr _
/-! ### Fuel -/
def Live (f : Pa α) (l : List Int) : Prop := f l ≠ .out
theorem live_pb {f : Pa α} {g : α → Pa β} {l : List Int} (hf : Live f l) (hg : ∀ a r, f l = .ok (a, r) → Live (g a) r) : Live (pb f g) l := by
  unfold Live pb
  split
  · rename_i e; exact (hf e).elim
  · intro k; cases k
  · rename_i a r e; exact hg a r e
theorem live_pr (a : α) (l : List Int) : Live (pr a) l := by intro h; cases h
theorem live_grd (b : Bool) (l : List Int) : Live (grd b) l := by
  unfold grd; split <;> (intro h; cases h)
theorem live_opt (w l : List Int) : Live (opt w) l := by unfold Live opt; split <;> (intro h; cases h)
theorem live_tst (p : List Int → Bool) (l : List Int) : Live (tst p) l := by intro h; cases h
theorem live_nxt (l : List Int) : Live nxt l := by cases l <;> (intro h; cases h)
theorem live_iff {b : Bool} {f g : Pa α} {l : List Int} (hf : b = true → Live f l) (hg : b = false → Live g l) : Live (iff b f g) l := by
  cases b with
  | true => exact hf rfl
  | false => exact hg rfl
theorem live_numL : ∀ (l : List Int) (n : Int), Live (numL n) l
  | [], n => by intro h; simp only [numL] at h; cases h
  | c :: r, n => by
    unfold Live
    simp only [numL]
    split
    · split
      · exact live_numL r _
      · intro h; cases h
    · intro h; cases h
theorem live_uniL : ∀ (l : List Int) (n : Int), Live (uniL n) l
  | [], n => by intro h; simp only [uniL] at h; cases h
  | c :: r, n => by
    unfold Live
    simp only [uniL]
    split
    · intro h; cases h
    · split
      · exact live_uniL r _
      · intro h; cases h
theorem live_numP (l : List Int) : Live numP l := live_pb (live_tst _ _) fun _ _ _ => live_iff (fun _ => live_numL _ _) fun _ => live_pr _ _
theorem live_countP (l : List Int) : Live countP l :=
  live_pb (live_opt _ _) fun _ _ _ => live_iff (fun _ => live_pr _ _) fun _ =>
  live_pb (live_opt _ _) fun _ _ _ => live_iff (fun _ => live_pr _ _) fun _ =>
  live_pb (live_opt _ _) fun _ _ _ => live_iff (fun _ => live_pr _ _) fun _ =>
  live_pb (live_opt _ _) fun _ _ _ => live_iff (fun _ => live_pr _ _) fun _ =>
  live_pb (live_numP _) fun _ _ _ => live_pb (live_opt _ _) fun _ _ _ => live_pb (live_iff (fun _ => live_numP _) fun _ => live_pr _ _) fun _ _ _ =>
  live_pb (live_grd _ _) fun _ _ _ => live_pb (live_opt _ _) fun _ _ _ => live_pb (live_grd _ _) fun _ _ _ => live_pr _ _
theorem live_hexP : ∀ (n : Nat) (x : Int) (l : List Int), Live (hexP n x) l
  | 0, x, l => live_pr _ _
  | n + 1, x, l => live_pb (live_nxt _) fun _ _ _ => live_pb (live_grd _ _) fun _ _ _ => live_hexP n _ _
theorem live_unicodeP (l : List Int) : Live unicodeP l :=
  live_pb (live_opt _ _) fun _ _ _ => live_iff
    (fun _ => live_pb (live_hexP _ _ _) fun _ _ _ => live_pb (live_uniL _ _) fun _ _ _ => live_pb (live_grd _ _) fun _ _ _ => live_pr _ _) fun _ =>
  live_pb (live_hexP _ _ _) fun _ _ _ => live_iff (fun _ => live_pr _ _) fun _ =>
  live_pb (live_opt _ _) fun _ _ _ => live_pb (live_grd _ _) fun _ _ _ => live_pb (live_hexP _ _ _) fun _ _ _ => live_pb (live_grd _ _) fun _ _ _ => live_pr _ _
theorem live_escapeP (l : List Int) : Live escapeP l :=
  live_pb (live_nxt _) fun _ _ _ => live_iff (fun _ => live_pr _ _) fun _ => by
    split
    · exact live_pr _ _
    · exact live_iff (fun _ => live_pb (live_tst _ _) fun _ _ _ => live_pb (live_grd _ _) fun _ _ _ => live_pr _ _) fun _ =>
        live_iff (fun _ => live_pb (live_nxt _) fun _ _ _ => live_pb (live_grd _ _) fun _ _ _ => live_pr _ _) fun _ =>
        live_iff (fun _ => live_pb (live_hexP _ _ _) fun _ _ _ => live_pr _ _) fun _ =>
        live_iff (fun _ => live_pb (live_unicodeP _) fun _ _ _ => live_pr _ _) fun _ =>
        live_pb (live_grd _ _) fun _ _ _ => live_pr _ _
theorem live_markP (l : List Int) : Live markP l :=
  live_pb (live_opt _ _) fun _ _ _ => live_iff (fun _ => live_pr _ _) fun _ =>
  live_pb (live_opt _ _) fun _ _ _ => live_iff (fun _ => live_pr _ _) fun _ =>
  live_pb (live_opt _ _) fun _ _ _ => live_iff (fun _ => live_escapeP _) fun _ =>
  live_pb (live_nxt _) fun _ _ _ => live_pr _ _
theorem opt_len {w l r : List Int} {b : Bool} (h : opt w l = .ok (b, r)) : r.length + (if b = true then w.length else 0) = l.length := by
  cases b with
  | true => rw [opt_true h]; simp; omega
  | false => rw [(opt_false h).1]; simp
theorem live_classL : ∀ (n : Nat) (acc : List Range) (l : List Int), l.length < n → Live (classL n acc) l
  | 0, acc, l, h => absurd h (by omega)
  | n + 1, acc, l, h => live_pb (live_opt _ _) fun b r h1 => live_iff (fun _ => live_pr _ _) fun hb => by
      subst hb
      have e := opt_len h1
      simp at e
      refine live_pb (live_markP _) fun a r2 h2 => live_pb (live_tst _ _) fun g r3 h3 => ?_
      have := strict_markP h2
      unfold tst at h3
      cases h3
      refine live_iff (fun _ => live_pb (live_nxt _) fun c r4 h4 => live_pb (live_markP _) fun b r5 h5 => live_pb (live_grd _ _) fun _ r6 h6 => ?_) fun _ => live_classL n _ _ (by omega)
      have := strict_nxt h4
      have := strict_markP h5
      have := suf_len ((good_grd _).suf h6)
      exact live_classL n _ _ (by omega)
theorem live_setP {n : Nat} {l : List Int} (h : l.length ≤ n) : Live (setP n) l :=
  live_pb (live_opt _ _) fun b r h1 => live_iff (fun _ => live_pr _ _) fun hb =>
  live_pb (live_opt _ _) fun c r2 h2 => live_iff (fun hc => live_pb (live_pb (live_opt _ _) fun t r3 h3 => live_pb (live_classL n [] _ (by
      subst hb; subst hc
      have e1 := opt_len h1
      have e2 := opt_len h2
      have e3 := suf_len ((good_opt (w := [94]) (by decide)).suf h3)
      simp at e1 e2
      omega)) fun _ _ _ => live_pr _ _) fun _ _ _ => live_pr _ _) fun _ =>
  live_pb (live_opt _ _) fun _ _ _ => live_iff (fun _ => live_pb (live_escapeP _) fun _ _ _ => live_pr _ _) fun _ =>
  live_pb (live_nxt _) fun _ _ _ => live_pb (live_grd _ _) fun _ _ _ => live_pr _ _
structure Live5 (n : Nat) : Prop where
  pat : ∀ d l, 4 * l.length + 4 ≤ n → Live (patP n d) l
  alts : ∀ d acc l, 4 * l.length + 3 ≤ n → Live (altsP n d acc) l
  row : ∀ d acc l, 4 * l.length + 3 ≤ n → Live (rowP n d acc) l
  term : ∀ d l, 4 * l.length + 2 ≤ n → Live (termP n d) l
  atom : ∀ d l, 4 * l.length + 1 ≤ n → Live (atomP n d) l
theorem live5 : ∀ n, Live5 n
  | 0 => ⟨fun _ _ h => absurd h (by omega), fun _ _ _ h => absurd h (by omega), fun _ _ _ h => absurd h (by omega), fun _ _ h => absurd h (by omega), fun _ _ h => absurd h (by omega)⟩
  | n + 1 => by
    have ih := live5 n
    have gd := good5 n
    refine ⟨fun d l h => ?_, fun d acc l h => ?_, fun d acc l h => ?_, fun d l h => ?_, fun d l h => ?_⟩
    · rw [patP]
      exact live_pb (ih.row _ _ _ (by omega)) fun x r h1 => ih.alts _ _ _ (by have := suf_len ((gd.row _ _).suf h1); omega)
    · rw [altsP]
      refine live_pb (live_opt _ _) fun b r h1 => live_iff (fun hb => ?_) fun _ => live_pr _ _
      subst hb
      have e := opt_len h1
      simp at e
      exact live_pb (ih.row _ _ _ (by omega)) fun x r2 h2 => ih.alts _ _ _ (by have := suf_len ((gd.row _ _).suf h2); omega)
    · rw [rowP]
      refine live_pb (live_tst _ _) fun b r h1 => live_iff (fun hb => ?_) fun _ => live_pr _ _
      unfold tst at h1
      cases h1
      exact live_pb (ih.term _ _ (by omega)) fun x r2 h2 => ih.row _ _ _ (by have := strict_termP n _ h2; omega)
    · rw [termP]
      refine live_pb (live_opt _ _) fun b1 r1 h1 => live_iff (fun _ => live_pr _ _) fun hb1 => live_pb (live_opt _ _) fun b2 r2 h2 => live_iff (fun _ => live_pr _ _) fun hb2 =>
        live_pb (live_opt _ _) fun b3 r3 h3 => live_iff (fun _ => live_pr _ _) fun hb3 => live_pb (live_opt _ _) fun b4 r4 h4 => live_iff (fun _ => live_pr _ _) fun hb4 =>
        live_pb (ih.atom _ _ ?_) fun x r5 h5 => live_pb (live_countP _) fun c r6 h6 => ?_
      · have e1 := opt_len h1; have e2 := opt_len h2; have e3 := opt_len h3; have e4 := opt_len h4
        subst hb1; subst hb2; subst hb3; subst hb4
        simp at e1 e2 e3 e4
        omega
      · split
        · exact live_pr _ _
        · exact live_pb (live_opt _ _) fun _ _ _ => live_pr _ _
    · rw [atomP]
      refine live_pb (live_opt _ _) fun b r1 h1 => live_pb (live_iff (fun _ => live_pr _ _) fun _ => live_opt _ _) fun g r2 h2 => live_iff (fun hg => ?_) fun hg => ?_
      · subst hg
        have e1 := opt_len h1
        have e2 : r2.length < l.length := by
          cases b with
          | true => cases h2; simp at e1; omega
          | false =>
            have e2 := opt_len h2
            simp at e1 e2
            omega
        exact live_pb (live_tst _ _) fun q r3 h3 => live_pb (live_grd _ _) fun _ r4 h4 => live_pb (live_grd _ _) fun _ r5 h5 => live_pb (ih.pat _ _ (by
          have := suf_len ((good_tst (p := fun l => decide (hd l = 63)) (fun l t ht => hd_tl (p := fun c => decide (c = 63)) (by decide) l t ht)).suf h3)
          have := suf_len ((good_grd _).suf h4)
          have := suf_len ((good_grd _).suf h5)
          omega)) fun _ _ _ => live_pb (live_opt _ _) fun _ _ _ => live_pb (live_grd _ _) fun _ _ _ => live_pr _ _
      · have e1 := opt_len h1
        have e2 : r2.length ≤ l.length := by
          cases b with
          | true => cases h2; simp at e1; omega
          | false =>
            have e2 := suf_len ((good_opt (w := [40]) (by decide)).suf h2)
            simp at e1
            omega
        exact live_setP (by omega)
/-! ### Depth -/
def Dp (K : Nat) (f f' : Pa α) : Prop := ∀ {l : List Int} {a : α} {r : List Int}, l.count 40 ≤ K → f l = .ok (a, r) → f' l = .ok (a, r)
theorem dp_refl {K : Nat} (f : Pa α) : Dp K f f := fun _ h => h
theorem dp_pb {K : Nat} {f f' : Pa α} {g g' : α → Pa β} (hg0 : Lcl f) (hf : Dp K f f') (hg : ∀ a, Dp K (g a) (g' a)) : Dp K (pb f g) (pb f' g') := by
  intro l b r hk h
  obtain ⟨a, l1, h1, h2⟩ := pb_ok h
  rw [pb_run (hf hk h1)]
  exact hg a (Nat.le_trans ((hg0.suf h1).sublist.count_le 40) hk) h2
theorem dp_iff {K : Nat} {b : Bool} {f f' g g' : Pa α} (hf : Dp K f f') (hg : Dp K g g') : Dp K (iff b f g) (iff b f' g') := by
  cases b with
  | true => exact hf
  | false => exact hg
theorem dp_no {K : Nat} (f : Pa α) : Dp K no f := fun _ h => by cases h
theorem dp_classL {K n m : Nat} {acc : List Range} (h : n ≤ m) : Dp K (classL n acc) (classL m acc) := by
  induction n generalizing m acc with
  | zero => exact dp_no _
  | succ n ih =>
    obtain ⟨m, rfl⟩ : ∃ m', m = m' + 1 := ⟨m - 1, by omega⟩
    exact dp_pb (good_opt (by decide)) (dp_refl _) fun _ => dp_iff (dp_refl _) <| dp_pb good_markP (dp_refl _) fun _ => dp_pb good_goesOn (dp_refl _) fun _ =>
      dp_iff (dp_pb good_nxt (dp_refl _) fun _ => dp_pb good_markP (dp_refl _) fun _ => dp_pb (good_grd _) (dp_refl _) fun _ => ih (by omega)) (ih (by omega))
theorem dp_setP {K n m : Nat} (h : n ≤ m) : Dp K (setP n) (setP m) :=
  dp_pb (good_opt (by decide)) (dp_refl _) fun _ => dp_iff (dp_refl _) <| dp_pb (good_opt (by decide)) (dp_refl _) fun _ => dp_iff
    (dp_pb (good_classP n) (dp_pb (good_opt (by decide)) (dp_refl _) fun _ => dp_pb (good_classL n []) (dp_classL h) fun _ => dp_refl _) fun _ => dp_refl _) (dp_refl _)
structure Dp5 (n : Nat) : Prop where
  pat : ∀ (m : Nat) (d d' : Int) (K : Nat), n ≤ m → d' + K ≤ 200 → Dp K (patP n d) (patP m d')
  alts : ∀ (m : Nat) (d d' : Int) (K : Nat) acc, n ≤ m → d' + K ≤ 200 → Dp K (altsP n d acc) (altsP m d' acc)
  row : ∀ (m : Nat) (d d' : Int) (K : Nat) acc, n ≤ m → d' + K ≤ 200 → Dp K (rowP n d acc) (rowP m d' acc)
  term : ∀ (m : Nat) (d d' : Int) (K : Nat), n ≤ m → d' + K ≤ 200 → Dp K (termP n d) (termP m d')
  atom : ∀ (m : Nat) (d d' : Int) (K : Nat), n ≤ m → d' + K ≤ 200 → Dp K (atomP n d) (atomP m d')
/-- More fuel, and less depth, do no harm. -/
theorem dp5 : ∀ n, Dp5 n
  | 0 => by
    refine ⟨fun m d d' K _ _ => ?_, fun m d d' K a _ _ => ?_, fun m d d' K a _ _ => ?_, fun m d d' K _ _ => ?_, fun m d d' K _ _ => ?_⟩
    · rw [patP]; exact dp_no _
    · rw [altsP]; exact dp_no _
    · rw [rowP]; exact dp_no _
    · rw [termP]; exact dp_no _
    · rw [atomP]; exact dp_no _
  | n + 1 => by
    have ih := dp5 n
    have gd := good5 n
    have up : ∀ {m : Nat}, n + 1 ≤ m → ∃ m', m = m' + 1 ∧ n ≤ m' := fun {m} h => ⟨m - 1, by omega, by omega⟩
    refine ⟨fun m d d' K hm hK => ?_, fun m d d' K a hm hK => ?_, fun m d d' K a hm hK => ?_, fun m d d' K hm hK => ?_, fun m d d' K hm hK => ?_⟩
    · obtain ⟨m, rfl, hn⟩ := up hm
      rw [patP, patP]; exact dp_pb (gd.row _ _) (ih.row _ _ _ _ _ hn hK) fun _ => ih.alts _ _ _ _ _ hn hK
    · obtain ⟨m, rfl, hn⟩ := up hm
      rw [altsP, altsP]; exact dp_pb (good_opt (by decide)) (dp_refl _) fun _ => dp_iff (dp_pb (gd.row _ _) (ih.row _ _ _ _ _ hn hK) fun _ => ih.alts _ _ _ _ _ hn hK) (dp_refl _)
    · obtain ⟨m, rfl, hn⟩ := up hm
      rw [rowP, rowP]; exact dp_pb good_rowOn (dp_refl _) fun _ => dp_iff (dp_pb (gd.term _) (ih.term _ _ _ _ hn hK) fun _ => ih.row _ _ _ _ _ hn hK) (dp_refl _)
    · obtain ⟨m, rfl, hn⟩ := up hm
      rw [termP, termP]
      exact dp_pb (good_opt (by decide)) (dp_refl _) fun _ => dp_iff (dp_refl _) <| dp_pb (good_opt (by decide)) (dp_refl _) fun _ => dp_iff (dp_refl _) <|
        dp_pb (good_opt (by decide)) (dp_refl _) fun _ => dp_iff (dp_refl _) <| dp_pb (good_opt (by decide)) (dp_refl _) fun _ => dp_iff (dp_refl _) <|
        dp_pb (gd.atom _) (ih.atom _ _ _ _ hn hK) fun _ => dp_refl _
    · obtain ⟨m, rfl, hn⟩ := up hm
      intro l x r hk h
      have h' := h
      rw [atomP] at h' ⊢
      obtain ⟨b, l1, h1, h2⟩ := pb_ok h'
      rw [pb_run h1]
      obtain ⟨g, l2, h3, h4⟩ := pb_ok h2
      rw [pb_run h3]
      cases g with
      | false =>
        have hl : l2 = l := by
          cases b with
          | true => cases h3
          | false =>
            obtain ⟨rfl, _⟩ := opt_false h1
            exact (opt_false h3).1
        subst hl
        simp only [iff, Bool.false_eq_true, if_false] at h4 ⊢
        exact dp_setP hn hk h4
      | true =>
        have hc : l2.count 40 + 1 ≤ l.count 40 := by
          cases b with
          | true =>
            cases h3
            rw [opt_true h1]
            simp
          | false =>
            obtain ⟨rfl, _⟩ := opt_false h1
            rw [opt_true h3]
            simp
        simp only [iff, if_true] at h4 ⊢
        obtain ⟨q, l3, h5, h6⟩ := pb_ok h4
        rw [pb_run h5]
        unfold tst at h5
        cases h5
        obtain ⟨_, l4, h7, h8⟩ := pb_ok h6
        rw [pb_run h7]
        have s4 := (good_grd _).suf h7
        obtain ⟨_, l5, h9, h10⟩ := pb_ok h8
        have s5 := (good_grd _).suf h9
        have hl : l5 = l4 := by
          unfold grd at h9
          split at h9
          · cases h9; rfl
          · cases h9
        subst hl
        have hg : grd (decide (d' + 1 ≤ 200)) l5 = .ok ((), l5) := by
          unfold grd
          rw [if_pos (by simp; omega)]
          rfl
        rw [pb_run hg]
        have c4 := s4.sublist.count_le 40
        exact dp_pb (gd.pat _) (ih.pat _ (d + 1) (d' + 1) (K - 1) hn (by omega)) (fun _ => dp_refl _) (by omega) h10
end
end Go.Proofs.Ytpghocjfmddpkaa.V

/- Numbers: limbs, what is reckoned, texts (several texts together). -/
import Derived.Test.YtjnfkifdgojdaaaGreatV34
import Derived.Test.YtjnfkifdgojdaaaGreatRows
import Derived.OpenShut
import Derived.Deep.Slices
import Derived.Test.YtjnfkifdgojdaaaGreatMA
import Derived.Test.YtjnfkifdgojdaaaGreatVY
import Derived.Test.YtjnfkifdgojdaaaGreatMB
namespace Go.Proofs.YtjnfkifdgojdaaaGreat.V
section
open Go
open Go.ChangeShapes Go.WideShapes Go.Deep
set_option linter.unusedVariables false
set_option linter.unnecessarySimpa false
set_option linter.unusedSimpArgs false
set_option linter.unusedSectionVars false
theorem bulk_mem {H : Type} {d : DataW H} : ∀ {l : List (DataW H)} {n : Nat}, Rows.uptoBulkAll l ≤ n → d ∈ l → Rows.uptoBulk d ≤ n
 | x :: r, n, h, hd => by
  simp only [Rows.uptoBulkAll] at h
  rcases List.mem_cons.1 hd with rfl | hd
  ·omega
  ·exact bulk_mem (by omega) hd
theorem str_bulk {H : Type} {enc : TypeId × Value → H} {P : Program} {w : World} {spare : Nat → Bool} {F : Nat → Prop} {s : ByteArray} {v : Value} {t : TypeId} {d : DataW H} {p : List MemPlace}
  (hd : DRel w F (.str s) v) (h : DataW.Trod enc P w 0 spare true t v d p) (ht : P.underlying t = some .string) : s.size ≤ Rows.uptoBulk d := by
 cases hd
 obtain ⟨m, hm⟩ := h
 obtain ⟨s', h1, h2, h3⟩ := DataW.trod_string ht hm
 have e : s = s' := by
  have := congrArg List.head? h1
  simpa [Value.cells] using this
 have h4 : d = .lit (.string s'.data.toList) := congrArg Prod.fst h2
 rw [h4, e]
 simp only [Rows.uptoBulk]
 rw [Array.length_toList]
 show s'.data.size ≤ _
 omega
end
section
open Go
set_option linter.unusedVariables false
set_option linter.unnecessarySimpa false
set_option linter.unusedSimpArgs false
set_option linter.unusedSectionVars false
theorem bytes_str (s : ByteArray) : isBytes (strInts s) := by
 intro x hx
 unfold strInts at hx
 obtain ⟨b, _, rfl⟩ := List.mem_map.1 hx
 have := UInt8.toNat_lt b
 omega
theorem str_len (s : ByteArray) : (strInts s).length = s.size := by
 unfold strInts
 rw [List.length_map, Array.length_toList]
 rfl
theorem fits_of {l : SL State} (hw : wfStates l) (h : okL l) : Fits l.xs := by
 refine ⟨fun st hst k => ?_, fun st hst k => ?_, fun st hst k => ?_, fun st hst => ?_⟩
 ·have := h.2 st hst
  unfold okS at this
  exact this.2.2.1 k
 ·have := h.2 st hst
  unfold okS at this
  exact this.2.2.2.2.1 k
 ·have := h.2 st hst
  unfold okS at this
  exact this.2.2.2.2.2.2.1 (by omega)
 ·have := hw.2 st hst
  unfold small at this
  omega
theorem over_run {r : pike_run} (hF : Fits r.l_.xs) (hs : r.s_.xs.length < 100000000) (hn : r.l_.xs.length < 10000000) (hp0 : 0 < r.l_.xs.length) : ∃ f n, pr_over_v1 0 false r true n f ∧ Spec r.l_.xs r.s_.xs true r.s_.xs.length 0 [0] 0 f n := by
 have hv : ∀ x ∈ ([0] : List Int), 0 ≤ x ∧ x < r.l_.xs.length := fun x hx => by
  rw [List.mem_singleton.1 hx]; omega
 obtain ⟨all, at_, d, h1, h2, h3, h4⟩ := spread_run (r := r) (i := 0) (src := ⟨1, [0], true⟩) (by omega) (by omega) (by omega) (by show ([0] : List Int).length < _; simp) hv (hF.nx _ _)
 have hav : ∀ x ∈ all, 0 ≤ x ∧ x < r.l_.xs.length := fun x hx => Clos.lt hv (hF.nx _ _) ((h3 x).1 hx)
 have hal : all.length ≤ r.l_.xs.length := nodup_le _ _ h2 hav
 have hw : w64 ((0 : Int) + (all.length : Int)) := in64 (by omega) (by omega)
 have he := search_each 0 all.length (((0 : Nat) : Int)) false d hw
 cases d with
 | true =>
  refine ⟨true, _, pr_over_v1_r0 (pr_over_v1_l0_e2 (by omega) h1 he), ?_⟩
  cases hl : r.s_.xs.length with
  | zero => exact ⟨all, h2, h3, h4, rfl⟩
  | succ m => exact ⟨all, h2, h3, .inl ⟨h4.1 rfl, rfl, rfl⟩⟩
 | false =>
  cases hl : r.s_.xs.length with
  | zero => exact ⟨false, _, pr_over_v1_r0 (pr_over_v1_l0_e3 (by omega) h1 he (by omega)), all, h2, h3, h4, rfl⟩
  | succ m =>
   obtain ⟨p, hp⟩ : ∃ p, r.s_.xs[0]? = some p := ⟨_, List.getElem?_eq_getElem (by omega)⟩
   obtain ⟨out, ot, g1, g2, g3⟩ := follow_run (r := r) (p := p) (all := ⟨1, all, at_⟩) (by show all.length < _; omega) hav hF.r
   have tk2 : out.take out.length = out := List.take_length ..
   have g2' : out.length ≤ all.length := g2
   obtain ⟨f, n, x, i', al, k1, k2⟩ := over_loop hF hs hn hp0 m 1 (out ++ [0]) false (0 + all.length) false (by omega) (fun y hy => by
    rcases List.mem_append.1 hy with h | h
    ·obtain ⟨x, _, h⟩ := (g3 y).1 h
     exact hF.go h
    ·rw [List.mem_singleton.1 h]; omega) (by simp; omega) (by omega) (by omega)
   refine ⟨f, n, pr_over_v1_r4 (pr_over_v1_l0_s4 (by omega) h1 he (by omega) (by omega) hp g1 (by omega) (Nat.le_refl _) (in64 (by omega) (by omega)) (by rw [tk2]; exact k1)), all, h2, h3, .inr ⟨fun h => (by have := h4.2 h; cases this), p, out ++ [0], hp, fun y => ?_, k2⟩⟩
   rw [List.mem_append, g3, List.mem_singleton]
   constructor
   ·rintro (h | h)
    ·exact .inr h
    ·exact .inl ⟨rfl, h⟩
   ·rintro (⟨_, h⟩ | h)
    ·exact .inr h
    ·exact .inl h
theorem begin_run {l : SL State} {s : ByteArray} (hw : wfStates l) (hs : s.size < 100000000) :
  (¬ okL l ∧ pike_begin l s D.nilp 101) ∨ (okL l ∧ ¬ GoodT (strInts s) ∧ pike_begin l s (.ptr [(slD 4 e_State l), (slD 1 (D.int .i64) ⟨1, [], true⟩)]) 10) ∨
   (okL l ∧ ∃ p t, GP (strInts s) p ∧ pike_begin l s (.ptr [(slD 4 e_State l), (slD 1 (D.int .i64) ⟨1, p, t⟩)]) 0) := by
 have hl := str_len s
 rcases check_run hw with ⟨o, h⟩ | ⟨o, h⟩
 ·rcases utf_points_run (b := ⟨1, strInts s, false⟩) (bytes_str s) (by show (strInts s).length < _; omega) with ⟨p, t, h1, h2⟩ | ⟨h1, h2⟩
  ·exact .inr (.inr ⟨o, p, t, h1, pike_begin_r1 h rfl h2⟩)
  ·exact .inr (.inl ⟨o, h1, pike_begin_r1 h rfl h2⟩)
 ·exact .inl ⟨o, pike_begin_r0 h (by decide)⟩
theorem okL_pos {l : SL State} (h : okL l) : 0 < l.xs.length := List.length_pos_iff.2 h.1
theorem search_run {l : SL State} {s : ByteArray} (hw : wfStates l) (hn : l.xs.length < 10000000) (hs : s.size < 100000000) :
  (¬ okL l ∧ pike_Search l s false 0 101) ∨ (okL l ∧ ¬ GoodT (strInts s) ∧ pike_Search l s false 0 10) ∨ (okL l ∧ ∃ p f n, GP (strInts s) p ∧ pike_Search l s f n 0 ∧ Spec l.xs p true p.length 0 [0] 0 f n) := by
 rcases begin_run hw hs with ⟨o, h⟩ | ⟨o, g, h⟩ | ⟨o, p, t, g, h⟩
 ·exact .inl ⟨o, pike_Search_r0 h (by decide)⟩
 ·exact .inr (.inl ⟨o, g, pike_Search_r3 (r0 := ⟨l, ⟨1, [], true⟩⟩) h (by decide)⟩)
 ·have hp := g.len
  rw [str_len] at hp
  obtain ⟨f, n, h1, h2⟩ := over_run (r := ⟨l, ⟨1, p, t⟩⟩) (fits_of hw o) (by show p.length < _; omega) hn (okL_pos o)
  refine .inr (.inr ⟨o, p, f, n, g, ?_, h2⟩)
  cases f with
  | true => exact pike_Search_r4 (r0 := ⟨l, ⟨1, p, t⟩⟩) h rfl h1 rfl
  | false => exact pike_Search_r5 (r0 := ⟨l, ⟨1, p, t⟩⟩) h rfl h1 rfl
end
section
open Go
set_option linter.unusedVariables false
set_option linter.unnecessarySimpa false
set_option linter.unusedSimpArgs false
set_option linter.unusedSectionVars false
def dnAt (l : List State) (s : List Int) (i : Nat) (src : List Int) : Prop := ∃ x, Clos (nxL l s i) src x ∧ isDone l x
def SpecE (l : List State) (s : List Int) : Nat → Nat → List Int → List Int → List Int → Prop
 | 0, i, src, acc, out => (dnAt l s i src ∧ out = acc ++ [(i : Int)]) ∨ (¬ dnAt l s i src ∧ out = acc)
 | m + 1, i, src, acc, out => ∃ (acc' : List Int) (p : Int) (src' : List Int), ((dnAt l s i src ∧ acc' = acc ++ [(i : Int)]) ∨ (¬ dnAt l s i src ∧ acc' = acc)) ∧ s[i]? = some p ∧
   (∀ y, y ∈ src' ↔ ∃ x, Clos (nxL l s i) src x ∧ goTo l p x y) ∧ SpecE l s m (i + 1) src' acc' out
theorem dnAt.congr {l : List State} {s : List Int} {i : Nat} {a b : List Int} (h : ∀ x, x ∈ a ↔ x ∈ b) : dnAt l s i a ↔ dnAt l s i b :=
 ⟨fun ⟨x, k, d⟩ => ⟨x, (Clos.congr h x).1 k, d⟩, fun ⟨x, k, d⟩ => ⟨x, (Clos.congr h x).2 k, d⟩⟩
theorem dn_of {l : List State} {s : List Int} {i : Nat} {src all : List Int} {d : Bool} (h3 : ∀ x, x ∈ all ↔ Clos (nxL l s i) src x) (h4 : d = true ↔ ∃ x ∈ all, isDone l x) : d = true ↔ dnAt l s i src := by
 rw [h4]
 exact ⟨fun ⟨x, k, g⟩ => ⟨x, (h3 x).1 k, g⟩, fun ⟨x, k, g⟩ => ⟨x, (h3 x).2 k, g⟩⟩
theorem ends_c {r : pike_run} (hF : Fits r.l_.xs) (hs : r.s_.xs.length < 100000000) (hn : r.l_.xs.length < 10000000) : ∀ (m i : Nat) (src : List Int) (t : Bool) (acc : List Int) (ot : Bool), i + m = r.s_.xs.length → (∀ x ∈ src, 0 ≤ x ∧ x < r.l_.xs.length) → src.length ≤ r.l_.xs.length + 1 → acc.length ≤ i →
  ∃ (e : Ex × XSt) (out : List Int) (ot' : Bool), pr_over_v3_l0_c ot acc.length src acc r false t src.length i e ∧ ((∃ a b c, e = pr_over_v3_l0_x14 ot' out.length a out r b c) ∨ ∃ a b c, e = pr_over_v3_l0_x10 ot' out.length a out r b c) ∧ SpecE r.l_.xs r.s_.xs m i src acc out := by
 intro m
 induction m with
 | zero =>
  intro i src t acc ot hi hv hl ha
  obtain ⟨all, at_, d, h1, h2, h3, h4⟩ := spread_run (r := r) (i := i) (src := ⟨1, src, t⟩) (by omega) (by omega) (by omega) (by show src.length < _; omega) hv (hF.nx _ _)
  have hd := dn_of h3 h4
  have tk : src.take src.length = src := List.take_length ..
  have tka : acc.take acc.length = acc := List.take_length ..
  have h1' : pr_spread r ⟨1, src.take src.length, t⟩ i ⟨1, all, at_⟩ d := by rw [tk]; exact h1
  cases d with
  | true =>
   have f := pike_Ends_f1_r0 (c0st := ot) (c0sn := acc.length) (o1 := acc) (at_ := (i : Int)) (a1 := (all.length : Int)) (by omega) (Nat.le_refl _)
   rw [tka] at f
   exact ⟨_, acc ++ [(i : Int)], false, pr_over_v3_l0_c_e68 (by omega) (Nat.le_refl _) h1' f (by omega), .inl ⟨_, _, _, rfl⟩, .inl ⟨hd.1 rfl, rfl⟩⟩
  | false =>
   exact ⟨_, acc, ot, pr_over_v3_l0_c_e71 (by omega) (Nat.le_refl _) h1' pike_Ends_f1_r1 (by omega), .inr ⟨_, _, _, rfl⟩, .inr ⟨fun h => (by have := hd.2 h; cases this), rfl⟩⟩
 | succ m ih =>
  intro i src t acc ot hi hv hl ha
  obtain ⟨all, at_, d, h1, h2, h3, h4⟩ := spread_run (r := r) (i := i) (src := ⟨1, src, t⟩) (by omega) (by omega) (by omega) (by show src.length < _; omega) hv (hF.nx _ _)
  have hav : ∀ x ∈ all, 0 ≤ x ∧ x < r.l_.xs.length := fun x hx => Clos.lt hv (hF.nx _ _) ((h3 x).1 hx)
  have hal : all.length ≤ r.l_.xs.length := nodup_le _ _ h2 hav
  have hd := dn_of h3 h4
  have tk : src.take src.length = src := List.take_length ..
  have tka : acc.take acc.length = acc := List.take_length ..
  have h1' : pr_spread r ⟨1, src.take src.length, t⟩ i ⟨1, all, at_⟩ d := by rw [tk]; exact h1
  obtain ⟨p, hp⟩ : ∃ p, r.s_.xs[i]? = some p := ⟨_, List.getElem?_eq_getElem (by omega)⟩
  have hp' : r.s_.xs[((i : Nat) : Int).toNat]? = some p := by rw [Int.toNat_natCast]; exact hp
  obtain ⟨out, ot1, g1, g2, g3⟩ := follow_run (r := r) (p := p) (all := ⟨1, all, at_⟩) (by show all.length < _; omega) hav hF.r
  have g2' : out.length ≤ all.length := g2
  have hvo : ∀ y ∈ out, 0 ≤ y ∧ y < r.l_.xs.length := fun y hy => by
   obtain ⟨x, _, h⟩ := (g3 y).1 hy
   exact hF.go h
  have hsrc : ∀ y, y ∈ out ↔ ∃ x, Clos (nxL r.l_.xs r.s_.xs i) src x ∧ goTo r.l_.xs p x y := fun y => by
   rw [g3]
   exact ⟨fun ⟨x, k, g⟩ => ⟨x, (h3 x).1 k, g⟩, fun ⟨x, k, g⟩ => ⟨x, (h3 x).2 k, g⟩⟩
  cases d with
  | true =>
   have f := pike_Ends_f1_r0 (c0st := ot) (c0sn := acc.length) (o1 := acc) (at_ := (i : Int)) (a1 := (all.length : Int)) (by omega) (Nat.le_refl _)
   rw [tka] at f
   obtain ⟨e, o, o', k1, k2, k3⟩ := ih (i + 1) out ot1 (acc ++ [(i : Int)]) false (by omega) hvo (by omega) (by simp; omega)
   exact ⟨e, o, o', pr_over_v3_l0_c_s69 (by omega) (Nat.le_refl _) h1' f (by omega) (by omega) hp' g1 (in64 (by omega) (by omega)) k1, k2, _, p, out, .inl ⟨hd.1 rfl, rfl⟩, hp, hsrc, k3⟩
  | false =>
   obtain ⟨e, o, o', k1, k2, k3⟩ := ih (i + 1) out ot1 acc ot (by omega) hvo (by omega) (by omega)
   exact ⟨e, o, o', pr_over_v3_l0_c_s72 (by omega) (Nat.le_refl _) h1' pike_Ends_f1_r1 (by omega) (by omega) hp' g1 (in64 (by omega) (by omega)) k1, k2, _, p, out, .inr ⟨fun h => (by have := hd.2 h; cases this), rfl⟩, hp, hsrc, k3⟩
theorem ends_first {i all : Int} : pike_Ends_f1_m true 0 [] i all true true [i] 1 false := by
 have f := pike_Ends_f1_r0 (c0st := true) (c0sn := 0) (o1 := []) (at_ := i) (a1 := all) (by decide) (Nat.le_refl _)
 exact f
theorem ends_b {r : pike_run} (hF : Fits r.l_.xs) (hs : r.s_.xs.length < 100000000) (hn : r.l_.xs.length < 10000000) : ∀ (m i : Nat) (src : List Int) (t : Bool), i + m = r.s_.xs.length → (∀ x ∈ src, 0 ≤ x ∧ x < r.l_.xs.length) → src.length ≤ r.l_.xs.length + 1 → 1 ≤ i →
  ∃ (e : Ex × XSt) (out : List Int), pr_over_v3_l0_b true 0 [] src r false t src.length i e ∧ ((∃ ot a b c, e = pr_over_v3_l0_x14 ot out.length a out r b c) ∨ (∃ ot a b c, e = pr_over_v3_l0_x10 ot out.length a out r b c) ∨ (out = [] ∧ ∃ a b c, e = pr_over_v3_l0_x9 true 0 [] a r b c)) ∧ SpecE r.l_.xs r.s_.xs m i src [] out := by
 intro m
 induction m with
 | zero =>
  intro i src t hi hv hl ha
  obtain ⟨all, at_, d, h1, h2, h3, h4⟩ := spread_run (r := r) (i := i) (src := ⟨1, src, t⟩) (by omega) (by omega) (by omega) (by show src.length < _; omega) hv (hF.nx _ _)
  have hd := dn_of h3 h4
  have tk : src.take src.length = src := List.take_length ..
  have h1' : pr_spread r ⟨1, src.take src.length, t⟩ i ⟨1, all, at_⟩ d := by rw [tk]; exact h1
  cases d with
  | true =>
   exact ⟨_, [(i : Int)], pr_over_v3_l0_b_e42 (by omega) (Nat.le_refl _) h1' ends_first (by omega), .inr (.inl ⟨_, _, _, _, rfl⟩), .inl ⟨hd.1 rfl, rfl⟩⟩
  | false =>
   exact ⟨_, [], pr_over_v3_l0_b_e45 (by omega) (Nat.le_refl _) h1' pike_Ends_f1_r1 (by omega), .inr (.inr ⟨rfl, _, _, _, rfl⟩), .inr ⟨fun h => (by have := hd.2 h; cases this), rfl⟩⟩
 | succ m ih =>
  intro i src t hi hv hl ha
  obtain ⟨all, at_, d, h1, h2, h3, h4⟩ := spread_run (r := r) (i := i) (src := ⟨1, src, t⟩) (by omega) (by omega) (by omega) (by show src.length < _; omega) hv (hF.nx _ _)
  have hav : ∀ x ∈ all, 0 ≤ x ∧ x < r.l_.xs.length := fun x hx => Clos.lt hv (hF.nx _ _) ((h3 x).1 hx)
  have hal : all.length ≤ r.l_.xs.length := nodup_le _ _ h2 hav
  have hd := dn_of h3 h4
  have tk : src.take src.length = src := List.take_length ..
  have h1' : pr_spread r ⟨1, src.take src.length, t⟩ i ⟨1, all, at_⟩ d := by rw [tk]; exact h1
  obtain ⟨p, hp⟩ : ∃ p, r.s_.xs[i]? = some p := ⟨_, List.getElem?_eq_getElem (by omega)⟩
  have hp' : r.s_.xs[((i : Nat) : Int).toNat]? = some p := by rw [Int.toNat_natCast]; exact hp
  obtain ⟨out, ot1, g1, g2, g3⟩ := follow_run (r := r) (p := p) (all := ⟨1, all, at_⟩) (by show all.length < _; omega) hav hF.r
  have g2' : out.length ≤ all.length := g2
  have hvo : ∀ y ∈ out, 0 ≤ y ∧ y < r.l_.xs.length := fun y hy => by
   obtain ⟨x, _, h⟩ := (g3 y).1 hy
   exact hF.go h
  have hsrc : ∀ y, y ∈ out ↔ ∃ x, Clos (nxL r.l_.xs r.s_.xs i) src x ∧ goTo r.l_.xs p x y := fun y => by
   rw [g3]
   exact ⟨fun ⟨x, k, g⟩ => ⟨x, (h3 x).1 k, g⟩, fun ⟨x, k, g⟩ => ⟨x, (h3 x).2 k, g⟩⟩
  cases d with
  | true =>
   obtain ⟨e, o, o', k1, k2, k3⟩ := ends_c hF hs hn m (i + 1) out ot1 [(i : Int)] false (by omega) hvo (by omega) (by simp)
   refine ⟨e, o, pr_over_v3_l0_b_s43 (by omega) (Nat.le_refl _) h1' ends_first (by omega) (by omega) hp' g1 (in64 (by omega) (by omega)) k1, ?_, _, p, out, .inl ⟨hd.1 rfl, rfl⟩, hp, hsrc, k3⟩
   rcases k2 with ⟨a, b, c, k⟩ | ⟨a, b, c, k⟩
   ·exact .inl ⟨_, _, _, _, k⟩
   ·exact .inr (.inl ⟨_, _, _, _, k⟩)
  | false =>
   obtain ⟨e, o, k1, k2, k3⟩ := ih (i + 1) out ot1 (by omega) hvo (by omega) (by omega)
   exact ⟨e, o, pr_over_v3_l0_b_s46 (by omega) (Nat.le_refl _) h1' pike_Ends_f1_r1 (by omega) (by omega) hp' g1 (in64 (by omega) (by omega)) k1, k2, _, p, out, .inr ⟨fun h => (by have := hd.2 h; cases this), rfl⟩, hp, hsrc, k3⟩
theorem ends_over {r : pike_run} (hF : Fits r.l_.xs) (hs : r.s_.xs.length < 100000000) (hn : r.l_.xs.length < 10000000) (hp0 : 0 < r.l_.xs.length) :
  ∃ out : List Int, ((out = [] ∧ pr_over_v3 true 0 [] r false []) ∨ ∃ t, pr_over_v3_m true 0 [] r false out out.length t) ∧ SpecE r.l_.xs r.s_.xs r.s_.xs.length 0 [0] [] out := by
 have hv : ∀ x ∈ ([0] : List Int), 0 ≤ x ∧ x < r.l_.xs.length := fun x hx => by
  rw [List.mem_singleton.1 hx]; omega
 obtain ⟨all, at_, d, h1, h2, h3, h4⟩ := spread_run (r := r) (i := 0) (src := ⟨1, [0], true⟩) (by omega) (by omega) (by omega) (by show ([0] : List Int).length < _; simp) hv (hF.nx _ _)
 have hav : ∀ x ∈ all, 0 ≤ x ∧ x < r.l_.xs.length := fun x hx => Clos.lt hv (hF.nx _ _) ((h3 x).1 hx)
 have hal : all.length ≤ r.l_.xs.length := nodup_le _ _ h2 hav
 have hd := dn_of h3 h4
 cases hl : r.s_.xs.length with
 | zero =>
  cases d with
  | true => exact ⟨[0], .inr ⟨_, pr_over_v3_r4 (pr_over_v3_l0_e16 (by omega) h1 ends_first (by omega))⟩, .inl ⟨hd.1 rfl, rfl⟩⟩
  | false => exact ⟨[], .inl ⟨rfl, pr_over_v3_r3 (pr_over_v3_l0_e19 (by omega) h1 pike_Ends_f1_r1 (by omega))⟩, .inr ⟨fun h => (by have := hd.2 h; cases this), rfl⟩⟩
 | succ m =>
  obtain ⟨p, hp⟩ : ∃ p, r.s_.xs[0]? = some p := ⟨_, List.getElem?_eq_getElem (by omega)⟩
  obtain ⟨out, ot1, g1, g2, g3⟩ := follow_run (r := r) (p := p) (all := ⟨1, all, at_⟩) (by show all.length < _; omega) hav hF.r
  have g2' : out.length ≤ all.length := g2
  have hvo : ∀ y ∈ out, 0 ≤ y ∧ y < r.l_.xs.length := fun y hy => by
   obtain ⟨x, _, h⟩ := (g3 y).1 hy
   exact hF.go h
  have hsrc : ∀ y, y ∈ out ↔ ∃ x, Clos (nxL r.l_.xs r.s_.xs 0) [0] x ∧ goTo r.l_.xs p x y := fun y => by
   rw [g3]
   exact ⟨fun ⟨x, k, g⟩ => ⟨x, (h3 x).1 k, g⟩, fun ⟨x, k, g⟩ => ⟨x, (h3 x).2 k, g⟩⟩
  cases d with
  | true =>
   obtain ⟨e, o, o', k1, k2, k3⟩ := ends_c hF hs hn m 1 out ot1 [((0 : Nat) : Int)] false (by omega) hvo (by omega) (by simp)
   have k1' := pr_over_v3_l0_s17 (at_ := 0) (by omega) h1 ends_first (by omega) (by omega) hp g1 (in64 (by omega) (by omega)) k1
   refine ⟨o, .inr ⟨o', ?_⟩, _, p, out, .inl ⟨hd.1 rfl, rfl⟩, hp, hsrc, k3⟩
   rcases k2 with ⟨a, b, c, rfl⟩ | ⟨a, b, c, rfl⟩
   ·exact pr_over_v3_r14 k1'
   ·exact pr_over_v3_r10 k1'
  | false =>
   obtain ⟨e, o, k1, k2, k3⟩ := ends_b hF hs hn m 1 out ot1 (by omega) hvo (by omega) (by omega)
   have k1' := pr_over_v3_l0_s20 (at_ := 0) (by omega) h1 pike_Ends_f1_r1 (by omega) (by omega) hp g1 (in64 (by omega) (by omega)) k1
   refine ⟨o, ?_, _, p, out, .inr ⟨fun h => (by have := hd.2 h; cases this), rfl⟩, hp, hsrc, k3⟩
   rcases k2 with ⟨ot, a, b, c, rfl⟩ | ⟨ot, a, b, c, rfl⟩ | ⟨ho, a, b, c, rfl⟩
   ·exact .inr ⟨_, pr_over_v3_r14 k1'⟩
   ·exact .inr ⟨_, pr_over_v3_r10 k1'⟩
   ·exact .inl ⟨ho, pr_over_v3_r9 k1'⟩
theorem ends_run {l : SL State} {s : ByteArray} (hw : wfStates l) (hn : l.xs.length < 10000000) (hs : s.size < 100000000) :
  (¬ okL l ∧ pike_Ends l s ⟨1, [], true⟩ 101) ∨ (okL l ∧ ¬ GoodT (strInts s) ∧ pike_Ends l s ⟨1, [], true⟩ 10) ∨ (okL l ∧ ∃ p out t, GP (strInts s) p ∧ pike_Ends l s ⟨1, out, t⟩ 0 ∧ SpecE l.xs p p.length 0 [0] [] out) := by
 rcases begin_run hw hs with ⟨o, h⟩ | ⟨o, g, h⟩ | ⟨o, p, t, g, h⟩
 ·exact .inl ⟨o, pike_Ends_r0 h (by decide)⟩
 ·exact .inr (.inl ⟨o, g, pike_Ends_r3 (r0 := ⟨l, ⟨1, [], true⟩⟩) h (by decide)⟩)
 ·have hp := g.len
  rw [str_len] at hp
  obtain ⟨out, h1, h2⟩ := ends_over (r := ⟨l, ⟨1, p, t⟩⟩) (fits_of hw o) (by show p.length < _; omega) hn (okL_pos o)
  rcases h1 with ⟨rfl, h1⟩ | ⟨t', h1⟩
  ·exact .inr (.inr ⟨o, p, [], _, g, pike_Ends_r4 (r0 := ⟨l, ⟨1, p, t⟩⟩) h rfl h1 (Nat.le_refl _), h2⟩)
  ·have k := pike_Ends_r5 (r0 := ⟨l, ⟨1, p, t⟩⟩) h rfl h1 (Nat.le_refl _)
   rw [List.take_length] at k
   exact .inr (.inr ⟨o, p, out, _, g, k, h2⟩)
end
section
open Go
set_option linter.unusedVariables false
set_option linter.unusedSimpArgs false
set_option linter.unusedSectionVars false
set_option linter.unnecessarySimpa false
def seqM (F : Rx → Nat → Nat → Prop) : List Rx → Nat → Nat → Prop
 | [], i, j => j = i
 | y :: r, i, j => ∃ k, F y i k ∧ seqM F r k j
def powM (F : Nat → Nat → Prop) : Nat → Nat → Nat → Prop
 | 0, i, j => j = i
 | k + 1, i, j => ∃ h, F i h ∧ powM F k h j
def M : Nat → List Int → Rx → Nat → Nat → Prop
 | 0, _, _, _, _ => False
 | n + 1, s, x, i, j =>
  if x.Kind = 2 then ∃ c, s[i]? = some c ∧ hitR c x.Ranges.xs ∧ j = i + 1
  else if x.Kind = 3 then seqM (M n s) x.Sub.xs i j
  else if x.Kind = 4 then ∃ y ∈ x.Sub.xs, M n s y i j
  else if x.Kind = 5 then (match x.Sub.xs with
   | y :: _ => ∃ k : Nat, x.Min ≤ k ∧ (x.Max < 0 ∨ (k : Int) ≤ x.Max) ∧ powM (M n s y) k i j
   | [] => j = i)
  else if x.Kind = 6 then letsB s 3 i = true ∧ j = i
  else if x.Kind = 7 then letsB s 4 i = true ∧ j = i
  else if x.Kind = 8 then letsB s 5 i = true ∧ j = i
  else if x.Kind = 9 then letsB s 6 i = true ∧ j = i
  else j = i
theorem powM_add (F : Nat → Nat → Prop) : ∀ (a b i j : Nat), powM F (a + b) i j ↔ ∃ k, powM F a i k ∧ powM F b k j
 | 0, b, i, j => by rw [Nat.zero_add]; exact ⟨fun h => ⟨i, rfl, h⟩, fun ⟨k, e, h⟩ => by cases e; exact h⟩
 | a + 1, b, i, j => by
  rw [Nat.add_right_comm]
  constructor
  ·rintro ⟨h, h1, h2⟩
   obtain ⟨k, h3, h4⟩ := (powM_add F a b h j).1 h2
   exact ⟨k, ⟨h, h1, h3⟩, h4⟩
  ·rintro ⟨k, ⟨h, h1, h3⟩, h4⟩
   exact ⟨h, h1, (powM_add F a b h j).2 ⟨k, h3, h4⟩⟩
theorem powM_id {F : Nat → Nat → Prop} (h : ∀ i j, F i j ↔ j = i) : ∀ (k i j : Nat), powM F k i j ↔ j = i
 | 0, i, j => Iff.rfl
 | k + 1, i, j => by
  constructor
  ·rintro ⟨a, h1, h2⟩
   rw [h] at h1
   subst h1
   exact (powM_id h k a j).1 h2
  ·rintro rfl
   exact ⟨j, (h j j).2 rfl, (powM_id h k j j).2 rfl⟩
def stp (L : List PS) (s : List Int) (q i q' i' : Nat) : Prop := ∃ p, L[q]? = some p ∧ ((letsB s p.k i = true ∧ p.a = q' ∧ i' = i) ∨ (p.k = 2 ∧ p.b = q' ∧ i' = i) ∨ (∃ c, s[i]? = some c ∧ hitR c p.r ∧ p.a = q' ∧ i' = i + 1))
inductive Pth (L : List PS) (s : List Int) : Nat → Nat → Nat → Nat → Nat → Prop
 | refl {q i} : Pth L s 0 q i q i
 | step {m q i q1 i1 q2 i2} (h : stp L s q i q1 i1) (t : Pth L s m q1 i1 q2 i2) : Pth L s (m + 1) q i q2 i2
theorem Pth.trans {L : List PS} {s : List Int} {a q i q1 i1 : Nat} (h : Pth L s a q i q1 i1) : ∀ {b q2 i2 : Nat}, Pth L s b q1 i1 q2 i2 → Pth L s (a + b) q i q2 i2 := by
 induction h with
 | refl => intro b q2 i2 h2; rw [Nat.zero_add]; exact h2
 | step h t ih => intro b q2 i2 h2; rw [Nat.add_right_comm]; exact .step h (ih h2)
def Blk (s : List Int) (L : List PS) (b len : Nat) (R : Nat → Nat → Prop) : Prop :=
 (∀ i j, R i j → ∃ m, Pth L s m b i (b + len) j) ∧
 (∀ m i q k, Pth L s m b i q k → (q < b ∨ b + len ≤ q) → ∃ j m', R i j ∧ m' ≤ m ∧ (0 < len → m' < m) ∧ Pth L s m' (b + len) j q k)
theorem Blk.congr {s : List Int} {L : List PS} {b len : Nat} {R R' : Nat → Nat → Prop} (h : Blk s L b len R) (e : ∀ i j, R i j ↔ R' i j) : Blk s L b len R' :=
 ⟨fun i j hr => h.1 i j ((e i j).2 hr), fun m i q k hp hq => by
  obtain ⟨j, m', h1, h2⟩ := h.2 m i q k hp hq
  exact ⟨j, m', (e i j).1 h1, h2⟩⟩
theorem Blk.nil {s : List Int} {L : List PS} {b : Nat} : Blk s L b 0 (fun i j => j = i) :=
 ⟨fun i j h => ⟨0, by cases h; exact .refl⟩, fun m i q k hp hq => ⟨i, m, rfl, Nat.le_refl _, fun h => absurd h (Nat.lt_irrefl _), hp⟩⟩
theorem Blk.app {s : List Int} {L : List PS} {b l1 l2 : Nat} {R1 R2 : Nat → Nat → Prop} (h1 : Blk s L b l1 R1) (h2 : Blk s L (b + l1) l2 R2) : Blk s L b (l1 + l2) (fun i j => ∃ k, R1 i k ∧ R2 k j) := by
 refine ⟨fun i j ⟨k, a1, a2⟩ => ?_, fun m i q k hp hq => ?_⟩
 ·obtain ⟨m1, p1⟩ := h1.1 i k a1
  obtain ⟨m2, p2⟩ := h2.1 k j a2
  rw [← Nat.add_assoc]
  exact ⟨m1 + m2, p1.trans p2⟩
 ·obtain ⟨j1, m1, a1, a2, a3, a4⟩ := h1.2 m i q k hp (by omega)
  obtain ⟨j2, m2, b1, b2, b3, b4⟩ := h2.2 m1 j1 q k a4 (by omega)
  rw [← Nat.add_assoc]
  exact ⟨j2, m2, ⟨j1, a1, b1⟩, by omega, fun h => by omega, b4⟩
theorem Pth.first {L : List PS} {s : List Int} {m q i q2 i2 : Nat} (h : Pth L s m q i q2 i2) (hne : q2 ≠ q) : ∃ q1 i1 m', m = m' + 1 ∧ stp L s q i q1 i1 ∧ Pth L s m' q1 i1 q2 i2 := by
 cases h with
 | refl => exact absurd rfl hne
 | step h t => exact ⟨_, _, _, rfl, h, t⟩
theorem Blk.one {s : List Int} {L : List PS} {b : Nat} {p : PS} {R : Nat → Nat → Prop} (hp : L[b]? = some p) (h : ∀ i q j, stp L s b i q j ↔ q = b + 1 ∧ R i j) : Blk s L b 1 R := by
 refine ⟨fun i j hr => ⟨1, .step ((h i (b + 1) j).2 ⟨rfl, hr⟩) .refl⟩, fun m i q k hpt hq => ?_⟩
 obtain ⟨q1, i1, m', rfl, h1, h2⟩ := hpt.first (by omega)
 obtain ⟨rfl, h3⟩ := (h i q1 i1).1 h1
 exact ⟨i1, m', h3, by omega, fun _ => by omega, h2⟩
theorem stp_fork {s : List Int} {L : List PS} {b x y : Nat} (hp : L[b]? = some (pfork x y)) (i q j : Nat) : stp L s b i q j ↔ (q = x ∨ q = y) ∧ j = i := by
 constructor
 ·rintro ⟨p, h1, h2⟩
  rw [hp] at h1
  cases h1
  rcases h2 with ⟨_, h3, h4⟩ | ⟨_, h3, h4⟩ | ⟨c, _, ⟨r, hr, _⟩, _⟩
  ·have : (x : Int) = q := h3
   exact ⟨.inl (by omega), h4⟩
  ·have : (y : Int) = q := h3
   exact ⟨.inr (by omega), h4⟩
  ·cases hr
 ·rintro ⟨h | h, rfl⟩
  ·subst h; exact ⟨_, hp, .inl ⟨by simp [letsB, pfork], rfl, rfl⟩⟩
  ·subst h; exact ⟨_, hp, .inr (.inl ⟨rfl, rfl, rfl⟩)⟩
theorem Blk.alt {s : List Int} {L : List PS} {b c l2 : Nat} {R1 R2 : Nat → Nat → Prop} (hf : L[b]? = some (pfork (b + 1) (b + c + 2))) (h1 : Blk s L (b + 1) c R1) (hj : L[b + 1 + c]? = some (pfork (b + c + 2 + l2) (b + c + 2 + l2))) (h2 : Blk s L (b + c + 2) l2 R2) :
  Blk s L b (c + 2 + l2) (fun i j => R1 i j ∨ R2 i j) := by
 have e : b + (c + 2 + l2) = b + c + 2 + l2 := by omega
 rw [Blk, e]
 refine ⟨fun i j hr => ?_, fun m i q k hp hq => ?_⟩
 ·rcases hr with hr | hr
  ·obtain ⟨m1, p1⟩ := h1.1 i j hr
   exact ⟨_, .step ((stp_fork hf i (b + 1) i).2 ⟨.inl rfl, rfl⟩) (p1.trans (.step ((stp_fork hj j (b + c + 2 + l2) j).2 ⟨.inl rfl, rfl⟩) .refl))⟩
  ·obtain ⟨m2, p2⟩ := h2.1 i j hr
   exact ⟨_, .step ((stp_fork hf i (b + c + 2) i).2 ⟨.inr rfl, rfl⟩) p2⟩
 ·obtain ⟨q1, i1, m', rfl, a1, a2⟩ := hp.first (by omega)
  obtain ⟨a3 | a3, rfl⟩ := (stp_fork hf i q1 i1).1 a1
  ·subst a3
   obtain ⟨j, m1, b1, b2, _, b4⟩ := h1.2 m' i1 q k a2 (by omega)
   obtain ⟨q2, i2, m2, rfl, c1, c2⟩ := b4.first (by omega)
   obtain ⟨c3, rfl⟩ := (stp_fork hj j q2 i2).1 c1
   have : q2 = b + c + 2 + l2 := by omega
   subst this
   exact ⟨i2, m2, .inl b1, by omega, fun _ => by omega, c2⟩
  ·subst a3
   obtain ⟨j, m1, b1, b2, _, b4⟩ := h2.2 m' i1 q k a2 (by omega)
   exact ⟨j, m1, .inr b1, by omega, fun _ => by omega, b4⟩
theorem Blk.star {s : List Int} {L : List PS} {b c : Nat} {R : Nat → Nat → Prop} (hf : L[b]? = some (pfork (b + 1) (b + c + 2))) (h1 : Blk s L (b + 1) c R) (hj : L[b + 1 + c]? = some (pfork b b)) :
  Blk s L b (c + 2) (fun i j => ∃ k, powM R k i j) := by
 have fw : ∀ (k i j : Nat), powM R k i j → ∃ m, Pth L s m b i (b + (c + 2)) j := by
  intro k
  induction k with
  | zero =>
   intro i j hk
   cases hk
   exact ⟨_, .step ((stp_fork hf i (b + (c + 2)) i).2 ⟨.inr (by omega), rfl⟩) .refl⟩
  | succ k ih =>
   rintro i j ⟨h, a1, a2⟩
   obtain ⟨m1, p1⟩ := h1.1 i h a1
   obtain ⟨m2, p2⟩ := ih h j a2
   exact ⟨_, .step ((stp_fork hf i (b + 1) i).2 ⟨.inl rfl, rfl⟩) (p1.trans (.step ((stp_fork hj h b h).2 ⟨.inl rfl, rfl⟩) p2))⟩
 refine ⟨fun i j ⟨k, hk⟩ => fw k i j hk, ?_⟩
 ·intro m
  induction m using Nat.strongRecOn with
  | ind m ih =>
   intro i q k hp hq
   obtain ⟨q1, i1, m', rfl, a1, a2⟩ := hp.first (by omega)
   obtain ⟨a3 | a3, rfl⟩ := (stp_fork hf i q1 i1).1 a1
   ·subst a3
    obtain ⟨j, m1, b1, b2, _, b4⟩ := h1.2 m' i1 q k a2 (by omega)
    obtain ⟨q2, i2, m2, rfl, c1, c2⟩ := b4.first (by omega)
    obtain ⟨c3, rfl⟩ := (stp_fork hj j q2 i2).1 c1
    have : q2 = b := by omega
    subst this
    obtain ⟨j2, m3, d1, d2, d3, d4⟩ := ih m2 (by omega) i2 q k c2 hq
    obtain ⟨t, ht⟩ := d1
    exact ⟨j2, m3, ⟨t + 1, i2, b1, ht⟩, by omega, fun _ => by omega, d4⟩
   ·have e : q1 = b + (c + 2) := by omega
    subst e
    exact ⟨i1, m', ⟨0, rfl⟩, by omega, fun _ => by omega, a2⟩
def At (L : List PS) (b : Nat) (C : List PS) : Prop := ∃ pre post, pre.length = b ∧ L = pre ++ (C ++ post)
theorem At.app {L : List PS} {b : Nat} {A B : List PS} (h : At L b (A ++ B)) : At L b A ∧ At L (b + A.length) B := by
 obtain ⟨pre, post, h1, h2⟩ := h
 exact ⟨⟨pre, B ++ post, h1, by rw [h2, List.append_assoc]⟩, ⟨pre ++ A, post, by rw [List.length_append, h1], by rw [h2]; simp⟩⟩
theorem At.cons {L : List PS} {b : Nat} {p : PS} {B : List PS} (h : At L b (p :: B)) : L[b]? = some p ∧ At L (b + 1) B := by
 obtain ⟨pre, post, h1, h2⟩ := h
 refine ⟨?_, ⟨pre ++ [p], post, by simp [h1], by rw [h2]; simp⟩⟩
 rw [h2, List.getElem?_append_right (by omega), h1, Nat.sub_self]
 rfl
def FB (s : List Int) (f : Nat → Rx → List PS) (y : Rx) (R : Nat → Nat → Prop) : Prop := ∀ (L : List PS) (b : Nat), At L b (f b y) → Blk s L b (f b y).length R
theorem seq_blk {s : List Int} {f : Nat → Rx → List PS} {F : Rx → Nat → Nat → Prop} {L : List PS} : ∀ {l : List Rx} (b : Nat), (∀ y ∈ l, FB s f y (F y)) → At L b (seqC f b l) → Blk s L b (seqC f b l).length (seqM F l)
 | [], b, h, ha => Blk.nil
 | y :: r, b, h, ha => by
  rw [seqC] at ha ⊢
  obtain ⟨a1, a2⟩ := ha.app
  rw [List.length_append]
  exact (h y (List.mem_cons_self ..) L b a1).app (seq_blk _ (fun q hq => h q (List.mem_cons_of_mem _ hq)) a2)
theorem times_blk {s : List Int} {f : Nat → Rx → List PS} {y : Rx} {R : Nat → Nat → Prop} {L : List PS} (h : FB s f y R) : ∀ (k b : Nat), At L b (timesC f y k b) → Blk s L b (timesC f y k b).length (powM R k)
 | 0, b, ha => Blk.nil
 | k + 1, b, ha => by
  rw [timesC] at ha ⊢
  obtain ⟨a1, a2⟩ := ha.app
  rw [List.length_append]
  exact (h L b a1).app (times_blk h k _ a2)
theorem star_blk {s : List Int} {f : Nat → Rx → List PS} {y : Rx} {R : Nat → Nat → Prop} {L : List PS} (h : FB s f y R) (b : Nat) (ha : At L b (starC f y b)) : Blk s L b (starC f y b).length (fun i j => ∃ k, powM R k i j) := by
 unfold starC at ha ⊢
 obtain ⟨a1, a2⟩ := ha.cons
 obtain ⟨a3, a4⟩ := a2.app
 have := Blk.star a1 (h L (b + 1) a3) a4.cons.1
 rw [List.length_cons, List.length_append, List.length_singleton]
 exact this
theorem opts_blk {s : List Int} {f : Nat → Rx → List PS} {y : Rx} {R : Nat → Nat → Prop} {L : List PS} {e : Nat} (h : FB s f y R) : ∀ (k b : Nat), b + (optsC f y e k b).length = e → At L b (optsC f y e k b) → Blk s L b (optsC f y e k b).length (fun i j => ∃ t, t ≤ k ∧ powM R t i j)
 | 0, b, he, ha => Blk.nil.congr fun i j => ⟨fun h => ⟨0, Nat.le_refl _, h⟩, fun ⟨t, h1, h2⟩ => by
   have : t = 0 := by omega
   subst this
   exact h2⟩
 | k + 1, b, he, ha => by
  rw [optsC] at ha he ⊢
  rw [List.length_cons, List.length_append] at he
  obtain ⟨a1, a2⟩ := ha.cons
  obtain ⟨a3, a4⟩ := a2.app
  have h1 := h L (b + 1) a3
  have h2 := opts_blk h k (b + 1 + (f (b + 1) y).length) (by omega) a4
  have h3 := h1.app h2
  rw [List.length_cons, List.length_append]
  generalize (f (b + 1) y).length + (optsC f y e k (b + 1 + (f (b + 1) y).length)).length = len at h3 he ⊢
  have ee : e = b + (len + 1) := by omega
  subst ee
  refine ⟨fun i j ⟨t, ht, hp⟩ => ?_, fun m i q w hp hq => ?_⟩
  ·cases t with
   | zero => cases hp; exact ⟨_, .step ((stp_fork a1 i (b + (len + 1)) i).2 ⟨.inr rfl, rfl⟩) .refl⟩
   | succ t =>
    obtain ⟨g, p1, p2⟩ := hp
    obtain ⟨m1, p3⟩ := h3.1 i j ⟨g, p1, t, by omega, p2⟩
    rw [show b + 1 + len = b + (len + 1) by omega] at p3
    exact ⟨_, .step ((stp_fork a1 i (b + 1) i).2 ⟨.inl rfl, rfl⟩) p3⟩
  ·obtain ⟨q1, i1, m', rfl, c1, c2⟩ := hp.first (by omega)
   obtain ⟨c3 | c3, rfl⟩ := (stp_fork a1 i q1 i1).1 c1
   ·subst c3
    obtain ⟨j, m1, ⟨g, p1, t, p2, p3⟩, b2, _, b4⟩ := h3.2 m' i1 q w c2 (by omega)
    rw [show b + 1 + len = b + (len + 1) by omega] at b4
    exact ⟨j, m1, ⟨t + 1, by omega, g, p1, p3⟩, by omega, fun _ => by omega, b4⟩
   ·subst c3
    exact ⟨i1, m', ⟨0, Nat.zero_le _, rfl⟩, by omega, fun _ => by omega, c2⟩
theorem alt_blk {s : List Int} {f : Nat → Rx → List PS} {F : Rx → Nat → Nat → Prop} {L : List PS} {e : Nat} : ∀ {l : List Rx} (b : Nat), l ≠ [] → (∀ y ∈ l, FB s f y (F y)) → b + (altC f e b l).length = e → At L b (altC f e b l) → Blk s L b (altC f e b l).length (fun i j => ∃ y ∈ l, F y i j)
 | [], b, hne, h, he, ha => absurd rfl hne
 | [y], b, hne, h, he, ha => by
  simp only [altC] at ha ⊢
  exact (h y (List.mem_cons_self ..) L b ha).congr fun i j => ⟨fun k => ⟨y, List.mem_cons_self .., k⟩, fun ⟨z, hz, k⟩ => by
   rw [List.mem_singleton.1 hz] at k; exact k⟩
 | y :: z :: r, b, hne, h, he, ha => by
  simp only [altC] at ha he ⊢
  simp only [List.length_cons, List.length_append] at he
  obtain ⟨a1, a2⟩ := ha.cons
  obtain ⟨a3, a4⟩ := a2.app
  obtain ⟨a5, a6⟩ := a4.cons
  have h1 := h y (List.mem_cons_self ..) L (b + 1) a3
  have ex : b + 1 + (f (b + 1) y).length + 1 = b + (f (b + 1) y).length + 2 := by omega
  rw [ex] at a6
  have h2 := alt_blk (F := F) (e := e) (l := z :: r) (b + (f (b + 1) y).length + 2) (by simp) (fun q hq => h q (List.mem_cons_of_mem _ hq)) (by omega) a6
  have h3 := Blk.alt (l2 := (altC f e (b + (f (b + 1) y).length + 2) (z :: r)).length) a1 h1 (by rw [a5]; congr 2 <;> omega) h2
  rw [List.length_cons, List.length_append, List.length_cons, show (f (b + 1) y).length + ((altC f e (b + (f (b + 1) y).length + 2) (z :: r)).length + 1) + 1 = (f (b + 1) y).length + 2 + (altC f e (b + (f (b + 1) y).length + 2) (z :: r)).length by omega]
  refine h3.congr fun i j => ?_
  constructor
  ·rintro (k | ⟨w, hw, k⟩)
   ·exact ⟨y, List.mem_cons_self .., k⟩
   ·exact ⟨w, List.mem_cons_of_mem _ hw, k⟩
  ·rintro ⟨w, hw, k⟩
   rcases List.mem_cons.1 hw with rfl | hw
   ·exact .inl k
   ·exact .inr ⟨w, hw, k⟩
theorem sumT_zero {f : Rx → Int} : ∀ {l : List Rx}, (∀ y ∈ l, 0 ≤ f y) → sumT f l = 0 → ∀ y ∈ l, f y = 0
 | [], _, _, y, hy => by cases hy
 | z :: r, h, h0, y, hy => by
  have h1 := h z (List.mem_cons_self ..)
  have h2 := sumT_nonneg (l := r) (fun q hq => h q (List.mem_cons_of_mem _ hq))
  simp only [sumT] at h0
  rcases List.mem_cons.1 hy with rfl | hy
  ·omega
  ·exact sumT_zero (fun q hq => h q (List.mem_cons_of_mem _ hq)) (by omega) y hy
theorem seqM_id {F : Rx → Nat → Nat → Prop} : ∀ {l : List Rx}, (∀ y ∈ l, ∀ i j, F y i j ↔ j = i) → ∀ i j, seqM F l i j ↔ j = i
 | [], h, i, j => Iff.rfl
 | y :: r, h, i, j => by
  constructor
  ·rintro ⟨k, h1, h2⟩
   rw [h y (List.mem_cons_self ..)] at h1
   subst h1
   exact (seqM_id (fun q hq => h q (List.mem_cons_of_mem _ hq)) k j).1 h2
  ·rintro rfl
   exact ⟨j, (h y (List.mem_cons_self ..) j j).2 rfl, (seqM_id (fun q hq => h q (List.mem_cons_of_mem _ hq)) j j).2 rfl⟩
theorem M_zero {s : List Int} : ∀ (n : Nat) {x : Rx}, rightR n x → totR n x = 0 → ∀ i j, M n s x i j ↔ j = i
 | 0, x, h, h0, i, j => h.elim
 | n + 1, x, h, h0, i, j => by
  obtain ⟨⟨_, _, _, h4⟩, hs⟩ := h
  have hn : ∀ y ∈ x.Sub.xs, 0 ≤ totR n y := fun y hy => totR_nonneg n (hs y hy)
  have hS := sumT_nonneg hn
  rw [totR] at h0
  unfold fR at h0
  rw [M]
  by_cases k1 : x.Kind = 1
  ·simp [k1]
  by_cases k3 : x.Kind = 3
  ·rw [if_neg (by omega), if_pos k3]
   rw [if_pos (.inr k3)] at h0
   exact seqM_id (fun y hy => M_zero n (hs y hy) (sumT_zero hn h0 y hy)) i j
  rw [if_neg (by omega)] at h0
  by_cases k4 : x.Kind = 4
  ·rw [if_pos k4] at h0; omega
  rw [if_neg k4] at h0
  by_cases k5 : x.Kind = 5
  ·rw [if_pos k5] at h0
   obtain ⟨_, hl, a1, a2, a3, a4, a5⟩ : x.Kind = 5 ∧ x.Sub.xs.length = 1 ∧ 0 ≤ x.Min ∧ x.Min ≤ 1000 ∧ -1 ≤ x.Max ∧ x.Max ≤ 1000 ∧ (x.Max < 0 ∨ x.Min ≤ x.Max) := by omega
   obtain ⟨y, hy⟩ := List.length_eq_one_iff.1 hl
   rw [if_neg (by omega), if_neg k3, if_neg k4, if_pos k5, hy]
   rw [hy] at h0
   simp only [sumT, Int.add_zero] at h0
   have ty := hn y (by rw [hy]; simp)
   have q1 := Int.mul_nonneg a1 ty
   by_cases c : x.Max < 0
   ·rw [if_pos c] at h0; omega
   rw [if_neg c] at h0
   have q2 : 0 ≤ (x.Max - x.Min) * (totR n y + 1) := Int.mul_nonneg (by omega) (by omega)
   have e1 : x.Min * totR n y = 0 := by omega
   have e2 : x.Max = x.Min := by
    rcases Int.mul_eq_zero.1 (show (x.Max - x.Min) * (totR n y + 1) = 0 by omega) with e | e <;> omega
   dsimp only
   rcases Int.mul_eq_zero.1 e1 with e | e
   ·constructor
    ·rintro ⟨k, b1, b2, b3⟩
     have : k = 0 := by omega
     subst this
     exact b3
    ·intro hj
     exact ⟨0, by omega, by omega, hj⟩
   ·have hi := M_zero (s := s) n (hs y (by rw [hy]; simp)) e
    constructor
    ·rintro ⟨k, _, _, b3⟩
     exact (powM_id hi k i j).1 b3
    ·intro hj
     exact ⟨x.Min.toNat, by omega, by omega, (powM_id hi _ i j).2 hj⟩
  rw [if_neg k5] at h0
  omega
theorem one_blk {s : List Int} {L : List PS} {b : Nat} {k : Int} (h1 : 3 ≤ k) (h2 : k ≤ 6) (ha : At L b [PS.mk k [] ((b + 1 : Nat) : Int) 0]) : Blk s L b 1 (fun i j => letsB s k i = true ∧ j = i) := by
 have hp := ha.cons.1
 refine Blk.one hp fun i q j => ?_
 constructor
 ·rintro ⟨p, g1, g2⟩
  rw [hp] at g1
  cases g1
  rcases g2 with ⟨g3, g4, g5⟩ | ⟨g3, _⟩ | ⟨c, _, ⟨r, hr, _⟩, _⟩
  ·have : ((b + 1 : Nat) : Int) = q := g4
   exact ⟨by omega, g3, g5⟩
  ·have : k = 2 := g3
   omega
  ·cases hr
 ·rintro ⟨rfl, g1, g2⟩
  exact ⟨_, hp, .inl ⟨g1, rfl, g2⟩⟩
theorem comp_blk {s : List Int} : ∀ (n : Nat) {x : Rx}, rightR n x → FB s (comp n) x (M n s x)
 | 0, x, h => h.elim
 | n + 1, x, h => by
  intro L b ha
  have hR := h
  obtain ⟨⟨_, _, _, h4⟩, hs⟩ := h
  have ih : ∀ y ∈ x.Sub.xs, FB s (comp n) y (M n s y) := fun y hy => comp_blk n (hs y hy)
  have hM : M (n + 1) s x = fun i j => M (n + 1) s x i j := rfl
  rw [hM]
  simp only [M]
  unfold comp at ha ⊢
  by_cases k2 : x.Kind = 2
  ·rw [if_pos k2] at ha ⊢
   simp only [if_pos k2]
   have hp := ha.cons.1
   refine Blk.one hp fun i q j => ?_
   constructor
   ·rintro ⟨p, g1, g2⟩
    rw [hp] at g1
    cases g1
    rcases g2 with ⟨g3, _, _⟩ | ⟨g3, _⟩ | ⟨c, g3, g4, g5, g6⟩
    ·simp [letsB] at g3
    ·have : (1 : Int) = 2 := g3
     omega
    ·have : ((b + 1 : Nat) : Int) = q := g5
     exact ⟨by omega, c, g3, g4, g6⟩
   ·rintro ⟨rfl, c, g3, g4, g6⟩
    exact ⟨_, hp, .inr (.inr ⟨c, g3, g4, rfl, g6⟩)⟩
  rw [if_neg k2] at ha ⊢
  simp only [if_neg k2]
  by_cases k3 : x.Kind = 3
  ·rw [if_pos k3] at ha ⊢
   simp only [if_pos k3]
   exact seq_blk b ih ha
  rw [if_neg k3] at ha ⊢
  simp only [if_neg k3]
  by_cases k4 : x.Kind = 4
  ·rw [if_pos k4] at ha ⊢
   simp only [if_pos k4]
   exact alt_blk b (fun e => by rw [e] at h4; simp at h4; omega) ih (by rw [altC_len_e (comp n) _ 0]) ha
  rw [if_neg k4] at ha ⊢
  simp only [if_neg k4]
  by_cases k5 : x.Kind = 5
  ·rw [if_pos k5] at ha ⊢
   simp only [if_pos k5]
   obtain ⟨_, hl, a1, a2, a3, a4, a5⟩ : x.Kind = 5 ∧ x.Sub.xs.length = 1 ∧ 0 ≤ x.Min ∧ x.Min ≤ 1000 ∧ -1 ≤ x.Max ∧ x.Max ≤ 1000 ∧ (x.Max < 0 ∨ x.Min ≤ x.Max) := by omega
   obtain ⟨y, hy⟩ := List.length_eq_one_iff.1 hl
   have hm : y ∈ x.Sub.xs := by rw [hy]; simp
   rw [hy] at ha ⊢
   dsimp only at ha ⊢
   obtain ⟨p1, p2⟩ := ha.app
   have b1 := times_blk (ih y hm) _ b p1
   rw [List.length_append]
   have zero : ∀ (Q : Nat → Nat → Prop), (∀ i, Q i i) → totR n y = 0 → (∀ i j, Q i j → ∃ k, powM (M n s y) k i j) → ∀ i j, (∃ k, powM (M n s y) (leastC n x y) i k ∧ Q k j) ↔ ∃ k : Nat, x.Min ≤ k ∧ (x.Max < 0 ∨ (k : Int) ≤ x.Max) ∧ powM (M n s y) k i j := by
    intro Q hQ h0 hQp i j
    have hi := M_zero (s := s) n (hs y hm) h0
    constructor
    ·rintro ⟨k, g1, g2⟩
     obtain ⟨t, g3⟩ := hQp k j g2
     rw [powM_id hi] at g1 g3
     exact ⟨x.Min.toNat, by omega, by omega, (powM_id hi _ i j).2 (by omega)⟩
    ·rintro ⟨k, _, _, g⟩
     rw [powM_id hi] at g
     subst g
     exact ⟨j, (powM_id hi _ _ _).2 rfl, hQ j⟩
   by_cases c : x.Max < 0
   ·rw [if_pos c] at p2 ⊢
    have b2 := b1.app (star_blk (ih y hm) _ p2)
    refine b2.congr ?_
    by_cases h0 : totR n y = 0
    ·exact zero _ (fun i => ⟨0, rfl⟩) h0 (fun i j h => h)
    ·intro i j
     have el : leastC n x y = x.Min.toNat := by unfold leastC; rw [if_neg h0]
     rw [el]
     constructor
     ·rintro ⟨k, g1, t, g2⟩
      exact ⟨x.Min.toNat + t, by omega, .inl c, (powM_add _ _ _ _ _).2 ⟨k, g1, g2⟩⟩
     ·rintro ⟨k, g1, _, g2⟩
      obtain ⟨t, rfl⟩ : ∃ t, k = x.Min.toNat + t := ⟨k - x.Min.toNat, by omega⟩
      obtain ⟨w, g3, g4⟩ := (powM_add _ _ _ _ _).1 g2
      exact ⟨w, g3, t, g4⟩
   ·rw [if_neg c] at p2 ⊢
    have b2 := b1.app (opts_blk (ih y hm) _ _ (by rw [optsC_len_e (comp n) y _ 0]) p2)
    refine b2.congr ?_
    by_cases h0 : totR n y = 0
    ·exact zero _ (fun i => ⟨0, Nat.zero_le _, rfl⟩) h0 (fun i j ⟨t, _, h⟩ => ⟨t, h⟩)
    ·intro i j
     have el : leastC n x y = x.Min.toNat := by unfold leastC; rw [if_neg h0]
     rw [el]
     constructor
     ·rintro ⟨k, g1, t, g0, g2⟩
      exact ⟨x.Min.toNat + t, by omega, .inr (by omega), (powM_add _ _ _ _ _).2 ⟨k, g1, g2⟩⟩
     ·rintro ⟨k, g1, g0, g2⟩
      obtain ⟨t, rfl⟩ : ∃ t, k = x.Min.toNat + t := ⟨k - x.Min.toNat, by omega⟩
      obtain ⟨w, g3, g4⟩ := (powM_add _ _ _ _ _).1 g2
      exact ⟨w, g3, t, by omega, g4⟩
  rw [if_neg k5] at ha ⊢
  simp only [if_neg k5]
  by_cases k6 : x.Kind = 6
  ·rw [if_pos k6] at ha ⊢
   simp only [if_pos k6]
   exact one_blk (by decide) (by decide) ha
  rw [if_neg k6] at ha ⊢
  simp only [if_neg k6]
  by_cases k7 : x.Kind = 7
  ·rw [if_pos k7] at ha ⊢
   simp only [if_pos k7]
   exact one_blk (by decide) (by decide) ha
  rw [if_neg k7] at ha ⊢
  simp only [if_neg k7]
  by_cases k8 : x.Kind = 8
  ·rw [if_pos k8] at ha ⊢
   simp only [if_pos k8]
   exact one_blk (by decide) (by decide) ha
  rw [if_neg k8] at ha ⊢
  simp only [if_neg k8]
  by_cases k9 : x.Kind = 9
  ·rw [if_pos k9] at ha ⊢
   simp only [if_pos k9]
   exact one_blk (by decide) (by decide) ha
  rw [if_neg k9] at ha ⊢
  simp only [if_neg k9]
  exact Blk.nil
theorem whole_path {s : List Int} {x : Rx} (h : rightR 1000 x) {d : PS} (hk : d.k = 7) (hr : d.r = []) (i j : Nat) : (∃ m, Pth (comp 1000 0 x ++ [d]) s m 0 i (comp 1000 0 x).length j) ↔ M 1000 s x i j := by
 have hb := comp_blk (s := s) 1000 h (comp 1000 0 x ++ [d]) 0 ⟨[], [d], rfl, rfl⟩
 rw [Blk, Nat.zero_add] at hb
 constructor
 ·rintro ⟨m, hm⟩
  obtain ⟨j', m', h1, _, _, h2⟩ := hb.2 m i _ j hm (.inr (Nat.le_refl _))
  cases h2 with
  | refl => exact h1
  | step h t =>
   obtain ⟨p, g1, g2⟩ := h
   rw [List.getElem?_append_right (Nat.le_refl _), Nat.sub_self] at g1
   cases g1
   rcases g2 with ⟨g3, _⟩ | ⟨g3, _⟩ | ⟨c, _, ⟨r, hr', _⟩, _⟩
   ·rw [hk] at g3; simp [letsB] at g3
   ·omega
   ·rw [hr] at hr'; cases hr'
 ·exact hb.1 i j
end
section
open Go
set_option linter.unusedVariables false
set_option linter.unusedSimpArgs false
set_option linter.unusedSectionVars false
set_option linter.unnecessarySimpa false
inductive Rch (again : Bool) (l : List State) (s : List Int) : Nat → Int → Prop
  | start : Rch again l s 0 0
  | more {i} (h : again = true) (hi : i ≤ s.length) : Rch again l s i 0
  | eps {i x y} (h : Rch again l s i x) (hy : y ∈ nxL l s i x) : Rch again l s i y
  | go {i x y p} (h : Rch again l s i x) (hp : s[i]? = some p) (hy : goTo l p x y) : Rch again l s (i + 1) y
def SrcA (again : Bool) (l : List State) (s : List Int) : Nat → Int → Prop
  | 0, y => y = 0
  | i + 1, y => (again = true ∧ i + 1 ≤ s.length ∧ y = 0) ∨ ∃ x p, Rch again l s i x ∧ s[i]? = some p ∧ goTo l p x y
theorem SrcA.rch {again : Bool} {l : List State} {s : List Int} : ∀ {i : Nat} {y : Int}, SrcA again l s i y → Rch again l s i y
  | 0, y, h => by cases h; exact .start
  | i + 1, y, h => by
    rcases h with ⟨h1, h2, rfl⟩ | ⟨x, p, h1, h2, h3⟩
    · exact .more h1 h2
    · exact .go h1 h2 h3
theorem rch_clos {again : Bool} {l : List State} {s : List Int} {i : Nat} {src : List Int} (h : ∀ y, y ∈ src ↔ SrcA again l s i y) (x : Int) : Clos (nxL l s i) src x ↔ Rch again l s i x := by
  constructor
  · intro hc
    induction hc with
    | base h1 => exact ((h _).1 h1).rch
    | step _ hy ih => exact .eps ih hy
  · intro hr
    induction hr with
    | start => exact .base ((h 0).2 rfl)
    | @more i h1 h2 =>
      cases i with
      | zero => exact .base ((h 0).2 rfl)
      | succ i => exact .base ((h 0).2 (.inl ⟨h1, h2, rfl⟩))
    | eps _ hy ih => exact .step (ih h) hy
    | go h1 h2 h3 _ => exact .base ((h _).2 (.inr ⟨_, _, h1, h2, h3⟩))
def Dn (again : Bool) (l : List State) (s : List Int) (j : Nat) : Prop := ∃ x, Rch again l s j x ∧ isDone l x
theorem src_next {again : Bool} {l : List State} {s : List Int} {i : Nat} {p : Int} {src' : List Int} (hp : s[i]? = some p) (h : ∀ y, y ∈ src' ↔ (again = true ∧ y = 0) ∨ ∃ x, Rch again l s i x ∧ goTo l p x y) : ∀ y, y ∈ src' ↔ SrcA again l s (i + 1) y := by
  intro y
  have hi := (List.getElem?_eq_some_iff.1 hp).1
  rw [h]
  constructor
  · rintro (⟨h1, h2⟩ | ⟨x, h1, h2⟩)
    · exact .inl ⟨h1, hi, h2⟩
    · exact .inr ⟨x, p, h1, hp, h2⟩
  · rintro (⟨h1, _, h2⟩ | ⟨x, q, h1, h3, h2⟩)
    · exact .inl ⟨h1, h2⟩
    · rw [hp] at h3
      cases h3
      exact .inr ⟨x, h1, h2⟩
theorem spec_found {again : Bool} {l : List State} {s : List Int} : ∀ (m i : Nat) (src : List Int) (acc n : Int) (f : Bool), i + m = s.length → (∀ y, y ∈ src ↔ SrcA again l s i y) → Spec l s again m i src acc f n → (f = true ↔ ∃ j, i ≤ j ∧ j ≤ s.length ∧ Dn again l s j)
  | 0, i, src, acc, n, f, hi, hs, ⟨all, h1, h2, h3, h4⟩ => by
    rw [h3]
    constructor
    · rintro ⟨x, hx, hd⟩
      exact ⟨i, Nat.le_refl _, by omega, x, (rch_clos hs x).1 ((h2 x).1 hx), hd⟩
    · rintro ⟨j, hj1, hj2, x, hx, hd⟩
      have : j = i := by omega
      subst this
      exact ⟨x, (h2 x).2 ((rch_clos hs x).2 hx), hd⟩
  | m + 1, i, src, acc, n, f, hi, hs, ⟨all, h1, h2, h3⟩ => by
    have hd : (∃ x ∈ all, isDone l x) ↔ Dn again l s i := ⟨fun ⟨x, hx, hd⟩ => ⟨x, (rch_clos hs x).1 ((h2 x).1 hx), hd⟩, fun ⟨x, hx, hd⟩ => ⟨x, (h2 x).2 ((rch_clos hs x).2 hx), hd⟩⟩
    rcases h3 with ⟨h3, rfl, _⟩ | ⟨h3, p, src', h4, h5, h6⟩
    · exact ⟨fun _ => ⟨i, Nat.le_refl _, by omega, hd.1 h3⟩, fun _ => rfl⟩
    · have ih := spec_found m (i + 1) src' _ _ f (by omega) (src_next h4 fun y => by
        rw [h5]
        constructor
        · rintro (h | ⟨x, hx, h⟩)
          · exact .inl h
          · exact .inr ⟨x, (rch_clos hs x).1 ((h2 x).1 hx), h⟩
        · rintro (h | ⟨x, hx, h⟩)
          · exact .inl h
          · exact .inr ⟨x, (h2 x).2 ((rch_clos hs x).2 hx), h⟩) h6
      rw [ih]
      constructor
      · rintro ⟨j, g1, g2, g3⟩
        exact ⟨j, by omega, g2, g3⟩
      · rintro ⟨j, g1, g2, g3⟩
        refine ⟨j, ?_, g2, g3⟩
        rcases Nat.lt_or_ge i j with c | c
        · exact c
        · have : j = i := by omega
          subst this
          exact absurd (hd.2 g3) h3
def Plc (P : Nat → Prop) : Nat → Nat → List Int → List Int → Prop
  | 0, i, acc, out => (P i ∧ out = acc ++ [(i : Int)]) ∨ (¬ P i ∧ out = acc)
  | m + 1, i, acc, out => ∃ acc', ((P i ∧ acc' = acc ++ [(i : Int)]) ∨ (¬ P i ∧ acc' = acc)) ∧ Plc P m (i + 1) acc' out
theorem Plc.uniq {P Q : Nat → Prop} : ∀ (m i : Nat) (acc out out' : List Int), (∀ j, i ≤ j → j ≤ i + m → (P j ↔ Q j)) → Plc P m i acc out → Plc Q m i acc out' → out = out'
  | 0, i, acc, out, out', he, h, g => by
    have e := he i (Nat.le_refl _) (Nat.le_refl _)
    rcases h with ⟨h1, h2⟩ | ⟨h1, h2⟩ <;> rcases g with ⟨g1, g2⟩ | ⟨g1, g2⟩
    · rw [h2, g2]
    · exact absurd (e.1 h1) g1
    · exact absurd (e.2 g1) h1
    · rw [h2, g2]
  | m + 1, i, acc, out, out', he, ⟨a, h1, h2⟩, ⟨b, g1, g2⟩ => by
    have e := he i (Nat.le_refl _) (by omega)
    have : a = b := by
      rcases h1 with ⟨h1, h3⟩ | ⟨h1, h3⟩ <;> rcases g1 with ⟨g1, g3⟩ | ⟨g1, g3⟩
      · rw [h3, g3]
      · exact absurd (e.1 h1) g1
      · exact absurd (e.2 g1) h1
      · rw [h3, g3]
    subst this
    exact Plc.uniq m (i + 1) a out out' (fun j j1 j2 => he j (by omega) (by omega)) h2 g2
theorem specE_plc {l : List State} {s : List Int} : ∀ (m i : Nat) (src acc out : List Int), (∀ y, y ∈ src ↔ SrcA false l s i y) → SpecE l s m i src acc out → Plc (Dn false l s) m i acc out
  | 0, i, src, acc, out, hs, h => by
    have hd : dnAt l s i src ↔ Dn false l s i := ⟨fun ⟨x, h1, h2⟩ => ⟨x, (rch_clos hs x).1 h1, h2⟩, fun ⟨x, h1, h2⟩ => ⟨x, (rch_clos hs x).2 h1, h2⟩⟩
    rcases h with ⟨h1, h2⟩ | ⟨h1, h2⟩
    · exact .inl ⟨hd.1 h1, h2⟩
    · exact .inr ⟨fun h => h1 (hd.2 h), h2⟩
  | m + 1, i, src, acc, out, hs, ⟨a, p, s', h1, h2, h3, h4⟩ => by
    have hd : dnAt l s i src ↔ Dn false l s i := ⟨fun ⟨x, h1, h2⟩ => ⟨x, (rch_clos hs x).1 h1, h2⟩, fun ⟨x, h1, h2⟩ => ⟨x, (rch_clos hs x).2 h1, h2⟩⟩
    refine ⟨a, ?_, specE_plc m (i + 1) s' a out (src_next h2 fun y => ?_) h4⟩
    · rcases h1 with ⟨h1, e⟩ | ⟨h1, e⟩
      · exact .inl ⟨hd.1 h1, e⟩
      · exact .inr ⟨fun h => h1 (hd.2 h), e⟩
    · rw [h3]
      constructor
      · rintro ⟨x, k, g⟩
        exact .inr ⟨x, (rch_clos hs x).1 k, g⟩
      · rintro (⟨h, _⟩ | ⟨x, k, g⟩)
        · cases h
        · exact ⟨x, (rch_clos hs x).2 k, g⟩
theorem pth_of {again : Bool} {l : List State} {s : List Int} (hF : Fits l) {i : Nat} {x : Int} (h : Rch again l s i x) : ∃ q : Nat, x = q ∧ ∃ i0, (again = true ∨ i0 = 0) ∧ i0 ≤ s.length ∧ ∃ m, Pth (l.map ps) s m 0 i0 q i := by
  induction h with
  | start => exact ⟨0, rfl, 0, .inr rfl, Nat.zero_le _, 0, .refl⟩
  | @more i h hi => exact ⟨0, rfl, i, .inl h, hi, 0, .refl⟩
  | @eps i x y h hy ih =>
    obtain ⟨q, rfl, i0, h1, h2, m, hm⟩ := ih
    unfold nxL at hy
    rw [Int.toNat_natCast] at hy
    cases hst : l[q]? with
    | none => rw [hst] at hy; simp at hy
    | some st =>
      rw [hst] at hy
      have hmem := List.mem_of_getElem? hst
      have hL : (l.map ps)[q]? = some (ps st) := by rw [List.getElem?_map, hst]; rfl
      rcases List.mem_append.1 hy with hy | hy
      · unfold kGo at hy
        split at hy
        · rename_i hb
          rw [List.mem_singleton.1 hy]
          have := hF.a st hmem (fun e => by rw [e] at hb; simp [letsB] at hb)
          exact ⟨st.A.toNat, by omega, i0, h1, h2, m + 1, hm.trans (.step ⟨_, hL, .inl ⟨hb, by show st.A = _; omega, rfl⟩⟩ .refl)⟩
        · simp at hy
      · unfold kFork at hy
        split at hy
        · rename_i hb
          rw [List.mem_singleton.1 hy]
          have := hF.b st hmem hb
          exact ⟨st.B.toNat, by omega, i0, h1, h2, m + 1, hm.trans (.step ⟨_, hL, .inr (.inl ⟨hb, by show st.B = _; omega, rfl⟩)⟩ .refl)⟩
        · simp at hy
  | @go i x y p h hp hy ih =>
    obtain ⟨q, rfl, i0, h1, h2, m, hm⟩ := ih
    have hr := hF.go hy
    obtain ⟨st, g1, g2, g3⟩ := hy
    rw [Int.toNat_natCast] at g1
    have hL : (l.map ps)[q]? = some (ps st) := by rw [List.getElem?_map, g1]; rfl
    exact ⟨y.toNat, by omega, i0, h1, h2, m + 1, hm.trans (.step ⟨_, hL, .inr (.inr ⟨p, hp, g2, by show st.A = _; omega, rfl⟩)⟩ .refl)⟩
theorem rch_of {again : Bool} {l : List State} {s : List Int} {m q i q2 i2 : Nat} (h : Pth (l.map ps) s m q i q2 i2) : Rch again l s i q → Rch again l s i2 q2 := by
  induction h with
  | refl => exact id
  | @step m q i q1 i1 q2 i2 h t ih =>
    intro hr
    refine ih ?_
    obtain ⟨p, h1, h2⟩ := h
    rw [List.getElem?_map] at h1
    cases hst : l[q]? with
    | none => rw [hst] at h1; cases h1
    | some st =>
      rw [hst] at h1
      cases h1
      have hst' : l[((q : Nat) : Int).toNat]? = some st := by rw [Int.toNat_natCast]; exact hst
      rcases h2 with ⟨g1, g2, rfl⟩ | ⟨g1, g2, rfl⟩ | ⟨c, g1, g2, g3, rfl⟩
      · refine .eps hr ?_
        unfold nxL
        rw [hst']
        have g1' : letsB s st.Kind i1 = true := g1
        have g2' : st.A = q1 := g2
        refine List.mem_append_left _ ?_
        unfold kGo
        rw [if_pos g1', ← g2']
        simp
      · refine .eps hr ?_
        unfold nxL
        rw [hst']
        have g1' : st.Kind = 2 := g1
        have g2' : st.B = q1 := g2
        refine List.mem_append_right _ ?_
        unfold kFork
        rw [if_pos g1', ← g2']
        simp
      · exact .go hr g1 ⟨st, hst', g2, g3.symm⟩
theorem dn_means {again : Bool} {x : Rx} {l : List State} {s : List Int} (h : rightR 1000 x) (hb : totR 1000 x + 1 ≤ 65536) (hl : l.map ps = comp 1000 0 x) (j : Nat) : Dn again (l ++ [doneS]) s j ↔ ∃ i, (again = true ∨ i = 0) ∧ i ≤ s.length ∧ M 1000 s x i j := by
  obtain ⟨f1, f2⟩ := comp_fits h hb hl
  obtain ⟨f3, f4⟩ := fits_okL f2 (by omega)
  have hF := fits_of f3 f4
  have hL : (l ++ [doneS]).map ps = comp 1000 0 x ++ [ps doneS] := by rw [List.map_append, hl]; rfl
  have hlen : (comp 1000 0 x).length = l.length := by rw [← hl, List.length_map]
  have hw : ∀ i, (∃ m, Pth ((l ++ [doneS]).map ps) s m 0 i l.length j) ↔ M 1000 s x i j := fun i => by
    rw [hL, ← hlen]
    exact whole_path h rfl rfl i j
  constructor
  · rintro ⟨y, hy, st, h1, h2⟩
    obtain ⟨q, rfl, i0, g1, g2, g3⟩ := pth_of hF hy
    rw [Int.toNat_natCast] at h1
    have : q = l.length := by
      have h3 := (List.getElem?_eq_some_iff.1 h1).1
      simp at h3
      rcases Nat.lt_or_ge q l.length with c | c
      · rw [List.getElem?_append_left c] at h1
        have := (f2 st (List.mem_of_getElem? h1)).2.1
        unfold ps at this
        dsimp only at this
        omega
      · omega
    subst this
    exact ⟨i0, g1, g2, (hw i0).1 g3⟩
  · rintro ⟨i, h1, h2, h3⟩
    obtain ⟨m, hm⟩ := (hw i).2 h3
    refine ⟨(l.length : Int), rch_of hm ?_, doneS, ?_, rfl⟩
    · rcases h1 with h1 | rfl
      · exact .more h1 h2
      · exact .start
    · rw [Int.toNat_natCast, List.getElem?_append_right (Nat.le_refl _), Nat.sub_self]
      rfl
theorem powM_le {F : Nat → Nat → Prop} {n : Nat} (h : ∀ i j, i ≤ n → F i j → i ≤ j ∧ j ≤ n) : ∀ (k i j : Nat), i ≤ n → powM F k i j → i ≤ j ∧ j ≤ n
  | 0, i, j, hi, e => by cases e; exact ⟨Nat.le_refl _, hi⟩
  | k + 1, i, j, hi, ⟨a, h1, h2⟩ => by
    have g1 := h i a hi h1
    have g2 := powM_le h k a j g1.2 h2
    omega
theorem seqM_le {F : Rx → Nat → Nat → Prop} {n : Nat} : ∀ {l : List Rx}, (∀ y ∈ l, ∀ i j, i ≤ n → F y i j → i ≤ j ∧ j ≤ n) → ∀ i j, i ≤ n → seqM F l i j → i ≤ j ∧ j ≤ n
  | [], h, i, j, hi, e => by cases e; exact ⟨Nat.le_refl _, hi⟩
  | y :: r, h, i, j, hi, ⟨a, h1, h2⟩ => by
    have g1 := h y (List.mem_cons_self ..) i a hi h1
    have g2 := seqM_le (fun q hq => h q (List.mem_cons_of_mem _ hq)) a j g1.2 h2
    omega
theorem M_le {s : List Int} : ∀ (n : Nat) {x : Rx} (i j : Nat), i ≤ s.length → M n s x i j → i ≤ j ∧ j ≤ s.length
  | 0, x, i, j, hi, h => h.elim
  | n + 1, x, i, j, hi, h => by
    rw [M] at h
    split at h
    · obtain ⟨c, h1, _, rfl⟩ := h
      have := (List.getElem?_eq_some_iff.1 h1).1
      omega
    split at h
    · exact seqM_le (fun y _ i j => M_le n i j) i j hi h
    split at h
    · obtain ⟨y, _, h1⟩ := h
      exact M_le n i j hi h1
    split at h
    · split at h
      · obtain ⟨k, _, _, h1⟩ := h
        exact powM_le (fun i j => M_le n i j) k i j hi h1
      · omega
    all_goals first
      | (split at h
         · omega
         split at h
         · omega
         split at h
         · omega
         split at h
         · omega
         · omega)
end
section
open Go
set_option linter.unusedVariables false
set_option linter.unusedSimpArgs false
set_option linter.unusedSectionVars false
set_option linter.unnecessarySimpa false
def maxL (f : Rx → Nat) : List Rx → Nat
 | [] => 0
 | y :: r => max (f y) (maxL f r)
def lvl : Nat → Rx → Nat
 | 0, _ => 0
 | n + 1, x => 1 + maxL (lvl n) x.Sub.xs
theorem maxL_le {f : Rx → Nat} {n : Nat} : ∀ {l : List Rx}, (∀ y ∈ l, f y ≤ n) → maxL f l ≤ n
 | [], _ => Nat.zero_le _
 | y :: r, h => by
  rw [maxL]
  have h1 := h y (List.mem_cons_self ..)
  have h2 := maxL_le (l := r) (fun q hq => h q (List.mem_cons_of_mem _ hq))
  omega
theorem lvl_le : ∀ (n : Nat) (x : Rx), lvl n x ≤ n
 | 0, x => Nat.le_refl _
 | n + 1, x => by
  rw [lvl]
  have := maxL_le (f := lvl n) (n := n) (l := x.Sub.xs) (fun y _ => lvl_le n y)
  omega
theorem levels_loop {x : Rx} {f : Rx → Nat} (hs : x.Sub.xs.length < 9000000000000) (hf : ∀ y ∈ x.Sub.xs, ref09_Levels y (f y : Int)) : ∀ (rest : List Rx) (k a : Nat), x.Sub.xs.drop k = rest → ∃ z, ref09_Levels_l0 x (a : Int) (k : Int) (ref09_Levels_l0_x0 x ((max a (maxL f rest) : Nat) : Int) z)
 | [], k, a, hd => by
  have := drop_nil_le hd
  refine ⟨k, ?_⟩
  rw [maxL, Nat.max_zero]
  exact ref09_Levels_l0_e1 (by omega)
 | y :: rest, k, a, hd => by
  obtain ⟨h1, h2, h3⟩ := at_drop hd
  have hy : y ∈ x.Sub.xs := List.mem_of_mem_drop (by rw [hd]; exact List.mem_cons_self ..)
  obtain ⟨z, ih⟩ := levels_loop hs hf rest (k + 1) (max a (f y)) h2
  refine ⟨z, ref09_Levels_l0_s0 (by omega) (by omega) h1 (hf y hy) (in64 (by omega) (by omega)) ?_⟩
  rw [maxL, show max a (max (f y) (maxL f rest)) = max (max a (f y)) (maxL f rest) by omega, show max (a : Int) (f y : Int) = ((max a (f y) : Nat) : Int) by omega]
  exact ih
theorem levels_run : ∀ (n : Nat) {x : Rx}, n ≤ 100000 → wf_Rx x → rightR n x → ref09_Levels x (lvl n x : Int)
 | 0, x, _, hx, h => h.elim
 | n + 1, x, hn, hx, h => by
  obtain ⟨_, w2, w3⟩ := wfRx_small hx
  obtain ⟨z, hl⟩ := levels_loop (f := lvl n) w2 (fun y hy => levels_run n (by omega) (w3 y hy) (h.2 y hy)) x.Sub.xs 0 0 (by simp)
  have hm := maxL_le (f := lvl n) (n := n) (l := x.Sub.xs) (fun y _ => lvl_le n y)
  have := ref09_Levels_r0 hl (in64 (by omega) (by omega))
  rw [lvl, show ((1 + maxL (lvl n) x.Sub.xs : Nat) : Int) = ((max 0 (maxL (lvl n) x.Sub.xs) : Nat) : Int) + 1 by omega]
  exact this
theorem check_ok {x : Rx} (hx : wf_Rx x) (h : rightR 1000 x) : rx_Check x 0 := by
 obtain ⟨b, h1, e1⟩ := fits_run 1000 (by omega) hx
 have : b = true := e1.2 h
 subst this
 exact rx_Check_r0 h1
theorem size_all {x : Rx} {m : Int} (hx : wf_Rx x) (hm : 0 ≤ m) (hm2 : m ≤ 1099511627776) : (rightR 1000 x ∧ nfa_Size x m (min (totR 1000 x + 1) (m + 1)) 0) ∨ (¬ rightR 1000 x ∧ nfa_Size x m 0 91) := by
 obtain ⟨b, h1, e1⟩ := fits_run 1000 (by omega) hx
 by_cases h : rightR 1000 x
 ·exact .inl ⟨h, Size_run hx h (check_ok hx h) hm hm2⟩
 ·have : b = false := by cases b; rfl; exact absurd (e1.1 rfl) h
  subst this
  exact .inr ⟨h, nfa_Size_r0 (rx_Check_r1 h1) (by decide)⟩
theorem compiled {x : Rx} {most : Int} (hx : wf_Rx x) (h : rightR 1000 x) (hb : totR 1000 x + 1 ≤ 65536) (hm : totR 1000 x + 1 ≤ most) : ∃ l : List State, nfa_Compile x most ⟨4, l ++ [doneS], false⟩ 0 ∧ l.map ps = comp 1000 0 x := by
 rcases compile_run (most := most) hx h (check_ok hx h) with ⟨_, _, l, h1, h2⟩ | ⟨h1, _⟩
 ·exact ⟨l, h1, h2⟩
 ·omega
theorem found_run {x : Rx} {l : List State} {s : ByteArray} (h : rightR 1000 x) (hb : totR 1000 x + 1 ≤ 65536) (hl : l.map ps = comp 1000 0 x) (hs : s.size < 100000000) :
  (¬ GoodT (strInts s) ∧ pike_Search ⟨4, l ++ [doneS], false⟩ s false 0 10) ∨ (∃ p f n, GP (strInts s) p ∧ pike_Search ⟨4, l ++ [doneS], false⟩ s f n 0 ∧ (f = true ↔ ∃ i j, i ≤ p.length ∧ M 1000 p x i j)) := by
 obtain ⟨f1, f2⟩ := comp_fits h hb hl
 obtain ⟨f3, f4⟩ := fits_okL f2 (by omega)
 rcases search_run (l := ⟨4, l ++ [doneS], false⟩) (s := s) f3 (by simp; omega) hs with ⟨o, _⟩ | ⟨_, g, k⟩ | ⟨_, p, f, n, g, k, sp⟩
 ·exact absurd f4 o
 ·exact .inl ⟨g, k⟩
 ·refine .inr ⟨p, f, n, g, k, ?_⟩
  rw [spec_found p.length 0 [0] 0 n f (by omega) (fun y => by rw [List.mem_singleton]; exact Iff.rfl) sp]
  constructor
  ·rintro ⟨j, _, _, hd⟩
   obtain ⟨i, _, h2, h3⟩ := (dn_means h hb hl j).1 hd
   exact ⟨i, j, h2, h3⟩
  ·rintro ⟨i, j, h2, h3⟩
   exact ⟨j, Nat.zero_le _, (M_le _ _ _ h2 h3).2, (dn_means h hb hl j).2 ⟨i, .inl rfl, h2, h3⟩⟩
def two (k : Int) (x y : Rx) : Rx := Rx.mk k ⟨0, [], true⟩ 0 0 false ⟨6, [x, y], true⟩
theorem heads_true' : law_heads true := R_heads
end
end Go.Proofs.YtjnfkifdgojdaaaGreat.V

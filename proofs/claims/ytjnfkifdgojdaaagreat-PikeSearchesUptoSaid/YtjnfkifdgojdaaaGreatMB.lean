/- Search and Ends of pike and of its reference (several texts together). -/
import Derived.Test.YtjnfkifdgojdaaaGreatV34
import Derived.Test.YtjnfkifdgojdaaaGreatRows
import Derived.OpenShut
import Derived.Deep.Slices
import Derived.Test.YtjnfkifdgojdaaaGreatMA
import Derived.Test.YtjnfkifdgojdaaaGreatVY
namespace Go.Proofs.YtjnfkifdgojdaaaGreat.V
section
open Go
open Go.ChangeShapes Go.WideShapes Go.Deep
set_option linter.unusedVariables false
set_option linter.unnecessarySimpa false
set_option linter.unusedSimpArgs false
set_option linter.unusedSectionVars false
theorem bulk_pos {H : Type} (d : DataW H) : 1 ≤ Rows.uptoBulk d := by
  cases d with
  | lit l => cases l <;> simp [Rows.uptoBulk]
  | _ => simp [Rows.uptoBulk]
theorem bulk_len {H : Type} : ∀ l : List (DataW H), l.length ≤ Rows.uptoBulkAll l
  | [] => by simp [Rows.uptoBulkAll]
  | d :: r => by
    have h1 := bulk_pos d
    have h2 := bulk_len r
    simp only [Rows.uptoBulkAll, List.length_cons]
    omega
theorem bulk_mem {H : Type} {d : DataW H} : ∀ {l : List (DataW H)} {n : Nat}, Rows.uptoBulkAll l ≤ n → d ∈ l → Rows.uptoBulk d ≤ n
  | x :: r, n, h, hd => by
    simp only [Rows.uptoBulkAll] at h
    rcases List.mem_cons.1 hd with rfl | hd
    · omega
    · exact bulk_mem (by omega) hd
theorem slice_bulk {H : Type} {enc : TypeId × Value → H} {P : Program} {w : World} {spare : Nat → Bool} {F : Nat → Prop} {α : Type} {es : Nat} {e0 : α → D} {s : SL α} {v : Value} {t e : TypeId} {d : DataW H} {p : List MemPlace}
    (hd : DRel w F (slD es e0 s) v) (h : DataW.Trod enc P w 0 spare true t v d p) (ht : P.underlying t = some (.slice e)) : s.xs.length ≤ Rows.uptoBulk d := by
  have hv : ∃ a c, v = .slice a s.xs.length c := by
    have hl := len_dl e0 s.xs
    generalize hx : slD es e0 s = x at hd
    cases hd with
    | sl es' xs t' a cap b off cell hlc ht' ha hF hes hc h1 hr =>
      unfold slD at hx
      injection hx with h1 h2 h3
      subst h2
      exact ⟨a, cap, by rw [hl]⟩
    | _ => unfold slD at hx; cases hx
  obtain ⟨a, c, rfl⟩ := hv
  obtain ⟨m, hm⟩ := h
  rcases open_slice ht hm with ⟨h1, h2⟩ | ⟨a', len, cap, m', n', D', Pl, h1, _, _, _, _, h2, _⟩
  · have : (Value.slice a s.xs.length c) = .slice none 0 0 := by
      have := congrArg List.head? h1
      simpa [Value.cells] using this
    injection this with _ h3 _
    omega
  · have : (Value.slice a s.xs.length c) = .slice (some a') len cap := by
      have := congrArg List.head? h1
      simpa [Value.cells] using this
    injection this with _ h3 _
    have h4 : d = (.slice ((List.range len).map D') ((List.range (m' - len)).map fun j => D' (len + j))) := congrArg Prod.fst h2
    rw [h4]
    simp only [Rows.uptoBulk]
    have := bulk_len ((List.range len).map D')
    rw [List.length_map, List.length_range] at this
    omega
theorem str_bulk {H : Type} {enc : TypeId × Value → H} {P : Program} {w : World} {spare : Nat → Bool} {F : Nat → Prop} {s : ByteArray} {v : Value} {t : TypeId} {d : DataW H} {p : List MemPlace}
    (hd : DRel w F (.str s) v) (h : DataW.Trod enc P w 0 spare true t v d p) (ht : P.underlying t = some .string) : s.size ≤ Rows.uptoBulk d := by
  cases hd
  obtain ⟨m, hm⟩ := h
  obtain ⟨s', h1, h2, h3⟩ := DataW.trod_string ht hm
  have e : s = s' := by
    have := congrArg List.head? h1
    simpa [Value.cells] using this
  have h4 : d = .lit (.string s'.data.toList) := congrArg Prod.fst h2
  rw [h4, e]
  simp only [Rows.uptoBulk]
  rw [Array.length_toList]
  show s'.data.size ≤ _
  omega
end
section
open Go
set_option linter.unusedVariables false
set_option linter.unnecessarySimpa false
set_option linter.unusedSimpArgs false
set_option linter.unusedSectionVars false
theorem bytes_str (s : ByteArray) : isBytes (strInts s) := by
  intro x hx
  unfold strInts at hx
  obtain ⟨b, _, rfl⟩ := List.mem_map.1 hx
  have := UInt8.toNat_lt b
  omega
theorem str_len (s : ByteArray) : (strInts s).length = s.size := by
  unfold strInts
  rw [List.length_map, Array.length_toList]
  rfl
theorem wfStates_of {l : SL State} (h : wfS 48 wf_State l) : wfStates l := by
  refine ⟨by have := h.1; unfold small; omega, fun s hs => ?_⟩
  have h1 := (h.2 s hs).2.1.1
  unfold small
  omega
theorem fits_of {l : SL State} (hw : wfStates l) (h : okL l) : Fits l.xs := by
  refine ⟨fun st hst k => ?_, fun st hst k => ?_, fun st hst k => ?_, fun st hst => ?_⟩
  · have := h.2 st hst
    unfold okS at this
    exact this.2.2.1 k
  · have := h.2 st hst
    unfold okS at this
    exact this.2.2.2.2.1 k
  · have := h.2 st hst
    unfold okS at this
    exact this.2.2.2.2.2.2.1 (by omega)
  · have := hw.2 st hst
    unfold small at this
    omega
theorem over_run {r : pike_run} (hF : Fits r.l_.xs) (hs : r.s_.xs.length < 100000000) (hn : r.l_.xs.length < 10000000) (hp0 : 0 < r.l_.xs.length) : ∃ f n, pike_run_over_v1 0 false r true n f ∧ Spec r.l_.xs r.s_.xs true r.s_.xs.length 0 [0] 0 f n := by
  have hv : ∀ x ∈ ([0] : List Int), 0 ≤ x ∧ x < r.l_.xs.length := fun x hx => by
    rw [List.mem_singleton.1 hx]; omega
  obtain ⟨all, at_, d, h1, h2, h3, h4⟩ := spread_run (r := r) (i := 0) (src := ⟨1, [0], true⟩) (by omega) (by omega) (by omega) (by show ([0] : List Int).length < _; simp) hv (hF.nx _ _)
  have hav : ∀ x ∈ all, 0 ≤ x ∧ x < r.l_.xs.length := fun x hx => Clos.lt hv (hF.nx _ _) ((h3 x).1 hx)
  have hal : all.length ≤ r.l_.xs.length := nodup_le _ _ h2 hav
  have hw : w64 ((0 : Int) + (all.length : Int)) := in64 (by omega) (by omega)
  have he := search_each 0 all.length (((0 : Nat) : Int)) false d hw
  cases d with
  | true =>
    refine ⟨true, _, pike_run_over_v1_r0 (pike_run_over_v1_l0_e2 (by omega) h1 he), ?_⟩
    cases hl : r.s_.xs.length with
    | zero => exact ⟨all, h2, h3, h4, rfl⟩
    | succ m => exact ⟨all, h2, h3, .inl ⟨h4.1 rfl, rfl, rfl⟩⟩
  | false =>
    cases hl : r.s_.xs.length with
    | zero => exact ⟨false, _, pike_run_over_v1_r0 (pike_run_over_v1_l0_e3 (by omega) h1 he (by omega)), all, h2, h3, h4, rfl⟩
    | succ m =>
      obtain ⟨p, hp⟩ : ∃ p, r.s_.xs[0]? = some p := ⟨_, List.getElem?_eq_getElem (by omega)⟩
      obtain ⟨out, ot, g1, g2, g3⟩ := follow_run (r := r) (p := p) (all := ⟨1, all, at_⟩) (by show all.length < _; omega) hav hF.r
      have tk2 : out.take out.length = out := List.take_length ..
      have g2' : out.length ≤ all.length := g2
      obtain ⟨f, n, x, i', al, k1, k2⟩ := over_loop hF hs hn hp0 m 1 (out ++ [0]) false (0 + all.length) false (by omega) (fun y hy => by
        rcases List.mem_append.1 hy with h | h
        · obtain ⟨x, _, h⟩ := (g3 y).1 h
          exact hF.go h
        · rw [List.mem_singleton.1 h]; omega) (by simp; omega) (by omega) (by omega)
      refine ⟨f, n, pike_run_over_v1_r4 (pike_run_over_v1_l0_s4 (by omega) h1 he (by omega) (by omega) hp g1 (by omega) (Nat.le_refl _) (in64 (by omega) (by omega)) (by rw [tk2]; exact k1)), all, h2, h3, .inr ⟨fun h => (by have := h4.2 h; cases this), p, out ++ [0], hp, fun y => ?_, k2⟩⟩
      rw [List.mem_append, g3, List.mem_singleton]
      constructor
      · rintro (h | h)
        · exact .inr h
        · exact .inl ⟨rfl, h⟩
      · rintro (⟨_, h⟩ | h)
        · exact .inr h
        · exact .inl h
theorem begin_run {l : SL State} {s : ByteArray} (hw : wfStates l) (hs : s.size < 100000000) :
    (¬ okL l ∧ pike_begin l s D.nilp 101) ∨ (okL l ∧ ¬ GoodT (strInts s) ∧ pike_begin l s (.ptr [(slD 4 e_State l), (slD 1 (D.int .i64) ⟨1, [], true⟩)]) 10) ∨
      (okL l ∧ ∃ p t, GP (strInts s) p ∧ pike_begin l s (.ptr [(slD 4 e_State l), (slD 1 (D.int .i64) ⟨1, p, t⟩)]) 0) := by
  have hl := str_len s
  rcases check_run hw with ⟨o, h⟩ | ⟨o, h⟩
  · rcases utf_points_run (b := ⟨1, strInts s, false⟩) (bytes_str s) (by show (strInts s).length < _; omega) with ⟨p, t, h1, h2⟩ | ⟨h1, h2⟩
    · exact .inr (.inr ⟨o, p, t, h1, pike_begin_r1 h rfl h2⟩)
    · exact .inr (.inl ⟨o, h1, pike_begin_r1 h rfl h2⟩)
  · exact .inl ⟨o, pike_begin_r0 h (by decide)⟩
theorem okL_pos {l : SL State} (h : okL l) : 0 < l.xs.length := List.length_pos_iff.2 h.1
theorem search_run {l : SL State} {s : ByteArray} (hw : wfStates l) (hn : l.xs.length < 10000000) (hs : s.size < 100000000) :
    (¬ okL l ∧ pike_Search l s false 0 101) ∨ (okL l ∧ ¬ GoodT (strInts s) ∧ pike_Search l s false 0 10) ∨ (okL l ∧ ∃ p f n, GP (strInts s) p ∧ pike_Search l s f n 0 ∧ Spec l.xs p true p.length 0 [0] 0 f n) := by
  rcases begin_run hw hs with ⟨o, h⟩ | ⟨o, g, h⟩ | ⟨o, p, t, g, h⟩
  · exact .inl ⟨o, pike_Search_r0 h (by decide)⟩
  · exact .inr (.inl ⟨o, g, pike_Search_r3 (r0 := ⟨l, ⟨1, [], true⟩⟩) h (by decide)⟩)
  · have hp := g.len
    rw [str_len] at hp
    obtain ⟨f, n, h1, h2⟩ := over_run (r := ⟨l, ⟨1, p, t⟩⟩) (fits_of hw o) (by show p.length < _; omega) hn (okL_pos o)
    refine .inr (.inr ⟨o, p, f, n, g, ?_, h2⟩)
    cases f with
    | true => exact pike_Search_r4 (r0 := ⟨l, ⟨1, p, t⟩⟩) h rfl h1 rfl
    | false => exact pike_Search_r5 (r0 := ⟨l, ⟨1, p, t⟩⟩) h rfl h1 rfl
end
section
open Go
set_option linter.unusedVariables false
set_option linter.unnecessarySimpa false
set_option linter.unusedSimpArgs false
set_option linter.unusedSectionVars false
def dnAt (l : List State) (s : List Int) (i : Nat) (src : List Int) : Prop := ∃ x, Clos (nxL l s i) src x ∧ isDone l x
/-- The places where a run is done: places to come; place; where from; places so far. -/
def SpecE (l : List State) (s : List Int) : Nat → Nat → List Int → List Int → List Int → Prop
  | 0, i, src, acc, out => (dnAt l s i src ∧ out = acc ++ [(i : Int)]) ∨ (¬ dnAt l s i src ∧ out = acc)
  | m + 1, i, src, acc, out => ∃ (acc' : List Int) (p : Int) (src' : List Int), ((dnAt l s i src ∧ acc' = acc ++ [(i : Int)]) ∨ (¬ dnAt l s i src ∧ acc' = acc)) ∧ s[i]? = some p ∧
      (∀ y, y ∈ src' ↔ ∃ x, Clos (nxL l s i) src x ∧ goTo l p x y) ∧ SpecE l s m (i + 1) src' acc' out
theorem dnAt.congr {l : List State} {s : List Int} {i : Nat} {a b : List Int} (h : ∀ x, x ∈ a ↔ x ∈ b) : dnAt l s i a ↔ dnAt l s i b :=
  ⟨fun ⟨x, k, d⟩ => ⟨x, (Clos.congr h x).1 k, d⟩, fun ⟨x, k, d⟩ => ⟨x, (Clos.congr h x).2 k, d⟩⟩
theorem specE_uniq {l : List State} {s : List Int} : ∀ (m i : Nat) (src src2 acc out out2 : List Int), (∀ x, x ∈ src ↔ x ∈ src2) → SpecE l s m i src acc out → SpecE l s m i src2 acc out2 → out = out2
  | 0, i, src, src2, acc, out, out2, he, h, g => by
    have hd := dnAt.congr (l := l) (s := s) (i := i) he
    rcases h with ⟨h1, h2⟩ | ⟨h1, h2⟩ <;> rcases g with ⟨g1, g2⟩ | ⟨g1, g2⟩
    · rw [h2, g2]
    · exact absurd (hd.1 h1) g1
    · exact absurd (hd.2 g1) h1
    · rw [h2, g2]
  | m + 1, i, src, src2, acc, out, out2, he, ⟨a, p, s', h1, h2, h3, h4⟩, ⟨b, q, t', g1, g2, g3, g4⟩ => by
    have hd := dnAt.congr (l := l) (s := s) (i := i) he
    have e : a = b := by
      rcases h1 with ⟨h1, h2⟩ | ⟨h1, h2⟩ <;> rcases g1 with ⟨g1, g2⟩ | ⟨g1, g2⟩
      · rw [h2, g2]
      · exact absurd (hd.1 h1) g1
      · exact absurd (hd.2 g1) h1
      · rw [h2, g2]
    subst e
    rw [h2] at g2
    cases g2
    refine specE_uniq m (i + 1) s' t' a out out2 (fun y => ?_) h4 g4
    rw [h3, g3]
    exact ⟨fun ⟨x, k, d⟩ => ⟨x, (Clos.congr he x).1 k, d⟩, fun ⟨x, k, d⟩ => ⟨x, (Clos.congr he x).2 k, d⟩⟩
theorem dn_of {l : List State} {s : List Int} {i : Nat} {src all : List Int} {d : Bool} (h3 : ∀ x, x ∈ all ↔ Clos (nxL l s i) src x) (h4 : d = true ↔ ∃ x ∈ all, isDone l x) : d = true ↔ dnAt l s i src := by
  rw [h4]
  exact ⟨fun ⟨x, k, g⟩ => ⟨x, (h3 x).1 k, g⟩, fun ⟨x, k, g⟩ => ⟨x, (h3 x).2 k, g⟩⟩
theorem ends_c {r : pike_run} (hF : Fits r.l_.xs) (hs : r.s_.xs.length < 100000000) (hn : r.l_.xs.length < 10000000) : ∀ (m i : Nat) (src : List Int) (t : Bool) (acc : List Int) (ot : Bool), i + m = r.s_.xs.length → (∀ x ∈ src, 0 ≤ x ∧ x < r.l_.xs.length) → src.length ≤ r.l_.xs.length + 1 → acc.length ≤ i →
    ∃ (e : Ex × XSt) (out : List Int) (ot' : Bool), pike_run_over_v3_l0_c ot acc.length src acc r false t src.length i e ∧ ((∃ a b c, e = pike_run_over_v3_l0_x14 ot' out.length a out r b c) ∨ ∃ a b c, e = pike_run_over_v3_l0_x10 ot' out.length a out r b c) ∧ SpecE r.l_.xs r.s_.xs m i src acc out := by
  intro m
  induction m with
  | zero =>
    intro i src t acc ot hi hv hl ha
    obtain ⟨all, at_, d, h1, h2, h3, h4⟩ := spread_run (r := r) (i := i) (src := ⟨1, src, t⟩) (by omega) (by omega) (by omega) (by show src.length < _; omega) hv (hF.nx _ _)
    have hd := dn_of h3 h4
    have tk : src.take src.length = src := List.take_length ..
    have tka : acc.take acc.length = acc := List.take_length ..
    have h1' : pike_run_spread r ⟨1, src.take src.length, t⟩ i ⟨1, all, at_⟩ d := by rw [tk]; exact h1
    cases d with
    | true =>
      have f := pike_Ends_f1_v1_r0 (c0st := ot) (c0sn := acc.length) (o1 := acc) (at_ := (i : Int)) (a1 := (all.length : Int)) (by omega) (Nat.le_refl _)
      rw [tka] at f
      exact ⟨_, acc ++ [(i : Int)], false, pike_run_over_v3_l0_c_e68 (by omega) (Nat.le_refl _) h1' f (by omega), .inl ⟨_, _, _, rfl⟩, .inl ⟨hd.1 rfl, rfl⟩⟩
    | false =>
      exact ⟨_, acc, ot, pike_run_over_v3_l0_c_e71 (by omega) (Nat.le_refl _) h1' pike_Ends_f1_v1_r1 (by omega), .inr ⟨_, _, _, rfl⟩, .inr ⟨fun h => (by have := hd.2 h; cases this), rfl⟩⟩
  | succ m ih =>
    intro i src t acc ot hi hv hl ha
    obtain ⟨all, at_, d, h1, h2, h3, h4⟩ := spread_run (r := r) (i := i) (src := ⟨1, src, t⟩) (by omega) (by omega) (by omega) (by show src.length < _; omega) hv (hF.nx _ _)
    have hav : ∀ x ∈ all, 0 ≤ x ∧ x < r.l_.xs.length := fun x hx => Clos.lt hv (hF.nx _ _) ((h3 x).1 hx)
    have hal : all.length ≤ r.l_.xs.length := nodup_le _ _ h2 hav
    have hd := dn_of h3 h4
    have tk : src.take src.length = src := List.take_length ..
    have tka : acc.take acc.length = acc := List.take_length ..
    have h1' : pike_run_spread r ⟨1, src.take src.length, t⟩ i ⟨1, all, at_⟩ d := by rw [tk]; exact h1
    obtain ⟨p, hp⟩ : ∃ p, r.s_.xs[i]? = some p := ⟨_, List.getElem?_eq_getElem (by omega)⟩
    have hp' : r.s_.xs[((i : Nat) : Int).toNat]? = some p := by rw [Int.toNat_natCast]; exact hp
    obtain ⟨out, ot1, g1, g2, g3⟩ := follow_run (r := r) (p := p) (all := ⟨1, all, at_⟩) (by show all.length < _; omega) hav hF.r
    have g2' : out.length ≤ all.length := g2
    have hvo : ∀ y ∈ out, 0 ≤ y ∧ y < r.l_.xs.length := fun y hy => by
      obtain ⟨x, _, h⟩ := (g3 y).1 hy
      exact hF.go h
    have hsrc : ∀ y, y ∈ out ↔ ∃ x, Clos (nxL r.l_.xs r.s_.xs i) src x ∧ goTo r.l_.xs p x y := fun y => by
      rw [g3]
      exact ⟨fun ⟨x, k, g⟩ => ⟨x, (h3 x).1 k, g⟩, fun ⟨x, k, g⟩ => ⟨x, (h3 x).2 k, g⟩⟩
    cases d with
    | true =>
      have f := pike_Ends_f1_v1_r0 (c0st := ot) (c0sn := acc.length) (o1 := acc) (at_ := (i : Int)) (a1 := (all.length : Int)) (by omega) (Nat.le_refl _)
      rw [tka] at f
      obtain ⟨e, o, o', k1, k2, k3⟩ := ih (i + 1) out ot1 (acc ++ [(i : Int)]) false (by omega) hvo (by omega) (by simp; omega)
      exact ⟨e, o, o', pike_run_over_v3_l0_c_s69 (by omega) (Nat.le_refl _) h1' f (by omega) (by omega) hp' g1 (in64 (by omega) (by omega)) k1, k2, _, p, out, .inl ⟨hd.1 rfl, rfl⟩, hp, hsrc, k3⟩
    | false =>
      obtain ⟨e, o, o', k1, k2, k3⟩ := ih (i + 1) out ot1 acc ot (by omega) hvo (by omega) (by omega)
      exact ⟨e, o, o', pike_run_over_v3_l0_c_s72 (by omega) (Nat.le_refl _) h1' pike_Ends_f1_v1_r1 (by omega) (by omega) hp' g1 (in64 (by omega) (by omega)) k1, k2, _, p, out, .inr ⟨fun h => (by have := hd.2 h; cases this), rfl⟩, hp, hsrc, k3⟩
theorem ends_first {i all : Int} : pike_Ends_f1_m true 0 [] i all true true [i] 1 false := by
  have f := pike_Ends_f1_r0 (c0s0t := true) (c0s0n := 0) (o1 := []) (at_ := i) (a1 := all) (by decide) (Nat.le_refl _)
  exact f
theorem ends_b {r : pike_run} (hF : Fits r.l_.xs) (hs : r.s_.xs.length < 100000000) (hn : r.l_.xs.length < 10000000) : ∀ (m i : Nat) (src : List Int) (t : Bool), i + m = r.s_.xs.length → (∀ x ∈ src, 0 ≤ x ∧ x < r.l_.xs.length) → src.length ≤ r.l_.xs.length + 1 → 1 ≤ i →
    ∃ (e : Ex × XSt) (out : List Int), pike_run_over_v3_l0_b true 0 [] src r false t src.length i e ∧ ((∃ ot a b c, e = pike_run_over_v3_l0_x14 ot out.length a out r b c) ∨ (∃ ot a b c, e = pike_run_over_v3_l0_x10 ot out.length a out r b c) ∨ (out = [] ∧ ∃ a b c, e = pike_run_over_v3_l0_x9 true 0 [] a r b c)) ∧ SpecE r.l_.xs r.s_.xs m i src [] out := by
  intro m
  induction m with
  | zero =>
    intro i src t hi hv hl ha
    obtain ⟨all, at_, d, h1, h2, h3, h4⟩ := spread_run (r := r) (i := i) (src := ⟨1, src, t⟩) (by omega) (by omega) (by omega) (by show src.length < _; omega) hv (hF.nx _ _)
    have hd := dn_of h3 h4
    have tk : src.take src.length = src := List.take_length ..
    have h1' : pike_run_spread r ⟨1, src.take src.length, t⟩ i ⟨1, all, at_⟩ d := by rw [tk]; exact h1
    cases d with
    | true =>
      exact ⟨_, [(i : Int)], pike_run_over_v3_l0_b_e42 (by omega) (Nat.le_refl _) h1' ends_first (by omega), .inr (.inl ⟨_, _, _, _, rfl⟩), .inl ⟨hd.1 rfl, rfl⟩⟩
    | false =>
      exact ⟨_, [], pike_run_over_v3_l0_b_e45 (by omega) (Nat.le_refl _) h1' pike_Ends_f1_r1 (by omega), .inr (.inr ⟨rfl, _, _, _, rfl⟩), .inr ⟨fun h => (by have := hd.2 h; cases this), rfl⟩⟩
  | succ m ih =>
    intro i src t hi hv hl ha
    obtain ⟨all, at_, d, h1, h2, h3, h4⟩ := spread_run (r := r) (i := i) (src := ⟨1, src, t⟩) (by omega) (by omega) (by omega) (by show src.length < _; omega) hv (hF.nx _ _)
    have hav : ∀ x ∈ all, 0 ≤ x ∧ x < r.l_.xs.length := fun x hx => Clos.lt hv (hF.nx _ _) ((h3 x).1 hx)
    have hal : all.length ≤ r.l_.xs.length := nodup_le _ _ h2 hav
    have hd := dn_of h3 h4
    have tk : src.take src.length = src := List.take_length ..
    have h1' : pike_run_spread r ⟨1, src.take src.length, t⟩ i ⟨1, all, at_⟩ d := by rw [tk]; exact h1
    obtain ⟨p, hp⟩ : ∃ p, r.s_.xs[i]? = some p := ⟨_, List.getElem?_eq_getElem (by omega)⟩
    have hp' : r.s_.xs[((i : Nat) : Int).toNat]? = some p := by rw [Int.toNat_natCast]; exact hp
    obtain ⟨out, ot1, g1, g2, g3⟩ := follow_run (r := r) (p := p) (all := ⟨1, all, at_⟩) (by show all.length < _; omega) hav hF.r
    have g2' : out.length ≤ all.length := g2
    have hvo : ∀ y ∈ out, 0 ≤ y ∧ y < r.l_.xs.length := fun y hy => by
      obtain ⟨x, _, h⟩ := (g3 y).1 hy
      exact hF.go h
    have hsrc : ∀ y, y ∈ out ↔ ∃ x, Clos (nxL r.l_.xs r.s_.xs i) src x ∧ goTo r.l_.xs p x y := fun y => by
      rw [g3]
      exact ⟨fun ⟨x, k, g⟩ => ⟨x, (h3 x).1 k, g⟩, fun ⟨x, k, g⟩ => ⟨x, (h3 x).2 k, g⟩⟩
    cases d with
    | true =>
      obtain ⟨e, o, o', k1, k2, k3⟩ := ends_c hF hs hn m (i + 1) out ot1 [(i : Int)] false (by omega) hvo (by omega) (by simp)
      refine ⟨e, o, pike_run_over_v3_l0_b_s43 (by omega) (Nat.le_refl _) h1' ends_first (by omega) (by omega) hp' g1 (in64 (by omega) (by omega)) k1, ?_, _, p, out, .inl ⟨hd.1 rfl, rfl⟩, hp, hsrc, k3⟩
      rcases k2 with ⟨a, b, c, k⟩ | ⟨a, b, c, k⟩
      · exact .inl ⟨_, _, _, _, k⟩
      · exact .inr (.inl ⟨_, _, _, _, k⟩)
    | false =>
      obtain ⟨e, o, k1, k2, k3⟩ := ih (i + 1) out ot1 (by omega) hvo (by omega) (by omega)
      exact ⟨e, o, pike_run_over_v3_l0_b_s46 (by omega) (Nat.le_refl _) h1' pike_Ends_f1_r1 (by omega) (by omega) hp' g1 (in64 (by omega) (by omega)) k1, k2, _, p, out, .inr ⟨fun h => (by have := hd.2 h; cases this), rfl⟩, hp, hsrc, k3⟩
theorem ends_over {r : pike_run} (hF : Fits r.l_.xs) (hs : r.s_.xs.length < 100000000) (hn : r.l_.xs.length < 10000000) (hp0 : 0 < r.l_.xs.length) :
    ∃ out : List Int, ((out = [] ∧ pike_run_over_v3 true 0 [] r false []) ∨ ∃ t, pike_run_over_v3_m true 0 [] r false out out.length t) ∧ SpecE r.l_.xs r.s_.xs r.s_.xs.length 0 [0] [] out := by
  have hv : ∀ x ∈ ([0] : List Int), 0 ≤ x ∧ x < r.l_.xs.length := fun x hx => by
    rw [List.mem_singleton.1 hx]; omega
  obtain ⟨all, at_, d, h1, h2, h3, h4⟩ := spread_run (r := r) (i := 0) (src := ⟨1, [0], true⟩) (by omega) (by omega) (by omega) (by show ([0] : List Int).length < _; simp) hv (hF.nx _ _)
  have hav : ∀ x ∈ all, 0 ≤ x ∧ x < r.l_.xs.length := fun x hx => Clos.lt hv (hF.nx _ _) ((h3 x).1 hx)
  have hal : all.length ≤ r.l_.xs.length := nodup_le _ _ h2 hav
  have hd := dn_of h3 h4
  cases hl : r.s_.xs.length with
  | zero =>
    cases d with
    | true => exact ⟨[0], .inr ⟨_, pike_run_over_v3_r4 (pike_run_over_v3_l0_e16 (by omega) h1 ends_first (by omega))⟩, .inl ⟨hd.1 rfl, rfl⟩⟩
    | false => exact ⟨[], .inl ⟨rfl, pike_run_over_v3_r3 (pike_run_over_v3_l0_e19 (by omega) h1 pike_Ends_f1_r1 (by omega))⟩, .inr ⟨fun h => (by have := hd.2 h; cases this), rfl⟩⟩
  | succ m =>
    obtain ⟨p, hp⟩ : ∃ p, r.s_.xs[0]? = some p := ⟨_, List.getElem?_eq_getElem (by omega)⟩
    obtain ⟨out, ot1, g1, g2, g3⟩ := follow_run (r := r) (p := p) (all := ⟨1, all, at_⟩) (by show all.length < _; omega) hav hF.r
    have g2' : out.length ≤ all.length := g2
    have hvo : ∀ y ∈ out, 0 ≤ y ∧ y < r.l_.xs.length := fun y hy => by
      obtain ⟨x, _, h⟩ := (g3 y).1 hy
      exact hF.go h
    have hsrc : ∀ y, y ∈ out ↔ ∃ x, Clos (nxL r.l_.xs r.s_.xs 0) [0] x ∧ goTo r.l_.xs p x y := fun y => by
      rw [g3]
      exact ⟨fun ⟨x, k, g⟩ => ⟨x, (h3 x).1 k, g⟩, fun ⟨x, k, g⟩ => ⟨x, (h3 x).2 k, g⟩⟩
    cases d with
    | true =>
      obtain ⟨e, o, o', k1, k2, k3⟩ := ends_c hF hs hn m 1 out ot1 [((0 : Nat) : Int)] false (by omega) hvo (by omega) (by simp)
      have k1' := pike_run_over_v3_l0_s17 (at_ := 0) (by omega) h1 ends_first (by omega) (by omega) hp g1 (in64 (by omega) (by omega)) k1
      refine ⟨o, .inr ⟨o', ?_⟩, _, p, out, .inl ⟨hd.1 rfl, rfl⟩, hp, hsrc, k3⟩
      rcases k2 with ⟨a, b, c, rfl⟩ | ⟨a, b, c, rfl⟩
      · exact pike_run_over_v3_r14 k1'
      · exact pike_run_over_v3_r10 k1'
    | false =>
      obtain ⟨e, o, k1, k2, k3⟩ := ends_b hF hs hn m 1 out ot1 (by omega) hvo (by omega) (by omega)
      have k1' := pike_run_over_v3_l0_s20 (at_ := 0) (by omega) h1 pike_Ends_f1_r1 (by omega) (by omega) hp g1 (in64 (by omega) (by omega)) k1
      refine ⟨o, ?_, _, p, out, .inr ⟨fun h => (by have := hd.2 h; cases this), rfl⟩, hp, hsrc, k3⟩
      rcases k2 with ⟨ot, a, b, c, rfl⟩ | ⟨ot, a, b, c, rfl⟩ | ⟨ho, a, b, c, rfl⟩
      · exact .inr ⟨_, pike_run_over_v3_r14 k1'⟩
      · exact .inr ⟨_, pike_run_over_v3_r10 k1'⟩
      · exact .inl ⟨ho, pike_run_over_v3_r9 k1'⟩
theorem ends_run {l : SL State} {s : ByteArray} (hw : wfStates l) (hn : l.xs.length < 10000000) (hs : s.size < 100000000) :
    (¬ okL l ∧ pike_Ends l s ⟨1, [], true⟩ 101) ∨ (okL l ∧ ¬ GoodT (strInts s) ∧ pike_Ends l s ⟨1, [], true⟩ 10) ∨ (okL l ∧ ∃ p out t, GP (strInts s) p ∧ pike_Ends l s ⟨1, out, t⟩ 0 ∧ SpecE l.xs p p.length 0 [0] [] out) := by
  rcases begin_run hw hs with ⟨o, h⟩ | ⟨o, g, h⟩ | ⟨o, p, t, g, h⟩
  · exact .inl ⟨o, pike_Ends_r0 h (by decide)⟩
  · exact .inr (.inl ⟨o, g, pike_Ends_r3 (r0 := ⟨l, ⟨1, [], true⟩⟩) h (by decide)⟩)
  · have hp := g.len
    rw [str_len] at hp
    obtain ⟨out, h1, h2⟩ := ends_over (r := ⟨l, ⟨1, p, t⟩⟩) (fits_of hw o) (by show p.length < _; omega) hn (okL_pos o)
    rcases h1 with ⟨rfl, h1⟩ | ⟨t', h1⟩
    · exact .inr (.inr ⟨o, p, [], _, g, pike_Ends_r4 (r0 := ⟨l, ⟨1, p, t⟩⟩) h rfl h1 (Nat.le_refl _), h2⟩)
    · have k := pike_Ends_r5 (r0 := ⟨l, ⟨1, p, t⟩⟩) h rfl h1 (Nat.le_refl _)
      rw [List.take_length] at k
      exact .inr (.inr ⟨o, p, out, _, g, k, h2⟩)
end
section
open Go
set_option linter.unusedVariables false
set_option linter.unnecessarySimpa false
set_option linter.unusedSimpArgs false
set_option linter.unusedSectionVars false
def refWordB (p : Int) : Bool := decide ((97 ≤ p ∧ p ≤ 122) ∨ (65 ≤ p ∧ p ≤ 90) ∨ (48 ≤ p ∧ p ≤ 57) ∨ p = 95)
theorem ref_word_run (p : Int) : ref11_Word p (refWordB p) := by
  have t : ((97 ≤ p ∧ p ≤ 122) ∨ (65 ≤ p ∧ p ≤ 90) ∨ (48 ≤ p ∧ p ≤ 57) ∨ p = 95) → ref11_Word p true → ref11_Word p (refWordB p) := fun h k => by unfold refWordB; rw [decide_eq_true h]; exact k
  have f : ¬ ((97 ≤ p ∧ p ≤ 122) ∨ (65 ≤ p ∧ p ≤ 90) ∨ (48 ≤ p ∧ p ≤ 57) ∨ p = 95) → ref11_Word p false → ref11_Word p (refWordB p) := fun h k => by unfold refWordB; rw [decide_eq_false h]; exact k
  by_cases a : p ≥ 97
  · by_cases b : p ≤ 122
    · exact t (by omega) (ref11_Word_r0 a b)
    · exact f (by omega) (ref11_Word_r4 a b (by omega) (by omega) (by omega) (by omega) (by omega))
  · by_cases c : p ≥ 65
    · by_cases d : p ≤ 90
      · exact t (by omega) (ref11_Word_r12 a c d)
      · by_cases e : p = 95
        · exact t (by omega) (ref11_Word_r14 a c d (by omega) (by omega) e)
        · exact f (by omega) (ref11_Word_r15 a c d (by omega) (by omega) e)
    · by_cases d : p ≥ 48
      · by_cases e : p ≤ 57
        · exact t (by omega) (ref11_Word_r18 a c d e)
        · exact f (by omega) (ref11_Word_r20 a c d e (by omega))
      · exact f (by omega) (ref11_Word_r22 a c d (by omega))
theorem or32_neg {p : Int} (h : -9223372036854775808 ≤ p) (h1 : p < 0) : bitOr .i64 p 32 < 0 := by
  have e : bitOr .i64 p 32 = IntKind.i64.wrap (((BitVec.ofInt 64 p ||| BitVec.ofInt 64 32).toNat : Nat) : Int) := rfl
  have l1 := (BitVec.ofInt 64 p ||| BitVec.ofInt 64 32).isLt
  have l2 : (BitVec.ofInt 64 p).toNat ≤ (BitVec.ofInt 64 p ||| BitVec.ofInt 64 32).toNat := by rw [BitVec.toNat_or]; exact Nat.left_le_or
  have l3 : 9223372036854775808 ≤ (BitVec.ofInt 64 p).toNat := by rw [BitVec.toNat_ofInt]; omega
  rw [e]
  generalize (BitVec.ofInt 64 p ||| BitVec.ofInt 64 32).toNat = u at *
  unfold IntKind.wrap
  simp [IntKind.signed, IntKind.bits]
  omega
theorem word_small : ∀ n : Nat, n < 128 → refWordB (n : Int) = wordB (n : Int) := by decide +kernel
theorem word_eq {p : Int} (h : -9223372036854775808 ≤ p) : refWordB p = wordB p := by
  by_cases h0 : p < 0
  · have := or32_neg h h0
    unfold refWordB wordB
    rw [decide_eq_false (by omega), decide_eq_false (by omega)]
  · by_cases h1 : p < 128
    · obtain ⟨n, rfl⟩ := Int.eq_ofNat_of_zero_le (Int.not_lt.1 h0)
      exact word_small n (by omega)
    · unfold refWordB wordB
      rw [decide_eq_false (by omega), decide_eq_false (by omega)]
theorem GP.nonneg {l p : List Int} (h : GP l p) : ∀ x ∈ p, (0 : Int) ≤ x := by
  induction h with
  | nil => intro x hx; cases hx
  | one h0 _ _ ih => intro x hx; rcases List.mem_cons.1 hx with rfl | hx; exact h0; exact ih x hx
  | two h0 _ _ _ ih => intro x hx; rcases List.mem_cons.1 hx with rfl | hx; omega; exact ih x hx
  | three h0 _ _ _ _ ih => intro x hx; rcases List.mem_cons.1 hx with rfl | hx; omega; exact ih x hx
  | four h0 _ _ _ _ _ ih => intro x hx; rcases List.mem_cons.1 hx with rfl | hx; omega; exact ih x hx
def RefW (s : List Int) : Prop := ∀ x ∈ s, ref11_Word x (wordB x)
theorem refW_of {s : List Int} (h : ∀ x ∈ s, (0 : Int) ≤ x) : RefW s := fun x hx => by
  have := h x hx
  rw [← word_eq (by omega)]
  exact ref_word_run x
theorem ref_border_run {s : SL Int} {k : Nat} (hW : RefW s.xs) (hk : k ≤ s.xs.length) (hs : s.xs.length < 1000000000000) : ref11_border s k (borderB s.xs k) := by
  unfold borderB
  have hbe : ∀ {y : Int}, s.xs[k]? = some y → behindB s.xs k = wordB y := fun h => by unfold behindB; rw [h]
  have hbn : ¬ k < s.xs.length → behindB s.xs k = false := fun h => by unfold behindB; rw [List.getElem?_eq_none (by omega)]
  cases k with
  | zero =>
    by_cases h1 : 0 < s.xs.length
    · obtain ⟨y, hy⟩ : ∃ y, s.xs[0]? = some y := ⟨_, List.getElem?_eq_getElem h1⟩
      rw [hbe hy]
      have hw := hW y (List.mem_of_getElem? hy)
      cases hb : wordB y with
      | true => rw [hb] at hw; exact ref11_border_r6 (by omega) (by omega) (by omega) hy hw
      | false => rw [hb] at hw; exact ref11_border_r7 (by omega) (by omega) (by omega) hy hw
    · rw [hbn h1]
      exact ref11_border_r8 (by omega) (by omega)
  | succ j =>
    obtain ⟨x, hx⟩ : ∃ x, s.xs[j]? = some x := ⟨_, List.getElem?_eq_getElem (by omega)⟩
    have ha : aheadB s.xs (j + 1) = wordB x := by simp only [aheadB, hx]
    have e1 : (((j + 1 : Nat) : Int) - 1).toNat = j := by omega
    have hx' : s.xs[(((j + 1 : Nat) : Int) - 1).toNat]? = some x := by rw [e1]; exact hx
    have wx := hW x (List.mem_of_getElem? hx)
    have w1 : w64 (((j + 1 : Nat) : Int) - 1) := in64 (by omega) (by omega)
    rw [ha]
    by_cases h1 : j + 1 < s.xs.length
    · obtain ⟨y, hy⟩ : ∃ y, s.xs[j + 1]? = some y := ⟨_, List.getElem?_eq_getElem h1⟩
      rw [hbe hy]
      have hy' : s.xs[((j + 1 : Nat) : Int).toNat]? = some y := by rw [Int.toNat_natCast]; exact hy
      have wy := hW y (List.mem_of_getElem? hy)
      cases hb : wordB x <;> cases hc : wordB y <;> rw [hb] at wx <;> rw [hc] at wy
      · exact ref11_border_r4 (by omega) w1 (by omega) hx' wx (by omega) (by omega) hy' wy
      · exact ref11_border_r3 (by omega) w1 (by omega) hx' wx (by omega) (by omega) hy' wy
      · exact ref11_border_r1 (by omega) w1 (by omega) hx' wx (by omega) (by omega) hy' wy
      · exact ref11_border_r0 (by omega) w1 (by omega) hx' wx (by omega) (by omega) hy' wy
    · rw [hbn h1]
      cases hb : wordB x <;> rw [hb] at wx
      · exact ref11_border_r5 (by omega) w1 (by omega) hx' wx (by omega)
      · exact ref11_border_r2 (by omega) w1 (by omega) hx' wx (by omega)
theorem opens_run {s : SL Int} {i : Nat} (k : Int) (hW : RefW s.xs) (hk : i ≤ s.xs.length) (hs : s.xs.length < 1000000000000) : ref11_opens k s i (letsB s.xs k i) := by
  have hb := ref_border_run hW hk hs
  unfold letsB
  by_cases h2 : k = 2
  · rw [if_pos h2]; exact ref11_opens_r0 h2
  · rw [if_neg h2]
    by_cases h3 : k = 3
    · rw [if_pos h3]
      by_cases h : i = 0
      · rw [decide_eq_true h]; exact ref11_opens_r1 h2 h3 (by omega)
      · rw [decide_eq_false h]; exact ref11_opens_r2 h2 h3 (by omega)
    · rw [if_neg h3]
      by_cases h4 : k = 4
      · rw [if_pos h4]
        by_cases h : i = s.xs.length
        · rw [decide_eq_true h]; exact ref11_opens_r3 h2 h3 h4 (by omega)
        · rw [decide_eq_false h]; exact ref11_opens_r4 h2 h3 h4 (by omega)
      · rw [if_neg h4]
        by_cases h5 : k = 5
        · rw [if_pos h5]
          cases hbb : borderB s.xs i <;> rw [hbb] at hb
          · exact ref11_opens_r6 h2 h3 h4 h5 hb
          · exact ref11_opens_r5 h2 h3 h4 h5 hb
        · rw [if_neg h5]
          by_cases h6 : k = 6
          · rw [if_pos h6]
            cases hbb : borderB s.xs i <;> rw [hbb] at hb
            · exact ref11_opens_r8 h2 h3 h4 h5 h6 hb
            · exact ref11_opens_r7 h2 h3 h4 h5 h6 hb
          · rw [if_neg h6]
            exact ref11_opens_r9 h2 h3 h4 h5 h6
/-! ### Marks -/
structure Mk (n : Nat) (mark all : List Int) : Prop where
  len : mark.length = n
  on : ∀ x ∈ all, mark[x.toNat]? = some 1
  off : ∀ x : Int, 0 ≤ x → x < n → x ∉ all → mark[x.toNat]? = some 0
theorem Mk.start (n : Nat) : Mk n (List.replicate n 0) [] :=
  ⟨List.length_replicate .., fun x h => (by cases h), fun x h0 h1 _ => by rw [List.getElem?_replicate, if_pos (by omega)]⟩
theorem Mk.new {n : Nat} {mark all : List Int} {x : Int} (h : Mk n mark all) (h0 : 0 ≤ x) (h1 : x < n) (hp : ∀ y ∈ all, 0 ≤ y) : Mk n (mark.set x.toNat 1) (all ++ [x]) := by
  have hl := h.len
  refine ⟨by rw [List.length_set]; exact hl, fun y hy => ?_, fun y g0 g1 hy => ?_⟩
  · rcases List.mem_append.1 hy with hy | hy
    · by_cases e : x.toNat = y.toNat
      · rw [← e, List.getElem?_set_self (by omega)]
      · rw [List.getElem?_set_ne e]; exact h.on y hy
    · rw [List.mem_singleton.1 hy, List.getElem?_set_self (by omega)]
  · have e : x ≠ y := fun e => hy (List.mem_append_right _ (by rw [e]; exact List.mem_singleton_self y))
    rw [List.getElem?_set_ne (by omega)]
    exact h.off y g0 g1 fun k => hy (List.mem_append_left _ k)
theorem rsp_loop {l : SL State} {s : SL Int} {i : Nat} (hi : i ≤ s.xs.length) (hs : s.xs.length < 1000000000000) (hn : l.xs.length < 100000000000) (hW : RefW s.xs) {src : List Int} (hsrc : ∀ x ∈ src, 0 ≤ x ∧ x < l.xs.length) (hnx : ∀ x : Int, 0 ≤ x → x < l.xs.length → ∀ y ∈ nxL l.xs s.xs i x, 0 ≤ y ∧ y < l.xs.length) :
    ∀ (m : Nat) (mark all todo : List Int) (tt : Bool) (n : Nat), 3 * (l.xs.length - all.length) + n ≤ m → n ≤ todo.length → WInv (nxL l.xs s.xs i) src all (todo.take n) → Mk l.xs.length mark all → n < 700000000000 → 2 * (l.xs.length - all.length) + n < 700000000000 →
    ∃ (all' mark' todo' : List Int) (tt' : Bool) (n' : Nat), ref11_spread_l0 mark todo l s i true l.xs.length tt n (ref11_spread_l0_x0 mark' todo' l s i true l.xs.length tt' n') ∧ all'.Nodup ∧ (∀ x, x ∈ all' ↔ Clos (nxL l.xs s.xs i) src x) ∧ Mk l.xs.length mark' all' := by
  have fin : ∀ (mark all todo : List Int) (tt : Bool) (n : Nat), n ≤ todo.length → todo.take n = [] → WInv (nxL l.xs s.xs i) src all (todo.take n) → Mk l.xs.length mark all →
      ∃ (all' mark' todo' : List Int) (tt' : Bool) (n' : Nat), ref11_spread_l0 mark todo l s i true l.xs.length tt n (ref11_spread_l0_x0 mark' todo' l s i true l.xs.length tt' n') ∧ all'.Nodup ∧ (∀ x, x ∈ all' ↔ Clos (nxL l.xs s.xs i) src x) ∧ Mk l.xs.length mark' all' := by
    intro mark all todo tt n hok hx hI hM
    have h0 : n = 0 := by
      have := congrArg List.length hx
      rw [List.length_take, Nat.min_eq_left hok, List.length_nil] at this
      exact this
    rw [hx] at hI
    exact ⟨all, mark, todo, tt, n, ref11_spread_l0_e5 (by omega), hI.nodup, hI.done, hM⟩
  intro m
  induction m with
  | zero =>
    intro mark all todo tt n hm hok hI hM _ _
    exact fin mark all todo tt n hok (List.length_eq_zero_iff.1 (by rw [List.length_take]; omega)) hI hM
  | succ m ih =>
    intro mark all todo tt n hm hok hI hM hb1 hb2
    rcases List.eq_nil_or_concat (todo.take n) with hx | ⟨xs, x, hx⟩
    · exact fin mark all todo tt n hok hx hI hM
    · rw [List.concat_eq_append] at hx
      obtain ⟨h1, h2, h3, h4, h5⟩ := take_get hok hx
      have hI' := hI
      rw [hx] at hI'
      have hcx := hI.int x (by rw [hx]; simp)
      have hxr := Clos.lt hsrc hnx hcx
      have hal : ∀ y ∈ all, 0 ≤ y ∧ y < l.xs.length := fun y hy => Clos.lt hsrc hnx (hI.ina y hy)
      have hall : all.length ≤ l.xs.length := nodup_le _ _ hI.nodup hal
      have w : w64 ((n : Int) - 1) := in64 (by omega) (by omega)
      have n1 : ((n : Int) - 1).toNat < n := by omega
      have n2 : ((n : Int) - 1).toNat ≤ n := by omega
      have n3 : ((n : Int) - 1).toNat ≤ todo.length := by omega
      have hlx : xs.length + 1 = n := by omega
      have hxl : x.toNat < l.xs.length := by omega
      by_cases hm2 : x ∈ all
      · obtain ⟨all', mark', todo', tt', n', g1, g2⟩ := ih mark all todo (tt && decide (((n : Int) - 1).toNat = n)) (((n : Int) - 1).toNat) (by omega) n3 (by rw [h4]; exact hI'.skip hm2) hM (by omega) (by omega)
        exact ⟨all', mark', todo', tt', n', ref11_spread_l0_s0 h1 w h2 h3 n1 n2 hxr.1 (hM.on x hm2) hxl rfl g1, g2⟩
      · obtain ⟨st, hst⟩ : ∃ st, l.xs[x.toNat]? = some st := ⟨_, List.getElem?_eq_getElem (by omega)⟩
        have hL := opens_run st.Kind hW hi hs
        have hoff := hM.off x hxr.1 hxr.2 hm2
        have hM' := hM.new hxr.1 hxr.2 (fun y hy => (hal y hy).1)
        have hnxe : nxL l.xs s.xs i x = kGo (letsB s.xs st.Kind i) st.A ++ kFork st.Kind st.B := by unfold nxL; rw [hst]
        have hWn := hI'.new hm2
        have hall2 : (all ++ [x]).length ≤ l.xs.length := nodup_le _ _ hWn.nodup (fun y hy => Clos.lt hsrc hnx (hWn.ina y hy))
        simp only [List.length_append, List.length_singleton] at hall2
        have b1 : (((n : Int) - 1).toNat + 1) * 8 ≤ 140737488355328 := by omega
        have b2 : ∀ y : Int, ((todo.take (((n : Int) - 1).toNat) ++ [y]).length + 1) * 8 ≤ 140737488355328 := fun y => by rw [h4]; simp; omega
        have tk : ∀ q : List Int, q.take q.length = q := fun q => List.take_length ..
        have l2 : ∀ y : Int, (todo.take (((n : Int) - 1).toNat) ++ [y]).length = xs.length + 1 := fun y => by rw [h4]; simp
        have l3 : ∀ y z : Int, ((todo.take (((n : Int) - 1).toNat) ++ [y]) ++ [z]).length = xs.length + 2 := fun y z => by rw [h4]; simp
        cases hb : letsB s.xs st.Kind i with
        | true =>
          rw [hb] at hL
          by_cases k2 : st.Kind = 2
          · have en : nxL l.xs s.xs i x = [st.A, st.B] := by rw [hnxe, hb]; simp [kGo, kFork, k2]
            obtain ⟨all', mark', todo', tt', n', g1, g2⟩ := ih (mark.set x.toNat 1) (all ++ [x]) ((todo.take (((n : Int) - 1).toNat) ++ [st.A]) ++ [st.B]) false (((todo.take (((n : Int) - 1).toNat) ++ [st.A]) ++ [st.B]).length)
              (by rw [l3]; simp only [List.length_append, List.length_singleton]; omega) (Nat.le_refl _) (by rw [tk, h4, List.append_assoc, show [st.A] ++ [st.B] = nxL l.xs s.xs i x from en.symm]; exact hWn) hM' (by rw [l3]; omega) (by rw [l3]; simp only [List.length_append, List.length_singleton]; omega)
            exact ⟨all', mark', todo', tt', n', ref11_spread_l0_s1 h1 w h2 h3 n1 n2 hxr.1 hoff hxl (by decide) hst hL b1 n3 k2 (b2 _) g1, g2⟩
          · have en : nxL l.xs s.xs i x = [st.A] := by rw [hnxe, hb]; simp [kGo, kFork, k2]
            obtain ⟨all', mark', todo', tt', n', g1, g2⟩ := ih (mark.set x.toNat 1) (all ++ [x]) (todo.take (((n : Int) - 1).toNat) ++ [st.A]) false ((todo.take (((n : Int) - 1).toNat) ++ [st.A]).length)
              (by rw [l2]; simp only [List.length_append, List.length_singleton]; omega) (Nat.le_refl _) (by rw [tk, h4, show [st.A] = nxL l.xs s.xs i x from en.symm]; exact hWn) hM' (by rw [l2]; omega) (by rw [l2]; simp only [List.length_append, List.length_singleton]; omega)
            exact ⟨all', mark', todo', tt', n', ref11_spread_l0_s2 h1 w h2 h3 n1 n2 hxr.1 hoff hxl (by decide) hst hL b1 n3 k2 g1, g2⟩
        | false =>
          rw [hb] at hL
          have k2 : ¬ st.Kind = 2 := fun k => by unfold letsB at hb; rw [if_pos k] at hb; cases hb
          have en : nxL l.xs s.xs i x = [] := by rw [hnxe, hb]; simp [kGo, kFork, k2]
          obtain ⟨all', mark', todo', tt', n', g1, g2⟩ := ih (mark.set x.toNat 1) (all ++ [x]) todo (tt && decide (((n : Int) - 1).toNat = n)) (((n : Int) - 1).toNat)
              (by simp only [List.length_append, List.length_singleton]; omega) n3 (by rw [h4]; rw [en, List.append_nil] at hWn; exact hWn) hM' (by omega) (by simp only [List.length_append, List.length_singleton]; omega)
          exact ⟨all', mark', todo', tt', n', ref11_spread_l0_s4 h1 w h2 h3 n1 n2 hxr.1 hoff hxl (by decide) hst hL k2 g1, g2⟩
theorem rspread_run {l : SL State} {s : SL Int} {i : Nat} (hi : i ≤ s.xs.length) (hs : s.xs.length < 1000000000000) (hn : l.xs.length < 100000000000) (hW : RefW s.xs) {src : SL Int} (hsl : src.xs.length < 100000000000) (hsrc : ∀ x ∈ src.xs, 0 ≤ x ∧ x < l.xs.length) (hnx : ∀ x : Int, 0 ≤ x → x < l.xs.length → ∀ y ∈ nxL l.xs s.xs i x, 0 ≤ y ∧ y < l.xs.length) :
    ∃ (all mark : List Int), ref11_spread l src s i ⟨1, mark, true⟩ ∧ all.Nodup ∧ (∀ x, x ∈ all ↔ Clos (nxL l.xs s.xs i) src.xs x) ∧ Mk l.xs.length mark all := by
  obtain ⟨all, mark, todo, tt, n, h1, h2, h3, h4⟩ := rsp_loop hi hs hn hW hsrc hnx _ (List.replicate l.xs.length 0) [] src.xs false src.xs.length (Nat.le_refl _) (Nat.le_refl _) (by rw [List.take_length]; exact WInv.start _ _) (Mk.start _) (by omega) (by simp; omega)
  have e : mark.take l.xs.length = mark := by rw [← h4.len]; exact List.take_length ..
  have := ref11_spread_r0 (by omega) (by omega) h1 (by rw [h4.len]; exact Nat.le_refl _)
  rw [e] at this
  exact ⟨all, mark, this, h2, h3, h4⟩
theorem rdone_loop {l : SL State} {mark : SL Int} {all : List Int} (hn : l.xs.length < 100000000000) (hM : Mk l.xs.length mark.xs all) (ha : ∀ x ∈ all, 0 ≤ x ∧ x < l.xs.length) : ∀ (rest : List State) (k : Nat) (c : Int) (ok : Bool), l.xs.drop k = rest → 0 ≤ c → c ≤ k →
    ∃ (L : List Int) (e : Ex × XSt) (ok' : Bool) (z : Int), ref11_done_l0 l mark c ok k e ∧ ((ok' = true ∧ e = ref11_done_l0_x0 l mark (c + L.length) z) ∨ (ok' = false ∧ e = ref11_done_l0_x1 l mark (c + L.length) z)) ∧ L.Nodup ∧ (∀ y, y ∈ L ↔ y ∈ all ∧ (k : Int) ≤ y) ∧ (ok' = true ↔ ok = true ∨ ∃ x ∈ all, (k : Int) ≤ x ∧ isDone l.xs x)
  | [], k, c, ok, hd, h0, h1 => by
    have hk := drop_nil_le hd
    have no : ∀ y : Int, ¬ (y ∈ all ∧ (k : Int) ≤ y) := fun y ⟨hy, h⟩ => by have := ha y hy; omega
    have hq : ∀ y : Int, y ∈ ([] : List Int) ↔ y ∈ all ∧ (k : Int) ≤ y := fun y => ⟨fun h => (by cases h), fun h => absurd h (no y)⟩
    cases ok with
    | true => exact ⟨[], _, true, k, ref11_done_l0_e1 (by omega), .inl ⟨rfl, by simp⟩, .nil, hq, by simp⟩
    | false => exact ⟨[], _, false, k, ref11_done_l0_e5 (by omega), .inr ⟨rfl, by simp⟩, .nil, hq, by
        constructor
        · intro h; cases h
        · rintro (h | ⟨x, hx, h, _⟩)
          · cases h
          · exact absurd ⟨hx, h⟩ (no x)⟩
  | st :: rest, k, c, ok, hd, h0, h1 => by
    obtain ⟨k1, k2, k3⟩ := at_drop hd
    have k3' : k < l.xs.length := k3
    have w1 : w64 ((k : Int) + 1) := in64 (by omega) (by omega)
    have split : ∀ y : Int, (k : Int) ≤ y ↔ y = k ∨ ((k + 1 : Nat) : Int) ≤ y := fun y => by omega
    by_cases hm : (k : Int) ∈ all
    · have hon := hM.on _ hm
      have w2 : w64 (c + 1) := in64 (by omega) (by omega)
      have main : ∀ ok2 : Bool, (ok2 = true ↔ ok = true ∨ isDone l.xs k) → (∀ e, ref11_done_l0 l mark (c + 1) ok2 ((k : Int) + 1) e → ref11_done_l0 l mark c ok k e) → ∃ (L : List Int) (e : Ex × XSt) (ok' : Bool) (z : Int), ref11_done_l0 l mark c ok k e ∧ ((ok' = true ∧ e = ref11_done_l0_x0 l mark (c + L.length) z) ∨ (ok' = false ∧ e = ref11_done_l0_x1 l mark (c + L.length) z)) ∧ L.Nodup ∧ (∀ y, y ∈ L ↔ y ∈ all ∧ (k : Int) ≤ y) ∧ (ok' = true ↔ ok = true ∨ ∃ x ∈ all, (k : Int) ≤ x ∧ isDone l.xs x) := by
        intro ok2 hk2 step
        obtain ⟨L, e, ok', z, g1, g2, g3, g4, g5⟩ := rdone_loop hn hM ha rest (k + 1) (c + 1) ok2 k2 (by omega) (by omega)
        refine ⟨(k : Int) :: L, e, ok', z, step e g1, ?_, List.nodup_cons.2 ⟨fun h => by have := (g4 _).1 h; omega, g3⟩, fun y => ?_, ?_⟩
        · rw [show c + (((k : Int) :: L).length : Int) = c + 1 + (L.length : Int) by simp only [List.length_cons]; omega]
          exact g2
        · rw [List.mem_cons, g4, split y]
          constructor
          · rintro (rfl | ⟨h, h'⟩)
            · exact ⟨hm, .inl rfl⟩
            · exact ⟨h, .inr h'⟩
          · rintro ⟨h, rfl | h'⟩
            · exact .inl rfl
            · exact .inr ⟨h, h'⟩
        · rw [g5, hk2]
          constructor
          · rintro ((h | h) | ⟨x, hx, h, h'⟩)
            · exact .inl h
            · exact .inr ⟨k, hm, by omega, h⟩
            · exact .inr ⟨x, hx, by omega, h'⟩
          · rintro (h | ⟨x, hx, h, h'⟩)
            · exact .inl (.inl h)
            · rcases (split x).1 h with rfl | h
              · exact .inl (.inr h')
              · exact .inr ⟨x, hx, h, h'⟩
      have hst : l.xs[(k : Int).toNat]? = some st := k1
      cases ok with
      | true => exact main true (by simp) fun e g => ref11_done_l0_s0 (by omega) (by omega) hon w2 w1 g
      | false =>
        by_cases k7 : st.Kind = 7
        · exact main true ⟨fun _ => .inr ⟨st, hst, k7⟩, fun _ => rfl⟩ fun e g => ref11_done_l0_s2 (by omega) (by omega) hon w2 rfl hst k7 w1 g
        · exact main false ⟨fun h => (by cases h), fun h => by
            rcases h with h | ⟨st', h, h'⟩
            · cases h
            · rw [hst] at h; cases h; exact absurd h' k7⟩ fun e g => ref11_done_l0_s3 (by omega) (by omega) hon w2 rfl hst k7 w1 g
    · have hoff := hM.off _ (by omega) (by omega) hm
      have w2 : w64 (c + 0) := in64 (by omega) (by omega)
      obtain ⟨L, e, ok', z, g1, g2, g3, g4, g5⟩ := rdone_loop hn hM ha rest (k + 1) c ok k2 (by omega) (by omega)
      have g1' : ref11_done_l0 l mark (c + 0) ok ((k : Int) + 1) e := by rw [Int.add_zero]; exact g1
      refine ⟨L, e, ok', z, ?_, g2, g3, fun y => ?_, ?_⟩
      · cases ok with
        | true => exact ref11_done_l0_s0 (by omega) (by omega) hoff w2 w1 g1'
        | false => exact ref11_done_l0_s4 (by omega) (by omega) hoff w2 (by decide) w1 g1'
      · rw [g4, split y]
        constructor
        · rintro ⟨h, h'⟩; exact ⟨h, .inr h'⟩
        · rintro ⟨h, rfl | h'⟩
          · exact absurd h hm
          · exact ⟨h, h'⟩
      · rw [g5]
        constructor
        · rintro (h | ⟨x, hx, h, h'⟩)
          · exact .inl h
          · exact .inr ⟨x, hx, by omega, h'⟩
        · rintro (h | ⟨x, hx, h, h'⟩)
          · exact .inl h
          · rcases (split x).1 h with rfl | h
            · exact absurd hx hm
            · exact .inr ⟨x, hx, h, h'⟩
theorem rdone_run {l : SL State} {mark : SL Int} {all : List Int} (hn : l.xs.length < 100000000000) (hM : Mk l.xs.length mark.xs all) (hd : all.Nodup) (ha : ∀ x ∈ all, 0 ≤ x ∧ x < l.xs.length) : ∃ d, ref11_done l mark all.length d ∧ (d = true ↔ ∃ x ∈ all, isDone l.xs x) := by
  obtain ⟨L, e, ok', z, g1, g2, g3, g4, g5⟩ := rdone_loop hn hM ha l.xs 0 0 false (by simp) (by omega) (by omega)
  have hL : L.length = all.length := nodup_ext_length g3 hd fun x => by
    rw [g4]
    exact ⟨fun h => h.1, fun h => ⟨h, by have := ha x h; omega⟩⟩
  have h5 : ok' = true ↔ ∃ x ∈ all, isDone l.xs x := by
    rw [g5]
    constructor
    · rintro (h | ⟨x, hx, _, h⟩)
      · cases h
      · exact ⟨x, hx, h⟩
    · rintro ⟨x, hx, h⟩
      exact .inr ⟨x, hx, by have := ha x hx; omega, h⟩
  rw [hL, Int.zero_add] at g2
  rcases g2 with ⟨rfl, rfl⟩ | ⟨rfl, rfl⟩
  · exact ⟨true, ref11_done_r0 g1, h5⟩
  · exact ⟨false, ref11_done_r1 g1, h5⟩
/-! ### What follows -/
theorem rfol_no {l : SL State} {mark : SL Int} {p : Int} {i : Int} {st : State} (h0 : 0 ≤ i) (hst : l.xs[i.toNat]? = some st) (hs : st.Ranges.xs.length < 100000000000000) : ∀ (rest : List Range) (k : Nat) (out : List Int) (outt : Bool), st.Ranges.xs.drop k = rest → ¬ hitR p rest →
    ∃ (z : Int), ref11_follow_l0 out l mark p outt i k (ref11_follow_l0_x0 out l mark p outt i z)
  | [], k, out, outt, hd, hC => by
    have := drop_nil_le hd
    exact ⟨k, ref11_follow_l0_e3 h0 hst (by omega)⟩
  | x :: rest, k, out, outt, hd, hC => by
    obtain ⟨k1, k2, k3⟩ := at_drop hd
    have w : w64 ((k : Int) + 1) := in64 (by omega) (by omega)
    obtain ⟨z, g⟩ := rfol_no h0 hst hs rest (k + 1) out outt k2 (fun ⟨y, hy, hy2⟩ => hC ⟨y, List.mem_cons_of_mem _ hy, hy2⟩)
    by_cases h1 : p ≥ x.From
    · by_cases h2 : p ≤ x.To
      · exact absurd ⟨x, List.mem_cons_self .., h1, h2⟩ hC
      · exact ⟨z, ref11_follow_l0_s1 h0 hst (by omega) (by omega) k1 h1 h2 w g⟩
    · exact ⟨z, ref11_follow_l0_s2 h0 hst (by omega) (by omega) k1 h1 w g⟩
theorem rfol_in {l : SL State} {mark : SL Int} {p : Int} {i : Int} {st : State} (h0 : 0 ≤ i) (hst : l.xs[i.toNat]? = some st) (hs : st.Ranges.xs.length < 100000000000000) : ∀ (rest : List Range) (k : Nat) (out : List Int) (outt : Bool), st.Ranges.xs.drop k = rest → Canon rest → out.length < 1000000000000 →
    ∃ (out' : List Int) (outt' : Bool) (z : Int), ref11_follow_l0 out l mark p outt i k (ref11_follow_l0_x0 out' l mark p outt' i z) ∧ ((hitR p rest ∧ out' = out ++ [st.A]) ∨ (¬ hitR p rest ∧ out' = out))
  | [], k, out, outt, hd, hC, ho => by
    have := drop_nil_le hd
    exact ⟨out, outt, k, ref11_follow_l0_e3 h0 hst (by omega), .inr ⟨fun ⟨x, hx, _⟩ => (by cases hx), rfl⟩⟩
  | x :: rest, k, out, outt, hd, hC, ho => by
    obtain ⟨k1, k2, k3⟩ := at_drop hd
    have w : w64 ((k : Int) + 1) := in64 (by omega) (by omega)
    by_cases h1 : p ≥ x.From
    · by_cases h2 : p ≤ x.To
      · obtain ⟨z, g⟩ := rfol_no (p := p) (mark := mark) h0 hst hs rest (k + 1) (out ++ [st.A]) false k2 (fun ⟨y, hy, hy2⟩ => by
          have := hC.beyond y hy
          omega)
        exact ⟨_, _, z, ref11_follow_l0_s0 h0 hst (by omega) (by omega) k1 h1 h2 (by omega) w g, .inl ⟨⟨x, List.mem_cons_self .., h1, h2⟩, rfl⟩⟩
      · obtain ⟨out', outt', z, g1, g2⟩ := rfol_in h0 hst hs rest (k + 1) out outt k2 hC.tail ho
        refine ⟨out', outt', z, ref11_follow_l0_s1 h0 hst (by omega) (by omega) k1 h1 h2 w g1, ?_⟩
        rcases g2 with ⟨⟨y, hy, hy2⟩, g⟩ | ⟨g0, g⟩
        · exact .inl ⟨⟨y, List.mem_cons_of_mem _ hy, hy2⟩, g⟩
        · refine .inr ⟨fun ⟨y, hy, hy2⟩ => ?_, g⟩
          rcases List.mem_cons.1 hy with rfl | hy
          · omega
          · exact g0 ⟨y, hy, hy2⟩
    · obtain ⟨out', outt', z, g1, g2⟩ := rfol_in h0 hst hs rest (k + 1) out outt k2 hC.tail ho
      refine ⟨out', outt', z, ref11_follow_l0_s2 h0 hst (by omega) (by omega) k1 h1 w g1, ?_⟩
      rcases g2 with ⟨⟨y, hy, hy2⟩, g⟩ | ⟨g0, g⟩
      · exact .inl ⟨⟨y, List.mem_cons_of_mem _ hy, hy2⟩, g⟩
      · refine .inr ⟨fun ⟨y, hy, hy2⟩ => ?_, g⟩
        rcases List.mem_cons.1 hy with rfl | hy
        · omega
        · exact g0 ⟨y, hy, hy2⟩
/-- States that may be, with sets in order, and only where they are read. -/
structure FitsC (l : List State) : Prop where
  f : Fits l
  c : ∀ st ∈ l, Canon st.Ranges.xs
  k : ∀ st ∈ l, st.Kind ≠ 1 → st.Ranges.xs = []
theorem rfol_loop {l : SL State} {mark : SL Int} {all : List Int} {p : Int} (hF : FitsC l.xs) (hn : l.xs.length < 100000000000) (hM : Mk l.xs.length mark.xs all) : ∀ (rest : List State) (k : Nat) (out : List Int) (outt : Bool), l.xs.drop k = rest → out.length ≤ k →
    ∃ (out' : List Int) (outt' : Bool) (z : Int), ref11_follow_l1 out l mark p outt k (ref11_follow_l1_x0 out' l mark p outt' z) ∧ out'.length ≤ out.length + rest.length ∧ ∀ y, y ∈ out' ↔ y ∈ out ∨ ∃ x ∈ all, (k : Int) ≤ x ∧ x < l.xs.length ∧ goTo l.xs p x y
  | [], k, out, outt, hd, hk => by
    have := drop_nil_le hd
    exact ⟨out, outt, _, ref11_follow_l1_e3 (by omega), by simp, fun y => ⟨.inl, fun h => by
      rcases h with h | ⟨x, _, h1, h2, _⟩
      · exact h
      · omega⟩⟩
  | st :: rest, k, out, outt, hd, hk => by
    obtain ⟨k1, k2, k3⟩ := at_drop hd
    have k3' : k < l.xs.length := k3
    have w : w64 ((k : Int) + 1) := in64 (by omega) (by omega)
    have hst : l.xs[(k : Int).toNat]? = some st := k1
    have hmem := List.mem_of_getElem? hst
    have skip : ∀ (out : List Int), (¬ ((k : Int) ∈ all ∧ hitR p st.Ranges.xs)) → (∃ (out' : List Int) (outt' : Bool) (z : Int), ref11_follow_l1 out l mark p outt ((k : Int) + 1) (ref11_follow_l1_x0 out' l mark p outt' z) ∧ out'.length ≤ out.length + rest.length ∧ ∀ y, y ∈ out' ↔ y ∈ out ∨ ∃ x ∈ all, ((k : Int) + 1) ≤ x ∧ x < l.xs.length ∧ goTo l.xs p x y) →
        ∃ (out' : List Int) (outt' : Bool) (z : Int), ref11_follow_l1 out l mark p outt ((k : Int) + 1) (ref11_follow_l1_x0 out' l mark p outt' z) ∧ out'.length ≤ out.length + (st :: rest).length ∧ ∀ y, y ∈ out' ↔ y ∈ out ∨ ∃ x ∈ all, (k : Int) ≤ x ∧ x < l.xs.length ∧ goTo l.xs p x y := by
      rintro out hno ⟨out', outt', z, g1, g2, g3⟩
      refine ⟨out', outt', z, g1, by simp only [List.length_cons]; omega, fun y => ?_⟩
      rw [g3]
      constructor
      · rintro (h | ⟨x, hx, h1, h2, h3⟩)
        · exact .inl h
        · exact .inr ⟨x, hx, by omega, h2, h3⟩
      · rintro (h | ⟨x, hx, h1, h2, h3⟩)
        · exact .inl h
        · by_cases e : x = (k : Int)
          · subst e
            obtain ⟨st', j1, j2, _⟩ := h3
            rw [hst] at j1
            cases j1
            exact absurd ⟨hx, j2⟩ hno
          · exact .inr ⟨x, hx, by omega, h2, h3⟩
    by_cases hm : (k : Int) ∈ all
    · have hon := hM.on _ hm
      by_cases h1 : st.Kind = 1
      · obtain ⟨o2, ot2, z2, i1, i2⟩ := rfol_in (mark := mark) (p := p) (by omega) hst (hF.f.r st hmem) st.Ranges.xs 0 out outt (by simp) (hF.c st hmem) (by omega)
        rcases i2 with ⟨j1, rfl⟩ | ⟨j1, rfl⟩
        · obtain ⟨out', outt', z, g1, g2, g3⟩ := rfol_loop hF hn hM rest (k + 1) (out ++ [st.A]) ot2 k2 (by simp; omega)
          refine ⟨out', outt', z, ref11_follow_l1_s2 (by omega) (by omega) hon (by decide) hst h1 i1 w g1, by simp at g2 ⊢; omega, fun y => ?_⟩
          rw [g3, List.mem_append, List.mem_singleton]
          constructor
          · rintro ((h | h) | ⟨x, hx, h1, h2, h3⟩)
            · exact .inl h
            · exact .inr ⟨k, hm, by omega, by omega, st, hst, j1, h⟩
            · exact .inr ⟨x, hx, by omega, h2, h3⟩
          · rintro (h | ⟨x, hx, h1, h2, h3⟩)
            · exact .inl (.inl h)
            · by_cases e : x = (k : Int)
              · subst e
                obtain ⟨st', j1, j2, j3⟩ := h3
                rw [hst] at j1
                cases j1
                exact .inl (.inr j3)
              · exact .inr ⟨x, hx, by omega, h2, h3⟩
        · obtain ⟨out', outt', z, g1, g2, g3⟩ := rfol_loop hF hn hM rest (k + 1) o2 ot2 k2 (by omega)
          refine ⟨out', outt', z, ref11_follow_l1_s2 (by omega) (by omega) hon (by decide) hst h1 i1 w g1, by simp only [List.length_cons]; omega, fun y => ?_⟩
          rw [g3]
          constructor
          · rintro (h | ⟨x, hx, h1, h2, h3⟩)
            · exact .inl h
            · exact .inr ⟨x, hx, by omega, h2, h3⟩
          · rintro (h | ⟨x, hx, h1, h2, h3⟩)
            · exact .inl h
            · by_cases e : x = (k : Int)
              · subst e
                obtain ⟨st', j3, j2, _⟩ := h3
                rw [hst] at j3
                cases j3
                exact absurd j2 j1
              · exact .inr ⟨x, hx, by omega, h2, h3⟩
      · have hno : ¬ ((k : Int) ∈ all ∧ hitR p st.Ranges.xs) := fun ⟨_, x, hx, _⟩ => by
          rw [hF.k st hmem h1] at hx
          cases hx
        obtain ⟨out', outt', z, g1, g2, g3⟩ := skip out hno (rfol_loop hF hn hM rest (k + 1) out outt k2 (by omega))
        exact ⟨out', outt', z, ref11_follow_l1_s1 (by omega) (by omega) hon (by decide) hst h1 w g1, g2, g3⟩
    · have hoff := hM.off _ (by omega) (by omega) hm
      obtain ⟨out', outt', z, g1, g2, g3⟩ := skip out (fun h => hm h.1) (rfol_loop hF hn hM rest (k + 1) out outt k2 (by omega))
      exact ⟨out', outt', z, ref11_follow_l1_s0 (by omega) (by omega) hoff rfl w g1, g2, g3⟩
theorem rfollow_run {l : SL State} {mark : SL Int} {all : List Int} (p : Int) (hF : FitsC l.xs) (hn : l.xs.length < 100000000000) (hM : Mk l.xs.length mark.xs all) (ha : ∀ x ∈ all, 0 ≤ x ∧ x < l.xs.length) : ∃ out t, ref11_follow l mark p out out.length t ∧ out.length ≤ l.xs.length ∧ ∀ y, y ∈ out ↔ ∃ x ∈ all, goTo l.xs p x y := by
  obtain ⟨out, t, z, h1, h2, h3⟩ := rfol_loop (p := p) hF hn hM l.xs 0 [] true (by simp) (by simp)
  refine ⟨out, t, ref11_follow_r0 h1, by simpa using h2, fun y => ?_⟩
  rw [h3]
  constructor
  · rintro (h | ⟨x, hx, _, _, h⟩)
    · cases h
    · exact ⟨x, hx, h⟩
  · rintro ⟨x, hx, h⟩
    exact .inr ⟨x, hx, by have := ha x hx; omega, (ha x hx).2, h⟩
end
section
open Go
set_option linter.unusedVariables false
set_option linter.unnecessarySimpa false
set_option linter.unusedSimpArgs false
set_option linter.unusedSectionVars false
theorem rsearch_loop {l : SL State} {p : SL Int} (hF : FitsC l.xs) (hs : p.xs.length < 100000000) (hn : l.xs.length < 10000000) (hp0 : 0 < l.xs.length) (hW : RefW p.xs) : ∀ (m i : Nat) (src : List Int) (t : Bool) (acc : Int), i + m = p.xs.length → (∀ x ∈ src, 0 ≤ x ∧ x < l.xs.length) → src.length ≤ l.xs.length → 0 ≤ acc → acc ≤ i * 10000000 →
    ∃ (f : Bool) (n : Int) (e : Ex × XSt), ref11_Search_l0 src l p acc t src.length i e ∧ ((f = true ∧ ∃ a, e = ref11_Search_l0_x0 a n) ∨ (f = false ∧ ∃ a b c d g, e = ref11_Search_l0_x2 a b n c d g)) ∧ Spec l.xs p.xs true m i (src ++ [0]) acc f n := by
  intro m
  induction m with
  | zero =>
    intro i src t acc hi hv hl h0 ha
    have hv' : ∀ x : Int, x ∈ src ++ [0] → 0 ≤ x ∧ x < l.xs.length := fun x hx => by
      rcases List.mem_append.1 hx with h | h
      · exact hv x h
      · rw [List.mem_singleton.1 h]; omega
    obtain ⟨all, mark, h1, h2, h3, h4⟩ := rspread_run (l := l) (s := p) (i := i) (src := ⟨1, src ++ [0], false⟩) (by omega) (by omega) (by omega) hW (by show (src ++ [0]).length < _; simp; omega) hv' (hF.f.nx _ _)
    have hav : ∀ x ∈ all, 0 ≤ x ∧ x < l.xs.length := fun x hx => Clos.lt hv' (hF.f.nx _ _) ((h3 x).1 hx)
    have hal : all.length ≤ l.xs.length := nodup_le _ _ h2 hav
    obtain ⟨d, g1, g2⟩ := rdone_run (mark := ⟨1, mark, true⟩) (by omega) h4 h2 hav
    have hw : w64 (acc + (all.length : Int)) := in64 (by omega) (by omega)
    have tk : src.take src.length = src := List.take_length ..
    have h1' : ref11_spread l ⟨1, src.take src.length ++ [0], false⟩ p i ⟨1, mark, true⟩ := by rw [tk]; exact h1
    cases d with
    | true => exact ⟨true, _, _, ref11_Search_l0_e0 (by omega) (by omega) (Nat.le_refl _) h1' g1 hw, .inl ⟨rfl, _, rfl⟩, all, h2, h3, g2, rfl⟩
    | false => exact ⟨false, _, _, ref11_Search_l0_s2 (by omega) (by omega) (Nat.le_refl _) h1' g1 hw (by omega) (in64 (by omega) (by omega)) (ref11_Search_l0_b_e4 (by omega)), .inr ⟨rfl, _, _, _, _, _, rfl⟩, all, h2, h3, g2, rfl⟩
  | succ m ih =>
    intro i src t acc hi hv hl h0 ha
    have hv' : ∀ x : Int, x ∈ src ++ [0] → 0 ≤ x ∧ x < l.xs.length := fun x hx => by
      rcases List.mem_append.1 hx with h | h
      · exact hv x h
      · rw [List.mem_singleton.1 h]; omega
    obtain ⟨all, mark, h1, h2, h3, h4⟩ := rspread_run (l := l) (s := p) (i := i) (src := ⟨1, src ++ [0], false⟩) (by omega) (by omega) (by omega) hW (by show (src ++ [0]).length < _; simp; omega) hv' (hF.f.nx _ _)
    have hav : ∀ x ∈ all, 0 ≤ x ∧ x < l.xs.length := fun x hx => Clos.lt hv' (hF.f.nx _ _) ((h3 x).1 hx)
    have hal : all.length ≤ l.xs.length := nodup_le _ _ h2 hav
    obtain ⟨d, g1, g2⟩ := rdone_run (mark := ⟨1, mark, true⟩) (by omega) h4 h2 hav
    have hw : w64 (acc + (all.length : Int)) := in64 (by omega) (by omega)
    have tk : src.take src.length = src := List.take_length ..
    have h1' : ref11_spread l ⟨1, src.take src.length ++ [0], false⟩ p i ⟨1, mark, true⟩ := by rw [tk]; exact h1
    cases d with
    | true => exact ⟨true, _, _, ref11_Search_l0_e0 (by omega) (by omega) (Nat.le_refl _) h1' g1 hw, .inl ⟨rfl, _, rfl⟩, all, h2, h3, .inl ⟨g2.1 rfl, rfl, rfl⟩⟩
    | false =>
      obtain ⟨y, hy⟩ : ∃ y, p.xs[i]? = some y := ⟨_, List.getElem?_eq_getElem (by omega)⟩
      have hy' : p.xs[((i : Nat) : Int).toNat]? = some y := by rw [Int.toNat_natCast]; exact hy
      obtain ⟨out, ot, k1, k2, k3⟩ := rfollow_run (mark := ⟨1, mark, true⟩) y hF (by omega) h4 hav
      obtain ⟨f, n, e, j1, j2, j3⟩ := ih (i + 1) out ot (acc + all.length) (by omega) (fun z hz => by
        obtain ⟨x, _, h⟩ := (k3 z).1 hz
        exact hF.f.go h) k2 (by omega) (by omega)
      refine ⟨f, n, e, ref11_Search_l0_s1 (by omega) (by omega) (Nat.le_refl _) h1' g1 hw (by omega) (by omega) hy' k1 (in64 (by omega) (by omega)) j1, j2, all, h2, h3, .inr ⟨fun h => (by have := g2.2 h; cases this), y, out ++ [0], hy, fun z => ?_, j3⟩⟩
      rw [List.mem_append, k3, List.mem_singleton]
      constructor
      · rintro (h | h)
        · exact .inr h
        · exact .inl ⟨rfl, h⟩
      · rintro (⟨_, h⟩ | h)
        · exact .inr h
        · exact .inl h
theorem fitsC_of {l : SL State} (hw : wfStates l) (h : okL l) : FitsC l.xs := by
  refine ⟨fits_of hw h, fun st hst => ?_, fun st hst => ?_⟩
  · have := h.2 st hst
    unfold okS at this
    exact (mergeR_iff _).1 this.2.2.2.2.2.2.2
  · have := h.2 st hst
    unfold okS at this
    exact this.2.2.2.2.2.2.1
theorem rcheck_run {l : SL State} {s : ByteArray} (hw : wfStates l) (hs : s.size < 100000000) :
    (¬ okL l ∧ ref11_check l s ⟨1, [], true⟩ 101) ∨ (okL l ∧ ¬ GoodT (strInts s) ∧ ref11_check l s ⟨1, [], true⟩ 10) ∨ (okL l ∧ ∃ p t, GP (strInts s) p ∧ ref11_check l s ⟨1, p, t⟩ 0) := by
  have hl := str_len s
  rcases ref_check_run hw with ⟨o, h⟩ | ⟨o, h⟩
  · rcases ref_points_run (b := ⟨1, strInts s, false⟩) (bytes_str s) (by show (strInts s).length < _; omega) with ⟨p, t, h1, h2⟩ | ⟨h1, h2⟩
    · exact .inr (.inr ⟨o, p, t, h1, ref11_check_r2 h rfl h2 rfl⟩)
    · exact .inr (.inl ⟨o, h1, ref11_check_r1 h rfl h2 (by decide)⟩)
  · exact .inl ⟨o, ref11_check_r0 h (by decide)⟩
theorem rsearch_run {l : SL State} {s : ByteArray} (hw : wfStates l) (hn : l.xs.length < 10000000) (hs : s.size < 100000000) :
    (¬ okL l ∧ ref11_Search l s false 0 101) ∨ (okL l ∧ ¬ GoodT (strInts s) ∧ ref11_Search l s false 0 10) ∨ (okL l ∧ ∃ p f n, GP (strInts s) p ∧ ref11_Search l s f n 0 ∧ Spec l.xs p true p.length 0 [0] 0 f n) := by
  rcases rcheck_run hw hs with ⟨o, h⟩ | ⟨o, g, h⟩ | ⟨o, p, t, g, h⟩
  · exact .inl ⟨o, ref11_Search_r0 h (by decide)⟩
  · exact .inr (.inl ⟨o, g, ref11_Search_r0 h (by decide)⟩)
  · have hp := g.len
    rw [str_len] at hp
    obtain ⟨f, n, e, h1, h2, h3⟩ := rsearch_loop (p := ⟨1, p, t⟩) (fitsC_of hw o) (by show p.length < _; omega) hn (okL_pos o) (refW_of g.nonneg) p.length 0 [] true 0 (by show 0 + p.length = p.length; omega) (fun x hx => by cases hx) (by simp) (by omega) (by omega)
    refine .inr (.inr ⟨o, p, f, n, g, ?_, h3⟩)
    rcases h2 with ⟨rfl, a, rfl⟩ | ⟨rfl, a, b, c, d, k, rfl⟩
    · exact ref11_Search_r1 h rfl h1
    · exact ref11_Search_r3 h rfl h1
/-! ### Ends -/
theorem rends_loop {l : SL State} {p : SL Int} (hF : FitsC l.xs) (hs : p.xs.length < 100000000) (hn : l.xs.length < 10000000) (hW : RefW p.xs) : ∀ (m i : Nat) (src : List Int) (t : Bool) (acc : List Int) (ot : Bool), i + m = p.xs.length → (∀ x ∈ src, 0 ≤ x ∧ x < l.xs.length) → src.length ≤ l.xs.length → acc.length ≤ i →
    ∃ (out : List Int) (e : Ex × XSt), ref11_Ends_l0_b acc src l p ot acc.length t src.length i e ∧ (∃ a b c o' d f g, e = ref11_Ends_l0_x3 out a b c o' out.length d f g) ∧ SpecE l.xs p.xs m i src acc out := by
  intro m
  induction m with
  | zero =>
    intro i src t acc ot hi hv hl ha
    obtain ⟨all, mark, h1, h2, h3, h4⟩ := rspread_run (l := l) (s := p) (i := i) (src := ⟨1, src, t⟩) (by omega) (by omega) (by omega) hW (by show src.length < _; omega) hv (hF.f.nx _ _)
    have hav : ∀ x ∈ all, 0 ≤ x ∧ x < l.xs.length := fun x hx => Clos.lt hv (hF.f.nx _ _) ((h3 x).1 hx)
    obtain ⟨d, g1, g2⟩ := rdone_run (mark := ⟨1, mark, true⟩) (by omega) h4 h2 hav
    have hd := dn_of h3 g2
    have tk : src.take src.length = src := List.take_length ..
    have tka : acc.take acc.length = acc := List.take_length ..
    have h1' : ref11_spread l ⟨1, src.take src.length, t⟩ p i ⟨1, mark, true⟩ := by rw [tk]; exact h1
    cases d with
    | true =>
      have k := ref11_Ends_l0_b_s6 (outt := ot) (by omega) (Nat.le_refl _) h1' g1 (by omega) (Nat.le_refl acc.length) (by omega) (in64 (by omega) (by omega)) (ref11_Ends_l0_d_e19 (by omega))
      rw [tka] at k
      exact ⟨_, _, k, ⟨_, _, _, _, _, _, _, rfl⟩, .inl ⟨hd.1 rfl, rfl⟩⟩
    | false =>
      exact ⟨_, _, ref11_Ends_l0_b_s8 (by omega) (Nat.le_refl _) h1' g1 (by omega) (in64 (by omega) (by omega)) (ref11_Ends_l0_d_e19 (by omega)), ⟨_, _, _, _, _, _, _, rfl⟩, .inr ⟨fun h => (by have := hd.2 h; cases this), rfl⟩⟩
  | succ m ih =>
    intro i src t acc ot hi hv hl ha
    obtain ⟨all, mark, h1, h2, h3, h4⟩ := rspread_run (l := l) (s := p) (i := i) (src := ⟨1, src, t⟩) (by omega) (by omega) (by omega) hW (by show src.length < _; omega) hv (hF.f.nx _ _)
    have hav : ∀ x ∈ all, 0 ≤ x ∧ x < l.xs.length := fun x hx => Clos.lt hv (hF.f.nx _ _) ((h3 x).1 hx)
    obtain ⟨d, g1, g2⟩ := rdone_run (mark := ⟨1, mark, true⟩) (by omega) h4 h2 hav
    have hd := dn_of h3 g2
    have tk : src.take src.length = src := List.take_length ..
    have tka : acc.take acc.length = acc := List.take_length ..
    have h1' : ref11_spread l ⟨1, src.take src.length, t⟩ p i ⟨1, mark, true⟩ := by rw [tk]; exact h1
    obtain ⟨y, hy⟩ : ∃ y, p.xs[i]? = some y := ⟨_, List.getElem?_eq_getElem (by omega)⟩
    have hy' : p.xs[((i : Nat) : Int).toNat]? = some y := by rw [Int.toNat_natCast]; exact hy
    obtain ⟨out, ot1, k1, k2, k3⟩ := rfollow_run (mark := ⟨1, mark, true⟩) y hF (by omega) h4 hav
    have hvo : ∀ z ∈ out, 0 ≤ z ∧ z < l.xs.length := fun z hz => by
      obtain ⟨x, _, h⟩ := (k3 z).1 hz
      exact hF.f.go h
    have hsrc : ∀ z, z ∈ out ↔ ∃ x, Clos (nxL l.xs p.xs i) src x ∧ goTo l.xs y x z := fun z => by
      rw [k3]
      exact ⟨fun ⟨x, k, g⟩ => ⟨x, (h3 x).1 k, g⟩, fun ⟨x, k, g⟩ => ⟨x, (h3 x).2 k, g⟩⟩
    cases d with
    | true =>
      obtain ⟨o, e, j1, j2, j3⟩ := ih (i + 1) out ot1 (acc ++ [(i : Int)]) false (by omega) hvo k2 (by simp; omega)
      exact ⟨o, e, ref11_Ends_l0_b_s5 (by omega) (Nat.le_refl _) h1' g1 (by omega) (Nat.le_refl acc.length) (by omega) (by omega) hy' k1 (in64 (by omega) (by omega)) (by rw [tka]; exact j1), j2, _, y, out, .inl ⟨hd.1 rfl, rfl⟩, hy, hsrc, j3⟩
    | false =>
      obtain ⟨o, e, j1, j2, j3⟩ := ih (i + 1) out ot1 acc ot (by omega) hvo k2 (by omega)
      exact ⟨o, e, ref11_Ends_l0_b_s7 (by omega) (Nat.le_refl _) h1' g1 (by omega) (by omega) hy' k1 (in64 (by omega) (by omega)) j1, j2, _, y, out, .inr ⟨fun h => (by have := hd.2 h; cases this), rfl⟩, hy, hsrc, j3⟩
theorem rends_run {l : SL State} {s : ByteArray} (hw : wfStates l) (hn : l.xs.length < 10000000) (hs : s.size < 100000000) :
    (¬ okL l ∧ ref11_Ends l s ⟨1, [], true⟩ 101) ∨ (okL l ∧ ¬ GoodT (strInts s) ∧ ref11_Ends l s ⟨1, [], true⟩ 10) ∨ (okL l ∧ ∃ p out t, GP (strInts s) p ∧ ref11_Ends l s ⟨1, out, t⟩ 0 ∧ SpecE l.xs p p.length 0 [0] [] out) := by
  rcases rcheck_run hw hs with ⟨o, h⟩ | ⟨o, g, h⟩ | ⟨o, p, t, g, h⟩
  · exact .inl ⟨o, ref11_Ends_r0 h (by decide)⟩
  · exact .inr (.inl ⟨o, g, ref11_Ends_r0 h (by decide)⟩)
  · have hp := g.len
    rw [str_len] at hp
    have hF := fitsC_of hw o
    have hp0 := okL_pos o
    have hW := refW_of g.nonneg
    have hv : ∀ x ∈ ([0] : List Int), 0 ≤ x ∧ x < l.xs.length := fun x hx => by
      rw [List.mem_singleton.1 hx]; omega
    obtain ⟨all, mark, h1, h2, h3, h4⟩ := rspread_run (l := l) (s := ⟨1, p, t⟩) (i := 0) (src := ⟨1, [0], true⟩) (by omega) (by show p.length < _; omega) (by omega) hW (by show ([0] : List Int).length < _; simp) hv (hF.f.nx _ _)
    have hav : ∀ x ∈ all, 0 ≤ x ∧ x < l.xs.length := fun x hx => Clos.lt hv (hF.f.nx _ _) ((h3 x).1 hx)
    obtain ⟨d, g1, g2⟩ := rdone_run (mark := ⟨1, mark, true⟩) (by omega) h4 h2 hav
    have hd := dn_of h3 g2
    suffices hh : ∃ out t', ref11_Ends l s ⟨1, out, t'⟩ 0 ∧ SpecE l.xs p p.length 0 [0] [] out from by
      obtain ⟨out, t', j1, j2⟩ := hh
      exact .inr (.inr ⟨o, p, out, t', g, j1, j2⟩)
    have wone : w64 ((0 : Int) + 1) := in64 (by omega) (by omega)
    have h1' : ref11_spread l ⟨1, [0], true⟩ ⟨1, p, t⟩ 0 ⟨1, mark, true⟩ := h1
    cases hl : p.length with
    | zero =>
      have nl : ¬ (0 : Int) < (p.length : Int) := by omega
      have nl1 : ¬ (0 : Int) + 1 ≤ (p.length : Int) := by omega
      cases d with
      | true =>
        have k := ref11_Ends_r3 h rfl (ref11_Ends_l0_s1 (p := ⟨1, p, t⟩) (out := []) (outn := 0) (outt := true) (by omega) h1' g1 (by decide) (Nat.le_refl _) nl wone (ref11_Ends_l0_c_e14 nl1)) (Nat.le_refl _)
        exact ⟨[0], _, k, .inl ⟨hd.1 rfl, rfl⟩⟩
      | false =>
        have k := ref11_Ends_r3 h rfl (ref11_Ends_l0_s3 (p := ⟨1, p, t⟩) (out := []) (outn := 0) (outt := true) (by omega) h1' g1 nl wone (ref11_Ends_l0_c_e14 nl1)) (Nat.le_refl _)
        exact ⟨[], _, k, .inr ⟨fun h => (by have := hd.2 h; cases this), rfl⟩⟩
    | succ m =>
      have nl : (0 : Int) < (p.length : Int) := by omega
      obtain ⟨y, hy⟩ : ∃ y, p[0]? = some y := ⟨_, List.getElem?_eq_getElem (by omega)⟩
      obtain ⟨out, ot1, k1, k2, k3⟩ := rfollow_run (mark := ⟨1, mark, true⟩) y hF (by omega) h4 hav
      have hvo : ∀ z ∈ out, 0 ≤ z ∧ z < l.xs.length := fun z hz => by
        obtain ⟨x, _, h⟩ := (k3 z).1 hz
        exact hF.f.go h
      have hsrc : ∀ z, z ∈ out ↔ ∃ x, Clos (nxL l.xs p 0) [0] x ∧ goTo l.xs y x z := fun z => by
        rw [k3]
        exact ⟨fun ⟨x, k, g⟩ => ⟨x, (h3 x).1 k, g⟩, fun ⟨x, k, g⟩ => ⟨x, (h3 x).2 k, g⟩⟩
      cases d with
      | true =>
        obtain ⟨o2, e, j1, ⟨a, b, c, o', dd, f, gg, rfl⟩, j3⟩ := rends_loop (p := ⟨1, p, t⟩) hF (by show p.length < _; omega) hn hW m 1 out ot1 [((0 : Nat) : Int)] false (by show 1 + m = p.length; omega) hvo k2 (by simp)
        have k := ref11_Ends_r4 h rfl (ref11_Ends_l0_s0 (p := ⟨1, p, t⟩) (out := []) (outn := 0) (outt := true) (by omega) h1' g1 (by decide) (Nat.le_refl _) nl (by omega) hy k1 wone j1) (Nat.le_refl _)
        rw [List.take_length] at k
        exact ⟨o2, _, k, _, y, out, .inl ⟨hd.1 rfl, rfl⟩, hy, hsrc, j3⟩
      | false =>
        obtain ⟨o2, e, j1, ⟨a, b, c, o', dd, f, gg, rfl⟩, j3⟩ := rends_loop (p := ⟨1, p, t⟩) hF (by show p.length < _; omega) hn hW m 1 out ot1 [] true (by show 1 + m = p.length; omega) hvo k2 (by simp)
        have k := ref11_Ends_r4 h rfl (ref11_Ends_l0_s2 (p := ⟨1, p, t⟩) (out := []) (outn := 0) (outt := true) (by omega) h1' g1 nl (by omega) hy k1 wone j1) (Nat.le_refl _)
        rw [List.take_length] at k
        exact ⟨o2, _, k, _, y, out, .inr ⟨fun h => (by have := hd.2 h; cases this), rfl⟩, hy, hsrc, j3⟩
theorem ints_run {a b : SL Int} (h : a.xs = b.xs) (hs : a.xs.length < 100000000000) : ref01_Ints a b true := by
  have hl : a.xs.length = b.xs.length := by rw [h]
  suffices hh : ∀ (rest : List Int) (k : Nat), a.xs.drop k = rest → ∃ z, ref01_Ints_l0 a b k (ref01_Ints_l0_x1 a b z) from by
    obtain ⟨z, g⟩ := hh a.xs 0 (by simp)
    exact ref01_Ints_r2 (by omega) g
  intro rest
  induction rest with
  | nil =>
    intro k hd
    have := drop_nil_le hd
    exact ⟨_, ref01_Ints_l0_e2 (by omega)⟩
  | cons x rest ih =>
    intro k hd
    obtain ⟨k1, k2, k3⟩ := at_drop hd
    obtain ⟨z, g⟩ := ih (k + 1) k2
    exact ⟨z, ref01_Ints_l0_s1 (by omega) (by omega) k1 (by rw [← h]; exact k1) rfl (in64 (by omega) (by omega)) g⟩
theorem specE_len {l : List State} {s : List Int} : ∀ (m i : Nat) (src acc out : List Int), SpecE l s m i src acc out → out.length ≤ acc.length + m + 1
  | 0, i, src, acc, out, h => by
    rcases h with ⟨_, rfl⟩ | ⟨_, rfl⟩
    · simp
    · omega
  | m + 1, i, src, acc, out, ⟨a, p, s', h1, _, _, h4⟩ => by
    have := specE_len m (i + 1) s' a out h4
    rcases h1 with ⟨_, rfl⟩ | ⟨_, rfl⟩
    · simp at this; omega
    · omega
theorem searches_run {l : SL State} {s : ByteArray} {q : Int} (hq : -9223372036854775808 ≤ q) (hw : wfStates l) (hn : l.xs.length < 10000000) (hs : s.size < 100000000) : law_PikeSearches l s q true := by
  have wa := word_run q
  have wb := ref_word_run q
  rw [word_eq hq] at wb
  have close : ∀ {f : Bool} {n e : Int} {a b : SL Int}, pike_Search l s f n e → ref11_Search l s f n e → pike_Ends l s a e → ref11_Ends l s b e → ref01_Ints a b true → law_PikeSearches l s q true := by
    intro f n e a b h1 h2 h3 h4 h5
    cases f <;> cases hb : wordB q <;> rw [hb] at wa wb
    · exact law_PikeSearches_r3 h1 h2 h3 h4 rfl rfl h5 rfl wa wb R_heads
    · exact law_PikeSearches_r2 h1 h2 h3 h4 rfl rfl h5 rfl wa wb R_heads
    · exact law_PikeSearches_r1 h1 h2 h3 h4 rfl rfl h5 rfl wa wb R_heads
    · exact law_PikeSearches_r0 h1 h2 h3 h4 rfl rfl h5 rfl wa wb R_heads
  have nil : ref01_Ints ⟨1, [], true⟩ ⟨1, [], true⟩ true := ints_run rfl (by simp)
  by_cases o : okL l
  · by_cases g : GoodT (strInts s)
    · rcases search_run hw hn hs with ⟨a, _⟩ | ⟨_, a, _⟩ | ⟨_, p, f, n, g1, h1, s1⟩
      · exact absurd o a
      · exact absurd g a
      rcases rsearch_run hw hn hs with ⟨a, _⟩ | ⟨_, a, _⟩ | ⟨_, p2, f2, n2, g2, h2, s2⟩
      · exact absurd o a
      · exact absurd g a
      rcases ends_run hw hn hs with ⟨a, _⟩ | ⟨_, a, _⟩ | ⟨_, p3, out3, t3, g3, h3, s3⟩
      · exact absurd o a
      · exact absurd g a
      rcases rends_run hw hn hs with ⟨a, _⟩ | ⟨_, a, _⟩ | ⟨_, p4, out4, t4, g4, h4, s4⟩
      · exact absurd o a
      · exact absurd g a
      obtain rfl := g2.uniq g1
      obtain rfl := g3.uniq g1
      obtain rfl := g4.uniq g1
      obtain ⟨rfl, rfl⟩ := spec_uniq _ _ _ _ _ _ _ _ _ (fun x => Iff.rfl) s1 s2
      have e := specE_uniq _ _ _ _ _ _ _ (fun x => Iff.rfl) s3 s4
      have len := specE_len _ _ _ _ _ s3
      have hpl := g1.len
      rw [str_len] at hpl
      exact close h1 h2 h3 h4 (ints_run e (by show out3.length < _; simp at len; omega))
    · rcases search_run hw hn hs with ⟨a, _⟩ | ⟨_, _, h1⟩ | ⟨_, p, f, n, g1, h1, s1⟩
      · exact absurd o a
      · rcases rsearch_run hw hn hs with ⟨a, _⟩ | ⟨_, _, h2⟩ | ⟨_, p, f, n, g1, _, _⟩
        · exact absurd o a
        · rcases ends_run hw hn hs with ⟨a, _⟩ | ⟨_, _, h3⟩ | ⟨_, p, f, n, g1, _, _⟩
          · exact absurd o a
          · rcases rends_run hw hn hs with ⟨a, _⟩ | ⟨_, _, h4⟩ | ⟨_, p, f, n, g1, _, _⟩
            · exact absurd o a
            · exact close h1 h2 h3 h4 nil
            · exact absurd ⟨p, g1⟩ g
          · exact absurd ⟨p, g1⟩ g
        · exact absurd ⟨p, g1⟩ g
      · exact absurd ⟨p, g1⟩ g
  · rcases search_run hw hn hs with ⟨_, h1⟩ | ⟨a, _⟩ | ⟨a, _⟩
    · rcases rsearch_run hw hn hs with ⟨_, h2⟩ | ⟨a, _⟩ | ⟨a, _⟩
      · rcases ends_run hw hn hs with ⟨_, h3⟩ | ⟨a, _⟩ | ⟨a, _⟩
        · rcases rends_run hw hn hs with ⟨_, h4⟩ | ⟨a, _⟩ | ⟨a, _⟩
          · exact close h1 h2 h3 h4 nil
          · exact absurd a o
          · exact absurd a o
        · exact absurd a o
        · exact absurd a o
      · exact absurd a o
      · exact absurd a o
    · exact absurd a o
    · exact absurd a o
theorem searches_true {l : SL State} {s : ByteArray} {q : Int} (w0 : wfS 48 wf_State l) (w2 : inK .i64 q) (b0 : l.xs.length ≤ 1048576) (b1 : s.size ≤ 1048576) : law_PikeSearches l s q true := searches_run ((inK64 w2).1) (wfStates_of w0) (by omega) (by omega)
end
end Go.Proofs.YtjnfkifdgojdaaaGreat.V

/- PikeClass (several texts together). -/
import Derived.Test.YtjnfkifdgojdaaaV34
import Derived.Test.YtjnfkifdgojdaaaRows
import Derived.OpenShut
import Derived.Deep.Slices
import Derived.Test.YtjnfkifdgojdaaaMA
import Derived.Test.YtjnfkifdgojdaaaVY
namespace Go.Proofs.Ytjnfkifdgojdaaa.V
section
open Go
open Go.ChangeShapes Go.WideShapes Go.Deep
set_option linter.unusedVariables false
set_option linter.unnecessarySimpa false
set_option linter.unusedSimpArgs false
set_option linter.unusedSectionVars false
theorem bulk_pos {H : Type} (d : DataW H) : 1 ≤ Rows.uptoBulk d := by
  cases d with
  | lit l => cases l <;> simp [Rows.uptoBulk]
  | _ => simp [Rows.uptoBulk]
theorem bulk_len {H : Type} : ∀ l : List (DataW H), l.length ≤ Rows.uptoBulkAll l
  | [] => by simp [Rows.uptoBulkAll]
  | d :: r => by
    have h1 := bulk_pos d
    have h2 := bulk_len r
    simp only [Rows.uptoBulkAll, List.length_cons]
    omega
theorem bulk_mem {H : Type} {d : DataW H} : ∀ {l : List (DataW H)} {n : Nat}, Rows.uptoBulkAll l ≤ n → d ∈ l → Rows.uptoBulk d ≤ n
  | x :: r, n, h, hd => by
    simp only [Rows.uptoBulkAll] at h
    rcases List.mem_cons.1 hd with rfl | hd
    · omega
    · exact bulk_mem (by omega) hd
theorem slice_bulk {H : Type} {enc : TypeId × Value → H} {P : Program} {w : World} {spare : Nat → Bool} {F : Nat → Prop} {α : Type} {es : Nat} {e0 : α → D} {s : SL α} {v : Value} {t e : TypeId} {d : DataW H} {p : List MemPlace}
    (hd : DRel w F (slD es e0 s) v) (h : DataW.Trod enc P w 0 spare true t v d p) (ht : P.underlying t = some (.slice e)) : s.xs.length ≤ Rows.uptoBulk d := by
  have hv : ∃ a c, v = .slice a s.xs.length c := by
    have hl := len_dl e0 s.xs
    generalize hx : slD es e0 s = x at hd
    cases hd with
    | sl es' xs t' a cap b off cell hlc ht' ha hF hes hc h1 hr =>
      unfold slD at hx
      injection hx with h1 h2 h3
      subst h2
      exact ⟨a, cap, by rw [hl]⟩
    | _ => unfold slD at hx; cases hx
  obtain ⟨a, c, rfl⟩ := hv
  obtain ⟨m, hm⟩ := h
  rcases open_slice ht hm with ⟨h1, h2⟩ | ⟨a', len, cap, m', n', D', Pl, h1, _, _, _, _, h2, _⟩
  · have : (Value.slice a s.xs.length c) = .slice none 0 0 := by
      have := congrArg List.head? h1
      simpa [Value.cells] using this
    injection this with _ h3 _
    omega
  · have : (Value.slice a s.xs.length c) = .slice (some a') len cap := by
      have := congrArg List.head? h1
      simpa [Value.cells] using this
    injection this with _ h3 _
    have h4 : d = (.slice ((List.range len).map D') ((List.range (m' - len)).map fun j => D' (len + j))) := congrArg Prod.fst h2
    rw [h4]
    simp only [Rows.uptoBulk]
    have := bulk_len ((List.range len).map D')
    rw [List.length_map, List.length_range] at this
    omega
theorem str_bulk {H : Type} {enc : TypeId × Value → H} {P : Program} {w : World} {spare : Nat → Bool} {F : Nat → Prop} {s : ByteArray} {v : Value} {t : TypeId} {d : DataW H} {p : List MemPlace}
    (hd : DRel w F (.str s) v) (h : DataW.Trod enc P w 0 spare true t v d p) (ht : P.underlying t = some .string) : s.size ≤ Rows.uptoBulk d := by
  cases hd
  obtain ⟨m, hm⟩ := h
  obtain ⟨s', h1, h2, h3⟩ := DataW.trod_string ht hm
  have e : s = s' := by
    have := congrArg List.head? h1
    simpa [Value.cells] using this
  have h4 : d = .lit (.string s'.data.toList) := congrArg Prod.fst h2
  rw [h4, e]
  simp only [Rows.uptoBulk]
  rw [Array.length_toList]
  show s'.data.size ≤ _
  omega
end
section
open Go
set_option linter.unusedVariables false
set_option linter.unnecessarySimpa false
set_option linter.unusedSimpArgs false
set_option linter.unusedSectionVars false
theorem bytes_str (s : ByteArray) : isBytes (strInts s) := by
  intro x hx
  unfold strInts at hx
  obtain ⟨b, _, rfl⟩ := List.mem_map.1 hx
  have := UInt8.toNat_lt b
  omega
theorem str_len (s : ByteArray) : (strInts s).length = s.size := by
  unfold strInts
  rw [List.length_map, Array.length_toList]
  rfl
theorem fits_of {l : SL State} (hw : wfStates l) (h : okL l) : Fits l.xs := by
  refine ⟨fun st hst k => ?_, fun st hst k => ?_, fun st hst k => ?_, fun st hst => ?_⟩
  · have := h.2 st hst
    unfold okS at this
    exact this.2.2.1 k
  · have := h.2 st hst
    unfold okS at this
    exact this.2.2.2.2.1 k
  · have := h.2 st hst
    unfold okS at this
    exact this.2.2.2.2.2.2.1 (by omega)
  · have := hw.2 st hst
    unfold small at this
    omega
theorem over_run {r : pike_run} (hF : Fits r.l_.xs) (hs : r.s_.xs.length < 100000000) (hn : r.l_.xs.length < 10000000) (hp0 : 0 < r.l_.xs.length) : ∃ f n, pike_run_over_v1 0 false r true n f ∧ Spec r.l_.xs r.s_.xs true r.s_.xs.length 0 [0] 0 f n := by
  have hv : ∀ x ∈ ([0] : List Int), 0 ≤ x ∧ x < r.l_.xs.length := fun x hx => by
    rw [List.mem_singleton.1 hx]; omega
  obtain ⟨all, at_, d, h1, h2, h3, h4⟩ := spread_run (r := r) (i := 0) (src := ⟨1, [0], true⟩) (by omega) (by omega) (by omega) (by show ([0] : List Int).length < _; simp) hv (hF.nx _ _)
  have hav : ∀ x ∈ all, 0 ≤ x ∧ x < r.l_.xs.length := fun x hx => Clos.lt hv (hF.nx _ _) ((h3 x).1 hx)
  have hal : all.length ≤ r.l_.xs.length := nodup_le _ _ h2 hav
  have hw : w64 ((0 : Int) + (all.length : Int)) := in64 (by omega) (by omega)
  have he := search_each 0 all.length (((0 : Nat) : Int)) false d hw
  cases d with
  | true =>
    refine ⟨true, _, pike_run_over_v1_r0 (pike_run_over_v1_l0_e2 (by omega) h1 he), ?_⟩
    cases hl : r.s_.xs.length with
    | zero => exact ⟨all, h2, h3, h4, rfl⟩
    | succ m => exact ⟨all, h2, h3, .inl ⟨h4.1 rfl, rfl, rfl⟩⟩
  | false =>
    cases hl : r.s_.xs.length with
    | zero => exact ⟨false, _, pike_run_over_v1_r0 (pike_run_over_v1_l0_e3 (by omega) h1 he (by omega)), all, h2, h3, h4, rfl⟩
    | succ m =>
      obtain ⟨p, hp⟩ : ∃ p, r.s_.xs[0]? = some p := ⟨_, List.getElem?_eq_getElem (by omega)⟩
      obtain ⟨out, ot, g1, g2, g3⟩ := follow_run (r := r) (p := p) (all := ⟨1, all, at_⟩) (by show all.length < _; omega) hav hF.r
      have tk2 : out.take out.length = out := List.take_length ..
      have g2' : out.length ≤ all.length := g2
      obtain ⟨f, n, x, i', al, k1, k2⟩ := over_loop hF hs hn hp0 m 1 (out ++ [0]) false (0 + all.length) false (by omega) (fun y hy => by
        rcases List.mem_append.1 hy with h | h
        · obtain ⟨x, _, h⟩ := (g3 y).1 h
          exact hF.go h
        · rw [List.mem_singleton.1 h]; omega) (by simp; omega) (by omega) (by omega)
      refine ⟨f, n, pike_run_over_v1_r4 (pike_run_over_v1_l0_s4 (by omega) h1 he (by omega) (by omega) hp g1 (by omega) (Nat.le_refl _) (in64 (by omega) (by omega)) (by rw [tk2]; exact k1)), all, h2, h3, .inr ⟨fun h => (by have := h4.2 h; cases this), p, out ++ [0], hp, fun y => ?_, k2⟩⟩
      rw [List.mem_append, g3, List.mem_singleton]
      constructor
      · rintro (h | h)
        · exact .inr h
        · exact .inl ⟨rfl, h⟩
      · rintro (⟨_, h⟩ | h)
        · exact .inr h
        · exact .inl h
theorem begin_run {l : SL State} {s : ByteArray} (hw : wfStates l) (hs : s.size < 100000000) :
    (¬ okL l ∧ pike_begin l s D.nilp 101) ∨ (okL l ∧ ¬ GoodT (strInts s) ∧ pike_begin l s (.ptr [(slD 4 e_State l), (slD 1 (D.int .i64) ⟨1, [], true⟩)]) 10) ∨
      (okL l ∧ ∃ p t, GP (strInts s) p ∧ pike_begin l s (.ptr [(slD 4 e_State l), (slD 1 (D.int .i64) ⟨1, p, t⟩)]) 0) := by
  have hl := str_len s
  rcases check_run hw with ⟨o, h⟩ | ⟨o, h⟩
  · rcases utf_points_run (b := ⟨1, strInts s, false⟩) (bytes_str s) (by show (strInts s).length < _; omega) with ⟨p, t, h1, h2⟩ | ⟨h1, h2⟩
    · exact .inr (.inr ⟨o, p, t, h1, pike_begin_r1 h rfl h2⟩)
    · exact .inr (.inl ⟨o, h1, pike_begin_r1 h rfl h2⟩)
  · exact .inl ⟨o, pike_begin_r0 h (by decide)⟩
theorem okL_pos {l : SL State} (h : okL l) : 0 < l.xs.length := List.length_pos_iff.2 h.1
theorem search_run {l : SL State} {s : ByteArray} (hw : wfStates l) (hn : l.xs.length < 10000000) (hs : s.size < 100000000) :
    (¬ okL l ∧ pike_Search l s false 0 101) ∨ (okL l ∧ ¬ GoodT (strInts s) ∧ pike_Search l s false 0 10) ∨ (okL l ∧ ∃ p f n, GP (strInts s) p ∧ pike_Search l s f n 0 ∧ Spec l.xs p true p.length 0 [0] 0 f n) := by
  rcases begin_run hw hs with ⟨o, h⟩ | ⟨o, g, h⟩ | ⟨o, p, t, g, h⟩
  · exact .inl ⟨o, pike_Search_r0 h (by decide)⟩
  · exact .inr (.inl ⟨o, g, pike_Search_r3 (r0 := ⟨l, ⟨1, [], true⟩⟩) h (by decide)⟩)
  · have hp := g.len
    rw [str_len] at hp
    obtain ⟨f, n, h1, h2⟩ := over_run (r := ⟨l, ⟨1, p, t⟩⟩) (fits_of hw o) (by show p.length < _; omega) hn (okL_pos o)
    refine .inr (.inr ⟨o, p, f, n, g, ?_, h2⟩)
    cases f with
    | true => exact pike_Search_r4 (r0 := ⟨l, ⟨1, p, t⟩⟩) h rfl h1 rfl
    | false => exact pike_Search_r5 (r0 := ⟨l, ⟨1, p, t⟩⟩) h rfl h1 rfl
end
section
open Go
set_option linter.unusedVariables false
set_option linter.unnecessarySimpa false
set_option linter.unusedSimpArgs false
set_option linter.unusedSectionVars false
theorem clone_run {s : SL Range} (h : s.xs.length < 8796093022207) : ∃ t, sl_Clone_Range s ⟨2, s.xs, t⟩ := by
  obtain ⟨e, xs, t⟩ := s
  cases xs with
  | nil => exact ⟨false, lim_x rfl⟩
  | cons a l =>
    have hl : (a :: l).length < 8796093022207 := h
    exact ⟨false, R_fn tab_33 rfl ⟨0, fun n hn => xFn_run (p := some _) [.b false, .ap (dl e_Range (a :: l)) (dl e_Range (a :: l)) (a :: l).length, .snap (slD 2 e_Range ⟨2, a :: l, false⟩) [2]] (by kernel_rfl) (And.intro (And.intro (show isNil .slice (.d (slD 2 e_Range (⟨e, a :: l, t⟩ : SL Range))) = some false from rfl) (ap_o e_Range [] (a :: l) 16 [] 0 rfl rfl rfl (elems_slD 2 e_Range (⟨e, a :: l, t⟩ : SL _)) (by omega))) (snap_row 2 e_Range false 2 (a :: l)))⟩⟩
theorem set_size {r : SL Range} (hs : small (r.xs.length + 1)) (hC : Canon r.xs) : nfa_Size (Rx.mk 2 r 0 0 false ⟨0, [], true⟩) 65536 2 0 := by
  obtain ⟨t, hm⟩ := rx_merge (l := r) hs
  have he := equal_ranges (a := ⟨2, mergeR r.xs, t⟩) (b := r) (by
    have := mergeR_length r.xs
    unfold small at *
    show (mergeR r.xs).length * 16 ≤ _
    omega)
  rw [decide_eq_true (show (mergeR r.xs) = r.xs from mergeR_self hC)] at he
  have hf : rx_fits (Rx.mk 2 r 0 0 false ⟨0, [], true⟩) 1000 true :=
    rx_fits_r41 (by decide) (by show ¬ (2 : Int) = 1; decide) (by show ¬ (2 : Int) = 6; decide) (by show ¬ (2 : Int) = 7; decide) (by show ¬ (2 : Int) = 8; decide) (by show ¬ (2 : Int) = 9; decide) rfl (by show ¬ ((([] : List Rx).length : Nat) : Int) > 0; decide) (rx_ranges_r0 hm he) rfl rfl rfl (sl_ContainsFunc_Rx_r1 (sl_IndexFunc_Rx_r1 (sl_IndexFunc_Rx_l0_e2 (by show ¬ (0 : Int) < 0; decide))) (by decide))
  have hz : nfa_size (Rx.mk 2 r 0 0 false ⟨0, [], true⟩) (min 65536 1099511627776) (min (0 + 1) (min 65536 1099511627776)) :=
    nfa_size_r5 (nfa_size_l0_e1 (by show ¬ (0 : Int) < 0; decide)) (by show ¬ (2 : Int) = 1; decide) (by show ¬ (2 : Int) = 3; decide) (by show ¬ (2 : Int) = 4; decide) (by show ¬ (2 : Int) = 5; decide) (by decide)
  exact nfa_Size_r2 (rx_Check_r0 hf) rfl (by decide) hz (by decide) (by decide)
/-- What a set's compiled states are. -/
def setL (r : List Range) (t : Bool) : SL State := ⟨4, [State.mk 1 ⟨2, r, t⟩ 1 0, State.mk 7 ⟨0, [], true⟩ 0 0], false⟩
theorem set_compile {r : SL Range} (hs : small (r.xs.length + 1)) (hC : Canon r.xs) : ∃ t, nfa_Compile (Rx.mk 2 r 0 0 false ⟨0, [], true⟩) 10 (setL r.xs t) 0 := by
  obtain ⟨t, hc⟩ := clone_run (s := r) (by unfold small at hs; omega)
  refine ⟨t, ?_⟩
  have hp := nfa_builder_put_r0 (bs0t := true) (bs0n := 0) (o1 := []) (s := State.mk 1 ⟨2, r.xs, t⟩ 0 0) (by decide) (by decide) (Nat.le_refl _)
  have hb := nfa_builder_build_r1 (x := Rx.mk 2 r 0 0 false ⟨0, [], true⟩) rfl hc hp
  exact nfa_Compile_r4 (set_size hs hC) rfl (by decide) (by decide) hb (by show (1 : Nat) ≤ 1; decide) (by show (1 + 1) * 48 ≤ 140737488355328; decide) (by show (1 : Nat) ≤ 1; decide)
theorem set_ok {r : List Range} {t : Bool} (hC : Canon r) : okL (setL r t) := by
  refine ⟨(by intro h; cases h), fun s hs => ?_⟩
  rcases List.mem_cons.1 hs with rfl | hs
  · exact ⟨(by show (1 : Int) ≤ 1; decide), (by show (1 : Int) ≤ 7; decide), fun _ => (by show (0 : Int) ≤ 1 ∧ (1 : Int) < 2; decide), fun h => absurd (show (1 : Int) = 7 from h) (by decide), fun h => absurd (show (1 : Int) = 2 from h) (by decide), fun _ => rfl, fun h => absurd rfl h, mergeR_self hC⟩
  · rcases List.mem_cons.1 hs with rfl | hs
    · exact ⟨(by show (1 : Int) ≤ 7; decide), (by show (7 : Int) ≤ 7; decide), fun h => absurd rfl h, fun _ => rfl, fun h => absurd (show (7 : Int) = 2 from h) (by decide), fun _ => rfl, fun _ => rfl, mergeR_self .nil⟩
    · cases hs
theorem set_nx {r : List Range} {t : Bool} (s : List Int) (i : Nat) (x : Int) : nxL (setL r t).xs s i x = [] := by
  unfold nxL
  have hc : x.toNat = 0 ∨ x.toNat = 1 ∨ 2 ≤ x.toNat := by omega
  rcases hc with h | h | h
  · rw [h]; rfl
  · rw [h]; rfl
  · rw [List.getElem?_eq_none (by show 2 ≤ x.toNat; exact h)]
theorem set_clos {r : List Range} {t : Bool} {s : List Int} {i : Nat} {src : List Int} (x : Int) : Clos (nxL (setL r t).xs s i) src x ↔ x ∈ src := by
  constructor
  · intro h
    cases h with
    | base h => exact h
    | step _ hy => rw [set_nx] at hy; cases hy
  · exact .base
theorem set_done {r : List Range} {t : Bool} {all : List Int} (ha : ∀ x ∈ all, x = 0 ∨ x = 1) : (∃ x ∈ all, isDone (setL r t).xs x) ↔ (1 : Int) ∈ all := by
  constructor
  · rintro ⟨x, hx, st, h1, h2⟩
    rcases ha x hx with rfl | rfl
    · cases h1
      exact absurd (show (1 : Int) = 7 from h2) (by decide)
    · exact hx
  · exact fun h => ⟨1, h, _, rfl, rfl⟩
theorem set_go {r : List Range} {t : Bool} {p y : Int} {all : List Int} (h0 : (0 : Int) ∈ all) (ha : ∀ x ∈ all, x = 0 ∨ x = 1) : (∃ x ∈ all, goTo (setL r t).xs p x y) ↔ y = 1 ∧ hitR p r := by
  constructor
  · rintro ⟨x, hx, st, h1, h2, h3⟩
    rcases ha x hx with rfl | rfl
    · cases h1
      exact ⟨h3, h2⟩
    · cases h1
      obtain ⟨u, hu, _⟩ := h2
      cases hu
  · rintro ⟨rfl, h⟩
    exact ⟨0, h0, _, rfl, h, rfl⟩
theorem class_spec {r : List Range} {t : Bool} {s : List Int} : ∀ (m i : Nat) (src : List Int) (acc n : Int) (f : Bool), i + m = s.length → (0 : Int) ∈ src → (∀ x ∈ src, x = 0 ∨ x = 1) → Spec (setL r t).xs s true m i src acc f n → (f = true ↔ (1 : Int) ∈ src ∨ ∃ q ∈ s.drop i, hitR q r)
  | 0, i, src, acc, n, f, hi, h0, hv, ⟨all, h1, h2, h3, h4⟩ => by
    have hm : ∀ x, x ∈ all ↔ x ∈ src := fun x => by rw [h2, set_clos]
    rw [h3, set_done (fun x hx => hv x ((hm x).1 hx)), hm, List.drop_of_length_le (by omega)]
    simp
  | m + 1, i, src, acc, n, f, hi, h0, hv, ⟨all, h1, h2, h3⟩ => by
    have hm : ∀ x, x ∈ all ↔ x ∈ src := fun x => by rw [h2, set_clos]
    have hva : ∀ x ∈ all, x = 0 ∨ x = 1 := fun x hx => hv x ((hm x).1 hx)
    rw [set_done hva, hm] at h3
    obtain ⟨p, hp⟩ : ∃ p, s[i]? = some p := ⟨_, List.getElem?_eq_getElem (by omega)⟩
    have hd : s.drop i = p :: s.drop (i + 1) := by
      rw [List.drop_eq_getElem_cons (by omega)]
      rw [List.getElem?_eq_getElem (by omega)] at hp
      cases hp
      rfl
    rcases h3 with ⟨h3, h4, _⟩ | ⟨h3, p', src', h4, h5, h6⟩
    · exact ⟨fun _ => .inl h3, fun _ => h4⟩
    · rw [hp] at h4
      cases h4
      have h5' : ∀ y, y ∈ src' ↔ y = 0 ∨ (y = 1 ∧ hitR p r) := fun y => by
        rw [h5, set_go ((hm 0).2 h0) hva]
        simp
      have ih := class_spec m (i + 1) src' _ _ _ (by omega) ((h5' 0).2 (.inl rfl)) (fun x hx => by
        rcases (h5' x).1 hx with h | ⟨h, _⟩
        · exact .inl h
        · exact .inr h) h6
      rw [ih, h5', hd]
      constructor
      · rintro ((h | ⟨_, h⟩) | ⟨q, hq, h⟩)
        · cases h
        · exact .inr ⟨p, List.mem_cons_self .., h⟩
        · exact .inr ⟨q, List.mem_cons_of_mem _ hq, h⟩
      · rintro (h | ⟨q, hq, h⟩)
        · exact absurd h h3
        · rcases List.mem_cons.1 hq with rfl | hq
          · exact .inl (.inr ⟨rfl, h⟩)
          · exact .inr ⟨q, hq, h⟩
/-! ### What the law asks -/
theorem class_in {m : SL Range} {p : SL Int} {found : Bool} {g : Int} {i : Nat} {y : Int} (hy : p.xs[i]? = some y) (hs : m.xs.length < 100000000000000) : ∀ (rest : List Range) (k : Nat) (want : Bool), m.xs.drop k = rest →
    ∃ z, ((want = true ∨ hitR y rest) ∧ law_PikeClass_l0 m p found g want i k (law_PikeClass_l0_x0 m p found g i z)) ∨ (¬ (want = true ∨ hitR y rest) ∧ law_PikeClass_l0 m p found g want i k (law_PikeClass_l0_x1 m p found g i z))
  | [], k, want, hd => by
    have := drop_nil_le hd
    cases want with
    | true => exact ⟨k, .inl ⟨.inl rfl, law_PikeClass_l0_e1 (by omega)⟩⟩
    | false => 
      refine ⟨k, .inr ⟨fun h => ?_, law_PikeClass_l0_e5 (by omega)⟩⟩
      rcases h with h | ⟨x, hx, _⟩
      · cases h
      · cases hx
  | x :: rest, k, want, hd => by
    obtain ⟨k1, k2, k3⟩ := at_drop hd
    have w : w64 ((k : Int) + 1) := in64 (by omega) (by omega)
    have hy' : p.xs[((i : Nat) : Int).toNat]? = some y := by rw [Int.toNat_natCast]; exact hy
    cases want with
    | true =>
      obtain ⟨z, h | h⟩ := class_in (found := found) (g := g) hy hs rest (k + 1) true k2
      · exact ⟨z, .inl ⟨.inl rfl, law_PikeClass_l0_s0 (by omega) w h.2⟩⟩
      · exact absurd (.inl rfl) h.1
    | false =>
      by_cases h1 : y ≥ x.From
      · by_cases h2 : y ≤ x.To
        · obtain ⟨z, h | h⟩ := class_in (found := found) (g := g) hy hs rest (k + 1) true k2
          · exact ⟨z, .inl ⟨.inr ⟨x, List.mem_cons_self .., h1, h2⟩, law_PikeClass_l0_s2 (by omega) (by omega) hy' (by omega) k1 h1 h2 w h.2⟩⟩
          · exact absurd (.inl rfl) h.1
        · obtain ⟨z, h | h⟩ := class_in (found := found) (g := g) hy hs rest (k + 1) false k2
          · refine ⟨z, .inl ⟨?_, law_PikeClass_l0_s3 (by omega) (by omega) hy' (by omega) k1 h1 h2 w h.2⟩⟩
            rcases h.1 with h | ⟨u, hu, h⟩
            · cases h
            · exact .inr ⟨u, List.mem_cons_of_mem _ hu, h⟩
          · refine ⟨z, .inr ⟨fun k => ?_, law_PikeClass_l0_s3 (by omega) (by omega) hy' (by omega) k1 h1 h2 w h.2⟩⟩
            rcases k with k | ⟨u, hu, k⟩
            · cases k
            · rcases List.mem_cons.1 hu with rfl | hu
              · omega
              · exact h.1 (.inr ⟨u, hu, k⟩)
      · obtain ⟨z, h | h⟩ := class_in (found := found) (g := g) hy hs rest (k + 1) false k2
        · refine ⟨z, .inl ⟨?_, law_PikeClass_l0_s4 (by omega) (by omega) hy' (by omega) k1 h1 w h.2⟩⟩
          rcases h.1 with h | ⟨u, hu, h⟩
          · cases h
          · exact .inr ⟨u, List.mem_cons_of_mem _ hu, h⟩
        · refine ⟨z, .inr ⟨fun k => ?_, law_PikeClass_l0_s4 (by omega) (by omega) hy' (by omega) k1 h1 w h.2⟩⟩
          rcases k with k | ⟨u, hu, k⟩
          · cases k
          · rcases List.mem_cons.1 hu with rfl | hu
            · omega
            · exact h.1 (.inr ⟨u, hu, k⟩)
theorem class_out {m : SL Range} {p : SL Int} {found : Bool} {g : Int} (hs : m.xs.length < 100000000000000) (hp : p.xs.length < 100000000000000) : ∀ (rest : List Int) (k : Nat) (want : Bool), p.xs.drop k = rest →
    ∃ b z, law_PikeClass_l1 m p found g want k (law_PikeClass_l1_x0 m p found g b z) ∧ (b = true ↔ want = true ∨ ∃ q ∈ rest, hitR q m.xs)
  | [], k, want, hd => by
    have := drop_nil_le hd
    exact ⟨want, k, law_PikeClass_l1_e2 (by omega), by simp⟩
  | y :: rest, k, want, hd => by
    obtain ⟨k1, k2, k3⟩ := at_drop hd
    rw [Int.toNat_natCast] at k1
    have w : w64 ((k : Int) + 1) := in64 (by omega) (by omega)
    obtain ⟨z, ⟨h1, h2⟩ | ⟨h1, h2⟩⟩ := class_in (found := found) (g := g) k1 hs m.xs 0 want (by simp)
    · obtain ⟨b, z', g1, g2⟩ := class_out (found := found) (g := g) hs hp rest (k + 1) true k2
      refine ⟨b, z', law_PikeClass_l1_s0 (by omega) h2 w g1, ?_⟩
      rw [g2]
      refine ⟨fun _ => ?_, fun _ => .inl rfl⟩
      rcases h1 with h | h
      · exact .inl h
      · exact .inr ⟨y, List.mem_cons_self .., h⟩
    · obtain ⟨b, z', g1, g2⟩ := class_out (found := found) (g := g) hs hp rest (k + 1) false k2
      refine ⟨b, z', law_PikeClass_l1_s1 (by omega) h2 w g1, ?_⟩
      rw [g2]
      constructor
      · rintro (h | ⟨q, hq, h⟩)
        · cases h
        · exact .inr ⟨q, List.mem_cons_of_mem _ hq, h⟩
      · rintro (h | ⟨q, hq, h⟩)
        · exact absurd (.inl h) h1
        · rcases List.mem_cons.1 hq with rfl | hq
          · exact absurd (.inr h) h1
          · exact .inr ⟨q, hq, h⟩
theorem class_run {r : SL Range} {s : ByteArray} (hr : small (r.xs.length + 1)) (hs : s.size < 100000000) : law_PikeClass r s true := by
  obtain ⟨t, hm⟩ := rx_merge (l := r) hr
  have hC := mergeR_canon r.xs
  have hml := mergeR_length r.xs
  have hsm : small ((mergeR r.xs).length + 1) := by unfold small at *; omega
  obtain ⟨t2, hc⟩ := set_compile (r := ⟨2, mergeR r.xs, t⟩) hsm hC
  have hw : wfStates (setL (mergeR r.xs) t2) := by
    refine ⟨by show small 2; unfold small; omega, fun st hst => ?_⟩
    rcases List.mem_cons.1 hst with rfl | hst
    · exact hsm
    · rcases List.mem_cons.1 hst with rfl | hst
      · show small (0 + 1); unfold small; omega
      · cases hst
  have hl := str_len s
  have hml2 : (mergeR r.xs).length < 100000000000000 := by unfold small at hsm; omega
  rcases search_run (l := setL (mergeR r.xs) t2) hw (by show 2 < _; omega) hs with ⟨o, _⟩ | ⟨_, g, h⟩ | ⟨_, p, f, n, g, h, sp⟩
  · exact absurd (set_ok hC) o
  · rcases ref_points_run (b := ⟨1, strInts s, false⟩) (bytes_str s) (by show (strInts s).length < _; omega) with ⟨q, t3, hq, hp⟩ | ⟨hq, hp⟩
    · exact absurd ⟨q, hq⟩ g
    · exact law_PikeClass_r2 hm hc hp h rfl (by decide) rfl R_heads
  · rcases ref_points_run (b := ⟨1, strInts s, false⟩) (bytes_str s) (by show (strInts s).length < _; omega) with ⟨q, t3, hq, hp⟩ | ⟨hq, hp⟩
    · obtain rfl := hq.uniq g
      have hpl := g.len
      rw [hl] at hpl
      have k := class_spec _ _ _ _ _ _ (by omega) (by simp) (by simp) sp
      obtain ⟨b, z, j1, j2⟩ := class_out (m := ⟨2, mergeR r.xs, t⟩) (p := ⟨1, q, t3⟩) (found := f) (g := 0) hml2 (by show q.length < _; omega) q 0 false (by simp)
      have e : f = b := by
        have : f = true ↔ b = true := by
          rw [k, j2]
          simp
        cases f with
        | true => exact (this.1 rfl).symm
        | false =>
          cases b with
          | true => exact this.2 rfl
          | false => rfl
      subst e
      cases f with
      | true => exact law_PikeClass_r1 hm hc hp h rfl rfl j1 rfl R_heads
      | false => exact law_PikeClass_r5 hm hc hp h rfl rfl j1 rfl R_heads
    · exact absurd ⟨p, g⟩ hq
theorem class_true {r : SL Range} {s : ByteArray} (b0 : r.xs.length ≤ 1048576) (b1 : s.size ≤ 1048576) : law_PikeClass r s true := class_run (by show (r.xs.length + 1) * 16 ≤ 140737488355300; omega) (by omega)
end
end Go.Proofs.Ytjnfkifdgojdaaa.V

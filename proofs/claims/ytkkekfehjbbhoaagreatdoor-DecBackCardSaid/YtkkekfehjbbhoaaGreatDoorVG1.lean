/- The cell of errors.errorType is known; errors.As at what dec hands it, as one who calls sees it. -/
import Derived.Test.YtkkekfehjbbhoaaGreatDoorVA
import Derived.Test.YtkkekfehjbbhoaaGreatDoorV38
import Derived.Lib.ItoaNum
namespace Go.Proofs.YtkkekfehjbbhoaaGreatDoor.V
open Go
set_option linter.unusedVariables false
set_option linter.unnecessarySimpa false
set_option linter.unusedSimpArgs false
set_option linter.unusedSectionVars false
/-- What the row lists of errors.errorType, and of strconv's powers of ten. -/
instance flagG : Inhabited Flag := ⟨⟨False, [(0, #[.iface 137 (.agg #[.pointer (some ⟨9, 67, none⟩)])]), (5, (Lib.pow10Tab.map fun z => Value.int .u64 z).toArray)]⟩⟩
theorem flag_g : ¬ @drOn flagG := fun h => h
section
variable [Inhabited Flag]
variable {w : World} {F : Nat → Prop} {β : Bl} {sto : List Obj}
theorem alloc_away (hS : SRel w F β sto) (o : Go.Obj) : ∃ F' : Nat → Prop, (∀ b, F b → F' b) ∧ SRel (w.alloc o) F' β sto ∧ Ext w F β sto (w.alloc o) F' β sto := by
  obtain ⟨h1, h2⟩ := frozen_new hS (w' := w.alloc o) (by simp) (fun b hb => heap_alloc_lt w o b hb) rfl rfl rfl (fun _ => Nat.le_refl _)
  exact ⟨_, fun b hb => .inl hb, h1, h2⟩
theorem cell_put {v : AV} {b : Nat} {cs : List D} {a : Addr} (hS : SRel w F β [.row 1 [v] false]) (hb : β 0 = some b) (hx : DRel w F (.ptr cs) (.pointer (some a))) :
    SRel (w.setCell ⟨b, 0, none⟩ (.pointer (some a))) F β [.row 1 [.d (.ptr cs)] false] ∧ Ext w F β [.row 1 [v] false] (w.setCell ⟨b, 0, none⟩ (.pointer (some a))) F β [.row 1 [.d (.ptr cs)] false] := by
  obtain ⟨h0, h1, h2⟩ := hS.obj 0 _ rfl
  obtain ⟨c, T, fr, g1, g2, g3, _, g4⟩ := h2 b hb
  obtain ⟨hnF, rfl⟩ := g4 rfl
  have hself : (w.setCell ⟨b, 0, none⟩ (.pointer (some a))).heap[b]? = some (.cells (c.setIfInBounds 0 (.pointer (some a))) T (0, 0)) := by
    unfold World.setCell
    simp [Array.getElem?_modify, g1]
  have hc : 0 < c.size := by simp at g2; omega
  exact write_obj (w' := w.setCell ⟨b, 0, none⟩ (.pointer (some a))) hS 0 b _ (.row 1 [.d (.ptr cs)] false) rfl rfl hb rfl rfl rfl rfl (fun _ => Nat.le_refl _) (by simp [World.setCell])
    (fun k hk => by unfold World.setCell; simp [Array.getElem?_modify, Ne.symm hk])
    (fun c' T' fr' hh => by
      rw [g1] at hh
      cases hh
      exact ⟨_, hself, by simp⟩) hnF (fun hm => by
      refine ⟨fun h => (by rw [hb] at h; cases h), fun i x hi => ?_, fun b' hb' => ?_⟩
      · rcases i with _ | i
        · simp at hi; subst hi; rfl
        · simp at hi
      · rw [hb] at hb'
        cases hb'
        refine ⟨_, T, (0, 0), hself, by simp; omega, fun i x j y u hi hj hu => ?_, fun h => (by cases h), fun _ => ⟨hnF, rfl⟩⟩
        rcases i with _ | i
        rotate_left
        · simp at hi
        simp at hi
        subst hi
        rcases j with _ | j
        rotate_left
        · simp [AV.cells, D.cells] at hj
        have hy : y = .d (.ptr cs) := by simpa [AV.cells, D.cells] using hj.symm
        subst hy
        simp [hc] at hu
        subst hu
        exact ⟨.d _ _ (hx.mono hm), rfl⟩)
end
/-- errors.As at an error of dec's own. -/
def xAs : List AV → List Obj → Option (Out × List Obj)
  | [.d (.iface 95 (.ptr cs)), .iface 102 (.ptr 0 1 0 0)], [.row 1 [_] false] => some (.ret (.d (.bool true)), [.row 1 [.d (.ptr cs)] false])
  | _, _ => none
theorem xAs_sound {args : List AV} {sto : List Obj} {out : Out} {sto' : List Obj} (h : xAs args sto = some (out, sto')) {w : World} {F : Nat → Prop} {β : Bl} {us : Array Value} (hS : SRel w F β sto) (hus : ARel w F β args us) :
    CallsF Tryz.prog 64 us w (Res w F β sto out sto') := by
  unfold xAs at h
  split at h
  · rename_i cs v0
    cases h
    obtain ⟨u0, u1, rfl, k0, k1⟩ := two_args hus
    cases k0 with | d _ _ hd =>
    cases hd with | iface _ _ v hd =>
    cases hd with | ptr _ eb eo cell hF hc h1 hr =>
    have hptr : DRel w F (.ptr cs) (.pointer (some ⟨eb, eo, none⟩)) := .ptr _ eb eo cell hF hc h1 hr
    cases k1 with | iface _ _ v hv =>
    obtain ⟨tb, htb, rfl⟩ := inv_ptr hv
    obtain ⟨h0, h1', h2⟩ := hS.obj 0 _ rfl
    obtain ⟨c, T, fr, g1, g2, g3, _, g4⟩ := h2 tb htb
    obtain ⟨hnF, rfl⟩ := g4 rfl
    have hcs : 0 < c.size := by simp at g2; omega
    obtain ⟨_, T0, fr0, hg0⟩ := hS.gl (0, #[.iface 137 (.agg #[.pointer (some ⟨9, 67, none⟩)])]) (.head _)
    have hg : w.cell? ⟨0, 0, none⟩ = some (.iface 137 (.agg #[.pointer (some ⟨9, 67, none⟩)])) := by simp [World.cell?, hg0]
    have ht0 : w.cell? ⟨tb, 0, none⟩ = some c[0] := by
      simp [World.cell?, g1, hcs]
    have hf0 : w.frozen? ⟨tb, 0, none⟩ = false := by
      simp [World.frozen?, g1]
    refine .inl ⟨Tryz.f64, Tryz.func64, by kernel_rfl, by kernel_rfl, ?_⟩
    refine (as_hit ⟨eb, eo, none⟩ ⟨tb, 0, none⟩ c[0] w hg ht0 hf0).mono fun e w' ⟨h1, h2⟩ => ?_
    subst h1
    subst h2
    obtain ⟨F1, i1, s1, e1⟩ := alloc_away hS (.cells #[.pointer (some ⟨tb, 0, none⟩)] 102)
    obtain ⟨F2, i2, s2, e2⟩ := alloc_away s1 (.cells #[.pointer (some ⟨9, 102, none⟩), .pointer (some ⟨w.heap.size, 0, none⟩), .int .u64 150] 116)
    obtain ⟨F3, i3, s3, e3⟩ := alloc_away s2 (.cells #[.pointer (some ⟨9, 102, none⟩), .pointer (some ⟨w.heap.size, 0, none⟩), .int .u64 150] 116)
    obtain ⟨F4, i4, s4, e4⟩ := alloc_away s3 (.cells #[.pointer (some ⟨eb, eo, none⟩)] 95)
    have eA := ((e1.trans e2).trans e3).trans e4
    obtain ⟨s5, e5⟩ := cell_put s4 htb (hptr.mono eA.mono)
    exact ⟨F4, β, .d _ _ (.bool true), s5, eA.trans e5⟩
  · cases h
end Go.Proofs.YtkkekfehjbbhoaaGreatDoor.V

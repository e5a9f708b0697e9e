/- The abstract machine against the model: operations that leave the heap alone. Conditions: those that each lemma names. -/
import Derived.Test.YtmpdpcamgkndnaaGreatDoorAmHeap
set_option linter.constructorNameAsVariable false
set_option linter.unusedSimpArgs false
set_option linter.unusedVariables false
namespace Go.Am
open Go.RowKit (Below)

section
variable {P : Program} {w : World}

theorem rProgram : (program : Sem Program).run P w = .ok P w := rfl
theorem rUnderlying {t : TypeId} {d : TypeDesc} (h : P.underlying t = some d) : (underlying t).run P w = .ok d w := by
  simp [underlying, rProgram, h]
theorem rInfo {t : TypeId} {i : TypeInfo} (h : P.info? t = some i) : (typeInfo t).run P w = .ok i w := by
  simp [typeInfo, rProgram, h]
theorem rSize {t : TypeId} {n : Nat} (h : Tp.size P t = some n) : (sizeOf t).run P w = .ok n w := by
  unfold Tp.size at h
  cases hi : P.info? t with
  | none => simp [hi] at h
  | some i => simp [hi] at h; simp [sizeOf, rInfo hi, h]
theorem rZero {t : TypeId} {z : Value} (h : Tp.zero P t = some z) : (zeroValue t).run P w = .ok z w := by
  unfold Tp.zero at h
  cases hi : P.info? t with
  | none => simp [hi] at h
  | some i => simp [hi] at h; simp [zeroValue, rInfo hi, h]
theorem rAgg {t : TypeId} {b : Bool} (h : Tp.agg P t = some b) : (isAgg t).run P w = .ok b w := by
  unfold Tp.agg at h
  cases hu : P.underlying t with
  | none => simp [hu] at h
  | some d =>
    rw [hu] at h
    cases d <;> simp_all [isAgg, rUnderlying hu]
theorem Tp.bytes_info {t : TypeId} {n : Nat} (h : Tp.bytes P t = some n) : ∃ i, P.info? t = some i ∧ i.bytes = n := by
  unfold Tp.bytes at h
  cases hi : P.info? t with
  | none => simp [hi] at h
  | some i => simp [hi] at h; exact ⟨i, rfl, h⟩
theorem Tp.zeros_zero {t : TypeId} {z : List AV} (h : Tp.zeros P t = some z) : ∃ v, Tp.zero P t = some v ∧ z = v.cells.toList.map AV.ofV1 ∧ z.all AV.flat = true := by
  unfold Tp.zeros at h
  cases hz : Tp.zero P t with
  | none => simp [hz] at h
  | some v =>
    simp only [hz] at h
    split at h
    · rename_i hf; cases h; exact ⟨v, rfl, rfl, hf⟩
    · cases h
end

/-! ### Operands -/
theorem VRs.getD {ρ : Ren} {t : List AV} {vs : Array Value} (h : VRs ρ t vs.toList) (i : Nat) : VR ρ (t.getD i undefA) (vs.getD i undef) := by
  by_cases hi : i < t.length
  · obtain ⟨v, hv, hr⟩ := h.get i t[i] (by simp [hi])
    have : vs[i]? = some v := by simpa using hv
    simp only [List.getD, Array.getD_eq_getD_getElem?, this, List.getElem?_eq_getElem hi, Option.getD_some]
    exact hr
  · have h1 : t[i]? = none := List.getElem?_eq_none (by omega)
    have h2 : vs[i]? = none := Array.getElem?_eq_none (by have := h.length; simp at this; omega)
    simp only [List.getD, Array.getD_eq_getD_getElem?, h1, h2, Option.getD_none]
    exact VR.undef ρ

section
variable {P : Program} {w0 : World} {ρ : Ren} {X : Frm} {h : Heap} {w : World} {t : List AV} {a : Act}

theorem HR.ev (H : HR P w0 ρ X h w) (ht : VRs ρ t a.tmps.toList) (x : Operand) : VR ρ ((cO P x).ev t) (a.eval x) := by
  cases x with
  | tmp i => exact ht.getD i
  | const v => exact VR.ofV ρ v
  | global g =>
    simp only [cO]
    split
    · rename_i hg
      obtain ⟨sz, hs⟩ := H.glob g hg
      simp only [AO.ev, VR, Act.eval]
      exact ⟨_, hs, by simp⟩
    · simp only [AO.ev, VR]
  | func f =>
    simp only [cO, AO.ev, VR, Act.eval]
    exact ⟨#[], rfl, by simp [VRs]⟩

theorem HR.evs (H : HR P w0 ρ X h w) (ht : VRs ρ t a.tmps.toList) : ∀ xs : List Operand, VRs ρ (xs.map fun x => (cO P x).ev t) (xs.map a.eval)
  | [] => by simp [VRs]
  | x :: xs => by simp only [List.map_cons, VRs]; exact ⟨H.ev ht x, H.evs ht xs⟩

/-! ### What is read -/
theorem HR.cells (H : HR P w0 ρ X h w) {n e : Nat} {l : List AV} {ro : Bool} (hg : h.get n = some (.cells e l ro)) :
    ∃ p c lo hi, ρ n = some p ∧ w.heap[p.1]? = some (.cells c e (lo, hi)) ∧ c.size = p.2.2 ∧ (lo = hi ∨ c.size ≤ lo) ∧ p.2.1 + l.length ≤ c.size ∧ VRs ρ l ((c.toList.drop p.2.1).take l.length) ∧ (ro = false → w0.heap.size ≤ p.1) := by
  obtain ⟨p, hp, ⟨c, lo, hi, h1, h2, h3, h4, h5⟩, hw⟩ := H.get hg
  exact ⟨p, c, lo, hi, hp, h1, h2, h3, h4, h5, fun hr => hw (by simp [Blk.wr, hr])⟩

theorem HR.cs (H : HR P w0 ρ X h w) {n : Nat} {l : List AV} (hg : h.cs n = some l) :
    ∃ p c e fz, ρ n = some p ∧ w.heap[p.1]? = some (.cells c e fz) ∧ c.size = p.2.2 ∧ p.2.1 + l.length ≤ c.size ∧ VRs ρ l ((c.toList.drop p.2.1).take l.length) := by
  unfold Heap.cs at hg
  split at hg
  · rename_i e l' ro hg'
    cases hg
    obtain ⟨p, c, lo, hi, h1, h2, h3, h4, h5, h6, _⟩ := H.cells hg'
    exact ⟨p, c, e, (lo, hi), h1, h2, h3, h5, h6⟩
  · cases hg

theorem cell_at {w : World} {r x : Nat} {c : Array Value} {e : TypeId} {fz : Nat × Nat} (h : w.heap[r]? = some (.cells c e fz)) : w.cell? ⟨r, x, none⟩ = c[x]? := by
  simp [World.cell?, h]

theorem HR.ld (H : HR P w0 ρ X h w) {n o : Nat} {v : AV} (hl : h.ld (n, o) = some v) : ∃ p v', ρ n = some p ∧ w.cell? ⟨p.1, p.2.1 + o, none⟩ = some v' ∧ VR ρ v v' := by
  unfold Heap.ld at hl
  split at hl
  · rename_i l hc
    obtain ⟨p, c, e, fz, h1, h2, h3, h4, h5⟩ := H.cs hc
    have ho : o < l.length := (List.getElem?_eq_some_iff.1 hl).1
    obtain ⟨v', hv', hr⟩ := h5.get o v hl
    refine ⟨p, v', h1, ?_, hr⟩
    rw [cell_at h2]
    rw [List.getElem?_take, if_pos ho, List.getElem?_drop] at hv'
    simpa using hv'
  · cases hl

theorem HR.ldN (H : HR P w0 ρ X h w) {n o k : Nat} {vs : List AV} (hl : h.ldN (n, o) k = some vs) :
    ∃ p vs', ρ n = some p ∧ vs'.length = k ∧ (∀ j v, vs'[j]? = some v → w.cell? ⟨p.1, p.2.1 + o + j, none⟩ = some v) ∧ VRs ρ vs vs' := by
  unfold Heap.ldN at hl
  split at hl
  · rename_i l hc
    obtain ⟨p, c, e, fz, h1, h2, h3, h4, h5⟩ := H.cs hc
    split at hl
    · rename_i hk
      cases hl
      simp only at hk
      refine ⟨p, (((c.toList.drop p.2.1).take l.length).drop o).take k, h1, ?_, ?_, (h5.drop o).take k⟩
      · have := h5.length
        simp only [List.length_take, List.length_drop, Array.length_toList] at this ⊢
        omega
      · intro j v hv
        rw [cell_at h2]
        have hj : j < k := by
          have := (List.getElem?_eq_some_iff.1 hv).1
          simp only [List.length_take] at this
          omega
        rw [List.getElem?_take, if_pos hj, List.getElem?_drop, List.getElem?_take, if_pos (by omega), List.getElem?_drop] at hv
        rw [show p.2.1 + o + j = p.2.1 + (o + j) by omega]
        simpa using hv
    · cases hl
  · cases hl

theorem rLoad {P : Program} {w : World} {ad : Addr} {v : Value} (h : w.cell? ad = some v) (m : Mode) : (load ad m).run P w = .ok v w := by
  simp [h]

theorem add_none (r x n : Nat) : (⟨r, x, none⟩ : Addr).add n = ⟨r, x + n, none⟩ := by
  unfold Addr.add
  split
  · rename_i h; subst h; rfl
  · rfl

theorem rLoadCells {P : Program} {w : World} {r x k : Nat} {vs : List Value} (hk : vs.length = k) (h : ∀ j v, vs[j]? = some v → w.cell? ⟨r, x + j, none⟩ = some v) :
    (loadCells ⟨r, x, none⟩ k).run P w = .ok vs.toArray w := by
  subst hk
  refine run_loadCells_list w ⟨r, x, none⟩ vs fun j v hv => ?_
  rw [add_none]
  exact h j v hv
end

end Go.Am

/- The abstract machine against the model: operations that turn the heap (stores, append, copy, maps), no calls. Conditions: those that each lemma names. -/
import Derived.Test.YtmpdpcamgkndnaaGreatDoorAmOps10
set_option linter.constructorNameAsVariable false
set_option linter.unusedSimpArgs false
set_option linter.unusedVariables false
namespace Go.Am
open Go.RowKit (Below)

section
variable {P : Program} {w0 : World} {ρ : Ren} {X : Frm} {h h' : Heap} {w : World} {t : List AV} {a : Act} {o : Oper} {v : AV} {op : AOp}

theorem set_same {α : Type} (xs : Array α) (i : Nat) (x : α) (h : xs[i]? = some x) : xs.setIfInBounds i x = xs := by
  apply Array.ext_getElem?
  intro j
  rw [Array.getElem?_setIfInBounds]
  by_cases hj : i = j
  · subst hj
    have := (Array.getElem?_eq_some_iff.1 h).1
    rw [if_pos rfl, if_pos this]; exact h.symm
  · rw [if_neg hj]

def wr (x i : Nat) (c : Array Value) (vs : List Value) : Array Value := (vs.zipIdx i).foldl (fun cs p => cs.setIfInBounds (x + p.2) p.1) c

theorem rStoreCells {r x : Nat} {e : TypeId} {fz : Nat × Nat} : ∀ (vs : List Value) (i : Nat) (c : Array Value) (w : World), w.heap[r]? = some (.cells c e fz) → (fz.1 = fz.2 ∨ c.size ≤ fz.1) → x + i + vs.length ≤ c.size →
    (∀ v ∈ vs, (∀ q, v ≠ .agg q) ∧ (∀ q, v ≠ .tuple q)) →
    ∃ w', (storeCells ⟨r, x, none⟩ vs i).run P w = .ok () w' ∧ w'.heap = w.heap.setIfInBounds r (.cells (wr x i c vs) e fz) ∧ w'.os = w.os ∧ w'.tape = w.tape ∧ w'.output = w.output
  | [], i, c, w, hc, hf, hl, hv => ⟨w, by simp [storeCells], by simp only [wr, List.zipIdx_nil, List.foldl_nil]; exact (set_same _ _ _ hc).symm, rfl, rfl, rfl⟩
  | v :: vs, i, c, w, hc, hf, hl, hv => by
    simp only [List.length_cons] at hl
    have hcell : w.cell? ⟨r, x + i, none⟩ = some (c[x + i]'(by omega)) := by rw [cell_at hc]; exact Array.getElem?_eq_getElem _
    have hfr : w.frozen? ⟨r, x + i, none⟩ = false := by
      obtain ⟨lo, hi⟩ := fz
      simp only [World.frozen?, hc, Bool.and_eq_false_iff, decide_eq_false_iff_not]
      simp only at hf
      omega
    have hset : w.setCell ⟨r, x + i, none⟩ v = { w with heap := w.heap.setIfInBounds r (.cells (c.setIfInBounds (x + i) v) e fz) } := by
      unfold World.setCell
      congr 1
      apply Array.ext_getElem?
      intro j
      rw [Array.getElem?_modify, Array.getElem?_setIfInBounds]
      by_cases hj : r = j
      · subst hj
        have := (Array.getElem?_eq_some_iff.1 hc).1
        rw [if_pos rfl, if_pos rfl, if_pos this, hc]; rfl
      · rw [if_neg hj, if_neg hj]
    have hst : (store ⟨r, x + i, none⟩ v).run P w = .ok () { w with heap := w.heap.setIfInBounds r (.cells (c.setIfInBounds (x + i) v) e fz) } := by
      rw [← hset]
      obtain ⟨h1, h2⟩ := hv v (by simp)
      cases v <;> first | exact absurd rfl (h1 _) | exact absurd rfl (h2 _) | simp [store, Sem.run, hcell, hfr]
    have hr : r < w.heap.size := (Array.getElem?_eq_some_iff.1 hc).1
    obtain ⟨w', g1, g2, g3, g4, g5⟩ := rStoreCells (r := r) (x := x) (e := e) (fz := fz) vs (i + 1) (c.setIfInBounds (x + i) v) { w with heap := w.heap.setIfInBounds r (.cells (c.setIfInBounds (x + i) v) e fz) } (by show (w.heap.setIfInBounds r _)[r]? = _; rw [Array.getElem?_setIfInBounds, if_pos rfl, if_pos hr]) (by rw [Array.size_setIfInBounds]; exact hf) (by rw [Array.size_setIfInBounds]; omega) fun u hu => hv u (by simp [hu])
    refine ⟨w', ?_, ?_, g3, g4, g5⟩
    · simp only [storeCells, Sem.run_bind, add_none, hst, Result.andThen_ok, g1]
    · rw [g2]
      simp only [wr, List.zipIdx_cons, List.foldl_cons]
      apply Array.ext_getElem?
      intro j
      simp only [Array.getElem?_setIfInBounds, Array.size_setIfInBounds]
      by_cases hj : r = j
      · subst hj; simp [hr]
      · simp [hj]

theorem wr_get {x i : Nat} {vs : List Value} {c : Array Value} (h : x + i + vs.length ≤ c.size) (j : Nat) : (wr x i c vs)[j]? = if x + i ≤ j ∧ j < x + i + vs.length then vs[j - (x + i)]? else c[j]? :=
  foldl_fill_get x vs i c j h
theorem wr_size {x i : Nat} {vs : List Value} {c : Array Value} : (wr x i c vs).size = c.size := foldl_fill_size x vs i c

/-- Cells written into a row: what the abstract row is then. -/
theorem splice_wr {l vs : List AV} {vs' : List Value} {c : Array Value} {base o : Nat} (hl : VRs ρ l ((c.toList.drop base).take l.length)) (hv : VRs ρ vs vs') (ho : o + vs.length ≤ l.length) (hb : base + l.length ≤ c.size) :
    VRs ρ (splice l o vs) (((wr (base + o) 0 c vs').toList.drop base).take (splice l o vs).length) := by
  have e1 := hv.length
  have hsl := splice_length l o vs ho
  refine VRs.of_get ?_ fun i b hi => ?_
  · simp only [List.length_take, List.length_drop, Array.length_toList, wr_size, hsl]; omega
  · have hil : i < l.length := by
      have := (List.getElem?_eq_some_iff.1 hi).1
      omega
    rw [splice_get _ _ _ ho] at hi
    have hg : (List.take (splice l o vs).length (List.drop base (wr (base + o) 0 c vs').toList))[i]? = (wr (base + o) 0 c vs')[base + i]? := by
      rw [List.getElem?_take, if_pos (by omega), List.getElem?_drop]; simp
    rw [hg, wr_get (by omega)]
    have hold : ∀ b, l[i]? = some b → ∃ v, c[base + i]? = some v ∧ VR ρ b v := by
      intro b hb'
      obtain ⟨v, hv, hr⟩ := hl.get i b hb'
      rw [List.getElem?_take, if_pos hil, List.getElem?_drop] at hv
      exact ⟨v, by simpa using hv, hr⟩
    by_cases c1 : i < o
    · rw [if_pos c1] at hi
      rw [if_neg (by omega)]
      exact hold b hi
    · rw [if_neg c1] at hi
      by_cases c2 : i < o + vs.length
      · rw [if_pos c2] at hi
        rw [if_pos (by omega), show base + i - (base + o + 0) = i - o by omega]
        exact hv.get _ b hi
      · rw [if_neg c2] at hi
        rw [if_neg (by omega)]
        exact hold b hi

theorem VRs.flat : ∀ {l : List AV} {vs : List Value}, VRs ρ l vs → l.all AV.flat = true → ∀ v ∈ vs, (∀ q, v ≠ .agg q) ∧ (∀ q, v ≠ .tuple q)
  | [], [], _, _, v, hv => by simp at hv
  | x :: l, u :: vs, hr, hf, v, hv => by
    simp only [VRs] at hr
    simp only [List.all_cons, Bool.and_eq_true] at hf
    rcases List.mem_cons.1 hv with rfl | hv
    · exact hr.1.flat hf.1
    · exact VRs.flat hr.2 hf.2 v hv
  | [], _ :: _, r, _, _, _ => by simp only [VRs] at r
  | _ :: _, [], r, _, _, _ => by simp only [VRs] at r

/-- A store of cells. -/
theorem HR.stN (H : HR P w0 ρ X h w) {n o : Nat} {vs : List AV} {vs' : List Value} {p : Nat × Nat × Nat} (hp : ρ n = some p) (hs : h.stN (n, o) vs = some h') (hv : VRs ρ vs vs') :
    ∃ w', (storeCells ⟨p.1, p.2.1 + o, none⟩ vs').run P w = .ok () w' ∧ HR P w0 ρ X h' w' := by
  cases vs with
  | nil =>
    simp only [Heap.stN, Option.some.injEq] at hs
    subst hs
    have : vs' = [] := List.eq_nil_of_length_eq_zero hv.length.symm
    subst this
    exact ⟨w, by simp [storeCells], H⟩
  | cons u us =>
    simp only [Heap.stN] at hs
    split at hs
    · rename_i e l hg
      split at hs
      · rename_i hc
        cases hs
        obtain ⟨p', c, lo, hi, g1, g2, g3, g4, g5, g6, g7⟩ := H.cells hg
        rw [hp] at g1; cases g1
        have hlen := hv.length
        obtain ⟨w', k1, k2, k3, k4, k5⟩ := rStoreCells (P := P) (x := p.2.1 + o) vs' 0 c w g2 g4 (by omega) (hv.flat hc.2)
        refine ⟨w', k1, H.upd (b := .cells e l false) hg rfl hp k2 k3 k4 k5 ?_⟩
        refine ⟨_, lo, hi, rfl, by rw [wr_size]; exact g3, by rw [wr_size]; exact g4, by rw [wr_size, splice_length _ _ _ hc.1]; exact g5, ?_⟩
        exact splice_wr g6 hv hc.1 g5
      · cases hs
    · cases hs

/-- The operation is carried out, no call: what it comes to. -/
def Did (P : Program) (w0 : World) (ρ : Ren) (X : Frm) (a : Act) (w : World) (o : Oper) (K : AV → Heap → Prop) : Prop :=
  ∃ nx v' w' v h' ρ', (execOp a.eval o).run P w = .ok nx w' ∧ (nx = .value v' ∨ (nx = .skip ∧ v' = undef)) ∧ K v h' ∧ ρ.le ρ' ∧ HR P w0 ρ' X h' w' ∧ VR ρ' v v'

theorem e_store (H : HR P w0 ρ X h w) (ht : VRs ρ t a.tmps.toList) {ty : TypeId} {n : Nat} {x y : Operand} {q : Nat × Nat} {K : AV → Heap → Prop} (ho : o.op = .store ty x y) (hs : Tp.size P ty = some n)
    (hx : VR ρ (.ptr (some q)) (a.eval x)) (hl : ((cO P y).ev t).cells.length = n) (hst : h.stN q ((cO P y).ev t).cells = some h') (hK : K undefA h') : Did P w0 ρ X a w o K := by
  obtain ⟨p, g1, g2⟩ := vPtr hx
  have hy := H.ev ht y
  have hflat : ((cO P y).ev t).cells.all AV.flat = true := by
    unfold Heap.stN at hst
    split at hst
    · rename_i heq; rw [heq]; rfl
    · split at hst
      · split at hst
        · rename_i hc; exact hc.2
        · cases hst
      · cases hst
  have hyc := hy.cells' hl hflat
  obtain ⟨w', k1, k2⟩ := H.stN (n := q.1) (o := q.2) g1 hst hyc
  refine ⟨.skip, undef, w', undefA, h', ρ, ?_, .inr ⟨rfl, rfl⟩, hK, Ren.le_refl _, k2, VR.undef _⟩
  have hsz : ¬ (a.eval y).cells.size ≠ n := by
    have := hyc.length
    simp only [Array.length_toList] at this
    omega
  simp only [execOp, ho, g2, Instr.storeAt, Instr.sureAddr, storeVar, Sem.run_bind, Sem.run_pure, Result.andThen_ok, rSize hs, hsz, if_false, Sem.run_ite, k1]

end
end Go.Am

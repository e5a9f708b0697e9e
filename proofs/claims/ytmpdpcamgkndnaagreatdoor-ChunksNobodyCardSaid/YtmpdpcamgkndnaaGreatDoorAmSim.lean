/- The abstract machine against the model: how values and heaps stand for the model's. Conditions: those that each lemma names. -/
import Derived.Test.YtmpdpcamgkndnaaGreatDoorAmCode
import Derived.Below
set_option linter.constructorNameAsVariable false
set_option linter.unusedSimpArgs false
set_option linter.unusedVariables false
namespace Go.Am

/-! ### The tree -/
theorem Tr.get_nil {α : Type} (n : Nat) : (Tr.nil : Tr α).get n = none := by
  cases n <;> rfl

theorem Tr.get_set {α : Type} : ∀ (f : Nat) (t : Tr α) (n m : Nat) (b : Option α), n < f → (Tr.set f t n b).get m = if m = n then b else t.get m
  | 0, _, _, _, _, h => by omega
  | f + 1, .nil, n, m, b, h => by
    unfold Tr.set
    simp only []
    by_cases h0 : n = 0
    · simp only [h0, if_true, Tr.get, Tr.get_nil]
      by_cases hm : m = 0 <;> simp [hm]
    · simp only [h0, if_false]
      by_cases h1 : n % 2 = 1
      · simp only [h1, if_true, Tr.get, Tr.get_nil]
        rw [Tr.get_set f .nil (n / 2) (m / 2) b (by omega), Tr.get_nil]
        by_cases hm : m = 0
        · simp only [hm, if_true]
          rw [if_neg (by omega)]
        · simp only [hm, if_false]
          by_cases hm1 : m % 2 = 1
          · simp only [hm1, if_true]
            by_cases he : m = n
            · simp [he]
            · rw [if_neg (by omega), if_neg he]
          · simp only [hm1, if_false]
            rw [if_neg (by omega)]
      · simp only [h1, if_false, Tr.get, Tr.get_nil]
        rw [Tr.get_set f .nil (n / 2 - 1) (m / 2 - 1) b (by omega), Tr.get_nil]
        by_cases hm : m = 0
        · simp only [hm, if_true]
          rw [if_neg (by omega)]
        · simp only [hm, if_false]
          by_cases hm1 : m % 2 = 1
          · simp only [hm1, if_true]
            rw [if_neg (by omega)]
          · simp only [hm1, if_false]
            by_cases he : m = n
            · simp [he]
            · rw [if_neg (by omega), if_neg he]
  | f + 1, .node l v r, n, m, b, h => by
    unfold Tr.set
    simp only []
    by_cases h0 : n = 0
    · simp only [h0, if_true, Tr.get]
      by_cases hm : m = 0 <;> simp [hm]
    · simp only [h0, if_false]
      by_cases h1 : n % 2 = 1
      · simp only [h1, if_true, Tr.get]
        rw [Tr.get_set f l (n / 2) (m / 2) b (by omega)]
        by_cases hm : m = 0
        · simp only [hm, if_true]
          rw [if_neg (by omega)]
        · simp only [hm, if_false]
          by_cases hm1 : m % 2 = 1
          · simp only [hm1, if_true]
            by_cases he : m = n
            · simp [he]
            · rw [if_neg (by omega), if_neg he]
          · simp only [hm1, if_false]
            rw [if_neg (by omega)]
      · simp only [h1, if_false, Tr.get]
        rw [Tr.get_set f r (n / 2 - 1) (m / 2 - 1) b (by omega)]
        by_cases hm : m = 0
        · simp only [hm, if_true]
          rw [if_neg (by omega)]
        · simp only [hm, if_false]
          by_cases hm1 : m % 2 = 1
          · simp only [hm1, if_true]
            rw [if_neg (by omega)]
          · simp only [hm1, if_false]
            by_cases he : m = n
            · simp [he]
            · rw [if_neg (by omega), if_neg he]

/-! ### Heaps -/
theorem Heap.get_put (h : Heap) (n m : Nat) (b : Blk) (hn : n < h.next) : (h.put n b).get m = if m = n then some b else h.get m := by
  unfold Heap.get Heap.put
  simp only []
  rw [Tr.get_set _ _ _ _ _ (Nat.lt_succ_self n)]
  by_cases hm : m = n
  · simp [hm, hn]
  · simp [hm]
theorem Heap.get_del (h : Heap) (n m : Nat) : (h.del n).get m = if m = n then none else h.get m := by
  unfold Heap.get Heap.del
  simp only []
  rw [Tr.get_set _ _ _ _ _ (Nat.lt_succ_self n)]
  by_cases hm : m = n
  · simp [hm]
  · simp [hm]
theorem Heap.get_new (h : Heap) (m : Nat) (b : Blk) : (h.new b).get m = if m = h.next then some b else h.get m := by
  unfold Heap.get Heap.new
  simp only []
  rw [Tr.get_set _ _ _ _ _ (Nat.lt_succ_self h.next)]
  by_cases hm : m = h.next
  · simp [hm]
  · simp only [hm, if_false]
    by_cases hl : m < h.next
    · simp [hl, Nat.lt_succ_of_lt hl]
    · simp [hl, show ¬ m < h.next + 1 by omega]
theorem Heap.get_lt {h : Heap} {n : Nat} {b : Blk} (hg : h.get n = some b) : n < h.next := by
  unfold Heap.get at hg
  split at hg
  · assumption
  · cases hg
@[simp] theorem Heap.put_next (h : Heap) (n : Nat) (b : Blk) : (h.put n b).next = h.next := rfl
@[simp] theorem Heap.del_next (h : Heap) (n : Nat) : (h.del n).next = h.next := rfl
@[simp] theorem Heap.new_next (h : Heap) (b : Blk) : (h.new b).next = h.next + 1 := rfl

/-! ### Values -/
/-- Where a block lies: the model's block, the offset of its first cell there, how many cells the model's block has. -/
abbrev Ren := Nat → Option (Nat × Nat × Nat)
def Ren.le (ρ ρ' : Ren) : Prop := ∀ n p, ρ n = some p → ρ' n = some p
theorem Ren.le_refl (ρ : Ren) : ρ.le ρ := fun _ _ h => h
theorem Ren.le_trans {ρ ρ' ρ'' : Ren} (h : ρ.le ρ') (h' : ρ'.le ρ'') : ρ.le ρ'' := fun n p e => h' n p (h n p e)
def Ren.put (ρ : Ren) (n : Nat) (p : Nat × Nat × Nat) : Ren := fun m => if m = n then some p else ρ m
theorem Ren.le_put {ρ : Ren} {n : Nat} {p : Nat × Nat × Nat} (h : ρ n = none) : ρ.le (ρ.put n p) := fun m q e => by
  unfold Ren.put
  split
  · rename_i hm; subst hm; rw [h] at e; cases e
  · exact e
theorem Ren.put_same (ρ : Ren) (n : Nat) (p : Nat × Nat × Nat) : ρ.put n p n = some p := by simp [Ren.put]
theorem Ren.put_ne (ρ : Ren) {n m : Nat} (p : Nat × Nat × Nat) (h : m ≠ n) : ρ.put n p m = ρ m := by simp [Ren.put, h]

def exR (ex : Option Nat) (cap cap' x sz : Nat) : Prop :=
  match ex with
  | none => cap' = cap
  | some es => cap ≤ cap' ∧ x + cap' * es ≤ sz

mutual
def VR (ρ : Ren) : AV → Value → Prop
  | .top, _ => True
  | .bool b, v => v = .bool b
  | .int k n, v => v = .int k n
  | .str l, v => ∃ s : ByteArray, v = .string s ∧ s.data.toList = l
  | .ptr none, v => v = .pointer none
  | .ptr (some a), v => ∃ p, ρ a.1 = some p ∧ v = .pointer (some ⟨p.1, p.2.1 + a.2, none⟩)
  | .sl none len cap _, v => len = 0 ∧ cap = 0 ∧ v = .slice none 0 0
  | .sl (some a) len cap ex, v => ∃ p x cap', ρ a.1 = some p ∧ v = .slice (some ⟨p.1, x, none⟩) len cap' ∧ len ≤ cap ∧ (x = p.2.1 + a.2 ∨ cap' = 0) ∧ exR ex cap cap' x p.2.2
  | .map none, v => v = .map none
  | .map (some n), v => ∃ p, ρ n = some p ∧ v = .map (some p.1)
  | .fn f cs, v => ∃ cs' : Array Value, v = .func (.func f) #[] cs' ∧ VRs ρ cs cs'.toList
  | .yield l, v => ∃ p, ρ l = some p ∧ v = .func (.yield p.1) #[] #[]
  | .nilf, v => v = .nilFunc
  | .agg l, v => ∃ cs : Array Value, v = .agg cs ∧ VRs ρ l cs.toList
  | .tup l, v => ∃ cs : Array Value, v = .tuple cs ∧ VRs ρ l cs.toList
def VRs (ρ : Ren) : List AV → List Value → Prop
  | [], [] => True
  | a :: as, v :: vs => VR ρ a v ∧ VRs ρ as vs
  | _, _ => False
end

mutual
theorem VR.mono {ρ ρ' : Ren} (h : ρ.le ρ') : ∀ (a : AV) (v : Value), VR ρ a v → VR ρ' a v
  | .top, _, _ => by simp only [VR]
  | .bool b, v, r => by simpa only [VR] using r
  | .int k n, v, r => by simpa only [VR] using r
  | .str l, v, r => by simpa only [VR] using r
  | .ptr none, v, r => by simpa only [VR] using r
  | .ptr (some a), v, r => by
    simp only [VR] at r ⊢
    obtain ⟨p, hp, e⟩ := r
    exact ⟨p, h _ _ hp, e⟩
  | .sl none len cap _, v, r => by simpa only [VR] using r
  | .sl (some a) len cap ex, v, r => by
    simp only [VR] at r ⊢
    obtain ⟨p, x, c, hp, e⟩ := r
    exact ⟨p, x, c, h _ _ hp, e⟩
  | .map none, v, r => by simpa only [VR] using r
  | .map (some n), v, r => by
    simp only [VR] at r ⊢
    obtain ⟨p, hp, e⟩ := r
    exact ⟨p, h _ _ hp, e⟩
  | .fn f cs, v, r => by
    simp only [VR] at r ⊢
    obtain ⟨c, e, hc⟩ := r
    exact ⟨c, e, VRs.mono h _ _ hc⟩
  | .yield l, v, r => by
    simp only [VR] at r ⊢
    obtain ⟨p, hp, e⟩ := r
    exact ⟨p, h _ _ hp, e⟩
  | .nilf, v, r => by simpa only [VR] using r
  | .agg l, v, r => by
    simp only [VR] at r ⊢
    obtain ⟨c, e, hc⟩ := r
    exact ⟨c, e, VRs.mono h _ _ hc⟩
  | .tup l, v, r => by
    simp only [VR] at r ⊢
    obtain ⟨c, e, hc⟩ := r
    exact ⟨c, e, VRs.mono h _ _ hc⟩
theorem VRs.mono {ρ ρ' : Ren} (h : ρ.le ρ') : ∀ (l : List AV) (vs : List Value), VRs ρ l vs → VRs ρ' l vs
  | [], [], _ => by simp only [VRs]
  | a :: as, v :: vs, r => by
    simp only [VRs] at r ⊢
    exact ⟨VR.mono h _ _ r.1, VRs.mono h _ _ r.2⟩
  | [], _ :: _, r => by simp only [VRs] at r
  | _ :: _, [], r => by simp only [VRs] at r
end

theorem VRs.length {ρ : Ren} : ∀ {l : List AV} {vs : List Value}, VRs ρ l vs → l.length = vs.length
  | [], [], _ => rfl
  | a :: as, v :: vs, r => by
    simp only [VRs] at r
    simp [VRs.length r.2]
  | [], _ :: _, r => by simp only [VRs] at r
  | _ :: _, [], r => by simp only [VRs] at r

theorem VRs.get {ρ : Ren} : ∀ {l : List AV} {vs : List Value}, VRs ρ l vs → ∀ (i : Nat) (a : AV), l[i]? = some a → ∃ v, vs[i]? = some v ∧ VR ρ a v
  | [], [], _, i, a, h => by simp at h
  | a :: as, v :: vs, r, 0, b, h => by
    simp only [VRs] at r
    simp only [List.getElem?_cons_zero, Option.some.injEq] at h
    subst h
    exact ⟨v, rfl, r.1⟩
  | a :: as, v :: vs, r, i + 1, b, h => by
    simp only [VRs] at r
    simp only [List.getElem?_cons_succ] at h ⊢
    exact VRs.get r.2 i b h
  | [], _ :: _, r, _, _, _ => by simp only [VRs] at r
  | _ :: _, [], r, _, _, _ => by simp only [VRs] at r

theorem VRs.of_get {ρ : Ren} : ∀ {l : List AV} {vs : List Value}, l.length = vs.length → (∀ (i : Nat) (a : AV), l[i]? = some a → ∃ v, vs[i]? = some v ∧ VR ρ a v) → VRs ρ l vs
  | [], [], _, _ => by simp only [VRs]
  | a :: as, v :: vs, hl, h => by
    simp only [VRs]
    obtain ⟨u, hu, hr⟩ := h 0 a rfl
    simp only [List.getElem?_cons_zero, Option.some.injEq] at hu
    subst hu
    refine ⟨hr, VRs.of_get (by simpa using hl) fun i b hb => ?_⟩
    have := h (i + 1) b (by simpa using hb)
    simpa using this
  | [], _ :: _, hl, _ => by simp at hl
  | _ :: _, [], hl, _ => by simp at hl

theorem VRs.append {ρ : Ren} : ∀ {l : List AV} {vs : List Value} {l' : List AV} {vs' : List Value}, VRs ρ l vs → VRs ρ l' vs' → VRs ρ (l ++ l') (vs ++ vs')
  | [], [], _, _, _, h => h
  | a :: as, v :: vs, _, _, h, h' => by
    simp only [VRs, List.cons_append] at h ⊢
    exact ⟨h.1, VRs.append h.2 h'⟩
  | [], _ :: _, _, _, r, _ => by simp only [VRs] at r
  | _ :: _, [], _, _, r, _ => by simp only [VRs] at r

theorem VRs.take {ρ : Ren} : ∀ {l : List AV} {vs : List Value} (n : Nat), VRs ρ l vs → VRs ρ (l.take n) (vs.take n)
  | [], [], n, _ => by simp [VRs]
  | a :: as, v :: vs, 0, _ => by simp [VRs]
  | a :: as, v :: vs, n + 1, h => by
    simp only [VRs, List.take_succ_cons] at h ⊢
    exact ⟨h.1, VRs.take n h.2⟩
  | [], _ :: _, _, r => by simp only [VRs] at r
  | _ :: _, [], _, r => by simp only [VRs] at r

theorem VRs.drop {ρ : Ren} : ∀ {l : List AV} {vs : List Value} (n : Nat), VRs ρ l vs → VRs ρ (l.drop n) (vs.drop n)
  | [], [], n, _ => by simp [VRs]
  | a :: as, v :: vs, 0, h => h
  | a :: as, v :: vs, n + 1, h => by
    simp only [VRs] at h
    simpa using VRs.drop n h.2
  | [], _ :: _, _, r => by simp only [VRs] at r
  | _ :: _, [], _, r => by simp only [VRs] at r

/-- The cells of a value. -/
theorem VR.cells {ρ : Ren} {a : AV} {v : Value} (h : VR ρ a v) (ht : ∀ l, a ≠ .tup l) (hn : a ≠ .top) : VRs ρ a.cells v.cells.toList := by
  cases a with
  | top => exact absurd rfl hn
  | tup l => exact absurd rfl (ht l)
  | agg l =>
    simp only [VR] at h
    obtain ⟨cs, rfl, hc⟩ := h
    exact hc
  | bool b => simp only [VR] at h; subst h; simp [AV.cells, Value.cells, VRs, VR]
  | int k n => simp only [VR] at h; subst h; simp [AV.cells, Value.cells, VRs, VR]
  | str l =>
    have h' := h
    simp only [VR] at h
    obtain ⟨s, rfl, _⟩ := h
    simpa [AV.cells, Value.cells, VRs] using h'
  | ptr p =>
    have h' := h
    cases p with
    | none => simp only [VR] at h; subst h; simp [AV.cells, Value.cells, VRs, VR]
    | some p =>
      simp only [VR] at h
      obtain ⟨q, _, rfl⟩ := h
      simpa [AV.cells, Value.cells, VRs] using h'
  | sl p len cap ex =>
    have h' := h
    cases p with
    | none =>
      simp only [VR] at h
      obtain ⟨_, _, rfl⟩ := h
      simpa [AV.cells, Value.cells, VRs] using h'
    | some p =>
      simp only [VR] at h
      obtain ⟨q, x, c, _, rfl, _⟩ := h
      simpa [AV.cells, Value.cells, VRs] using h'
  | map r =>
    have h' := h
    cases r with
    | none => simp only [VR] at h; subst h; simp [AV.cells, Value.cells, VRs, VR]
    | some p =>
      simp only [VR] at h
      obtain ⟨q, _, rfl⟩ := h
      simpa [AV.cells, Value.cells, VRs] using h'
  | fn f cs =>
    have h' := h
    simp only [VR] at h
    obtain ⟨c, rfl, _⟩ := h
    simpa [AV.cells, Value.cells, VRs] using h'
  | yield l =>
    have h' := h
    simp only [VR] at h
    obtain ⟨c, _, rfl⟩ := h
    simpa [AV.cells, Value.cells, VRs] using h'
  | nilf => simp only [VR] at h; subst h; simp [AV.cells, Value.cells, VRs, VR]

/-- What may lie in a cell is neither a row nor a tuple. -/
theorem VR.flat {ρ : Ren} {a : AV} {v : Value} (h : VR ρ a v) (hf : a.flat = true) : (∀ c, v ≠ .agg c) ∧ (∀ c, v ≠ .tuple c) := by
  cases a with
  | top => simp [AV.flat] at hf
  | tup l => simp [AV.flat] at hf
  | agg l => simp [AV.flat] at hf
  | bool b => simp only [VR] at h; subst h; simp
  | int k n => simp only [VR] at h; subst h; simp
  | str l => simp only [VR] at h; obtain ⟨s, rfl, _⟩ := h; simp
  | ptr p =>
    cases p with
    | none => simp only [VR] at h; subst h; simp
    | some p => simp only [VR] at h; obtain ⟨q, _, rfl⟩ := h; simp
  | sl p len cap ex =>
    cases p with
    | none => simp only [VR] at h; obtain ⟨_, _, rfl⟩ := h; simp
    | some p => simp only [VR] at h; obtain ⟨q, x, c, _, rfl, _⟩ := h; simp
  | map r =>
    cases r with
    | none => simp only [VR] at h; subst h; simp
    | some p => simp only [VR] at h; obtain ⟨q, _, rfl⟩ := h; simp
  | fn f cs => simp only [VR] at h; obtain ⟨c, rfl, _⟩ := h; simp
  | yield l => simp only [VR] at h; obtain ⟨c, _, rfl⟩ := h; simp
  | nilf => simp only [VR] at h; subst h; simp

theorem VR.ofV1 (ρ : Ren) (v : Value) : VR ρ (AV.ofV1 v) v := by
  cases v with
  | bool b => simp [AV.ofV1, VR]
  | int k n => simp [AV.ofV1, VR]
  | string s => simp [AV.ofV1, VR]
  | pointer a => cases a <;> simp [AV.ofV1, VR]
  | slice a l c =>
    cases a with
    | none =>
      by_cases hc : l = 0 ∧ c = 0
      · obtain ⟨rfl, rfl⟩ := hc; simp [AV.ofV1, VR]
      · simp only [AV.ofV1, hc, if_false, VR]
    | some a => simp [AV.ofV1, VR]
  | map r => cases r <;> simp [AV.ofV1, VR]
  | nilFunc => simp [AV.ofV1, VR]
  | _ => simp [AV.ofV1, VR]

theorem VRs.ofV1 (ρ : Ren) : ∀ l : List Value, VRs ρ (l.map AV.ofV1) l
  | [] => by simp [VRs]
  | v :: l => by simp only [List.map_cons, VRs]; exact ⟨VR.ofV1 ρ v, VRs.ofV1 ρ l⟩

theorem VR.ofV (ρ : Ren) (v : Value) : VR ρ (AV.ofV v) v := by
  cases v with
  | agg cs => simp only [AV.ofV, VR]; exact ⟨cs, rfl, VRs.ofV1 ρ _⟩
  | tuple cs => simp only [AV.ofV, VR]; exact ⟨cs, rfl, VRs.ofV1 ρ _⟩
  | _ => simp only [AV.ofV]; exact VR.ofV1 ρ _

theorem VR.undef (ρ : Ren) : VR ρ undefA undef := by
  simp only [undefA, Go.undef, VR]
  exact ⟨#[], rfl, by simp [VRs]⟩

end Go.Am

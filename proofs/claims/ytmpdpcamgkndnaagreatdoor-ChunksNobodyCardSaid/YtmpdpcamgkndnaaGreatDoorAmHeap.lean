/- The abstract machine against the model: how a heap stands for a world, and what becomes of it when a block is made, turned, let go. Conditions: those that each lemma names. -/
import Derived.Test.YtmpdpcamgkndnaaGreatDoorAmSim
import Derived.Laws.Sem
import Derived.Laws.Cells
import Derived.Laws.World
set_option linter.constructorNameAsVariable false
set_option linter.unusedSimpArgs false
set_option linter.unusedVariables false
namespace Go.Am
open Go.RowKit (Below)

def AX.code : AX → Code
  | .normal => .skip
  | .exit id => .exit id
  | .ret => .ret

/-- Entries of a map. -/
def ER (ρ : Ren) : List (AV × AV × Nat) → List MapEntry → Prop
  | [], [] => True
  | a :: as, e :: es => VR ρ a.1 e.key ∧ VR ρ a.2.1 e.val ∧ a.2.2 = e.born ∧ ER ρ as es
  | _, _ => False

theorem ER.mono {ρ ρ' : Ren} (h : ρ.le ρ') : ∀ {l : List (AV × AV × Nat)} {es : List MapEntry}, ER ρ l es → ER ρ' l es
  | [], [], _ => trivial
  | a :: as, e :: es, r => ⟨r.1.mono h, r.2.1.mono h, r.2.2.1, ER.mono h r.2.2.2⟩
  | [], _ :: _, r => r
  | _ :: _, [], r => r

/-- How a block stands for the model's. -/
def BR (P : Program) (ρ : Ren) (p : Nat × Nat × Nat) : Blk → Option Obj → Prop
  | .cells e l _, o => ∃ (c : Array Value) (lo hi : Nat), o = some (.cells c e (lo, hi)) ∧ c.size = p.2.2 ∧ (lo = hi ∨ c.size ≤ lo) ∧ p.2.1 + l.length ≤ c.size ∧ VRs ρ l ((c.toList.drop p.2.1).take l.length)
  | .map es clock, o => ∃ es' : Array MapEntry, o = some (.map es' clock) ∧ ER ρ es es'.toList
  | .iter m since seen stepped, o => p.2.1 = 0 ∧ ∃ m', o = some (.mapIter m' since seen.toArray stepped) ∧
      (match m with
       | none => m' = none
       | some n => ∃ q, ρ n = some q ∧ m' = some q.1)
  | .loop st pend tmps ps asg body dfr, o => p.2.1 = 0 ∧ ∃ fn tm ca cb q, o = some (.loop { state := st, pending := pend.map AX.code, fn, tmps := tm, params := ps.toArray, assign := ca, body := cb, defers := q }) ∧
      VRs ρ tmps tm.toList ∧ cCode P ca = some asg.erase ∧ cCode P cb = some body.erase ∧ (∃ s, ρ dfr = some (q, s)) ∧ pend ≠ some .normal
  | .dfr b, o => o = some (.deferred (if b then some [] else none))

theorem BR.mono {P : Program} {ρ ρ' : Ren} (h : ρ.le ρ') {p : Nat × Nat × Nat} : ∀ {b : Blk} {o : Option Obj}, BR P ρ p b o → BR P ρ' p b o
  | .cells _ _ _, _, ⟨c, lo, hi, a, b, d, e, f⟩ => ⟨c, lo, hi, a, b, d, e, f.mono h⟩
  | .map _ _, _, ⟨es, a, b⟩ => ⟨es, a, b.mono h⟩
  | .iter none _ _ _, _, ⟨z, m', a, b⟩ => ⟨z, m', a, b⟩
  | .iter (some n) _ _ _, _, ⟨z, m', a, q, hq, b⟩ => ⟨z, m', a, q, h _ _ hq, b⟩
  | .loop .., _, ⟨z, fn, tm, ca, cb, q, a, b, c, d, ⟨s, hs⟩, np⟩ => ⟨z, fn, tm, ca, cb, q, a, b.mono h, c, d, ⟨s, h _ _ hs⟩, np⟩
  | .dfr _, _, a => a

theorem BR.none {P : Program} {ρ : Ren} {p : Nat × Nat × Nat} {b : Blk} (h : BR P ρ p b none) : False := by
  cases b with
  | cells e l ro => obtain ⟨c, lo, hi, a, _⟩ := h; cases a
  | map es c => obtain ⟨es, a, _⟩ := h; cases a
  | iter m s e t => obtain ⟨_, m', a, _⟩ := h; cases a
  | loop => obtain ⟨_, fn, tm, ca, cb, q, a, _⟩ := h; cases a
  | dfr b => cases h

theorem BR.lt {P : Program} {ρ : Ren} {p : Nat × Nat × Nat} {b : Blk} {w : World} {r : Nat} (h : BR P ρ p b (w.heap[r]?)) : r < w.heap.size := by
  rcases Nat.lt_or_ge r w.heap.size with h' | h'
  · exact h'
  · rw [Array.getElem?_eq_none h'] at h; exact h.none.elim

def Blk.wr : Blk → Bool
  | .cells _ _ ro => !ro
  | _ => true

/-- What stands beside the heap: blocks under their names, and names that are not given out yet. -/
structure Frm where
  x : Nat → Option Blk
  z : Nat → Bool

def Lv (h : Heap) (X : Frm) (n : Nat) (b : Blk) : Prop := h.get n = some b ∨ X.x n = some b

structure HR (P : Program) (w0 : World) (ρ : Ren) (X : Frm) (h : Heap) (w : World) : Prop where
  below : Below w0.heap.size w0 w
  glob : ∀ n, n < P.globals.size → ∃ sz, ρ n = some (n, 0, sz)
  live : ∀ n b, Lv h X n b → ∃ p, ρ n = some p ∧ BR P ρ p b (w.heap[p.1]?) ∧ (b.wr = true → w0.heap.size ≤ p.1)
  inj : ∀ n m b c p q, Lv h X n b → b.wr = true → Lv h X m c → ρ n = some p → ρ m = some q → p.1 = q.1 → n = m
  disj : ∀ n b, h.get n = some b → X.x n = none
  fresh : ∀ n, h.next ≤ n → ρ n = none ∧ X.x n = none
  dead : ∀ n, X.z n = true → ρ n = none ∧ n < h.next

section
variable {P : Program} {w0 : World} {ρ : Ren} {X : Frm} {h : Heap} {w : World}

theorem HR.get (H : HR P w0 ρ X h w) {n : Nat} {b : Blk} (hg : h.get n = some b) : ∃ p, ρ n = some p ∧ BR P ρ p b (w.heap[p.1]?) ∧ (b.wr = true → w0.heap.size ≤ p.1) := H.live n b (.inl hg)

/-- The same heap, more draws. -/
theorem HR.same (H : HR P w0 ρ X h w) {w' : World} (hh : w'.heap = w.heap) (hb : Below w0.heap.size w0 w') : HR P w0 ρ X h w' :=
  ⟨hb, H.glob, by rw [hh]; exact H.live, H.inj, H.disj, H.fresh, H.dead⟩

theorem HR.drew (H : HR P w0 ρ X h w) (k : Nat) : HR P w0 ρ X h { w with drawn := k } := H.same rfl ⟨H.below.os, H.below.tape, H.below.output, H.below.size, H.below.block⟩

theorem below_step {B : Nat} {w0 w w' : World} (h : Below B w0 w) (ho : w'.os = w.os) (ht : w'.tape = w.tape) (hp : w'.output = w.output) (hs : w.heap.size ≤ w'.heap.size)
    (hk : ∀ k, k < B → w'.heap[k]? = w.heap[k]?) : Below B w0 w' :=
  ⟨ho.trans h.os, ht.trans h.tape, hp.trans h.output, Nat.le_trans h.size hs, fun k hlt => (hk k hlt).trans (h.block k hlt)⟩

/-- A new block. -/
theorem HR.new (H : HR P w0 ρ X h w) {o : Obj} {b : Blk} {sz : Nat} {w' : World} (hh : w'.heap = w.heap.push o) (ho : w'.os = w.os) (ht : w'.tape = w.tape) (hp : w'.output = w.output)
    (hb : BR P (ρ.put h.next (w.heap.size, 0, sz)) (w.heap.size, 0, sz) b (some o)) : HR P w0 (ρ.put h.next (w.heap.size, 0, sz)) X (h.new b) w' := by
  have hf := H.fresh h.next (Nat.le_refl _)
  have hle : ρ.le (ρ.put h.next (w.heap.size, 0, sz)) := Ren.le_put hf.1
  have hold : ∀ r, r < w.heap.size → w'.heap[r]? = w.heap[r]? := fun r hr => by
    rw [hh, Array.getElem?_push]
    rw [if_neg (by omega)]
  have hlv : ∀ n c, Lv (h.new b) X n c → (n = h.next ∧ c = b) ∨ (n ≠ h.next ∧ Lv h X n c) := by
    intro n c hl
    rcases hl with hl | hl
    · rw [Heap.get_new] at hl
      split at hl
      · rename_i he; cases hl; exact .inl ⟨he, rfl⟩
      · rename_i he; exact .inr ⟨he, .inl hl⟩
    · refine .inr ⟨?_, .inr hl⟩
      intro he; subst he; rw [hf.2] at hl; cases hl
  refine ⟨?_, ?_, ?_, ?_, ?_, ?_, fun n hz => by
    obtain ⟨d1, d2⟩ := H.dead n hz
    exact ⟨by rw [Ren.put_ne _ _ (by omega)]; exact d1, by simp only [Heap.new_next]; omega⟩⟩
  · exact below_step H.below ho ht hp (by rw [hh]; simp) fun k hk => hold k (Nat.lt_of_lt_of_le hk H.below.size)
  · intro n hn
    obtain ⟨s, hs⟩ := H.glob n hn
    exact ⟨s, hle _ _ hs⟩
  · intro n c hl
    rcases hlv n c hl with ⟨rfl, rfl⟩ | ⟨hne, hl⟩
    · refine ⟨_, Ren.put_same _ _ _, ?_, fun _ => H.below.size⟩
      rw [hh]; simpa using hb
    · obtain ⟨p, hp', hbr, hw⟩ := H.live n c hl
      exact ⟨p, hle _ _ hp', by rw [hold _ hbr.lt]; exact hbr.mono hle, hw⟩
  · intro n m b1 b2 p q hn hwr hm hpn hqm he
    rcases hlv n b1 hn with ⟨rfl, rfl⟩ | ⟨hne, hn'⟩ <;> rcases hlv m b2 hm with ⟨rfl, rfl⟩ | ⟨hme, hm'⟩
    · rfl
    · rw [Ren.put_same] at hpn
      cases hpn
      rw [Ren.put_ne _ _ hme] at hqm
      obtain ⟨q', hq', hbr, _⟩ := H.live m b2 hm'
      rw [hq'] at hqm; cases hqm
      have := hbr.lt
      simp at he; omega
    · rw [Ren.put_same] at hqm
      cases hqm
      rw [Ren.put_ne _ _ hne] at hpn
      obtain ⟨p', hp', hbr, _⟩ := H.live n b1 hn'
      rw [hp'] at hpn; cases hpn
      have := hbr.lt
      simp at he; omega
    · rw [Ren.put_ne _ _ hne] at hpn
      rw [Ren.put_ne _ _ hme] at hqm
      exact H.inj n m b1 b2 p q hn' hwr hm' hpn hqm he
  · intro n c hg
    rw [Heap.get_new] at hg
    split at hg
    · rename_i he; subst he; exact hf.2
    · exact H.disj n c hg
  · intro n hn
    simp only [Heap.new_next] at hn
    have := H.fresh n (by omega)
    exact ⟨by rw [Ren.put_ne _ _ (by omega)]; exact this.1, this.2⟩

/-- A block that may be written is turned. -/
theorem HR.upd (H : HR P w0 ρ X h w) {n : Nat} {b b' : Blk} {p : Nat × Nat × Nat} {o' : Obj} {w' : World} (hg : h.get n = some b) (hwr : b.wr = true) (hρ : ρ n = some p)
    (hh : w'.heap = w.heap.setIfInBounds p.1 o') (ho : w'.os = w.os) (ht : w'.tape = w.tape) (hp : w'.output = w.output) (hb : BR P ρ p b' (some o')) : HR P w0 ρ X (h.put n b') w' := by
  obtain ⟨p', hp', hbr, hw⟩ := H.get hg
  rw [hρ] at hp'; cases hp'
  have hlt := hbr.lt
  have hn := Heap.get_lt hg
  have hother : ∀ r, r ≠ p.1 → w'.heap[r]? = w.heap[r]? := fun r hr => by
    rw [hh, Array.getElem?_setIfInBounds]
    rw [if_neg (by omega)]
  have hlv : ∀ m c, Lv (h.put n b') X m c → (m = n ∧ c = b') ∨ (m ≠ n ∧ Lv h X m c) := by
    intro m c hl
    rcases hl with hl | hl
    · rw [Heap.get_put _ _ _ _ hn] at hl
      split at hl
      · rename_i he; cases hl; exact .inl ⟨he, rfl⟩
      · rename_i he; exact .inr ⟨he, .inl hl⟩
    · refine .inr ⟨?_, .inr hl⟩
      intro he; subst he; rw [H.disj _ _ hg] at hl; cases hl
  have hother' : ∀ m c q, m ≠ n → Lv h X m c → ρ m = some q → q.1 ≠ p.1 := fun m c q hne hl hq he => hne ((H.inj n m b c p q (.inl hg) hwr hl hρ hq he.symm).symm)
  refine ⟨?_, H.glob, ?_, ?_, ?_, fun m hm => H.fresh m (by simpa using hm), fun m hz => by simpa using H.dead m hz⟩
  · exact below_step H.below ho ht hp (by rw [hh]; simp) fun k hk => hother k (by have := hw hwr; omega)
  · intro m c hl
    rcases hlv m c hl with ⟨rfl, rfl⟩ | ⟨hne, hl⟩
    · refine ⟨p, hρ, ?_, fun _ => hw hwr⟩
      rw [hh, Array.getElem?_setIfInBounds]
      simpa [hlt] using hb
    · obtain ⟨q, hq, hbr', hw'⟩ := H.live m c hl
      exact ⟨q, hq, by rw [hother _ (hother' m c q hne hl hq)]; exact hbr', hw'⟩
  · intro m m' b1 b2 q q' hm hwr1 hm' hq hq' he
    rcases hlv m b1 hm with ⟨rfl, rfl⟩ | ⟨hne, hm1⟩ <;> rcases hlv m' b2 hm' with ⟨rfl, rfl⟩ | ⟨hne', hm2⟩
    · rfl
    · rw [hρ] at hq; cases hq
      exact absurd he.symm (hother' m' b2 q' hne' hm2 hq')
    · rw [hρ] at hq'; cases hq'
      exact absurd he (hother' m b1 q hne hm1 hq)
    · exact H.inj m m' b1 b2 q q' hm1 hwr1 hm2 hq hq' he
  · intro m c hc
    rw [Heap.get_put _ _ _ _ hn] at hc
    split at hc
    · rename_i he; subst he; exact H.disj _ _ hg
    · exact H.disj m c hc

/-- A block is let go. -/
theorem HR.del (H : HR P w0 ρ X h w) (n : Nat) : HR P w0 ρ X (h.del n) w := by
  have hlv : ∀ m c, Lv (h.del n) X m c → Lv h X m c := by
    intro m c hl
    rcases hl with hl | hl
    · rw [Heap.get_del] at hl
      split at hl
      · cases hl
      · exact .inl hl
    · exact .inr hl
  refine ⟨H.below, H.glob, fun m c hl => H.live m c (hlv m c hl), fun m m' b1 b2 q q' hm hwr hm' => H.inj m m' b1 b2 q q' (hlv _ _ hm) hwr (hlv _ _ hm'), fun m c hc => ?_, fun m hm => H.fresh m (by simpa using hm), fun m hz => by simpa using H.dead m hz⟩
  rw [Heap.get_del] at hc
  split at hc
  · cases hc
  · exact H.disj m c hc

theorem Heap.get_move (h : Heap) (n m : Nat) (b : Blk) : ((h.del n).new b).get m = if m = h.next then some b else if m = n then none else h.get m := by
  rw [Heap.get_new, Heap.get_del]; rfl

/-- A block goes on under a new name: what it was is let go. -/
theorem HR.move (H : HR P w0 ρ X h w) {n : Nat} {b b' : Blk} {p q : Nat × Nat × Nat} {o' : Obj} {w' : World} (hg : h.get n = some b) (hwr : b.wr = true) (hρ : ρ n = some p) (hq : q.1 = p.1)
    (hh : w'.heap = w.heap.setIfInBounds p.1 o') (ho : w'.os = w.os) (ht : w'.tape = w.tape) (hp : w'.output = w.output) (hb : BR P (ρ.put h.next q) q b' (some o')) :
    HR P w0 (ρ.put h.next q) X ((h.del n).new b') w' := by
  obtain ⟨p', hp', hbr, hw⟩ := H.get hg
  rw [hρ] at hp'; cases hp'
  have hlt := hbr.lt
  have hn := Heap.get_lt hg
  have hf := H.fresh h.next (Nat.le_refl _)
  have hle : ρ.le (ρ.put h.next q) := Ren.le_put hf.1
  have hother : ∀ r, r ≠ p.1 → w'.heap[r]? = w.heap[r]? := fun r hr => by
    rw [hh, Array.getElem?_setIfInBounds]
    rw [if_neg (by omega)]
  have hlv : ∀ m c, Lv ((h.del n).new b') X m c → (m = h.next ∧ c = b') ∨ (m ≠ h.next ∧ m ≠ n ∧ Lv h X m c) := by
    intro m c hl
    rcases hl with hl | hl
    · rw [Heap.get_move] at hl
      by_cases he : m = h.next
      · rw [if_pos he] at hl; cases hl; exact .inl ⟨he, rfl⟩
      · rw [if_neg he] at hl
        by_cases he' : m = n
        · rw [if_pos he'] at hl; cases hl
        · rw [if_neg he'] at hl; exact .inr ⟨he, he', .inl hl⟩
    · refine .inr ⟨?_, ?_, .inr hl⟩
      · intro he; subst he; rw [hf.2] at hl; cases hl
      · intro he; subst he; rw [H.disj _ _ hg] at hl; cases hl
  have hother' : ∀ m c r, m ≠ n → Lv h X m c → ρ m = some r → r.1 ≠ p.1 := fun m c r hne hl hr he => hne ((H.inj n m b c p r (.inl hg) hwr hl hρ hr he.symm).symm)
  refine ⟨?_, ?_, ?_, ?_, ?_, ?_, fun n hz => by
    obtain ⟨d1, d2⟩ := H.dead n hz
    exact ⟨by rw [Ren.put_ne _ _ (by omega)]; exact d1, by simp only [Heap.new_next, Heap.del_next]; omega⟩⟩
  · exact below_step H.below ho ht hp (by rw [hh]; simp) fun k hk => hother k (by have := hw hwr; omega)
  · intro m hm
    obtain ⟨s, hs⟩ := H.glob m hm
    exact ⟨s, hle _ _ hs⟩
  · intro m c hl
    rcases hlv m c hl with ⟨rfl, rfl⟩ | ⟨hne, hne2, hl⟩
    · refine ⟨q, Ren.put_same _ _ _, ?_, fun _ => by rw [hq]; exact hw hwr⟩
      rw [hh, Array.getElem?_setIfInBounds]
      simpa [hq, hlt] using hb
    · obtain ⟨r, hr, hbr', hw'⟩ := H.live m c hl
      exact ⟨r, hle _ _ hr, by rw [hother _ (hother' m c r hne2 hl hr)]; exact hbr'.mono hle, hw'⟩
  · intro m m' b1 b2 r r' hm hwr1 hm' hr hr' he
    rcases hlv m b1 hm with ⟨rfl, rfl⟩ | ⟨hne, hne2, hm1⟩ <;> rcases hlv m' b2 hm' with ⟨rfl, rfl⟩ | ⟨hne', hne2', hm2⟩
    · rfl
    · rw [Ren.put_same] at hr; cases hr
      rw [Ren.put_ne _ _ hne'] at hr'
      exact absurd (by rw [← he, hq]) (hother' m' b2 r' hne2' hm2 hr')
    · rw [Ren.put_same] at hr'; cases hr'
      rw [Ren.put_ne _ _ hne] at hr
      exact absurd (by rw [he, hq]) (hother' m b1 r hne2 hm1 hr)
    · rw [Ren.put_ne _ _ hne] at hr
      rw [Ren.put_ne _ _ hne'] at hr'
      exact H.inj m m' b1 b2 r r' hm1 hwr1 hm2 hr hr' he
  · intro m c hc
    rw [Heap.get_move] at hc
    by_cases he : m = h.next
    · subst he; exact hf.2
    · rw [if_neg he] at hc
      by_cases he' : m = n
      · rw [if_pos he'] at hc; cases hc
      · rw [if_neg he'] at hc; exact H.disj m c hc
  · intro m hm
    simp only [Heap.new_next, Heap.del_next] at hm
    have := H.fresh m (by omega)
    exact ⟨by rw [Ren.put_ne _ _ (by omega)]; exact this.1, this.2⟩
end
end Go.Am

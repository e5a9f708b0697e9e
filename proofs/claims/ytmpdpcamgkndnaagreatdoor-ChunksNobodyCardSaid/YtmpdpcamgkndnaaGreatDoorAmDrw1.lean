/- The abstract machine: what an operation reads of the slots; heaps with names kept free. Conditions: those that each lemma names. -/
import Derived.Test.YtmpdpcamgkndnaaGreatDoorAmCtl3
set_option linter.constructorNameAsVariable false
set_option linter.unusedSimpArgs false
set_option linter.unusedVariables false
namespace Go.Am
open Go.RowKit (Below)

/-! ### What an operation reads of the slots -/
def Agr (t t' : List AV) (us : List Nat) : Prop := ∀ u ∈ us, t.getD u undefA = t'.getD u undefA

theorem Agr.left {t t' : List AV} {a b : List Nat} (h : Agr t t' (a ++ b)) : Agr t t' a := fun u hu => h u (List.mem_append_left _ hu)
theorem Agr.right {t t' : List AV} {a b : List Nat} (h : Agr t t' (a ++ b)) : Agr t t' b := fun u hu => h u (List.mem_append_right _ hu)

section
variable {t t' : List AV}

theorem ev_agr {x : AO} (h : Agr t t' x.uses) : x.ev t = x.ev t' := by
  cases x with
  | t i => exact h i (by simp [AO.uses])
  | _ => rfl
theorem evL_agr : ∀ {l : List AO}, Agr t t' (AO.usesL l) → l.map (AO.ev t) = l.map (AO.ev t')
  | [], _ => rfl
  | x :: xs, h => by
    simp only [AO.usesL] at h
    simp only [List.map_cons, ev_agr h.left, evL_agr h.right]
theorem evP_agr : ∀ {l : List (Nat × Nat × AO)}, Agr t t' (AO.usesP l) → (l.map fun p => (p.1, p.2.1, p.2.2.ev t)) = (l.map fun p => (p.1, p.2.1, p.2.2.ev t'))
  | [], _ => rfl
  | x :: xs, h => by
    simp only [AO.usesP] at h
    simp only [List.map_cons, ev_agr h.left, evP_agr h.right]
theorem bndO_agr {d y : Nat} {o : Option AO} (h : Agr t t' (AO.usesO o)) : bndO d y t o = bndO d y t' o := by
  cases o with
  | none => rfl
  | some x => simp only [bndO, ev_agr (x := x) h]

theorem qv_agr {h : Heap} {op : AOp} (hu : Agr t t' op.uses) : qv h t op = qv h t' op := by
  cases op <;> simp only [AOp.uses] at hu <;> (try rfl)
  case mov x => simp only [qv, ev_agr hu]
  case pick c a b => simp only [qv, ev_agr hu.left.left, ev_agr hu.left.right, ev_agr hu.right]
  case build z ps => simp only [qv, evP_agr hu]
  case load x => simp only [qv, ev_agr hu]
  case loadN n x => simp only [qv, ev_agr hu]
  case nilCheck x => simp only [qv, ev_agr hu]
  case bin op x y => simp only [qv, ev_agr hu.left, ev_agr hu.right]
  case eq n k x y => simp only [qv, ev_agr hu.left, ev_agr hu.right]
  case un op x => simp only [qv, ev_agr hu]
  case conv k x => simp only [qv, ev_agr hu]
  case same x => simp only [qv, ev_agr hu]
  case bytesStr x => simp only [qv, ev_agr hu]
  case s2a n x => simp only [qv, ev_agr hu]
  case mkFn f l => simp only [qv, evL_agr hu]
  case sliceStr x lo hi => simp only [qv, ev_agr hu.left.left, bndO_agr hu.left.right, bndO_agr hu.right]
  case sliceSl s x lo hi m => simp only [qv, ev_agr hu.left.left.left, bndO_agr hu.left.left.right, bndO_agr hu.left.right, bndO_agr hu.right]
  case sliceArr n s x lo hi m => simp only [qv, ev_agr hu.left.left.left, bndO_agr hu.left.left.right, bndO_agr hu.left.right, bndO_agr hu.right]
  case fieldAddr o x => simp only [qv, ev_agr hu]
  case field1 o x => simp only [qv, ev_agr hu]
  case fieldN o n x => simp only [qv, ev_agr hu]
  case idxAddrArr l s x i => simp only [qv, ev_agr hu.left, ev_agr hu.right]
  case idxAddrSl s x i => simp only [qv, ev_agr hu.left, ev_agr hu.right]
  case idxArr1 l x i => simp only [qv, ev_agr hu.left, ev_agr hu.right]
  case idxArrN l m x i => simp only [qv, ev_agr hu.left, ev_agr hu.right]
  case idxStr x i => simp only [qv, ev_agr hu.left, ev_agr hu.right]
  case lookup kd z x k ok => simp only [qv, ev_agr hu.left, ev_agr hu.right]
  case entry x => simp only [qv, ev_agr hu]
  case ext x i => simp only [qv, ev_agr hu]
  case len k x => simp only [qv, ev_agr hu]
  case mn l => simp only [qv, evL_agr hu]
  case mx l => simp only [qv, evL_agr hu]
  case cmpB x y => simp only [qv, ev_agr hu.left, ev_agr hu.right]

theorem al_agr {op : AOp} (hu : Agr t t' op.uses) : al t op = al t' op := by
  cases op <;> simp only [AOp.uses] at hu <;> (try rfl)
  case box e x => simp only [al, ev_agr hu]
  case buildSl e n z ps => simp only [al, evP_agr hu]
  case mkSl e s b z x y => simp only [al, ev_agr hu.left, ev_agr hu.right]
  case strBytes e x => simp only [al, ev_agr hu]

theorem aeff_agr {fns : Nat → Option AFn} {rec : Rec} {h : Heap} {K : AV → Heap → Prop} {op : AOp} (hu : Agr t t' op.uses) (hq : aeff fns rec t h K op) : aeff fns rec t' h K op := by
  have : aeff fns rec t h K op = aeff fns rec t' h K op := by
    cases op <;> simp only [AOp.uses] at hu <;> (try rfl)
    case store n a x => simp only [aeff, ev_agr hu.left, ev_agr hu.right]
    case append e s b z x y => simp only [aeff, ev_agr hu.left, ev_agr hu.right]
    case copy s x y => simp only [aeff, ev_agr hu.left, ev_agr hu.right]
    case clear s z x => simp only [aeff, ev_agr hu]
    case mapUpd kd m k v => simp only [aeff, ev_agr hu.left.left, ev_agr hu.left.right, ev_agr hu.right]
    case delete kd m k => simp only [aeff, ev_agr hu.left, ev_agr hu.right]
    case freeze x => simp only [aeff, ev_agr hu]
    case range x => simp only [aeff, ev_agr hu]
    case next x => simp only [aeff, ev_agr hu]
    case call f l => simp only [aeff, evL_agr hu]
    case callv x l => simp only [aeff, ev_agr hu.left, evL_agr hu.right]
  rw [← this]; exact hq

theorem want_agr {a : AOpr} (hu : Agr t t' a.uses) : a.want t = a.want t' := by
  unfold AOpr.want
  cases hg : a.guard with
  | none => rfl
  | some dw =>
    obtain ⟨d, w⟩ := dw
    have : t.getD d undefA = t'.getD d undefA := hu d (by simp [AOpr.uses, hg])
    simp only [this]

theorem qv_pure {h h' : Heap} {op : AOp} (hc : op.cls = .pure) : qv h t op = qv h' t op := by
  cases op <;> first | rfl | simp [AOp.cls] at hc
end

theorem Agr.op {t t' : List AV} {a : AOpr} (h : Agr t t' a.uses) : Agr t t' a.op.uses := fun u hu => h u (by simp [AOpr.uses, hu])

/-! ### Heaps -/
theorem Heap.get_resv1 (h : Heap) (n : Nat) : ({ next := h.next + 1, tr := Tr.set (h.next + 1) h.tr h.next none } : Heap).get n = h.get n := by
  unfold Heap.get
  simp only []
  rw [Tr.get_set _ _ _ _ _ (Nat.lt_succ_self h.next)]
  by_cases hn : n = h.next
  · simp [hn]
  · simp only [hn, if_false]
    by_cases hl : n < h.next
    · simp [hl, Nat.lt_succ_of_lt hl]
    · simp [hl, show ¬ n < h.next + 1 by omega]

theorem Heap.get_resv : ∀ (m : Nat) (h : Heap) (n : Nat), (h.resv m).get n = h.get n
  | 0, h, n => rfl
  | m + 1, h, n => by
    simp only [Heap.resv]
    rw [Heap.get_resv m, Heap.get_resv1]
theorem Heap.resv_next : ∀ (m : Nat) (h : Heap), (h.resv m).next = h.next + m
  | 0, h => rfl
  | m + 1, h => by simp only [Heap.resv, Heap.resv_next m]; omega

section
variable {P : Program} {w0 : World} {ρ : Ren} {X X' : Frm} {h : Heap} {w : World}

/-- Another heap and another frame that say the same. -/
theorem HR.reframe (H : HR P w0 ρ X h w) {h' : Heap} (hn : h.next ≤ h'.next) (hl : ∀ n b, Lv h' X' n b → Lv h X n b) (hd : ∀ n b, h'.get n = some b → X'.x n = none)
    (hz : ∀ n, X'.z n = true → ρ n = none ∧ n < h'.next) : HR P w0 ρ X' h' w := by
  refine ⟨H.below, H.glob, fun n b hb => H.live n b (hl n b hb), fun n m b c p q hb hw hc => H.inj n m b c p q (hl _ _ hb) hw (hl _ _ hc), hd, fun n hge => ?_, hz⟩
  have f := H.fresh n (by omega)
  refine ⟨f.1, ?_⟩
  cases hx : X'.x n with
  | none => rfl
  | some b =>
    obtain ⟨p, hp, _⟩ := H.live n b (hl n b (.inr hx))
    rw [f.1] at hp; cases hp

/-- A block under a kept name. -/
def Frm.take (X : Frm) (n : Nat) (b : Blk) : Frm := { x := fun m => if m = n then some b else X.x m, z := fun m => if m = n then false else X.z m }

theorem HR.newX (H : HR P w0 ρ X h w) {n : Nat} (hz : X.z n = true) {o : Obj} {b : Blk} {sz : Nat} {w' : World} (hh : w'.heap = w.heap.push o) (ho : w'.os = w.os) (ht : w'.tape = w.tape) (hp : w'.output = w.output)
    (hb : BR P (ρ.put n (w.heap.size, 0, sz)) (w.heap.size, 0, sz) b (some o)) : HR P w0 (ρ.put n (w.heap.size, 0, sz)) (X.take n b) h w' := by
  obtain ⟨hf, hlt⟩ := H.dead n hz
  have hle : ρ.le (ρ.put n (w.heap.size, 0, sz)) := Ren.le_put hf
  have hold : ∀ r, r < w.heap.size → w'.heap[r]? = w.heap[r]? := fun r hr => by
    rw [hh, Array.getElem?_push]
    rw [if_neg (by omega)]
  have hnl : ∀ c, ¬ Lv h X n c := fun c hl => by
    obtain ⟨p, hp', _⟩ := H.live n c hl
    rw [hf] at hp'; cases hp'
  have hlv : ∀ m c, Lv h (X.take n b) m c → (m = n ∧ c = b) ∨ (m ≠ n ∧ Lv h X m c) := by
    intro m c hl
    by_cases hm : m = n
    · subst hm
      rcases hl with hl | hl
      · exact absurd (.inl hl) (hnl c)
      · simp only [Frm.take, if_true, Option.some.injEq] at hl
        exact .inl ⟨rfl, hl.symm⟩
    · rcases hl with hl | hl
      · exact .inr ⟨hm, .inl hl⟩
      · simp only [Frm.take, hm, if_false] at hl
        exact .inr ⟨hm, .inr hl⟩
  refine ⟨?_, ?_, ?_, ?_, ?_, ?_, ?_⟩
  · exact below_step H.below ho ht hp (by rw [hh]; simp) fun k hk => hold k (Nat.lt_of_lt_of_le hk H.below.size)
  · intro m hm
    obtain ⟨s, hs⟩ := H.glob m hm
    exact ⟨s, hle _ _ hs⟩
  · intro m c hl
    rcases hlv m c hl with ⟨rfl, rfl⟩ | ⟨hne, hl⟩
    · refine ⟨_, Ren.put_same _ _ _, ?_, fun _ => H.below.size⟩
      rw [hh]; simpa using hb
    · obtain ⟨p, hp', hbr, hw⟩ := H.live m c hl
      exact ⟨p, hle _ _ hp', by rw [hold _ hbr.lt]; exact hbr.mono hle, hw⟩
  · intro i j b1 b2 p q hi hwr hj hpi hqj he
    rcases hlv i b1 hi with ⟨rfl, rfl⟩ | ⟨hne, hi'⟩ <;> rcases hlv j b2 hj with ⟨rfl, rfl⟩ | ⟨hme, hj'⟩
    · rfl
    · rw [Ren.put_same] at hpi
      cases hpi
      rw [Ren.put_ne _ _ hme] at hqj
      obtain ⟨q', hq', hbr, _⟩ := H.live j b2 hj'
      rw [hq'] at hqj; cases hqj
      have := hbr.lt
      simp at he; omega
    · rw [Ren.put_same] at hqj
      cases hqj
      rw [Ren.put_ne _ _ hne] at hpi
      obtain ⟨p', hp', hbr, _⟩ := H.live i b1 hi'
      rw [hp'] at hpi; cases hpi
      have := hbr.lt
      simp at he; omega
    · rw [Ren.put_ne _ _ hne] at hpi
      rw [Ren.put_ne _ _ hme] at hqj
      exact H.inj i j b1 b2 p q hi' hwr hj' hpi hqj he
  · intro m c hg
    by_cases hm : m = n
    · subst hm; exact absurd (.inl hg) (hnl c)
    · simp only [Frm.take, hm, if_false]; exact H.disj m c hg
  · intro m hm
    have := H.fresh m hm
    have hne : m ≠ n := by omega
    exact ⟨by rw [Ren.put_ne _ _ hne]; exact this.1, by simp only [Frm.take, hne, if_false]; exact this.2⟩
  · intro m hm
    simp only [Frm.take] at hm
    split at hm
    · cases hm
    · rename_i hne
      obtain ⟨d1, d2⟩ := H.dead m hm
      exact ⟨by rw [Ren.put_ne _ _ hne]; exact d1, d2⟩

theorem Heap.putL_next : ∀ (l : List (Nat × Blk)) (h : Heap), (h.putL l).next = h.next
  | [], h => rfl
  | p :: ps, h => by simp only [Heap.putL, Heap.putL_next ps, Heap.put_next]

theorem Heap.putL_get : ∀ (l : List (Nat × Blk)) (h : Heap) (n : Nat), (∀ p ∈ l, p.1 < h.next) → (l.map (·.1)).Nodup → (h.putL l).get n = (match l.lookup n with | some b => some b | none => h.get n)
  | [], h, n, _, _ => rfl
  | p :: ps, h, n, hl, hd => by
    simp only [List.map_cons, List.nodup_cons] at hd
    simp only [Heap.putL]
    rw [Heap.putL_get ps _ n (fun q hq => by simpa using hl q (by simp [hq])) hd.2, Heap.get_put _ _ _ _ (hl p (by simp)), List.lookup_cons]
    by_cases hn : n = p.1
    · subst hn
      have : ps.lookup p.1 = none := by
        rw [List.lookup_eq_none_iff]
        intro q hq
        simp only [bne_iff_ne, ne_eq]
        intro he
        exact hd.1 (List.mem_map.2 ⟨q, hq, he.symm⟩)
      simp [this]
    · have : (n == p.1) = false := by simp [hn]
      simp [this, hn]

end
end Go.Am

/- The abstract machine against the model: iterators over maps, frozen rows; every operation that turns the heap but the calls. Conditions: those that each lemma names. -/
import Derived.Test.YtmpdpcamgkndnaaGreatDoorAmEff4
set_option linter.constructorNameAsVariable false
set_option linter.unusedSimpArgs false
set_option linter.unusedVariables false
namespace Go.Am
open Go.RowKit (Below)
open Go.ChangeMaps (setBlock)

section
variable {P : Program} {w0 : World} {ρ : Ren} {X : Frm} {h h' : Heap} {w : World} {t : List AV} {a : Act} {o : Oper} {v : AV} {op : AOp}

theorem e_range (H : HR P w0 ρ X h w) (ht : VRs ρ t a.tmps.toList) {ty kt et : TypeId} {x : Operand} {K : AV → Heap → Prop} {fns : Nat → Option AFn} {rec : Rec} (ho : o.op = .range ty x)
    (hu : P.underlying ty = some (.map kt et)) (hq : aeff fns rec t h K (.range (cO P x))) : Did P w0 ρ X a w o K := by
  have hx := H.ev ht x
  have fresh := H.fresh h.next (Nat.le_refl _)
  simp only [aeff] at hq
  split at hq
  · rename_i hxe
    rw [hxe] at hx
    have ex := vNilMap hx
    refine ⟨_, .pointer (some ⟨w.heap.size, 0, none⟩), { w with heap := w.heap.push (.mapIter none 0 #[] 0) }, _, _, _, ?_, .inl rfl, hq, Ren.le_put fresh.1, H.new (sz := 0) rfl rfl rfl rfl ⟨rfl, none, rfl, rfl⟩, ?_⟩
    · simp [execOp, ho, ex, Instr.range, rUnderlying hu, newObj, Sem.run]
    · simp only [VR]; exact ⟨_, Ren.put_same _ _ _, rfl⟩
  · rename_i m hxe
    rw [hxe] at hx
    obtain ⟨p, g1, g2⟩ := vMap hx
    split at hq
    · rename_i es clock hmp
      obtain ⟨hg, p', es', f1, f2, f3, f4⟩ := H.mp hmp
      rw [g1] at f1; cases f1
      have hle := Ren.le_put (p := (w.heap.size, 0, 0)) fresh.1
      refine ⟨_, .pointer (some ⟨w.heap.size, 0, none⟩), { w with heap := w.heap.push (.mapIter (some p.1) clock #[] clock) }, _, _, _, ?_, .inl rfl, hq, hle, H.new (sz := 0) rfl rfl rfl rfl ⟨rfl, some p.1, rfl, p, hle _ _ g1, rfl⟩, ?_⟩
      · simp only [execOp, ho, g2, Instr.range, Sem.run_bind, rUnderlying hu, Result.andThen_ok, rGetMap f2, Sem.run_pure]
        simp [newObj, Sem.run]
      · simp only [VR]; exact ⟨_, Ren.put_same _ _ _, rfl⟩
    · exact hq.elim
  · exact hq.elim

theorem ER.mem {es : List (AV × AV × Nat)} {es' : List MapEntry} (he : ER ρ es es') {e' : MapEntry} (h : e' ∈ es') : ∃ e ∈ es, VR ρ e.1 e'.key ∧ VR ρ e.2.1 e'.val ∧ e.2.2 = e'.born := by
  induction es generalizing es' with
  | nil => cases es' with
    | nil => simp at h
    | cons _ _ => exact he.elim
  | cons x es ih => cases es' with
    | nil => exact he.elim
    | cons x' es' =>
      obtain ⟨a1, a2, a3, a4⟩ := he
      rcases List.mem_cons.1 h with rfl | h
      · exact ⟨x, by simp, a1, a2, a3⟩
      · obtain ⟨e, h1, h2⟩ := ih a4 h
        exact ⟨e, by simp [h1], h2⟩
theorem ER.mem2 {es : List (AV × AV × Nat)} {es' : List MapEntry} (he : ER ρ es es') {e : AV × AV × Nat} (h : e ∈ es) : ∃ e' ∈ es', e.2.2 = e'.born := by
  induction es generalizing es' with
  | nil => simp at h
  | cons x es ih => cases es' with
    | nil => exact he.elim
    | cons x' es' =>
      obtain ⟨a1, a2, a3, a4⟩ := he
      rcases List.mem_cons.1 h with rfl | h
      · exact ⟨x', by simp, a3⟩
      · obtain ⟨e, h1, h2⟩ := ih a4 h
        exact ⟨e, by simp [h1], h2⟩

theorem HR.iter (H : HR P w0 ρ X h w) {r m since stepped : Nat} {seen : List Nat} (hg : h.get r = some (.iter (some m) since seen stepped)) :
    ∃ p q, ρ r = some p ∧ p.2.1 = 0 ∧ ρ m = some q ∧ w.heap[p.1]? = some (.mapIter (some q.1) since seen.toArray stepped) := by
  obtain ⟨p, hp, ⟨hz, m', h1, q, h2, h3⟩, _⟩ := H.get hg
  subst h3
  exact ⟨p, q, hp, hz, h2, h1⟩

theorem e_next (H : HR P w0 ρ X h w) (ht : VRs ρ t a.tmps.toList) {x : Operand} {K : AV → Heap → Prop} {fns : Nat → Option AFn} {rec : Rec} (ho : o.op = .next x false)
    (hq : aeff fns rec t h K (.next (cO P x))) : Did P w0 ρ X a w o K := by
  have hx := H.ev ht x
  simp only [aeff] at hq
  split at hq
  · rename_i r hxe
    rw [hxe] at hx
    obtain ⟨p, g1, g2⟩ := vPtr hx
    simp only [Nat.add_zero] at g2
    split at hq
    · rename_i since seen stepped hg
      obtain ⟨p', hp', ⟨hz, m', h1, h3⟩, _⟩ := H.get hg
      rw [g1] at hp'; cases hp'
      subst h3
      refine ⟨_, .tuple #[.bool false], w, _, _, _, ?_, .inl rfl, hq, Ren.le_refl _, H, by simp [VR, VRs]⟩
      simp only [execOp, ho, g2, hz, Instr.next, getObj, Sem.run_bind, Sem.run, h1, Result.andThen_ok]
      rfl
    · rename_i m since seen stepped hg
      obtain ⟨p', q, hp', hz, hq', h1⟩ := H.iter hg
      rw [g1] at hp'; cases hp'
      split at hq
      · rename_i es clock hmp
        obtain ⟨hgm, q2, es', f1, f2, f3, f4⟩ := H.mp hmp
        rw [hq'] at f1; cases f1
        split at hq
        · rename_i hcond
          obtain ⟨c1, c2⟩ := hcond
          have hold : ∀ x ∈ es'.toList, x.born < since := by
            intro e' he'
            obtain ⟨e, k1, _, _, k4⟩ := f3.mem he'
            have := List.all_eq_true.1 c2 e k1
            simp only [decide_eq_true_eq] at this
            omega
          have hcont : ∀ n, seen.toArray.contains n = seen.contains n := fun n => by simp
          rcases run_next_at (P := P) w o.type p.1 q.1 since stepped seen.toArray es' clock h1 f2 hold c1 with ⟨k1, k2⟩ | ⟨e', k1, w1, k2, k3⟩
          · have hemp : (es.filter fun e => !seen.contains e.2.2).isEmpty = true := by
              rw [List.isEmpty_iff, List.filter_eq_nil_iff]
              intro e he hc
              obtain ⟨e', j1, j2⟩ := f3.mem2 he
              have : e' ∈ (leftOf es' seen.toArray) := by
                unfold leftOf
                rw [Array.mem_filter]
                refine ⟨by simpa using j1, ?_⟩
                rw [hcont, ← j2]; exact hc
              rw [Array.eq_empty_of_size_eq_zero k1] at this
              simp at this
            simp only [hemp, if_true] at hq
            refine ⟨_, .tuple #[.bool false], w, _, _, _, ?_, .inl rfl, hq, Ren.le_refl _, H, by simp [VR, VRs]⟩
            simp only [execOp, ho, g2, hz, k2, Sem.run_bind, Result.andThen_ok, Sem.run_pure]
          · have hmem : ∃ e ∈ es.filter (fun e => !seen.contains e.2.2), VR ρ e.1 e'.key ∧ VR ρ e.2.1 e'.val ∧ e.2.2 = e'.born := by
              unfold leftOf at k1
              have k1' : e' ∈ es'.filter fun e => !seen.toArray.contains e.born := by simpa using k1
              rw [Array.mem_filter] at k1'
              obtain ⟨e, j1, j2, j3, j4⟩ := f3.mem (e' := e') (by simpa using k1'.1)
              refine ⟨e, List.mem_filter.2 ⟨j1, ?_⟩, j2, j3, j4⟩
              rw [j4, ← hcont]; exact k1'.2
            obtain ⟨e, j1, j2, j3, j4⟩ := hmem
            have hemp : (es.filter fun e => !seen.contains e.2.2).isEmpty = false := by
              rw [Bool.eq_false_iff]
              intro hc
              rw [List.isEmpty_iff] at hc
              rw [hc] at j1; simp at j1
            simp only [hemp, Bool.false_eq_true, if_false] at hq
            have hK := hq e j1
            have Hw1 : HR P w0 ρ X h w1 := by
              rcases k2 with rfl | rfl
              · exact H
              · exact H.drew _
            have hw1 : w1.heap[p.1]? = some (.mapIter (some q.1) since seen.toArray stepped) := by
              rcases k2 with rfl | rfl <;> exact h1
            have Hn := Hw1.upd (b' := .iter (some m) since (seen ++ [e.2.2]) clock) (p := p) (o' := .mapIter (some q.1) since (seen.toArray.push e'.born) clock) (w' := setBlock w1 p.1 (.mapIter (some q.1) since (seen.toArray.push e'.born) clock)) hg rfl g1 rfl rfl rfl rfl
              ⟨hz, some q.1, by simp [j4], q, hq', rfl⟩
            refine ⟨_, .tuple #[.bool true, e'.key, e'.val], _, _, _, _, ?_, .inl rfl, hK, Ren.le_refl _, Hn, by simp [VR, VRs, j2, j3]⟩
            simp only [execOp, ho, g2, hz, k3, Sem.run_bind, Result.andThen_ok, Sem.run_pure]
        · exact hq.elim
      · exact hq.elim
    · exact hq.elim
  · exact hq.elim

theorem e_freeze (H : HR P w0 ρ X h w) (ht : VRs ρ t a.tmps.toList) {s d e1 e : TypeId} {x : Operand} {K : AV → Heap → Prop} {fns : Nat → Option AFn} {rec : Rec} (ho : o.op = .convert s d x)
    (hs : P.underlying s = some (.slice e1)) (hd : P.underlying d = some (.slice e)) (he : isU8 P e = true) (hsd : (s == d) = true) (hq : aeff fns rec t h K (.freeze (cO P x))) : Did P w0 ρ X a w o K := by
  have hx := H.ev ht x
  have hu := isU8_int he
  simp only [aeff] at hq
  split at hq
  · rename_i q len cap ex hxe
    rw [hxe] at hx
    obtain ⟨p, yy, c', g1, g2, g3, g4, g5⟩ := vSl hx
    split at hq
    · rename_i e' l hg
      obtain ⟨p', c, lo, hi, m1, m2, m3, m4, m5, m6, m7⟩ := H.cells hg
      rw [g1] at m1; cases m1
      have hlt : p.1 < w.heap.size := (Array.getElem?_eq_some_iff.1 m2).1
      have hfz : (w.freeze ⟨p.1, c.size, none⟩ 1).heap = w.heap.setIfInBounds p.1 (.cells c e' (if lo == hi then (c.size, c.size + 1) else (min lo c.size, max hi (c.size + 1)))) := by
        unfold World.freeze
        simp only [Nat.one_ne_zero, if_false]
        apply Array.ext_getElem?
        intro j
        rw [Array.getElem?_modify, Array.getElem?_setIfInBounds]
        by_cases hj : p.1 = j
        · subst hj; rw [if_pos rfl, if_pos rfl, if_pos hlt, m2]; rfl
        · rw [if_neg hj, if_neg hj]
      have Hn : HR P w0 ρ X (h.put q.1 (.cells e' l false)) (w.freeze ⟨p.1, c.size, none⟩ 1) := by
        refine H.upd hg rfl g1 hfz rfl rfl rfl ?_
        by_cases hlh : lo = hi
        · subst hlh
          simp only [beq_self_eq_true, if_true]
          exact ⟨c, _, _, rfl, m3, .inr (Nat.le_refl _), m5, m6⟩
        · have : (lo == hi) = false := by simp [hlh]
          simp only [this, Bool.false_eq_true, if_false]
          refine ⟨c, _, _, rfl, m3, .inr ?_, m5, m6⟩
          rcases m4 with m4 | m4
          · exact absurd m4 hlh
          · rw [Nat.min_eq_right m4]; exact Nat.le_refl _
      -- the abstract heap stays as it was
      have Hs : HR P w0 ρ X h (w.freeze ⟨p.1, c.size, none⟩ 1) := by
        have hsame : ∀ n, (h.put q.1 (.cells e' l false)).get n = h.get n := fun n => by
          rw [Heap.get_put _ _ _ _ (Heap.get_lt hg)]
          split
          · rename_i hn; rw [hn, hg]
          · rfl
        refine ⟨Hn.below, Hn.glob, fun n b hl => Hn.live n b ?_, fun n m b c p q hn hw hm => Hn.inj n m b c p q ?_ hw ?_, fun n b hb => Hn.disj n b (by rw [hsame]; exact hb), fun n hn => Hn.fresh n (by simpa using hn), fun n hz => by simpa using Hn.dead n hz⟩
        · rcases hl with hl | hl
          · exact .inl (by rw [hsame]; exact hl)
          · exact .inr hl
        · rcases hn with hl | hl
          · exact .inl (by rw [hsame]; exact hl)
          · exact .inr hl
        · rcases hm with hl | hl
          · exact .inl (by rw [hsame]; exact hl)
          · exact .inr hl
      refine ⟨_, a.eval x, _, _, _, _, ?_, .inl rfl, hq, Ren.le_refl _, Hs, hx⟩
      have hsh : w.shape? p.1 = some (e', c.size) := by simp [World.shape?, m2]
      simp [execOp, ho, g2, convert, rUnderlying hs, rUnderlying hd, rUnderlying hu, hsd, markStringish, hsh]
    · exact hq.elim
  · exact hq.elim

def AOp.isCall : AOp → Bool
  | .call .. | .callv .. => true
  | _ => false

/-- Every operation that turns the heap, but the calls. -/
theorem eff_sound (H : HR P w0 ρ X h w) (ht : VRs ρ t a.tmps.toList) {oop : Op} {K : AV → Heap → Prop} {fns : Nat → Option AFn} {rec : Rec} (ho : o.op = oop) (hc : cOp P oop = some op) (hcl : op.cls = .eff) (hnc : op.isCall = false)
    (hq : aeff fns rec t h K op) : Did P w0 ρ X a w o K := by
  cases oop
  case store ty x y =>
    simp only [cOp, Option.map_eq_some_iff] at hc
    obtain ⟨n, hs, rfl⟩ := hc
    simp only [aeff] at hq
    split at hq
    · rename_i p hp
      split at hq
      · rename_i hl
        split at hq
        · rename_i h' hst
          have hx := H.ev ht x
          rw [hp] at hx
          exact e_store H ht ho hs hx hl hst hq
        · exact hq.elim
      · exact hq.elim
    · exact hq.elim
  case range ty x =>
    simp only [cOp] at hc
    split at hc
    · rename_i hu
      cases hc
      exact e_range H ht ho hu hq
    · cases hc
  case next it s =>
    cases s
    · cases hc
      exact e_next H ht ho hq
    · cases hc
  case mapUpdate ty m k v =>
    simp only [cOp] at hc
    split at hc
    · rename_i hu
      simp only [Option.map_eq_some_iff] at hc
      obtain ⟨kd, hk, rfl⟩ := hc
      exact e_mapUpd H ht (.inl ho) hu hk hq
    · cases hc
  case insert ty m k v =>
    simp only [cOp] at hc
    split at hc
    · rename_i hu
      simp only [Option.map_eq_some_iff] at hc
      obtain ⟨kd, hk, rfl⟩ := hc
      exact e_mapUpd H ht (.inr ho) hu hk hq
    · cases hc
  case convert s d x =>
    simp only [cOp, cConv] at hc
    split at hc
    · cases hc; simp [AOp.cls] at hcl
    · cases hc; simp [AOp.cls] at hcl
    · split at hc
      · cases hc; simp [AOp.cls] at hcl
      · cases hc
    · split at hc
      · cases hc; simp [AOp.cls] at hcl
      · cases hc
    · rename_i hs hd
      split at hc
      · rename_i hcond
        cases hc
        simp only [Bool.and_eq_true] at hcond
        exact e_freeze H ht ho hs hd hcond.1 hcond.2 hq
      · cases hc
    · cases hc
  case call c =>
    simp only [cOp] at hc
    split at hc
    · split at hc
      · split at hc
        · split at hc
          · cases hc
          · cases hc; simp [AOp.isCall] at hnc
        · split at hc
          · split at hc
            · cases hc; simp [AOp.cls] at hcl
            · cases hc
          · cases hc
      · cases hc
    · cases hc; simp [AOp.isCall] at hnc
    · rename_i b hcal
      cases b <;> simp only [cBuiltin] at hc <;> (try (cases hc; done)) <;> (try (cases hc; simp [AOp.cls] at hcl; done))
      case append =>
        unfold cAppend at hc
        split at hc
        · rename_i x y hargs
          obtain ⟨x', y', ha, rfl, rfl⟩ := map_two hargs
          split at hc
          · rename_i e hty
            split at hc
            · rename_i s b z hs hb hz
              split at hc
              · rename_i hcond
                cases hc
                exact e_append H ht ho hcal ha hty hcond.2 hs hb hz hcond.1 hq
              · cases hc
            · cases hc
          · cases hc
        · cases hc
      case copy =>
        unfold cCopy at hc
        split at hc
        · rename_i x y hargs
          obtain ⟨x', y', ha, rfl, rfl⟩ := map_two hargs
          split at hc
          · rename_i e hty
            simp only [Option.map_eq_some_iff] at hc
            obtain ⟨s, hs, rfl⟩ := hc
            exact e_copy H ht ho hcal ha hty hs hq
          · cases hc
        · cases hc
      case clear =>
        unfold cClear at hc
        split at hc
        · rename_i x hargs
          obtain ⟨x', ha, rfl⟩ := map_one hargs
          split at hc
          · rename_i e hty
            split at hc
            · rename_i s z hs hz
              cases hc
              exact e_clear H ht ho hcal ha hty hz hq
            · cases hc
          · cases hc
        · cases hc
      case delete =>
        unfold cDelete at hc
        split at hc
        · rename_i x y hargs
          obtain ⟨x', y', ha, rfl, rfl⟩ := map_two hargs
          split at hc
          · rename_i kt et hty
            simp only [Option.map_eq_some_iff] at hc
            obtain ⟨kd, hk, rfl⟩ := hc
            exact e_delete H ht ho hcal ha hty hk hq
          · cases hc
        · cases hc
      all_goals
        exfalso
        simp only [cLen] at hc
        (repeat (split at hc <;> (try (cases hc; done))))
        all_goals (cases hc; simp [AOp.cls] at hcl)
    · cases hc
  case binOp bop ty x y ty' =>
    exfalso
    simp only [cOp, cBin] at hc
    split at hc
    · cases hc; simp [AOp.cls] at hcl
    · cases hc; simp [AOp.cls] at hcl
    · split at hc
      · simp only [Option.map_eq_some_iff] at hc; obtain ⟨_, _, rfl⟩ := hc; simp [AOp.cls] at hcl
      · simp only [Option.map_eq_some_iff] at hc; obtain ⟨_, _, rfl⟩ := hc; simp [AOp.cls] at hcl
      · cases hc
  case makeFunc fn first caps =>
    exfalso
    cases fn <;> simp only [cOp] at hc <;> (try (cases hc; done))
    split at hc
    · cases hc; simp [AOp.cls] at hcl
    · cases hc
  case makeMap ty r =>
    exfalso
    cases r <;> simp only [cOp] at hc
    · cases hc; simp [AOp.cls] at hcl
    · cases hc
  all_goals
    exfalso
    simp only [cOp] at hc
    first
    | (cases hc; done)
    | (cases hc; simp [AOp.cls] at hcl; done)
    | (simp only [Option.map_eq_some_iff] at hc; obtain ⟨_, _, rfl⟩ := hc; simp [AOp.cls] at hcl; done)
    | ((repeat' (first | (cases hc; done) | split at hc)) <;>
       first
       | (cases hc; simp [AOp.cls] at hcl; done)
       | (simp only [Option.map_eq_some_iff] at hc; obtain ⟨_, _, rfl⟩ := hc; simp [AOp.cls] at hcl; done))

end
end Go.Am

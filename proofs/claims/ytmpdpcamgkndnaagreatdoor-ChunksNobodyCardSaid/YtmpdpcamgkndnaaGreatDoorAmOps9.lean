/- The abstract machine against the model: all operations that leave the heap alone in one lemma. Conditions: the heap stands for the world, the temporaries for the frame's. -/
import Derived.Test.YtmpdpcamgkndnaaGreatDoorAmOps8
set_option linter.constructorNameAsVariable false
set_option linter.unusedSimpArgs false
set_option linter.unusedVariables false
namespace Go.Am
open Go.RowKit (Below)

section
variable {P : Program} {w0 : World} {ρ : Ren} {X : Frm} {h : Heap} {w : World} {t : List AV} {a : Act} {o : Oper} {v : AV} {op : AOp}

theorem q_bin (H : HR P w0 ρ X h w) (ht : VRs ρ t a.tmps.toList) {bop : BinOp} {ty ty' : TypeId} {x y : Operand} (ho : o.op = .binOp bop ty x y ty') (hc : cBin P bop ty (cO P x) (cO P y) = some op) (hq : qv h t op = some v) : Yv P ρ a w o v := by
  have heq : ∀ (k : EqK) (neg : Bool), cEq P ty = some k → bop = (if neg then .neq else .eql) → op = .eq neg k (cO P x) (cO P y) → Yv P ρ a w o v := by
    intro k neg hk hb he
    subst he
    simp only [qv] at hq
    cases hr : aeq k ((cO P x).ev t) ((cO P y).ev t) with
    | none => simp [hr] at hq
    | some b =>
      simp only [hr, Option.map_some, Option.some.injEq] at hq
      subst hq
      exact y_eq hb ho hk (H.ev ht x) (H.ev ht y) hr
  unfold cBin at hc
  split at hc
  · cases hc; exact y_bin ho (H.ev ht x) (H.ev ht y) hq
  · cases hc; exact y_bin ho (H.ev ht x) (H.ev ht y) hq
  · split at hc
    · cases hk : cEq P ty with
      | none => simp [hk] at hc
      | some k =>
        simp only [hk, Option.map_some, Option.some.injEq] at hc
        exact heq k false hk rfl hc.symm
    · cases hk : cEq P ty with
      | none => simp [hk] at hc
      | some k =>
        simp only [hk, Option.map_some, Option.some.injEq] at hc
        exact heq k true hk rfl hc.symm
    · cases hc

theorem q_conv (H : HR P w0 ρ X h w) (ht : VRs ρ t a.tmps.toList) {s d : TypeId} {x : Operand} (ho : o.op = .convert s d x) (hc : cConv P s d (cO P x) = some op) (hcl : op.cls = .pure ∨ op.cls = .read)
    (hq : qv h t op = some v) : Yv P ρ a w o v := by
  have hx := H.ev ht x
  unfold cConv at hc
  split at hc
  · rename_i ks k hs hd
    cases hc
    simp only [qv] at hq
    split at hq
    · rename_i kk n he
      rw [he] at hx
      cases hq
      exact y_conv ho hs hd hx
    · cases hq
  · rename_i hs hd
    cases hc
    simp only [qv] at hq
    split at hq
    · rename_i l he
      rw [he] at hx
      cases hq
      exact y_same ho hs hd hx
    · cases hq
  · split at hc
    · cases hc; simp [AOp.cls] at hcl
    · cases hc
  · rename_i e hs hd
    split at hc
    · rename_i h8
      cases hc
      simp only [qv] at hq
      cases hb : h.slBytes ((cO P x).ev t) with
      | none => simp [hb] at hq
      | some l =>
        simp only [hb, Option.map_some, Option.some.injEq] at hq
        subst hq
        exact y_bytesStr H ho hs hd h8 hx hb
    · cases hc
  · split at hc
    · cases hc; simp [AOp.cls] at hcl
    · cases hc
  · cases hc

theorem q_slice (H : HR P w0 ρ X h w) (ht : VRs ρ t a.tmps.toList) {ty : TypeId} {x : Operand} {lo hi mx : Option Operand} (ho : o.op = .slice ty x lo hi mx) (hc : cOp P (.slice ty x lo hi mx) = some op)
    (hq : qv h t op = some v) : Yv P ρ a w o v := by
  have hx := H.ev ht x
  simp only [cOp] at hc
  split at hc
  · rename_i hu
    split at hc
    · rename_i hmx
      cases hc
      simp only [qv] at hq
      split at hq
      · rename_i l he
        rw [he] at hx
        split at hq
        · rename_i h' hh
          split at hq
          · rename_i l' hl
            cases hq
            exact y_sliceStr H ht ho hu hmx hx hh hl
          · cases hq
        · cases hq
      · cases hq
    · cases hc
  · rename_i e hu
    split at hc
    · rename_i hmx
      cases hs : Tp.size P e with
      | none => simp [hs] at hc
      | some s =>
        simp only [hs, Option.map_some, Option.some.injEq] at hc
        subst hc
        simp only [qv] at hq
        split at hq
        · rename_i q len cap ex he
          rw [he] at hx
          split at hq
          · rename_i m hm
            split at hq
            · rename_i h' hh
              split at hq
              · rename_i l' hl
                split at hq
                · rename_i hcond
                  cases hq
                  have := y_sliceSl H ht ho hu hs (by simpa using hmx) hx hm hh hl hcond.1 (by
                    intro hn es hes
                    have h2 := hcond.2
                    have hmn : mx = none := by simpa using hn
                    subst hmn
                    simp only [Option.map_none, Option.isSome_none, Bool.false_eq_true, false_or] at h2
                    rw [hes] at h2
                    simpa using h2)
                  simpa using this
                · cases hq
              · cases hq
            · cases hq
          · cases hq
        · cases hq
    · cases hc
  · rename_i n e hu
    split at hc
    · rename_i hmx
      cases hs : Tp.size P e with
      | none => simp [hs] at hc
      | some s =>
        simp only [hs, Option.map_some, Option.some.injEq] at hc
        subst hc
        simp only [qv] at hq
        split at hq
        · rename_i q he
          rw [he] at hx
          split at hq
          · rename_i m hm
            split at hq
            · rename_i h' hh
              split at hq
              · rename_i l' hl
                split at hq
                · rename_i hcond
                  cases hq
                  exact y_sliceArr H ht ho hu hs (by simpa using hmx) hx hm hh hl hcond
                · cases hq
              · cases hq
            · cases hq
          · cases hq
        · cases hq
    · cases hc
  · cases hc

theorem map_one {l : List Operand} {x : AO} (h : l.map (cO P) = [x]) : ∃ y, l = [y] ∧ cO P y = x := by
  match l, h with
  | [y], h => simp at h; exact ⟨y, rfl, h⟩
theorem map_two {l : List Operand} {x y : AO} (h : l.map (cO P) = [x, y]) : ∃ u v, l = [u, v] ∧ cO P u = x ∧ cO P v = y := by
  match l, h with
  | [u, v], h => simp at h; exact ⟨u, v, rfl, h⟩

theorem q_builtin (H : HR P w0 ρ X h w) (ht : VRs ρ t a.tmps.toList) {c : Call} {b : Builtin} (ho : o.op = .call c) (hcal : c.callee = .builtin b) (hc : cBuiltin P b c.argTypes (c.args.toList.map (cO P)) = some op)
    (hcl : op.cls = .pure ∨ op.cls = .read) (hq : qv h t op = some v) : Yv P ρ a w o v := by
  cases b <;> simp only [cBuiltin] at hc <;> (try (cases hc; done))
  case len =>
    unfold cLen at hc
    split at hc
    · rename_i x hargs
      obtain ⟨y, hy, hxy⟩ := map_one hargs
      subst hxy
      have hx := H.ev ht y
      split at hc
      · rename_i hd
        cases hc
        simp only [qv] at hq
        split at hq <;> (try (cases hq; done))
        · rename_i hk he; rw [he] at hx; cases hq; exact y_lenStr ho hcal hy hd hx
        all_goals (rename_i hk _; cases hk)
      · rename_i e hd
        cases hc
        simp only [qv] at hq
        split at hq <;> (try (cases hq; done))
        · rename_i hk _; cases hk
        · rename_i hk he; rw [he] at hx; cases hq; exact y_lenSl ho hcal hy hd ⟨e, rfl⟩ hx
        all_goals (rename_i hk _; cases hk)
      · rename_i k e hd
        cases hc
        simp only [qv] at hq
        split at hq <;> (try (cases hq; done))
        · rename_i hk _; cases hk
        · rename_i hk _; cases hk
        · rename_i hk he; rw [he] at hx; cases hq; exact y_lenMap H ho hcal hy hd ⟨k, e, rfl⟩ hx rfl
        · rename_i r hk he
          rw [he] at hx
          cases hm : h.mp r with
          | none => simp [hm] at hq
          | some q =>
            simp only [hm, Option.map_some, Option.some.injEq] at hq
            subst hq
            exact y_lenMap H ho hcal hy hd ⟨k, e, rfl⟩ hx (by simp [hm])
      · rename_i n e hd
        cases hc
        simp only [qv] at hq
        cases hq
        exact y_lenC ho hcal hy hd
      · cases hc
    · cases hc
  case min =>
    cases hc
    simp only [qv] at hq
    cases hl : c.args.toList with
    | nil => simp [hl, minL] at hq
    | cons x xs =>
      rw [hl] at hq
      simp only [List.map_cons, List.map_map, minL] at hq
      exact y_min H ht ho hcal hl hq
  case max =>
    cases hc
    simp only [qv] at hq
    cases hl : c.args.toList with
    | nil => simp [hl, maxL] at hq
    | cons x xs =>
      rw [hl] at hq
      simp only [List.map_cons, List.map_map, maxL] at hq
      exact y_max H ht ho hcal hl hq
  case append =>
    unfold cAppend at hc
    repeat (split at hc <;> (try (cases hc; done)))
    cases hc
    simp [AOp.cls] at hcl
  case copy =>
    unfold cCopy at hc
    repeat (split at hc <;> (try (cases hc; done)))
    rename_i e _ 
    cases hs : Tp.size P e with
    | none => simp [hs] at hc
    | some s => simp only [hs, Option.map_some, Option.some.injEq] at hc; subst hc; simp [AOp.cls] at hcl
  case clear =>
    unfold cClear at hc
    repeat (split at hc <;> (try (cases hc; done)))
    cases hc
    simp [AOp.cls] at hcl
  case delete =>
    unfold cDelete at hc
    repeat (split at hc <;> (try (cases hc; done)))
    rename_i kt e _
    cases hs : plainKey P kt with
    | none => simp [hs] at hc
    | some s => simp only [hs, Option.map_some, Option.some.injEq] at hc; subst hc; simp [AOp.cls] at hcl

theorem q_call (H : HR P w0 ρ X h w) (ht : VRs ρ t a.tmps.toList) {c : Call} (ho : o.op = .call c) (hc : cOp P (.call c) = some op) (hcl : op.cls = .pure ∨ op.cls = .read) (hq : qv h t op = some v) : Yv P ρ a w o v := by
  simp only [cOp] at hc
  split at hc
  · rename_i f hcal
    split at hc
    · rename_i fn hf
      split at hc
      · split at hc
        · cases hc
        · cases hc; simp [AOp.cls] at hcl
      · rename_i hb
        split at hc
        · rename_i hn
          split at hc
          · rename_i x y hargs
            cases hc
            simp only [qv] at hq
            split at hq
            · rename_i l l' h1 h2
              cases hq
              exact y_cmp H ho hcal hargs hf (by simpa using hb) hn (H.ev ht x) (H.ev ht y) h1 h2
            · cases hq
          · cases hc
        · cases hc
    · cases hc
  · cases hc; simp [AOp.cls] at hcl
  · rename_i b hcal
    exact q_builtin H ht ho hcal hc hcl hq
  · cases hc

theorem qv_sound (H : HR P w0 ρ X h w) (ht : VRs ρ t a.tmps.toList) {oop : Op} (ho : o.op = oop) (hc : cOp P oop = some op) (hcl : op.cls = .pure ∨ op.cls = .read) (hq : qv h t op = some v) : Yv P ρ a w o v := by
  have hx := fun x => H.ev ht x
  cases oop
  case move x => cases hc; simp only [qv, Option.some.injEq] at hq; subst hq; exact y_move (.inl ho) (hx x)
  case assign x => cases hc; simp only [qv, Option.some.injEq] at hq; subst hq; exact y_move (.inr ho) (hx x)
  case pick c x y =>
    cases hc
    simp only [qv] at hq
    split at hq
    · rename_i b he
      cases hq
      have := hx c
      rw [he] at this
      refine y_pick ho this ?_
      cases b
      · exact hx y
      · exact hx x
    · cases hq
  case build ty ps => exact y_build H ht ho hc hq
  case load ty x => exact y_load H ht ho hc hq
  case nilCheck x => cases hc; exact y_nilCheck (hx x) ho hq
  case binOp bop ty x y ty' => exact q_bin H ht ho hc hq
  case unOp uop ty x => cases hc; exact y_un ho (hx x) hq
  case convert s d x => exact q_conv H ht ho hc hcl hq
  case sliceToArrayPointer ty x =>
    simp only [cOp] at hc
    split at hc
    · rename_i n e hu
      cases hc
      simp only [qv] at hq
      split at hq
      · rename_i q len c ex he
        split at hq
        · rename_i hn
          cases hq
          have := hx x
          rw [he] at this
          exact y_s2a ho hu this hn
        · cases hq
      · cases hq
    · cases hc
  case makeFunc fn first caps =>
    cases fn <;> simp only [cOp] at hc <;> (try (cases hc; done))
    split at hc
    · rename_i hf
      cases hc
      simp only [qv, Option.some.injEq] at hq
      subst hq
      exact y_mkFn H ht ho hf
    · cases hc
  case slice ty x lo hi mx => exact q_slice H ht ho hc hq
  case fieldAddr ty x f =>
    simp only [cOp] at hc
    split at hc
    · rename_i fs hu
      split at hc
      · rename_i fd hf
        split at hc
        · rename_i s hs
          cases hc
          simp only [qv] at hq
          split at hq
          · rename_i q he
            cases hq
            have := hx x
            rw [he] at this
            exact y_fieldAddr ho hu hf hs this
          · cases hq
        · cases hc
      · cases hc
    · cases hc
  case field ty x f =>
    simp only [cOp] at hc
    split at hc
    · rename_i fs hu
      split at hc
      · rename_i fd hf
        split at hc
        · rename_i n hg hs
          cases hc
          simp only [qv] at hq
          split at hq
          · rename_i l he
            have := hx x
            rw [he] at this
            split at hq
            · rename_i hl
              cases hq
              exact y_fieldN ho hu hf hg hs this hl
            · cases hq
          · cases hq
        · rename_i n hg hs
          cases hc
          simp only [qv] at hq
          split at hq
          · rename_i l he
            have := hx x
            rw [he] at this
            exact y_field1 ho hu hf hg this hq
          · cases hq
        · cases hc
      · cases hc
    · cases hc
  case indexAddr ty x i =>
    simp only [cOp] at hc
    split at hc
    · rename_i n e hu
      cases hs : Tp.size P e with
      | none => simp [hs] at hc
      | some s =>
        simp only [hs, Option.map_some, Option.some.injEq] at hc
        subst hc
        simp only [qv] at hq
        split at hq
        · rename_i q k m he hi
          have h1 := hx x
          have h2 := hx i
          rw [he] at h1
          rw [hi] at h2
          split at hq
          · rename_i hn
            cases hq
            exact y_idxAddrArr ho hu hs h1 h2 hn
          · cases hq
        · cases hq
    · rename_i e hu
      cases hs : Tp.size P e with
      | none => simp [hs] at hc
      | some s =>
        simp only [hs, Option.map_some, Option.some.injEq] at hc
        subst hc
        simp only [qv] at hq
        split at hq
        · rename_i q len c ex k m he hi
          have h1 := hx x
          have h2 := hx i
          rw [he] at h1
          rw [hi] at h2
          split at hq
          · rename_i hn
            cases hq
            exact y_idxAddrSl ho hu hs h1 h2 hn
          · cases hq
        · cases hq
    · cases hc
  case index ty x i =>
    simp only [cOp] at hc
    split at hc
    · rename_i n e hu
      split at hc
      · rename_i s hg hs
        cases hc
        simp only [qv] at hq
        split at hq
        · rename_i l k m he hi
          have h1 := hx x
          have h2 := hx i
          rw [he] at h1
          rw [hi] at h2
          split at hq
          · rename_i hn
            cases hq
            exact y_idxArrN ho hu hg hs h1 h2 ⟨hn.1, hn.2.1⟩
          · cases hq
        · cases hq
      · rename_i hg hs
        cases hc
        simp only [qv] at hq
        split at hq
        · rename_i l k m he hi
          have h1 := hx x
          have h2 := hx i
          rw [he] at h1
          rw [hi] at h2
          split at hq
          · rename_i hn
            exact y_idxArr1 ho hu hg hs h1 h2 hn hq
          · cases hq
        · cases hq
      · cases hc
    · rename_i hu
      cases hc
      simp only [qv] at hq
      split at hq
      · rename_i l k m he hi
        have h1 := hx x
        have h2 := hx i
        rw [he] at h1
        rw [hi] at h2
        split at hq
        · rename_i hn
          cases hl : l[m.toNat]? with
          | none => simp [hl] at hq
          | some b =>
            simp only [hl, Option.map_some, Option.some.injEq] at hq
            subst hq
            exact y_idxStr ho hu h1 h2 hn hl
        · cases hq
      · cases hq
    · cases hc
  case lookup ty x k ok =>
    simp only [cOp] at hc
    split at hc
    · rename_i kt e hu
      split at hc
      · rename_i kd z hk hz
        cases hc
        simp only [qv] at hq
        split at hq
        · rename_i es he
          split at hq
          · rename_i i r hf
            cases hq
            exact y_lookup H ho hu hk hz (hx x) (hx k) he hf rfl
          · rename_i hf
            cases hq
            exact y_lookup H ho hu hk hz (hx x) (hx k) he hf rfl
          · cases hq
        · cases hq
      · cases hc
    · cases hc
  case entry x =>
    cases hc
    simp only [qv] at hq
    split at hq
    · rename_i r he
      have h1 := hx x
      rw [he] at h1
      split at hq
      · rename_i m since seen stepped hg
        split at hq
        · rename_i es clock stamp hm hs
          split at hq
          · rename_i hcl'
            split at hq
            · rename_i e hf
              cases hq
              exact y_entry H ho h1 hg hm hs hcl' hf
            · cases hq
          · cases hq
        · cases hq
      · cases hq
    · cases hq
  case extract x i =>
    cases hc
    simp only [qv] at hq
    split at hq
    · rename_i l he
      have h1 := hx x
      rw [he] at h1
      exact y_ext ho h1 hq
    · cases hq
  case call c => exact q_call H ht ho hc hcl hq
  case makeMap ty r =>
    cases r with
    | none => cases hc; simp [AOp.cls] at hcl
    | some r => cases hc
  case next it s =>
    cases s
    · cases hc; simp [AOp.cls] at hcl
    · cases hc
  all_goals
    exfalso
    simp only [cOp] at hc
    first
    | (cases hc; done)
    | (cases hc; simp [AOp.cls] at hcl; done)
    | (simp only [Option.map_eq_some_iff] at hc; obtain ⟨_, _, rfl⟩ := hc; simp [AOp.cls] at hcl; done)
    | (repeat (split at hc <;> (try (cases hc; done)))
       first
       | (cases hc; simp [AOp.cls] at hcl; done)
       | (simp only [Option.map_eq_some_iff] at hc; obtain ⟨_, _, rfl⟩ := hc; simp [AOp.cls] at hcl; done))

end
end Go.Am

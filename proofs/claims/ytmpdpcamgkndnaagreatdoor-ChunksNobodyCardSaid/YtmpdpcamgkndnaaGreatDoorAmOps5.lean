/- The abstract machine against the model: slice expressions, maps, lengths, comparisons. Conditions: those that each lemma names. -/
import Derived.Test.YtmpdpcamgkndnaaGreatDoorAmOps4
set_option linter.constructorNameAsVariable false
set_option linter.unusedSimpArgs false
set_option linter.unusedVariables false
namespace Go.Am
open Go.RowKit (Below)

section
variable {P : Program} {w0 : World} {ρ : Ren} {X : Frm} {h : Heap} {w : World} {t : List AV} {a : Act} {o : Oper} {v : AV} {op : AOp}

/-! Slice expressions -/
theorem rBnd {x : AV} {u : Value} {y n Y : Nat} (c : BoundsCode) (hx : VR ρ x u) (hb : bnd y x = some n) (hY : y ≤ Y) : (Instr.sliceBound u Y c).run P w = .ok n w ∧ n ≤ y := by
  unfold bnd at hb
  split at hb
  · rename_i k m
    split at hb
    · rename_i hm
      cases hb
      have e := vInt hx
      subst e
      refine ⟨?_, by omega⟩
      have : 0 ≤ m ∧ m ≤ (Y : Int) := ⟨hm.1, by omega⟩
      simp [Instr.sliceBound, asIntOf, this]
    · cases hb
  · cases hb

theorem rBounds (H : HR P w0 ρ X h w) (ht : VRs ρ t a.tmps.toList) {isS : Bool} {len cap cap' m h' l' : Nat} {lo hi mx : Option Operand} (hmx : mx.isNone = true ∨ hi.isSome = true)
    (hcap : cap ≤ cap') (hm : bndO cap cap t (mx.map (cO P)) = some m) (hh : bndO len m t (hi.map (cO P)) = some h') (hl : bndO 0 h' t (lo.map (cO P)) = some l') (hlen : len ≤ cap) :
    (Instr.sliceBounds isS len cap' (lo.map a.eval) (hi.map a.eval) (mx.map a.eval)).run P w = .ok (l', h', if mx.isSome then m else cap') w ∧ l' ≤ h' ∧ (m ≤ cap) := by
  have hm' : m ≤ cap ∧ ∀ x, mx = some x → ∀ c, (Instr.sliceBound (a.eval x) cap' c).run P w = .ok m w := by
    cases mx with
    | none => simp only [Option.map_none, bndO, Option.some.injEq] at hm; exact ⟨by omega, fun x hx => by cases hx⟩
    | some x =>
      simp only [Option.map_some, bndO] at hm
      refine ⟨(rBnd (P := P) (w := w) .index (H.ev ht x) hm hcap).2, fun y hy c => ?_⟩
      cases hy
      exact (rBnd c (H.ev ht x) hm hcap).1
  have hl' : l' ≤ h' ∧ ∀ x, lo = some x → ∀ c, (Instr.sliceBound (a.eval x) h' c).run P w = .ok l' w := by
    cases lo with
    | none => simp only [Option.map_none, bndO, Option.some.injEq] at hl; exact ⟨by omega, fun x hx => by cases hx⟩
    | some x =>
      simp only [Option.map_some, bndO] at hl
      refine ⟨(rBnd (P := P) (w := w) .index (H.ev ht x) hl (Nat.le_refl _)).2, fun y hy c => ?_⟩
      cases hy
      exact (rBnd c (H.ev ht x) hl (Nat.le_refl _)).1
  have hh' : ∀ x, hi = some x → ∀ Y, m ≤ Y → ∀ c, (Instr.sliceBound (a.eval x) Y c).run P w = .ok h' w := by
    intro x hx Y hY c
    subst hx
    simp only [Option.map_some, bndO] at hh
    exact (rBnd c (H.ev ht x) hh hY).1
  refine ⟨?_, hl'.1, hm'.1⟩
  unfold Instr.sliceBounds
  cases mx with
  | none =>
    cases hi with
    | none =>
      simp only [Option.map_none, bndO, Option.some.injEq] at hh
      subst hh
      cases lo with
      | none =>
        simp only [Option.map_none, bndO, Option.some.injEq] at hl
        subst hl
        simp only [Option.map_none, Sem.run_bind, Sem.run_pure, Result.andThen_ok, Option.isSome_none, Bool.false_eq_true, if_false]
      | some x => simp only [Option.map_none, Option.map_some, hl'.2 x rfl, Sem.run_bind, Sem.run_pure, Result.andThen_ok, Option.isSome_none, Bool.false_eq_true, if_false]
    | some y =>
      have := hh' y rfl cap' (by omega)
      cases lo with
      | none =>
        simp only [Option.map_none, bndO, Option.some.injEq] at hl
        subst hl
        simp only [Option.map_none, Option.map_some, this, Sem.run_bind, Sem.run_pure, Result.andThen_ok, Option.isSome_none, Bool.false_eq_true, if_false]
      | some x => simp only [Option.map_none, Option.map_some, this, hl'.2 x rfl, Sem.run_bind, Sem.run_pure, Result.andThen_ok, Option.isSome_none, Bool.false_eq_true, if_false]
  | some z =>
    cases hi with
    | none => simp at hmx
    | some y =>
      have := hh' y rfl m (Nat.le_refl _)
      cases lo with
      | none =>
        simp only [Option.map_none, bndO, Option.some.injEq] at hl
        subst hl
        simp only [Option.map_none, Option.map_some, hm'.2 z rfl, this, Sem.run_bind, Sem.run_pure, Result.andThen_ok, Option.isSome_some, if_true]
      | some x => simp only [Option.map_some, hm'.2 z rfl, this, hl'.2 x rfl, Sem.run_bind, Sem.run_pure, Result.andThen_ok, Option.isSome_some, if_true]

theorem run_sliceAt_else {ty : TypeId} {x : Value} {l hh m : Option Value} {d : TypeDesc} (hd : P.underlying ty = some d) (hn : ∀ n e, d ≠ .array n e) :
    (Instr.sliceAt ty x l hh m).run P w = (Instr.slice ty x l hh m).run P w := by
  unfold Instr.sliceAt
  cases d <;> simp only [Sem.run_bind, rUnderlying hd, Result.andThen_ok]
  exact absurd rfl (hn _ _)

theorem y_sliceStr (H : HR P w0 ρ X h w) (ht : VRs ρ t a.tmps.toList) {ty : TypeId} {x : Operand} {lo hi mx : Option Operand} {l : List UInt8} {h' l' : Nat} (ho : o.op = .slice ty x lo hi mx) (hu : P.underlying ty = some .string)
    (hmx : mx.isNone = true) (hx : VR ρ (.str l) (a.eval x)) (hh : bndO l.length l.length t (hi.map (cO P)) = some h') (hl : bndO 0 h' t (lo.map (cO P)) = some l') :
    Yv P ρ a w o (.str ((l.drop l').take (h' - l'))) := by
  obtain ⟨s, h1, h2⟩ := vStr hx
  have hsz : s.size = l.length := by rw [← h2]; rfl
  have hmn : mx = none := by simpa using hmx
  subst hmn
  have hb := (rBounds (P := P) (w := w) (isS := false) (mx := none) H ht (.inl rfl) (Nat.le_refl l.length) rfl hh hl (Nat.le_refl _)).1
  refine ⟨.string (s.extract l' h'), ?_, ?_⟩
  · simp only [Option.map_none, Option.isSome_none, Bool.false_eq_true, if_false] at hb
    simp only [execOp, ho, h1, Sem.run_bind, run_sliceAt_else hu (by simp), Instr.slice, rUnderlying hu, Result.andThen_ok, Option.map_none, Option.isSome_none, Bool.false_eq_true, if_false, Sem.run_ite, Sem.run_pure, hsz, hb]
  · simp only [VR]
    refine ⟨_, rfl, ?_⟩
    rw [← h2]
    simp [ByteArray.data_extract, List.extract_eq_take_drop]

theorem exR_shift {ex : Option Nat} {cap c' y sz l m size : Nat} (hex : exR ex cap c' y sz) (hl : l ≤ cap) (hs : ∀ es, ex = some es → es = size) :
    ∀ y', (y' = y + l * size ∨ c' - l = 0) → (y' = y ∨ y' = y + l * size) → exR ex (cap - l) (c' - l) y' sz := by
  intro y' hy hy2
  unfold exR at hex ⊢
  cases ex with
  | none => simp only at hex ⊢; omega
  | some es =>
    simp only at hex ⊢
    have := hs es rfl
    subst this
    obtain ⟨h1, h2⟩ := hex
    refine ⟨by omega, ?_⟩
    rcases hy with hy | hy
    · subst hy
      have : l * es + (c' - l) * es = c' * es := by rw [← Nat.add_mul]; congr 1; omega
      omega
    · rw [hy]
      rcases hy2 with hy2 | hy2
      · subst hy2; omega
      · subst hy2
        have : c' = l := by omega
        subst this
        omega

theorem y_sliceSl (H : HR P w0 ρ X h w) (ht : VRs ρ t a.tmps.toList) {ty el : TypeId} {x : Operand} {lo hi mx : Option Operand} {q : Option (Nat × Nat)} {len cap m h' l' s : Nat} {ex : Option Nat}
    (ho : o.op = .slice ty x lo hi mx) (hu : P.underlying ty = some (.slice el)) (hs : Tp.size P el = some s) (hmx : mx.isNone = true ∨ hi.isSome = true) (hx : VR ρ (.sl q len cap ex) (a.eval x))
    (hm : bndO cap cap t (mx.map (cO P)) = some m) (hh : bndO len m t (hi.map (cO P)) = some h') (hl : bndO 0 h' t (lo.map (cO P)) = some l') (hhm : h' ≤ m) (hse : mx.isNone = true → ∀ es, ex = some es → es = s) :
    Yv P ρ a w o (.sl (q.map fun p => (p.1, p.2 + l' * s)) (h' - l') (m - l') (if mx.isSome then none else ex)) := by
  cases q with
  | none =>
    obtain ⟨h1, h2, h3⟩ := vNilSl hx
    subst h1 h2
    obtain ⟨hb, hb2, hb3⟩ := rBounds (P := P) (w := w) (isS := true) H ht hmx (Nat.le_refl 0) hm hh hl (Nat.le_refl _)
    have e1 : m = 0 := by omega
    have e2 : h' = 0 := by omega
    have e3 : l' = 0 := by omega
    subst e1 e2 e3
    refine ⟨.slice none 0 0, ?_, by simp only [Option.map_none, VR]; simp⟩
    have hb' : (if mx.isSome = true then 0 else 0) = 0 := by split <;> rfl
    rw [hb'] at hb
    simp only [execOp, ho, h3, Sem.run_bind, run_sliceAt_else hu (by simp), Instr.slice, rUnderlying hu, Result.andThen_ok, hb, rSize hs, Sem.run_pure, if_true, Nat.sub_self]
  | some q =>
    obtain ⟨p, y, c', h1, h2, h3, h4, h5⟩ := vSl hx
    have hcc : cap ≤ c' := by
      unfold exR at h5
      cases ex with
      | none => simp only at h5; omega
      | some es => simp only at h5; exact h5.1
    obtain ⟨hb, hb2, hb3⟩ := rBounds (P := P) (w := w) (isS := true) H ht hmx hcc hm hh hl h3
    cases hmi : mx.isSome with
    | true =>
      simp only [hmi, if_true] at hb ⊢
      have hrun : (execOp a.eval o).run P w = .ok (.value (.slice (if m = l' then some ⟨p.1, y, none⟩ else some ⟨p.1, y + l' * s, none⟩) (h' - l') (m - l'))) w := by
        simp only [execOp, ho, h2, Sem.run_bind, run_sliceAt_else hu (by simp), Instr.slice, rUnderlying hu, Result.andThen_ok, hb, rSize hs, Sem.run_pure]
        split <;> simp [add_none, *]
      refine ⟨_, hrun, ?_⟩
      simp only [Option.map_some, VR]
      by_cases hml : m = l'
      · refine ⟨p, y, m - l', h1, by simp [hml], by omega, .inr (by omega), ?_⟩
        unfold exR; simp
      · refine ⟨p, y + l' * s, m - l', h1, by simp [hml], by omega, ?_, ?_⟩
        · rcases h4 with h4 | h4
          · left; omega
          · right; omega
        · unfold exR; simp
    | false =>
      have hmn : mx = none := by simpa using hmi
      subst hmn
      simp only [hmi, Bool.false_eq_true, if_false] at hb ⊢
      simp only [Option.map_none, bndO, Option.some.injEq] at hm
      subst hm
      have hrun : (execOp a.eval o).run P w = .ok (.value (.slice (if c' = l' then some ⟨p.1, y, none⟩ else some ⟨p.1, y + l' * s, none⟩) (h' - l') (c' - l'))) w := by
        simp only [execOp, ho, h2, Sem.run_bind, run_sliceAt_else hu (by simp), Instr.slice, rUnderlying hu, Result.andThen_ok, hb, rSize hs, Sem.run_pure]
        split <;> simp [add_none, *]
      refine ⟨_, hrun, ?_⟩
      simp only [Option.map_some, VR]
      by_cases hml : c' = l'
      · refine ⟨p, y, c' - l', h1, by simp [hml], by omega, .inr (by omega), ?_⟩
        exact exR_shift (m := 0) (size := s) h5 (by omega) (hse rfl) y (.inr (by omega)) (.inl rfl)
      · refine ⟨p, y + l' * s, c' - l', h1, by simp [hml], by omega, ?_, ?_⟩
        · rcases h4 with h4 | h4
          · left; omega
          · right; omega
        · exact exR_shift (m := 0) (size := s) h5 (by omega) (hse rfl) _ (.inl rfl) (.inr rfl)

theorem y_sliceArr (H : HR P w0 ρ X h w) (ht : VRs ρ t a.tmps.toList) {ty el : TypeId} {x : Operand} {lo hi mx : Option Operand} {q : Nat × Nat} {n m h' l' s : Nat}
    (ho : o.op = .slice ty x lo hi mx) (hu : P.underlying ty = some (.array n el)) (hs : Tp.size P el = some s) (hmx : mx.isNone = true ∨ hi.isSome = true) (hx : VR ρ (.ptr (some q)) (a.eval x))
    (hm : bndO n n t (mx.map (cO P)) = some m) (hh : bndO n m t (hi.map (cO P)) = some h') (hl : bndO 0 h' t (lo.map (cO P)) = some l') (hhm : h' ≤ m) :
    Yv P ρ a w o (.sl (some (q.1, q.2 + l' * s)) (h' - l') (m - l') none) := by
  obtain ⟨p, h1, h2⟩ := vPtr hx
  obtain ⟨hb, hb2, hb3⟩ := rBounds (P := P) (w := w) (isS := false) H ht hmx (Nat.le_refl n) hm hh hl (Nat.le_refl _)
  have hmm : (if mx.isSome = true then m else n) = m := by
    cases mx with
    | none => simp only [Option.map_none, bndO, Option.some.injEq] at hm; simp [hm]
    | some x => simp
  rw [hmm] at hb
  have hrun : (execOp a.eval o).run P w = .ok (.value (.slice (some (if m = l' then ⟨p.1, p.2.1 + q.2, none⟩ else ⟨p.1, p.2.1 + q.2 + l' * s, none⟩)) (h' - l') (m - l'))) w := by
    simp only [execOp, ho, h2, Sem.run_bind, Instr.sliceAt, Instr.sureAddr, rUnderlying hu, Result.andThen_ok, hb, rSize hs, Sem.run_pure, add_none]
  refine ⟨_, hrun, ?_⟩
  simp only [VR]
  by_cases hml : m = l'
  · refine ⟨p, p.2.1 + q.2, m - l', h1, by simp [hml], by omega, .inr (by omega), ?_⟩
    unfold exR; simp
  · refine ⟨p, p.2.1 + q.2 + l' * s, m - l', h1, by simp [hml], by omega, .inl (by omega), ?_⟩
    unfold exR; simp

end
end Go.Am

/- The abstract machine against the model: more operations that leave the heap alone. Conditions: those that each lemma names. -/
import Derived.Test.YtmpdpcamgkndnaaGreatDoorAmOps2
import Derived.Laws.Strings
set_option linter.constructorNameAsVariable false
set_option linter.unusedSimpArgs false
set_option linter.unusedVariables false
namespace Go.Am
open Go.RowKit (Below)

section
variable {P : Program} {w0 : World} {ρ : Ren} {X : Frm} {h : Heap} {w : World} {t : List AV} {a : Act} {o : Oper} {v : AV} {op : AOp}

theorem y_load (H : HR P w0 ρ X h w) (ht : VRs ρ t a.tmps.toList) {ty : TypeId} {x : Operand} (ho : o.op = .load ty x) (hc : cOp P (.load ty x) = some op) (hq : qv h t op = some v) : Yv P ρ a w o v := by
  simp only [cOp] at hc
  have hx := H.ev ht x
  split at hc
  · rename_i n hagg hsz
    cases hc
    simp only [qv] at hq
    split at hq
    · rename_i p he
      rw [he] at hx
      obtain ⟨q, hq1, hq2⟩ := vPtr hx
      cases hl : h.ldN p n with
      | none => simp [hl] at hq
      | some vs =>
        simp only [hl, Option.map_some, Option.some.injEq] at hq
        subst hq
        obtain ⟨q', vs', hr1, hr2, hr3, hr4⟩ := H.ldN (n := p.1) (o := p.2) hl
        rw [hq1] at hr1; cases hr1
        refine ⟨.agg vs'.toArray, ?_, by simp only [VR]; exact ⟨_, rfl, by simpa using hr4⟩⟩
        simp only [execOp, ho, hq2, Instr.loadAt, Instr.sureAddr, loadVar, Sem.run_bind, Sem.run_pure, Result.andThen_ok, rAgg hagg, rSize hsz, if_true, rLoadCells hr2 hr3]
    · cases hq
  · rename_i n hagg hsz
    cases hc
    simp only [qv] at hq
    split at hq
    · rename_i p he
      rw [he] at hx
      obtain ⟨q, hq1, hq2⟩ := vPtr hx
      obtain ⟨q', v', hr1, hr2, hr3⟩ := H.ld (n := p.1) (o := p.2) hq
      rw [hq1] at hr1; cases hr1
      refine ⟨v', ?_, hr3⟩
      simp only [execOp, ho, hq2, Instr.loadAt, Instr.sureAddr, loadVar, Sem.run_bind, Sem.run_pure, Result.andThen_ok, rAgg hagg, Bool.false_eq_true, if_false, rLoad hr2]
    · cases hq
  · cases hc

theorem y_nilCheck {x : Operand} (hx : VR ρ ((cO P x).ev t) (a.eval x)) (ho : o.op = .nilCheck x) (hq : qv h t (.nilCheck (cO P x)) = some v) : Yv P ρ a w o v := by
  simp only [qv] at hq
  split at hq
  · rename_i p he
    cases hq
    rw [he] at hx
    obtain ⟨q, hq1, hq2⟩ := vPtr hx
    refine ⟨_, ?_, hx⟩
    simp [execOp, ho, hq2]
  · rename_i f cs he
    cases hq
    rw [he] at hx
    obtain ⟨q, hq1, hq2⟩ := vFn hx
    refine ⟨_, ?_, hx⟩
    simp [execOp, ho, hq1]
  · rename_i f he
    cases hq
    rw [he] at hx
    obtain ⟨q, hq1, hq2⟩ := vYield hx
    refine ⟨_, ?_, hx⟩
    simp [execOp, ho, hq2]
  · cases hq

/-! Numbers and strings -/
theorem eqGuard_pass {op : BinOp} {ty : TypeId} {x y : Operand} {u v : Value} (h1 : u ≠ .nilIface) (h2 : ∀ c, u ≠ .agg c) : (eqGuard op ty x y u v).run P w = .ok () w := by
  unfold eqGuard
  cases op <;> simp only [Bool.not_true, Bool.not_false, if_true, if_false, Sem.run_bind, Sem.run_pure, Sem.run_ite, Result.andThen_ok, Bool.false_eq_true] <;>
    (cases u <;> first | exact absurd rfl h1 | exact absurd rfl (h2 _) | (cases v <;> rfl))

theorem y_bin {ty ty' : TypeId} {op : BinOp} {x y : Operand} {u u' : AV} (ho : o.op = .binOp op ty x y ty') (hx : VR ρ u (a.eval x)) (hy : VR ρ u' (a.eval y)) (hq : abin op u u' = some v) : Yv P ρ a w o v := by
  unfold abin at hq
  split at hq
  · rename_i k m k' m'
    have ex := vInt hx
    have ey := vInt hy
    have hg : (eqGuard op ty x y (a.eval x) (a.eval y)).run P w = .ok () w := by rw [ex]; exact eqGuard_pass (by simp) (by simp)
    have hrun : ∀ r : Value, (binOp op ty (a.eval x) (a.eval y)).run P w = .ok r w → (execOp a.eval o).run P w = .ok (.value r) w := by
      intro r hr
      simp only [execOp, ho, Sem.run_bind, hg, Result.andThen_ok, hr, Sem.run_pure]
    rw [ex, ey] at hrun
    have key : ∀ r : Value, (binOp op ty (.int k m) (.int k' m')).run P w = .ok r w → VR ρ v r → Yv P ρ a w o v := fun r h1 h2 => ⟨r, hrun r h1, h2⟩
    cases op <;> simp only [] at hq <;> (try split at hq) <;> (try split at hq) <;> (try cases hq) <;>
      first
      | exact key _ (by simp only [binOp, Op.shift]; rw [if_neg (by assumption)]; rfl) (rInt _ _)
      | exact key _ (by simp_all [binOp, Op.shift, Op.intArith, Op.intDiv, Op.intBits, Op.intCmp]) (rInt _ _)
      | exact key _ (by simp_all [binOp, Op.shift, Op.intArith, Op.intDiv, Op.intBits, Op.intCmp]) (rBool _)
  · rename_i l l'
    obtain ⟨s, ex, hs⟩ := vStr hx
    obtain ⟨s', ey, hs'⟩ := vStr hy
    have hg : (eqGuard op ty x y (a.eval x) (a.eval y)).run P w = .ok () w := by rw [ex]; exact eqGuard_pass (by simp) (by simp)
    have hrun : ∀ r : Value, (binOp op ty (a.eval x) (a.eval y)).run P w = .ok r w → (execOp a.eval o).run P w = .ok (.value r) w := by
      intro r hr
      simp only [execOp, ho, Sem.run_bind, hg, Result.andThen_ok, hr, Sem.run_pure]
    rw [ex, ey] at hrun
    have key : ∀ r : Value, (binOp op ty (.string s) (.string s')).run P w = .ok r w → VR ρ v r → Yv P ρ a w o v := fun r h1 h2 => ⟨r, hrun r h1, h2⟩
    have e1 : s.toList = l := by rw [ByteArray.toList_eq, hs]
    have e2 : s'.toList = l' := by rw [ByteArray.toList_eq, hs']
    have z1 : s.size = l.length := by rw [← hs]; rfl
    have z2 : s'.size = l'.length := by rw [← hs']; rfl
    cases op <;> simp only [] at hq <;> (try split at hq) <;> (try cases hq) <;>
      first
      | exact key _ (by simp [binOp, Op.stringOp, e1, e2]) (rBool _)
      | skip
    rename_i hlen
    refine key (.string (s ++ s')) ?_ ?_
    · have : ¬ ((s.size + s'.size : Nat) : Int) > IntKind.i64.max := by
        rw [z1, z2]
        simp only [IntKind.max, IntKind.signed, IntKind.bits, if_true]
        omega
      simp only [binOp, Op.stringOp, if_neg this, Sem.run_pure, Sem.run_ite]
    · simp only [VR]
      exact ⟨_, rfl, by simp [hs, hs']⟩
  · cases hq

theorem y_un {ty : TypeId} {op : UnOp} {x : Operand} {u : AV} (ho : o.op = .unOp op ty x) (hx : VR ρ u (a.eval x)) (hq : aun op u = some v) : Yv P ρ a w o v := by
  unfold aun at hq
  split at hq
  · rename_i k m
    have ex := vInt hx
    cases op <;> simp only [] at hq <;> (try cases hq)
    · refine ⟨_, ?_, rInt _ _⟩
      simp [execOp, ho, ex, Op.unary, Op.intArith]
    · refine ⟨_, ?_, rInt _ _⟩
      simp [execOp, ho, ex, Op.unary, Op.intBits]
  · rename_i b
    have ex := vBool hx
    cases op <;> simp only [] at hq <;> (try cases hq)
    refine ⟨_, ?_, rBool _⟩
    simp [execOp, ho, ex, Op.unary]
  · cases hq

end
end Go.Am

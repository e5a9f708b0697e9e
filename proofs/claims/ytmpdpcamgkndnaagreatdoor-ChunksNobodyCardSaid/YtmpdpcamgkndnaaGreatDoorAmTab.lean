/- The abstract machine: the table of a program's own functions, compiled. Conditions: none. -/
import Derived.Test.YtmpdpcamgkndnaaGreatDoorAmMain
set_option linter.constructorNameAsVariable false
set_option linter.unusedSimpArgs false
set_option linter.unusedVariables false
namespace Go.Am

def cFn (P : Program) (f : Nat) : Option AFn :=
  match P.funcs[f]? with
  | some g =>
    match g.body with
    | some c =>
      if g.name = "runtime.NumGoroutine" then none
      else
        match cRess P g.results.toList, cCode P c with
        | some r, some x => some { ntmps := g.ntmps, res := r, body := x }
        | _, _ => none
    | none => none
  | none => none

theorem erase_cCode {P : Program} {C : Code} {x : AC} (h : cCode P C = some x) : x.erase = x := by
  induction C generalizing x with
  | seq a b iha ihb => cases cInv h with | seq _ _ x y h1 h2 => simp [AC.erase, iha h1, ihb h2]
  | cond c a b iha ihb => cases cInv h with | cond _ _ _ x y h1 h2 => simp [AC.erase, iha h1, ihb h2]
  | block id c ih => cases cInv h with | block _ _ x h1 => simp [AC.erase, ih h1]
  | loop c ih => cases cInv h with | loop _ x h1 => simp [AC.erase, ih h1]
  | rangeFunc f ps a b iha ihb => cases cInv h with | rangeF _ _ _ _ x y h1 h2 => simp [AC.erase, iha h1, ihb h2]
  | _ => cases cInv h <;> rfl

theorem cFn_ok (P : Program) : Fns P (cFn P) := by
  intro f fn h
  unfold cFn at h
  split at h
  · rename_i g hg
    split at h
    · rename_i c hc
      split at h
      · cases h
      · rename_i hn
        split at h
        · rename_i r x hr hx
          cases h
          exact ⟨⟨g, c, hg, hc, hn, rfl, hr, by rw [erase_cCode hx]; exact hx⟩, fun _ _ _ hm => by cases hm⟩
        · cases h
    · cases h
  · cases h

/-- It came out true. -/
def okTrue : Option (AV × Heap) → Bool
  | some (.bool true, _) => true
  | _ => false

theorem okTrue_run {P : Program} {n f : Nat} {args : List AV} {h : Heap} (hr : okTrue (arunF (cFn P) n f args h) = true) : acall (cFn P) n f args h fun v _ => v = .bool true := by
  cases he : arunF (cFn P) n f args h with
  | none => rw [he] at hr; cases hr
  | some p =>
    obtain ⟨v, h'⟩ := p
    rw [he] at hr
    refine arunF_lnk he ?_
    unfold okTrue at hr
    split at hr
    · rename_i heq; cases heq; rfl
    · cases hr

end Go.Am

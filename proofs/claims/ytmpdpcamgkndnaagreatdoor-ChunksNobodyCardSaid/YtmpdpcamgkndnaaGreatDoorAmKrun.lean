/- The abstract machine: runs that the kernel goes through, by the tuned evaluator. Conditions: those that each lemma names. -/
import Derived.Test.YtmpdpcamgkndnaaGreatDoorAmK5
import Derived.Test.YtmpdpcamgkndnaaGreatDoorAmMemo
set_option linter.constructorNameAsVariable false
set_option linter.unusedSimpArgs false
set_option linter.unusedVariables false
namespace Go.Am

/-- It came out as this value. -/
def okVal (w : AV) : Option (AV × Heap) → Bool
  | some (v, _) => v.beq w
  | none => false

theorem Rets.of {fns : Nat → Option AFn} {n f : Nat} {args : List AV} {h : Heap} {w : AV} (hr : okVal w (arunFT fns n f args h) = true) : Rets fns f args h w := by
  rw [← arunFT_eq] at hr
  cases he : arunF fns n f args h with
  | none => rw [he] at hr; cases hr
  | some p =>
    obtain ⟨v, h'⟩ := p
    rw [he] at hr
    exact ⟨ACall.of (n := n) (arunF_lnk he (AV.beq_eq _ _ hr))⟩

def AC.l : AC → AC
  | .seq a _ => a
  | c => c
def AC.r : AC → AC
  | .seq _ b => b
  | c => c

/-- What a call gives whose body came to an end. -/
noncomputable def endT (res : List ARes) : Option (AX × KS) → Option (AV × Heap)
  | some (x, s) =>
    match x with
    | .exit _ => none
    | _ =>
      match takeD s.d s.h with
      | some h' => (resAllK h' (slot s.n s.tr) res).map fun vs => (pack vs, h')
      | none => none
  | none => none

theorem absT_mkTr (t : List AV) : absT t.length (mkTr t.length t 0 .nil) = t := by
  have := absT_mk t 0
  simpa using this

/-- A call whose body's first two parts are gone through by the plain evaluator, the rest by the tuned one. -/
theorem Rets.of_pre {fns : Nat → Option AFn} {f n : Nat} {fn : AFn} {args : List AV} {h : Heap} {A B R : AC} {sA sB : St} {w : AV} (hf : fns f = some fn) (hm : fn.memo args h = none) (hb : fn.body = .seq A (.seq B R))
    (hA : arun fns n A { t := args ++ List.replicate (fn.ntmps - args.length) undefA, h, d := [], rd := false } = some (.normal, sA)) (hB : arun fns n B sA = some (.normal, sB))
    (hR : okVal w (endT fn.res (arunT fns n R ⟨sB.t.length, mkTr sB.t.length sB.t 0 .nil, sB.h, sB.d, sB.rd⟩)) = true) : Rets fns f args h w := by
  refine ⟨?_⟩
  unfold ACall callF
  simp only [hf, hm, hb]
  refine AWP.fold ?_
  simp only [astep]
  refine awp_AWP n _ _ _ (arun_lnk n _ _ _ _ hA _ ?_)
  simp only []
  refine AWP.fold ?_
  simp only [astep]
  refine awp_AWP n _ _ _ (arun_lnk n _ _ _ _ hB _ ?_)
  simp only []
  have hk := arunT_eq (fns := fns) n R ⟨sB.t.length, mkTr sB.t.length sB.t 0 .nil, sB.h, sB.d, sB.rd⟩
  have hs : KS.ab ⟨sB.t.length, mkTr sB.t.length sB.t 0 .nil, sB.h, sB.d, sB.rd⟩ = sB := by
    unfold KS.ab
    simp only [absT_mkTr]
  rw [hs] at hk
  generalize arunT fns n R ⟨sB.t.length, mkTr sB.t.length sB.t 0 .nil, sB.h, sB.d, sB.rd⟩ = o at hk hR
  cases o with
  | none => cases hR
  | some p =>
    obtain ⟨x, ks⟩ := p
    simp only [Option.map_some] at hk
    refine awp_AWP n _ _ _ (arun_lnk n _ _ _ _ hk _ ?_)
    have hres : ∀ h', resAll h' ks.ab.t fn.res = resAllK h' (slot ks.n ks.tr) fn.res := fun h' => resAllK_eq h' ks.n ks.tr fn.res
    have hd : ks.ab.d = ks.d := rfl
    have hh : ks.ab.h = ks.h := rfl
    cases x with
    | exit i => cases hR
    | normal =>
      simp only [endT] at hR ⊢
      rw [hd, hh]
      cases ht : takeD ks.d ks.h with
      | none => rw [ht] at hR; cases hR
      | some h' =>
        rw [ht] at hR
        simp only [hres] at hR ⊢
        cases hv : resAllK h' (slot ks.n ks.tr) fn.res with
        | none => rw [hv] at hR; cases hR
        | some vs =>
          rw [hv] at hR
          exact AV.beq_eq _ _ hR
    | ret =>
      simp only [endT] at hR ⊢
      rw [hd, hh]
      cases ht : takeD ks.d ks.h with
      | none => rw [ht] at hR; cases hR
      | some h' =>
        rw [ht] at hR
        simp only [hres] at hR ⊢
        cases hv : resAllK h' (slot ks.n ks.tr) fn.res with
        | none => rw [hv] at hR; cases hR
        | some vs =>
          rw [hv] at hR
          exact AV.beq_eq _ _ hR

end Go.Am

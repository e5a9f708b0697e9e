/- The abstract machine without fuel: the least transformer that its steps close; it is sound against the model as the machine with fuel is. Conditions: those that each lemma names. -/
import Derived.Test.YtmpdpcamgkndnaaGreatDoorAmTab
set_option linter.constructorNameAsVariable false
set_option linter.unusedSimpArgs false
set_option linter.unusedVariables false
namespace Go.Am
open Go.RowKit (Below)

def RMono (r : Rec) : Prop := ∀ c s (K K' : AX → St → Prop), (∀ x s, K x s → K' x s) → r c s K → r c s K'
def RLe (r r' : Rec) : Prop := ∀ c s K, r c s K → r' c s K

section
variable {fns : Nat → Option AFn} {r r' : Rec}

theorem callF_mono (L : RLe r r') (M : RMono r') {f : Nat} {args : List AV} {h : Heap} {K K' : AV → Heap → Prop} (hK : ∀ v h, K v h → K' v h) (hc : callF fns r f args h K) : callF fns r' f args h K' := by
  unfold callF at hc ⊢
  split at hc
  · rename_i fn hfn
    split at hc
    · rename_i v hv; (try simp only [hv]); exact hK _ _ hc
    · rename_i hv
      (try simp only [hv])
      refine M _ _ _ _ ?_ (L _ _ _ hc)
      intro x s hx
      cases x with
      | exit i => exact hx.elim
      | normal =>
        simp only at hx ⊢
        split at hx
        · rename_i h' ht
          (try simp only [ht])
          split at hx
          · rename_i vs hvs; (try simp only [hvs]); exact hK _ _ hx
          · exact hx.elim
        · exact hx.elim
      | ret =>
        simp only at hx ⊢
        split at hx
        · rename_i h' ht
          (try simp only [ht])
          split at hx
          · rename_i vs hvs; (try simp only [hvs]); exact hK _ _ hx
          · exact hx.elim
        · exact hx.elim
  · exact hc.elim

theorem callYield_mono (L : RLe r r') (M : RMono r') {l : Nat} {args : List AV} {h : Heap} {K K' : AV → Heap → Prop} (hK : ∀ v h, K v h → K' v h) (hc : callYield r l args h K) : callYield r' l args h K' := by
  unfold callYield at hc ⊢
  split at hc
  · rename_i pend tmps ps asg body dfr hg
    (try simp only [hg])
    split at hc
    · rename_i hl
      (try rw [if_pos hl])
      refine M _ _ _ _ ?_ (L _ _ _ hc)
      intro x s hx
      cases x with
      | normal =>
        simp only at hx ⊢
        split at hx
        · rename_i hg1
          (try simp only [hg1])
          refine M _ _ _ _ ?_ (L _ _ _ hx)
          intro y s' hy
          split at hy
          · rename_i hg2
            (try simp only [hg2])
            cases y <;> exact hK _ _ hy
          · exact hy.elim
        · exact hx.elim
      | exit i => exact hx.elim
      | ret => exact hx.elim
    · exact hc.elim
  · exact hc.elim

theorem callV_mono (L : RLe r r') (M : RMono r') {v : AV} {args : List AV} {h : Heap} {K K' : AV → Heap → Prop} (hK : ∀ v h, K v h → K' v h) (hc : callV fns r v args h K) : callV fns r' v args h K' := by
  unfold callV at hc ⊢
  split at hc
  · exact callF_mono L M hK hc
  · exact callYield_mono L M hK hc
  · exact hc.elim

theorem aeff_mono (L : RLe r r') (M : RMono r') {t : List AV} {h : Heap} {K K' : AV → Heap → Prop} (hK : ∀ v h, K v h → K' v h) {op : AOp} (hc : aeff fns r t h K op) : aeff fns r' t h K' op := by
  cases op <;> simp only [aeff] at hc ⊢ <;> first | (exact hc.elim) | (exact callF_mono L M hK hc) | (exact callV_mono L M hK hc) | skip
  case store n a x => split at hc <;> (try split at hc) <;> (try split at hc) <;> simp_all
  case append =>
    split at hc
    · rename_i a len cap ex new hx hn
      (try simp only [hx, hn])
      split at hc
      · rename_i n hs
        (try simp only [hs])
        split at hc
        · rename_i hle
          (try rw [if_pos hle])
          cases a with
          | none => exact hK _ _ hc
          | some p =>
            simp only at hc ⊢
            split at hc
            · rename_i h2 h3; (try simp only [h3]); exact hK _ _ hc
            · exact hc.elim
        · rename_i hle
          (try rw [if_neg hle])
          split at hc
          · rename_i hb
            rw [if_pos hb]
            cases ex with
            | none =>
              simp only at hc ⊢
              split at hc
              · rename_i ho; rw [hx] at ho; simp only [ho]; exact hK _ _ hc
              · exact hc.elim
            | some es =>
              simp only at hc ⊢
              cases a with
              | none => exact hc.elim
              | some p =>
                simp only at hc ⊢
                split at hc
                · rename_i hg ho
                  rw [hx] at ho
                  simp only [hg, ho]
                  split at hc
                  · rename_i hh; rw [if_pos hh]; exact hK _ _ hc
                  · exact hc.elim
                · exact hc.elim
          · exact hc.elim
      · exact hc.elim
    · exact hc.elim
  case copy =>
    split at hc
    · rename_i q dl c1 e1 hx
      (try simp only [hx])
      split at hc
      · rename_i n y' hy
        (try simp only [hy])
        split at hc
        · rename_i new hn
          (try simp only [hn])
          cases q with
          | none => exact hK _ _ hc
          | some q =>
            simp only at hc ⊢
            split at hc
            · rename_i h3; (try simp only [h3]); exact hK _ _ hc
            · exact hc.elim
        · exact hc.elim
      · exact hc.elim
    · exact hc.elim
  case clear =>
    split at hc
    · rename_i hx; (try simp only [hx]); exact hK _ _ hc
    · rename_i hx
      (try simp only [hx])
      split at hc
      · rename_i hz
        (try simp only [hz, if_true])
        split at hc
        · rename_i h3; (try simp only [h3]); exact hK _ _ hc
        · exact hc.elim
      · exact hc.elim
    · exact hc.elim
  case mapUpd =>
    split at hc
    · rename_i hx
      (try simp only [hx])
      split at hc
      · rename_i hm
        (try simp only [hm])
        split at hc
        · rename_i hf
          (try simp only [hf])
          split at hc
          · rename_i h3; (try simp only [h3]); exact hK _ _ hc
          · exact hc.elim
        · rename_i hf; (try simp only [hf]); exact hK _ _ hc
        · exact hc.elim
      · exact hc.elim
    · exact hc.elim
  case delete =>
    split at hc
    · rename_i hx; (try simp only [hx]); exact hK _ _ hc
    · rename_i hx
      (try simp only [hx])
      split at hc
      · rename_i hm
        (try simp only [hm])
        split at hc
        · rename_i hf; (try simp only [hf]); exact hK _ _ hc
        · rename_i hf; (try simp only [hf]); exact hK _ _ hc
        · exact hc.elim
      · exact hc.elim
    · exact hc.elim
  case freeze =>
    split at hc
    · rename_i hx
      (try simp only [hx])
      split at hc
      · rename_i hg; (try simp only [hg]); exact hK _ _ hc
      · exact hc.elim
    · exact hc.elim
  case range =>
    split at hc
    · rename_i hx; (try simp only [hx]); exact hK _ _ hc
    · rename_i hx
      (try simp only [hx])
      split at hc
      · rename_i hm; (try simp only [hm]); exact hK _ _ hc
      · exact hc.elim
    · exact hc.elim
  case next =>
    split at hc
    · rename_i hx
      (try simp only [hx])
      split at hc
      · rename_i hg; (try simp only [hg]); exact hK _ _ hc
      · rename_i hg
        (try simp only [hg])
        split at hc
        · rename_i hm
          (try simp only [hm])
          split at hc
          · rename_i hcc
            rw [if_pos hcc]
            split at hc
            · rename_i hl; (try rw [if_pos hl]); exact hK _ _ hc
            · rename_i hl; (try rw [if_neg hl]); exact fun e he => hK _ _ (hc e he)
          · exact hc.elim
        · exact hc.elim
      · exact hc.elim
    · exact hc.elim

theorem aop_mono (L : RLe r r') (M : RMono r') {op : AOp} {t : List AV} {h : Heap} {K K' : AV → Heap → Prop} (hK : ∀ v h, K v h → K' v h) (hc : aop fns r op t h K) : aop fns r' op t h K' := by
  unfold aop at hc ⊢
  split at hc
  · exact aeff_mono L M hK hc
  · split at hc
    · rename_i ha; (try simp only [ha]); exact hK _ _ hc
    · exact hc.elim
  · split at hc
    · rename_i ha; (try simp only [ha]); exact hK _ _ hc
    · exact hc.elim

theorem runOps_mono (L : RLe r r') (M : RMono r') : ∀ (ops : List AOpr) (s : St) {K K' : St → Prop}, (∀ s, K s → K' s) → runOps fns r ops s K → runOps fns r' ops s K'
  | [], s, K, K', hK, hc => hK _ hc
  | o :: os, s, K, K', hK, hc => by
    simp only [runOps] at hc ⊢
    split at hc
    · rename_i hw; (try simp only [hw])
      exact aop_mono L M (fun v h hx => runOps_mono L M os _ hK hx) hc
    · rename_i hw; (try simp only [hw]); exact runOps_mono L M os _ hK hc
    · exact hc.elim

theorem runD_mono (L : RLe r r') (M : RMono r') : ∀ (ds : List DOpr) (s : Sd) {K K' : List AV → Heap → Prop}, (∀ t h, K t h → K' t h) → runD fns r ds s K → runD fns r' ds s K'
  | [], s, K, K', hK, hc => hK _ _ hc
  | d :: ds, s, K, K', hK, hc => by
    simp only [runD] at hc ⊢
    split at hc
    · exact hc.elim
    · rename_i hw; (try simp only [hw]); exact runD_mono L M ds _ hK hc
    · rename_i hw
      (try simp only [hw])
      split at hc
      · rename_i hcl
        (try simp only [hcl])
        split at hc
        · rename_i hv; (try simp only [hv]); exact runD_mono L M ds _ hK hc
        · exact hc.elim
      · rename_i hcl
        (try simp only [hcl])
        split at hc
        · rename_i hv
          (try simp only [hv])
          split at hc
          · rename_i hs; rw [if_pos hs]; exact runD_mono L M ds _ hK hc
          · exact hc.elim
        · exact hc.elim
      · rename_i hcl
        (try simp only [hcl])
        split at hc
        · rename_i hv; (try simp only [hv]); exact runD_mono L M ds _ hK hc
        · exact hc.elim
      · rename_i hcl
        (try simp only [hcl])
        obtain ⟨v, h', h1, h2⟩ := hc
        exact ⟨v, h', fun K2 hK2 => aeff_mono L M (fun _ _ h => h) (h1 K2 hK2), runD_mono L M ds _ hK h2⟩

theorem astep_mono (L : RLe r r') (M : RMono r') (c : AC) (s : St) {K K' : AX → St → Prop} (hK : ∀ x s, K x s → K' x s) (hc : astep fns r c s K) : astep fns r' c s K' := by
  cases c <;> simp only [astep] at hc ⊢
  case skip => exact hK _ _ hc
  case reg ops => exact runOps_mono L M ops s (fun s h => hK _ _ h) hc
  case regD m ops => exact runD_mono L M ops _ (fun t h hx => hK _ _ hx) hc
  case seq a b =>
    refine M _ _ _ _ ?_ (L _ _ _ hc)
    intro x s' hx
    cases x with
    | normal => exact M _ _ _ _ hK (L _ _ _ hx)
    | exit i => exact hK _ _ hx
    | ret => exact hK _ _ hx
  case cond c a b =>
    split at hc
    · rename_i hb; (try simp only [hb]); exact M _ _ _ _ hK (L _ _ _ hc)
    · rename_i hb; (try simp only [hb]); exact M _ _ _ _ hK (L _ _ _ hc)
    · exact hc.elim
  case block id c =>
    refine M _ _ _ _ ?_ (L _ _ _ hc)
    intro x s' hx
    cases x with
    | normal => exact hK _ _ hx
    | exit i =>
      simp only at hx ⊢
      split at hx
      · rename_i he; rw [if_pos he]; exact hK _ _ hx
      · rename_i he; rw [if_neg he]; exact hK _ _ hx
    | ret => exact hK _ _ hx
  case loop c =>
    refine M _ _ _ _ ?_ (L _ _ _ hc)
    intro x s' hx
    cases x with
    | normal => exact M _ _ _ _ hK (L _ _ _ hx)
    | exit i => exact hK _ _ hx
    | ret => exact hK _ _ hx
  case rangeF f ps asg body =>
    split at hc
    · exact hc.elim
    · rename_i hrd
      (try simp only [hrd])
      split at hc
      · rename_i f' caps hf
        (try simp only [hf])
        refine callF_mono L M ?_ hc
        intro v h3 hx
        split at hx
        · rename_i hg
          (try simp only [hg])
          split at hx
          · exact hx.elim
          · rename_i hb; (try simp only [hb]); rw [hrd] at hx; exact hK _ _ hx
        · exact hx.elim
      · exact hc.elim
  case exit id => exact hK _ _ hc
  case ret => exact hK _ _ hc
  case fgt ts c => exact M _ _ _ _ hK (L _ _ _ hc)

/-- Without fuel. -/
def AWP (fns : Nat → Option AFn) : Rec := fun c s K => ∀ R : Rec, RMono R → RLe (astep fns R) R → R c s K

theorem AWP.mono : RMono (AWP fns) := fun c s K K' hK h R hm hR => hm c s K K' hK (h R hm hR)

theorem AWP.fold {c : AC} {s : St} {K : AX → St → Prop} (h : astep fns (AWP fns) c s K) : AWP fns c s K := fun R hm hR =>
  hR _ _ _ (astep_mono (fun c s K h => h R hm hR) hm c s (fun _ _ h => h) h)

theorem astep_rmono (M : RMono r) : RMono (astep fns r) := fun c s K K' hK h => astep_mono (fun _ _ _ h => h) M c s hK h

theorem AWP.unfold {c : AC} {s : St} {K : AX → St → Prop} (h : AWP fns c s K) : astep fns (AWP fns) c s K :=
  h (astep fns (AWP fns)) (astep_rmono AWP.mono) (fun c s K hc => astep_mono (fun c s K h => AWP.fold h) AWP.mono c s (fun _ _ h => h) hc)

theorem AWP.eq {c : AC} {s : St} {K : AX → St → Prop} : AWP fns c s K = astep fns (AWP fns) c s K := propext ⟨AWP.unfold, AWP.fold⟩

theorem awp_AWP : ∀ n, RLe (awp fns n) (AWP fns)
  | 0 => fun c s K h => h.elim
  | n + 1 => fun c s K h => AWP.fold (astep_mono (awp_AWP n) AWP.mono c s (fun _ _ h => h) h)

/-- A call, without fuel. -/
def ACall (fns : Nat → Option AFn) (f : Nat) (args : List AV) (h : Heap) (K : AV → Heap → Prop) : Prop := callF fns (AWP fns) f args h K

theorem ACall.of {n f : Nat} {args : List AV} {h : Heap} {K : AV → Heap → Prop} (hc : acall fns n f args h K) : ACall fns f args h K :=
  callF_mono (awp_AWP n) AWP.mono (fun _ _ h => h) hc
theorem ACall.mono {f : Nat} {args : List AV} {h : Heap} {K K' : AV → Heap → Prop} (hK : ∀ v h, K v h → K' v h) (hc : ACall fns f args h K) : ACall fns f args h K' :=
  callF_mono (fun _ _ _ h => h) AWP.mono hK hc
end

section
variable {P : Program} {w0 : World} {fns : Nat → Option AFn}

theorem snd_AWP (hm : P.follows .mixedOrders = true) (hfns : Fns P fns) : Snd P w0 (AWP fns) := by
  let R : Rec := fun c s K => ∀ (C : Code), cCode P C = some c.erase → ∀ (F : Fence), Fc F → F.round.isSome = s.rd →
    ∀ (ρ : Ren) (X : Frm) (a : Act) (w : World), HR P w0 ρ X s.h w → VRs ρ s.t a.tmps.toList → DR ρ s.d a.defers → ∀ m, wpQ F m P C (Post P w0 ρ X s.rd K) a w
  have S : Snd P w0 R := fun c C hC s K hq F hF hr ρ X a w H ht hd m => hq C hC F hF hr ρ X a w H ht hd m
  have hmono : RMono R := fun c s K K' hK h C hC F hF hr ρ X a w H ht hd m =>
    wpQ.mono (h C hC F hF hr ρ X a w H ht hd m) fun e a w hp => Post.mono (Ren.le_refl _) (fun x s _ hx => hK x s hx) hp
  have hpre : RLe (astep fns R) R := fun c s K h C hC F hF hr ρ X a w H ht hd m =>
    snd_step hm S (dsnd hm S hfns) hfns c C hC s K h F hF hr ρ X a w H ht hd m
  intro c C hC s K hq F hF hr ρ X a w H ht hd m
  exact hq R hmono hpre C hC F hF hr ρ X a w H ht hd m

/-- A call that the machine goes through is a call of the model's. -/
theorem ACall.sound (hm : P.follows .mixedOrders = true) (hfns : Fns P fns) {ρ : Ren} {X : Frm} {h : Heap} {w : World} (H : HR P w0 ρ X h w) {f : Nat} {args : List AV} {args' : Array Value} (hargs : VRs ρ args args'.toList) {K : AV → Heap → Prop}
    (hq : ACall fns f args h K) : Calls P f args' w (RetPost P w0 ρ X K) :=
  callsIn_wide.1 (callF_sound (F := Fence.wide) (snd_AWP hm hfns) hfns H hargs hq wide_fc 0)

theorem ACall.soundIn (hm : P.follows .mixedOrders = true) (hfns : Fns P fns) {ρ : Ren} {X : Frm} {h : Heap} {w : World} (H : HR P w0 ρ X h w) {f : Nat} {args : List AV} {args' : Array Value} (hargs : VRs ρ args args'.toList) {K : AV → Heap → Prop}
    (hq : ACall fns f args h K) {F : Fence} (hF : Fc F) (m : Nat) : CallsIn F m P f args' w (RetPost P w0 ρ X K) :=
  callF_sound (snd_AWP hm hfns) hfns H hargs hq hF m
end
end Go.Am

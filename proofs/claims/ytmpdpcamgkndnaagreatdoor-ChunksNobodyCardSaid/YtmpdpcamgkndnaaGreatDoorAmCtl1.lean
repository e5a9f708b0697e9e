/- The abstract machine against the model: calls, rounds of a range over a function, one operation. Conditions: those that each lemma names. -/
import Derived.Test.YtmpdpcamgkndnaaGreatDoorAmEff5
import Derived.RangeFuncRecord
import Derived.OrdersIn
set_option linter.constructorNameAsVariable false
set_option linter.unusedSimpArgs false
set_option linter.unusedVariables false
namespace Go.Am
open Go.RowKit (Below)

def AX.out : AX → Exit
  | .normal => .normal
  | .exit id => .exit id
  | .ret => .ret

/-- The marks of a frame. -/
def DR (ρ : Ren) : List Nat → List Deferred → Prop
  | [], [] => True
  | n :: ns, d :: ds => (∃ p, ρ n = some p ∧ d = { target := .collected p.1, args := #[] }) ∧ DR ρ ns ds
  | _, _ => False

theorem DR.mono {ρ ρ' : Ren} (h : ρ.le ρ') : ∀ {l : List Nat} {ds : List Deferred}, DR ρ l ds → DR ρ' l ds
  | [], [], _ => trivial
  | n :: ns, d :: ds, ⟨⟨p, h1, h2⟩, r⟩ => ⟨⟨p, h _ _ h1, h2⟩, DR.mono h r⟩
  | [], _ :: _, r => r
  | _ :: _, [], r => r

/-- A fence that shuts nothing out. -/
def Fc (F : Fence) : Prop := (∀ f, F.fn f) ∧ F.depth = none

theorem Fc.plain {F : Fence} (h : Fc F) : Fc F.plain := h
theorem Fc.inRound {F : Fence} (h : Fc F) (l : Nat) : Fc (F.inRound l) := h
theorem Fc.dep {F : Fence} (h : Fc F) {p : Prop} : F.depth.isSome = true → p := fun hh => by rw [h.2] at hh; cases hh

/-- The rounds of a loop from here on. -/
def wpLoop (F : Fence) (n : Nat) (P : Program) (c : Code) (Q : Exit → Act → World → Prop) (a : Act) (w : World) : Prop :=
  ∀ (b : Frame) (k : List Item) (cs : List Frame), b.roundOf = F.round → F.fn b.fn → F.room (cs.length + 1 + n) →
    ∃ e a' w', Q e a' w' ∧ ArrivesIn (Machine.fenced P F) P (lone (b.atR a (.code c :: .inLoop c :: k)) cs w) b k cs e a' w'

theorem wpLoop.wpIn {F : Fence} {n : Nat} {P : Program} {c : Code} {Q : Exit → Act → World → Prop} {a : Act} {w : World} (h : wpLoop F n P c Q a w) : (Code.loop c).wpIn F n P Q a w :=
  fun b k cs hro hb hr => let ⟨e, a', w', hq, harr⟩ := h b k cs hro hb hr; ⟨e, a', w', hq, .of_steps (.one (fenced_calm hb hr rfl) stepR_loop) harr⟩

theorem wpLoop.mono {F : Fence} {n : Nat} {P : Program} {c : Code} {Q Q' : Exit → Act → World → Prop} {a : Act} {w : World} (h : wpLoop F n P c Q a w) (hq : ∀ e a w, Q e a w → Q' e a w) : wpLoop F n P c Q' a w :=
  fun b k cs hro hb hr => let ⟨e, a', w', q, r⟩ := h b k cs hro hb hr; ⟨e, a', w', hq _ _ _ q, r⟩

theorem wpLoop_round {F : Fence} {n : Nat} {P : Program} {c : Code} {Q : Exit → Act → World → Prop} {a : Act} {w : World} (h : c.wpIn F n P (Exit.then (wpLoop F n P c Q) Q) a w) : wpLoop F n P c Q a w := by
  intro b k cs hro hb hr
  obtain ⟨e, a₁, w₁, hq, harr⟩ := h b (.inLoop c :: k) cs hro hb hr
  cases e with
  | normal =>
    obtain ⟨e₂, a₂, w₂, hq₂, harr₂⟩ := hq b k cs hro hb hr
    exact ⟨e₂, a₂, w₂, hq₂, .of_steps (StepsIn.trans harr (.one (fenced_calm hb hr rfl) stepR_inLoop)) harr₂⟩
  | exit id => exact ⟨_, a₁, w₁, hq, .pass (x := .inLoop c) rfl (fun _ _ => .inl (by simp)) harr⟩
  | goto l => exact ⟨_, a₁, w₁, hq, .pass (x := .inLoop c) rfl (fun _ _ => .inl (by simp)) harr⟩
  | ret => exact ⟨_, a₁, w₁, hq, .pass (x := .inLoop c) rfl (fun _ _ => .inl (by simp)) harr⟩
  | panic ch => exact ⟨_, a₁, w₁, hq, .pass (x := .inLoop c) rfl (fun _ _ => .inl (by simp)) harr⟩
  | outgrown => exact ⟨_, a₁, w₁, hq, .pass (x := .inLoop c) rfl (fun _ _ => .inl (by simp)) harr⟩

def wpQ (F : Fence) (n : Nat) (P : Program) : Code → (Exit → Act → World → Prop) → Act → World → Prop
  | .loop c, Q, a, w => wpLoop F n P c Q a w
  | c, Q, a, w => c.wpIn F n P Q a w

theorem wpQ.wpIn {F : Fence} {n : Nat} {P : Program} {c : Code} {Q : Exit → Act → World → Prop} {a : Act} {w : World} (h : wpQ F n P c Q a w) : c.wpIn F n P Q a w := by
  cases c <;> first | exact wpLoop.wpIn h | exact h
theorem wpQ.mono {F : Fence} {n : Nat} {P : Program} {c : Code} {Q Q' : Exit → Act → World → Prop} {a : Act} {w : World} (h : wpQ F n P c Q a w) (hq : ∀ e a w, Q e a w → Q' e a w) : wpQ F n P c Q' a w := by
  cases c <;> first | exact wpLoop.mono h hq | exact wpIn_mono h hq

/-- What is left behind by a piece of code. -/
def Post (P : Program) (w0 : World) (ρ : Ren) (X : Frm) (rd : Bool) (K : AX → St → Prop) : Exit → Act → World → Prop := fun e a w =>
  ∃ x s ρ', e = x.out ∧ K x s ∧ ρ.le ρ' ∧ HR P w0 ρ' X s.h w ∧ VRs ρ' s.t a.tmps.toList ∧ DR ρ' s.d a.defers ∧ s.rd = rd

/-- The abstract run of code stands for the model's. -/
def Snd (P : Program) (w0 : World) (rec : Rec) : Prop :=
  ∀ (c : AC) (C : Code), cCode P C = some c.erase → ∀ (s : St) (K : AX → St → Prop), rec c s K → ∀ (F : Fence), Fc F → F.round.isSome = s.rd →
    ∀ (ρ : Ren) (X : Frm) (a : Act) (w : World), HR P w0 ρ X s.h w → VRs ρ s.t a.tmps.toList → DR ρ s.d a.defers → ∀ m, wpQ F m P C (Post P w0 ρ X s.rd K) a w

/-- What is known ahead of a function's calls is true in every world. -/
def MemoOk (P : Program) (f : Nat) (memo : List AV → Heap → Option AV) : Prop :=
  ∀ (args : List AV) (h : Heap) (v : AV), memo args h = some v → ∀ (w0 : World) (ρ : Ren) (X : Frm) (w : World) (args' : Array Value), HR P w0 ρ X h w → VRs ρ args args'.toList → ∀ (F : Fence) (m : Nat), Fc F →
    CallsIn F m P f args' w fun e w' => ∃ v', e = .returned v' ∧ VR ρ v v' ∧ Below w.heap.size w w'

def Fns (P : Program) (fns : Nat → Option AFn) : Prop := ∀ f fn, fns f = some fn → Compiled P f fn ∧ MemoOk P f fn.memo

/-- A world that goes on from another: what stood there stands. -/
theorem HR.later {P : Program} {w0 : World} {ρ : Ren} {X : Frm} {h : Heap} {w w' : World} (H : HR P w0 ρ X h w) (hb : Below w.heap.size w w') : HR P w0 ρ X h w' := by
  refine ⟨?_, H.glob, ?_, H.inj, H.disj, H.fresh, H.dead⟩
  · exact below_step H.below hb.os hb.tape hb.output hb.size fun k hk => hb.block k (Nat.lt_of_lt_of_le hk H.below.size)
  · intro n b hl
    obtain ⟨p, hp, hbr, hw⟩ := H.live n b hl
    exact ⟨p, hp, by rw [hb.block _ hbr.lt]; exact hbr, hw⟩

/-- What a call leaves behind. -/
def RetPost (P : Program) (w0 : World) (ρ : Ren) (X : Frm) (K : AV → Heap → Prop) : Ending → World → Prop
  | .returned v', w' => ∃ v h' ρ', K v h' ∧ ρ.le ρ' ∧ HR P w0 ρ' X h' w' ∧ VR ρ' v v'
  | _, _ => False

section
variable {P : Program} {w0 : World} {fns : Nat → Option AFn} {rec : Rec} {ρ : Ren} {X : Frm} {h h' : Heap} {w : World} {t : List AV} {a : Act} {F : Fence}

theorem resA_sound (H : HR P w0 ρ X h w) {tmps : Array Value} (ht : VRs ρ t tmps.toList) {r : ResultVar} {ar : ARes} (hc : cRes P r = some ar) {v : AV} (hv : resA h t ar = some v) :
    ∃ v', ((match r with
      | .tmp t => pure (tmps.getD t undef)
      | .cell a t => do loadVar t (← asAddr (tmps.getD a undef)) : Sem Value)).run P w = .ok v' w ∧ VR ρ v v' := by
  cases r with
  | tmp i =>
    cases hc
    simp only [resA, Option.some.injEq] at hv
    subst hv
    exact ⟨_, rfl, ht.getD i⟩
  | cell i ty =>
    have hi := ht.getD i
    simp only [cRes] at hc
    split at hc
    · rename_i n hagg hsz
      cases hc
      simp only [resA] at hv
      split at hv
      · rename_i q hq
        rw [hq] at hi
        obtain ⟨p, g1, g2⟩ := vPtr hi
        cases hl : h.ldN q n with
        | none => simp [hl] at hv
        | some vs =>
          simp only [hl, Option.map_some, Option.some.injEq] at hv
          subst hv
          obtain ⟨p', vs', k1, k2, k3, k4⟩ := H.ldN (n := q.1) (o := q.2) hl
          rw [g1] at k1; cases k1
          refine ⟨.agg vs'.toArray, ?_, by simp only [VR]; exact ⟨_, rfl, k4⟩⟩
          simp only [g2, asAddr, Sem.run_bind, Sem.run_pure, Result.andThen_ok, loadVar, rAgg hagg, if_true, rSize hsz, rLoadCells k2 k3, Sem.run_ite]
      · cases hv
    · rename_i n hagg hsz
      cases hc
      simp only [resA] at hv
      split at hv
      · rename_i q hq
        rw [hq] at hi
        obtain ⟨p, g1, g2⟩ := vPtr hi
        obtain ⟨p', v', k1, k2, k3⟩ := H.ld (n := q.1) (o := q.2) hv
        rw [g1] at k1; cases k1
        refine ⟨v', ?_, k3⟩
        simp only [g2, asAddr, Sem.run_bind, Sem.run_pure, Result.andThen_ok, loadVar, rAgg hagg, Bool.false_eq_true, if_false, rLoad k2, Sem.run_ite]
      · cases hv
    · cases hc

theorem resAll_sound (H : HR P w0 ρ X h w) {tmps : Array Value} (ht : VRs ρ t tmps.toList) : ∀ (rs : List ResultVar) (ars : List ARes) (vs : List AV), cRess P rs = some ars → resAll h t ars = some vs →
    ∃ vs', ((rs.mapM fun r => (match r with
      | .tmp t => pure (tmps.getD t undef)
      | .cell a t => do loadVar t (← asAddr (tmps.getD a undef)) : Sem Value)) : Sem (List Value)).run P w = .ok vs' w ∧ VRs ρ vs vs'
  | [], ars, vs, hc, hv => by
    cases hc
    cases hv
    exact ⟨[], by simp, by simp [VRs]⟩
  | r :: rs, ars, vs, hc, hv => by
    simp only [cRess] at hc
    split at hc
    · rename_i ar l h1 h2
      cases hc
      simp only [resAll] at hv
      split at hv
      · rename_i v vs1 h3 h4
        cases hv
        obtain ⟨v', k1, k2⟩ := resA_sound H ht h1 h3
        obtain ⟨vs', k3, k4⟩ := resAll_sound H ht rs l vs1 h2 h4
        refine ⟨v' :: vs', ?_, by simp only [VRs]; exact ⟨k2, k4⟩⟩
        simp only [List.mapM_cons, Sem.run_bind, k1, Result.andThen_ok, k3, Sem.run_pure]
      · cases hv
    · cases hc

theorem results_sound (H : HR P w0 ρ X h w) {tmps : Array Value} (ht : VRs ρ t tmps.toList) {g : Func} {ars : List ARes} {vs : List AV} (hc : cRess P g.results.toList = some ars) (hv : resAll h t ars = some vs) :
    ∃ v', (results g tmps).run P w = .ok v' w ∧ VR ρ (pack vs) v' := by
  obtain ⟨vs', k1, k2⟩ := resAll_sound H ht _ _ _ hc hv
  have hl := k2.length
  refine ⟨if h : vs'.toArray.size = 1 then vs'.toArray[0] else .tuple vs'.toArray, ?_, ?_⟩
  · unfold results
    rw [Array.mapM_eq_mapM_toList]
    simp only [map_eq_pure_bind, Sem.run_bind, Sem.run_pure]
    erw [k1]
    simp only [Result.andThen_ok]
  · match vs, vs', k2 with
    | [], [], _ => simp [pack, VR, VRs]
    | [v], [v'], k2 => simp only [VRs, and_true] at k2; simpa [pack] using k2
    | v :: u :: l, v' :: u' :: l', k2 => simp only [pack, VR, List.size_toArray, List.length_cons, show ¬ (l'.length + 1 + 1 = 1) by omega, dite_false]; exact ⟨_, rfl, k2⟩
    | [], _ :: _, k2 => simp only [VRs] at k2
    | _ :: _, [], k2 => simp only [VRs] at k2
    | [_], _ :: _ :: _, k2 => simp [VRs] at k2
    | _ :: _ :: _, [_], k2 => simp [VRs] at k2

theorem HR.dfr (H : HR P w0 ρ X h w) {n : Nat} {b : Bool} (hg : h.get n = some (.dfr b)) : ∃ p, ρ n = some p ∧ w.heap[p.1]? = some (.deferred (if b then some [] else none)) := by
  obtain ⟨p, hp, h1, _⟩ := H.get hg
  exact ⟨p, hp, h1⟩

theorem leaves_sound {g : Func} {tmps : Array Value} {R : Ending → World → Prop} {m : Nat} : ∀ (d : List Nat) (ds : List Deferred) (h : Heap) (w : World), HR P w0 ρ X h w → DR ρ d ds → takeD d h = some h' →
    (∀ w'', HR P w0 ρ X h' w'' → ∃ v, (results g tmps).run P w'' = .ok v w'' ∧ R (.returned v) w'') → LeavesInM F m P g tmps R ds .returning w
  | [], [], h, w, H, _, ht, hR => by
    simp only [takeD, Option.some.injEq] at ht
    subst ht
    exact hR w H
  | n :: ns, d :: ds, h, w, H, hd, ht, hR => by
    obtain ⟨⟨p, hp, hd1⟩, hd2⟩ := hd
    simp only [takeD] at ht
    split at ht
    · rename_i hg
      obtain ⟨p', hp', hw⟩ := H.dfr hg
      rw [hp] at hp'; cases hp'
      refine ⟨by simp, .inl ⟨p.1, _, by rw [hd1], run_takeDeferred hw, ?_⟩⟩
      exact leaves_sound ns ds _ _ (H.upd (b' := .dfr false) hg rfl hp rfl rfl rfl rfl rfl) hd2 ht hR
    · cases ht
  | [], _ :: _, _, _, _, r, _, _ => r.elim
  | _ :: _, [], _, _, _, r, _, _ => r.elim

theorem callF_sound (S : Snd P w0 rec) (hfns : Fns P fns) (H : HR P w0 ρ X h w) {f : Nat} {args : List AV} {args' : Array Value} (hargs : VRs ρ args args'.toList) {K : AV → Heap → Prop}
    (hq : callF fns rec f args h K) (hF : Fc F) (m : Nat) : CallsIn F m P f args' w (RetPost P w0 ρ X K) := by
  unfold callF at hq
  split at hq
  · rename_i fn hfn
    obtain ⟨⟨g, c, hg, hb, hnm, hn, hres, hcode⟩, hmemo⟩ := hfns f fn hfn
    split at hq
    · rename_i v hmv
      refine CallsIn.mono (hmemo args h v hmv w0 ρ X w args' H hargs F m hF) ?_
      rintro e w' ⟨v', rfl, hv, hbl⟩
      exact ⟨v, h, ρ, hq, Ren.le_refl _, H.later hbl, hv⟩
    have hl := hargs.length
    simp only [Array.length_toList] at hl
    have ht0 : VRs ρ (args ++ List.replicate (fn.ntmps - args.length) undefA) (args' ++ Array.replicate (g.ntmps - args'.size) undef).toList := by
      rw [Array.toList_append, Array.toList_replicate, hl, hn]
      refine hargs.append ?_
      refine VRs.of_get (by simp) fun i b hb => ?_
      rw [List.getElem?_replicate] at hb
      split at hb
      · rename_i hi; cases hb
        exact ⟨undef, by rw [List.getElem?_replicate, if_pos hi], VR.undef _⟩
      · cases hb
    have hwp := (S fn.body c hcode _ _ hq F.plain hF.plain rfl ρ X { tmps := args' ++ Array.replicate (g.ntmps - args'.size) undef, defers := [] } w H ht0 trivial m).wpIn
    refine (callsIn_of_wp_marks (F := F.plain) hg hb (hF.1 f) (wpIn_mono hwp ?_) : CallsIn F.plain m P f args' w (RetPost P w0 ρ X K))
    rintro e a' w' ⟨x, s, ρ', rfl, hK, hle, H', ht', hd', _⟩
    have fin : ∀ h', takeD s.d s.h = some h' → (match resAll h' s.t fn.res with | some vs => K (pack vs) h' | none => False) → LeavesInM F.plain m P g a'.tmps (RetPost P w0 ρ X K) a'.defers .returning w' := by
      intro h' hto hm
      refine leaves_sound s.d a'.defers s.h w' H' hd' hto fun w'' H'' => ?_
      split at hm
      · rename_i vs hvs
        obtain ⟨v', k1, k2⟩ := results_sound H'' ht' hres hvs
        exact ⟨v', k1, _, h', ρ', hm, hle, H'', k2⟩
      · exact hm.elim
    cases x with
    | exit id => exact hK.elim
    | normal =>
      simp only at hK
      split at hK
      · rename_i h' hto; exact fin h' hto hK
      · exact hK.elim
    | ret =>
      simp only at hK
      split at hK
      · rename_i h' hto; exact fin h' hto hK
      · exact hK.elim
  · exact hq.elim

end
end Go.Am

/- The abstract machine against the model: rounds, one operation, regions in their order. Conditions: those that each lemma names. -/
import Derived.Test.YtmpdpcamgkndnaaGreatDoorAmCtl1
set_option linter.constructorNameAsVariable false
set_option linter.unusedSimpArgs false
set_option linter.unusedVariables false
namespace Go.Am
open Go.RowKit (Below)

section
variable {P : Program} {w0 : World} {fns : Nat → Option AFn} {rec : Rec} {ρ : Ren} {X : Frm} {h h' : Heap} {w : World} {t : List AV} {a : Act} {F : Fence}

theorem VRs.setR : ∀ {l : List AV} {vs : List Value} (i : Nat) {b : AV} {v : Value}, VRs ρ l vs → VR ρ b v → VRs ρ (l.set i b) (vs.set i v)
  | [], [], i, b, v, h, _ => by simp [VRs]
  | x :: l, u :: vs, 0, b, v, h, hb => by
    simp only [VRs, List.set_cons_zero] at h ⊢
    exact ⟨hb, h.2⟩
  | x :: l, u :: vs, i + 1, b, v, h, hb => by
    simp only [VRs, List.set_cons_succ] at h ⊢
    exact ⟨h.1, VRs.setR i h.2 hb⟩
  | [], _ :: _, _, _, _, r, _ => by simp only [VRs] at r
  | _ :: _, [], _, _, _, r, _ => by simp only [VRs] at r

theorem setAll_rel : ∀ (ps : List Nat) (t : List AV) (tm : Array Value) (args : List AV) (args' : List Value), VRs ρ t tm.toList → VRs ρ args args' → args.length = ps.length →
    VRs ρ (setAll t ps args) ((ps.zip args').foldl (fun tmps (p : Nat × Value) => tmps.setIfInBounds p.1 p.2) tm).toList
  | [], t, tm, [], [], ht, _, _ => by simpa [setAll] using ht
  | p :: ps, t, tm, b :: bs, v :: vs, ht, hb, hl => by
    simp only [VRs] at hb
    simp only [setAll, List.zip_cons_cons, List.foldl_cons]
    exact setAll_rel ps (t.set p b) (tm.setIfInBounds p v) bs vs (by rw [Array.toList_setIfInBounds]; exact ht.setR p hb.1) hb.2 (by simpa using hl)
  | [], t, tm, _ :: _, _, _, _, hl => by simp at hl
  | _ :: _, t, tm, [], _, _, _, hl => by simp at hl
  | _ :: _, _, _, _ :: _, [], _, hb, _ => by simp only [VRs] at hb
  | [], _, _, [], _ :: _, _, hb, _ => by simp only [VRs] at hb

theorem HR.loop (H : HR P w0 ρ X h w) {n : Nat} {st : LoopState} {pend : Option AX} {tmps : List AV} {ps : List Nat} {asg body : AC} {dfr : Nat} (hg : h.get n = some (.loop st pend tmps ps asg body dfr)) :
    ∃ p fn tm ca cb q, ρ n = some p ∧ p.2.1 = 0 ∧ w.heap[p.1]? = some (.loop { state := st, pending := pend.map AX.code, fn, tmps := tm, params := ps.toArray, assign := ca, body := cb, defers := q }) ∧
      VRs ρ tmps tm.toList ∧ cCode P ca = some asg.erase ∧ cCode P cb = some body.erase ∧ (∃ s, ρ dfr = some (q, s)) ∧ pend ≠ some .normal := by
  obtain ⟨p, hp, ⟨hz, fn, tm, ca, cb, q, h1, h2, h3, h4, h5, h6⟩, _⟩ := H.get hg
  exact ⟨p, fn, tm, ca, cb, q, hp, hz, h1, h2, h3, h4, h5, h6⟩

theorem AX.out_code (x : AX) (hx : x ≠ .normal) : x.code = (match x.out with | .exit id => Code.exit id | _ => .ret) := by cases x <;> simp_all [AX.code, AX.out]

/-- A round of a range over a function. -/
theorem round_sound (S : Snd P w0 rec) (H : HR P w0 ρ X h w) {l : Nat} {args : List AV} {args' : Array Value} (hargs : VRs ρ args args'.toList) {K : AV → Heap → Prop}
    (hq : callYield rec l args h K) (hF : Fc F) (m : Nat) :
    ∃ p r, ρ l = some p ∧ w.heap[p.1]? = some (.loop r) ∧ args'.size = r.params.size ∧
      RoundIn F m P p.1 r.fn ((r.params.zip args').foldl (fun tmps (t, a) => tmps.setIfInBounds t a) r.tmps) r.assign r.body w (RetPost P w0 ρ X K) := by
  unfold callYield at hq
  split at hq
  · rename_i pend tmps ps asg body dfr hg
    split at hq
    · rename_i hlen
      obtain ⟨p, fn, tm, ca, cb, q, hp, hz, hw, ht, hca, hcb, _, _⟩ := H.loop hg
      have hl := hargs.length
      simp only [Array.length_toList] at hl
      refine ⟨p, _, hp, hw, by simp; omega, ?_⟩
      have ht0 := setAll_rel ps tmps tm args args'.toList ht hargs hlen
      have hfold : ((ps.toArray.zip args').foldl (fun tmps (t, a) => tmps.setIfInBounds t a) tm) = ((ps.zip args'.toList).foldl (fun tmps (p : Nat × Value) => tmps.setIfInBounds p.1 p.2) tm) := by
        rw [← Array.foldl_toList, Array.toList_zip]
      simp only [hfold]
      have hasg := (S asg ca hca _ _ hq (F.inRound p.1) (hF.inRound _) rfl ρ X { tmps := (ps.zip args'.toList).foldl (fun tmps (p : Nat × Value) => tmps.setIfInBounds p.1 p.2) tm, defers := [] } w H ht0 trivial m).wpIn
      refine roundIn_of_wpIn (hF.1 _) (wpIn_mono hasg ?_)
      rintro e a1 w1 ⟨x, s, ρ1, rfl, hK, hle1, H1, ht1, hd1, hrd1⟩
      cases x with
      | exit id => exact hK.elim
      | ret => exact hK.elim
      | normal =>
        simp only at hK
        split at hK
        · rename_i pend' tmps' ps' asg' body' dfr' hg1
          obtain ⟨p1, fn1, tm1, ca1, cb1, q1, hp1, hz1, hw1, htm1, hca1, hcb1, hdf1, hpn1⟩ := H1.loop hg1
          rw [hle1 _ _ hp] at hp1; cases hp1
          have H2 := H1.upd (p := p) (b' := .loop .busy pend' tmps' ps' asg' body' dfr') (w' := w1.putObj p.1 (.loop { state := .busy, pending := pend'.map AX.code, fn := fn1, tmps := tm1, params := ps'.toArray, assign := ca1, body := cb1, defers := q1 })) hg1 rfl (hle1 _ _ hp) rfl rfl rfl rfl
            ⟨hz1, fn1, tm1, ca1, cb1, q1, rfl, htm1, hca1, hcb1, hdf1, hpn1⟩
          refine ⟨_, run_beginRound hw1 rfl, ?_⟩
          have hbody := (S body cb hcb _ _ hK (F.inRound p.1) (hF.inRound _) (by simp [hrd1]) ρ1 X a1 _ H2 ht1 hd1 m).wpIn
          refine wpIn_mono hbody ?_
          rintro e a2 w2 ⟨y, s2, ρ2, rfl, hK2, hle2, H3, ht2, hd2, hrd2⟩
          split at hK2
          · rename_i st2 pend2 tmps2 ps2 asg2 body2 dfr2 hg2
            obtain ⟨p2, fn2, tm2, ca2, cb2, q2, hp2, hz2, hw2, htm2, hca2, hcb2, hdf2, hpn2⟩ := H3.loop hg2
            rw [hle2 _ _ (hle1 _ _ hp)] at hp2; cases hp2
            have fin : ∀ (jump : Option Code) (st : LoopState) (pnd : Option AX) (bb : Bool), jump.isNone = bb → (if jump.isNone then LoopState.ready else LoopState.done) = st → pnd.map AX.code = jump → pnd ≠ some .normal →
                K (.bool bb) (s2.h.put l (.loop st pnd tmps2 ps2 asg2 body2 dfr2)) → ∃ v w', (Instr.endRound p.1 jump).run P w2 = .ok v w' ∧ RetPost P w0 ρ X K (.returned v) w' := by
              intro jump st pnd bb e1 e2 e3 e4 hKK
              refine ⟨_, _, run_endRound jump hw2, .bool bb, _, ρ2, hKK, Ren.le_trans hle1 hle2, H3.upd (p := p) hg2 rfl (hle2 _ _ (hle1 _ _ hp)) rfl rfl rfl rfl ?_, by rw [e1]; simp [VR]⟩
              refine ⟨hz2, fn2, tm2, ca2, cb2, q2, ?_, htm2, hca2, hcb2, hdf2, e4⟩
              rw [e2, e3]
            cases y with
            | normal => exact fin none .ready none true rfl rfl rfl (by simp) hK2
            | exit id => exact fin (some (.exit id)) .done (some (.exit id)) false rfl rfl rfl (by simp) hK2
            | ret => exact fin (some .ret) .done (some .ret) false rfl rfl rfl (by simp) hK2
          · exact hK2.elim
        · exact hK.elim
    · exact hq.elim
  · exact hq.elim

/-! ### One operation -/
/-- What is left behind by an operation. -/
def Nx (P : Program) (w0 : World) (ρ : Ren) (X : Frm) (K : AV → Heap → Prop) (N : Act → World → Prop) (a : Act) (dst : Option Nat) : Prop :=
  ∀ v v' h' ρ' w', K v h' → ρ.le ρ' → HR P w0 ρ' X h' w' → VR ρ' v v' → N (a.put dst v') w'

theorem no_defer {o : Oper} {op : AOp} (hc : cOp P o.op = some op) : ∀ c, o.op ≠ .defer c := by
  intro c hd
  rw [hd] at hc
  cases hc

theorem rCallFunc {f : Nat} {g : Func} {args : Array Value} (hg : P.funcs[f]? = some g) (hn : g.name ≠ "runtime.NumGoroutine") {c : Code} (hb : g.body = some c) : (callFunc f args).run P w = .ok (.enter f args) w := by
  have : (g.name == "runtime.NumGoroutine") = false := by simp [hn]
  simp [callFunc, rProgram, hg, hn, hb]

theorem eff_step (S : Snd P w0 rec) (hfns : Fns P fns) (H : HR P w0 ρ X h w) (ht : VRs ρ t a.tmps.toList) {o : Oper} {op : AOp} (hc : cOp P o.op = some op) (hcl : op.cls = .eff) {K : AV → Heap → Prop}
    (hq : aeff fns rec t h K op) (hF : Fc F) (n : Nat) {N : Act → World → Prop} (hN : Nx P w0 ρ X K N a o.dst) {Q : Exit → Act → World → Prop} : o.wpIn F n P a w N Q := by
  refine ⟨fun f _ => hF.1 f, ?_⟩
  rw [Oper.semAt_eq _ _ _ (no_defer hc)]
  by_cases hcall : op.isCall = true
  · -- calls
    have hca : ∃ c, o.op = .call c ∧ ((∃ f, c.callee = .value (.func f) ∧ op = .call f (c.args.toList.map (cO P))) ∨ (∃ x, c.callee = .value x ∧ op = .callv (cO P x) (c.args.toList.map (cO P)))) := by
      cases ho : o.op
      case call c =>
        rw [ho] at hc
        refine ⟨c, rfl, ?_⟩
        simp only [cOp] at hc
        split at hc
        · rename_i f hcal
          split at hc
          · split at hc
            · split at hc
              · cases hc
              · cases hc; exact .inl ⟨f, hcal, rfl⟩
            · split at hc
              · split at hc
                · cases hc; simp [AOp.isCall] at hcall
                · cases hc
              · cases hc
          · cases hc
        · rename_i x hcal _
          cases hc; exact .inr ⟨x, by assumption, rfl⟩
        · rename_i b hcal
          exfalso
          cases b <;> simp only [cBuiltin, cLen, cAppend, cCopy, cClear, cDelete] at hc <;> (try (cases hc; done)) <;> (try (cases hc; simp [AOp.isCall] at hcall; done)) <;>
            (repeat (split at hc <;> (try (cases hc; done)))) <;>
            first
            | (cases hc; simp [AOp.isCall] at hcall; done)
            | (simp only [Option.map_eq_some_iff] at hc; obtain ⟨_, _, rfl⟩ := hc; simp [AOp.isCall] at hcall; done)
        · cases hc
      case binOp bop ty x y ty' =>
        exfalso
        rw [ho] at hc
        simp only [cOp, cBin] at hc
        split at hc
        · cases hc; simp [AOp.isCall] at hcall
        · cases hc; simp [AOp.isCall] at hcall
        · split at hc
          · simp only [Option.map_eq_some_iff] at hc; obtain ⟨_, _, rfl⟩ := hc; simp [AOp.isCall] at hcall
          · simp only [Option.map_eq_some_iff] at hc; obtain ⟨_, _, rfl⟩ := hc; simp [AOp.isCall] at hcall
          · cases hc
      case convert s d x =>
        exfalso
        rw [ho] at hc
        simp only [cOp, cConv] at hc
        split at hc
        · cases hc; simp [AOp.isCall] at hcall
        · cases hc; simp [AOp.isCall] at hcall
        · split at hc
          · cases hc; simp [AOp.isCall] at hcall
          · cases hc
        · split at hc
          · cases hc; simp [AOp.isCall] at hcall
          · cases hc
        · split at hc
          · cases hc; simp [AOp.isCall] at hcall
          · cases hc
        · cases hc
      case makeFunc fn first caps =>
        exfalso
        rw [ho] at hc
        cases fn <;> simp only [cOp] at hc <;> (try (cases hc; done))
        split at hc
        · cases hc; simp [AOp.isCall] at hcall
        · cases hc
      case makeMap ty r =>
        exfalso
        rw [ho] at hc
        cases r <;> simp only [cOp] at hc
        · cases hc; simp [AOp.isCall] at hcall
        · cases hc
      case next it s =>
        exfalso
        rw [ho] at hc
        cases s
        · cases hc; simp [AOp.isCall] at hcall
        · cases hc
      all_goals
        exfalso
        rw [ho] at hc
        simp only [cOp] at hc
        first
        | (cases hc; done)
        | (cases hc; simp [AOp.isCall] at hcall; done)
        | (simp only [Option.map_eq_some_iff] at hc; obtain ⟨_, _, rfl⟩ := hc; simp [AOp.isCall] at hcall; done)
        | ((repeat' (first | (cases hc; done) | split at hc)) <;>
           first
           | (cases hc; simp [AOp.isCall] at hcall; done)
           | (simp only [Option.map_eq_some_iff] at hc; obtain ⟨_, _, rfl⟩ := hc; simp [AOp.isCall] at hcall; done))
    obtain ⟨c, ho, hop⟩ := hca
    have hargs : VRs ρ ((c.args.toList.map (cO P)).map (AO.ev t)) (c.args.map a.eval).toList := by
      rw [List.map_map, Array.toList_map]
      exact H.evs ht c.args.toList
    have goF : ∀ (f : Nat) (cs : Array Value) (caps : List AV) (first : Array Value), VRs ρ caps cs.toList → callF fns rec f ((c.args.toList.map (cO P)).map (AO.ev t) ++ caps) h K →
        (execOp a.eval o).run P w = (callFunc f (c.args.map a.eval ++ cs)).run P w → o.uponIn F n P a N Q ((execOp a.eval o).run P w) := by
      intro f cs caps first hcaps hcf he
      have hcf' := hcf
      unfold callF at hcf'
      split at hcf'
      · rename_i fn hfn
        obtain ⟨⟨g, cc, hg, hb, hnm, _⟩, _⟩ := hfns f fn hfn
        rw [he, rCallFunc hg hnm hb, Oper.uponIn_enter]
        refine ⟨hF.dep, CallsIn.mono (callF_sound S hfns H (args' := c.args.map a.eval ++ cs) (by rw [Array.toList_append]; exact hargs.append hcaps) hcf hF (n - 1)) ?_⟩
        intro e w' hR
        cases e with
        | returned v' =>
          obtain ⟨v, h', ρ', k1, k2, k3, k4⟩ := hR
          exact hN v v' h' ρ' w' k1 k2 k3 k4
        | panicked ch => exact hR.elim
        | outgrown => exact hR.elim
      · exact hcf'.elim
    rcases hop with ⟨f, hcal, rfl⟩ | ⟨x, hcal, rfl⟩
    · simp only [aeff] at hq
      refine goF f #[] [] #[] (by simp [VRs]) (by simpa using hq) ?_
      simp [execOp, ho, resolve, hcal, Act.eval, Deferred.ofValue, invoke]
    · simp only [aeff] at hq
      have hx := H.ev ht x
      unfold callV at hq
      split at hq
      · rename_i f caps hxe
        rw [hxe] at hx
        obtain ⟨cs, e1, e2⟩ := vFn hx
        refine goF f cs caps #[] e2 hq ?_
        simp [execOp, ho, resolve, hcal, e1, Deferred.ofValue, invoke]
      · rename_i l hxe
        rw [hxe] at hx
        obtain ⟨p, r, g1, g2, g3, g4⟩ := round_sound S H hargs hq hF (n - 1)
        have e1 : a.eval x = .func (.yield p.1) #[] #[] := by
          simp only [VR] at hx
          obtain ⟨p', k1, k2⟩ := hx
          rw [g1] at k1; cases k1; exact k2
        have hrun : (execOp a.eval o).run P w = .ok (.round p.1 r.fn ((r.params.zip (c.args.map a.eval)).foldl (fun tmps (t, a) => tmps.setIfInBounds t a) r.tmps) r.assign r.body) w := by
          simp only [execOp, ho, resolve, hcal, e1, Deferred.ofValue, invoke, Sem.run_bind, Sem.run_pure, Result.andThen_ok, Array.empty_append, run_yield g2 g3]
        rw [hrun, Oper.uponIn_round]
        refine ⟨hF.dep, RoundIn.mono g4 ?_⟩
        intro e w' hR
        cases e with
        | returned v' =>
          obtain ⟨v, h', ρ', k1, k2, k3, k4⟩ := hR
          exact hN v v' h' ρ' w' k1 k2 k3 k4
        | panicked ch => exact hR.elim
        | outgrown => exact hR.elim
      · exact hq.elim
  · have hnc : op.isCall = false := by simpa using hcall
    obtain ⟨nx, v', w', v, h', ρ', h1, h2, h3, h4, h5, h6⟩ := eff_sound (o := o) H ht rfl hc hcl hnc hq
    rw [h1]
    rcases h2 with rfl | ⟨rfl, rfl⟩
    · exact hN v v' h' ρ' w' h3 h4 h5 h6
    · exact hN v undef h' ρ' w' h3 h4 h5 h6

end
end Go.Am

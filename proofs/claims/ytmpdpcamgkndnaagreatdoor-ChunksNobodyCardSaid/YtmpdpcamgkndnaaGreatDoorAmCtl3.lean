/- The abstract machine against the model: regions in their order, control. Conditions: those that each lemma names. -/
import Derived.Test.YtmpdpcamgkndnaaGreatDoorAmCtl2
set_option linter.constructorNameAsVariable false
set_option linter.unusedSimpArgs false
set_option linter.unusedVariables false
namespace Go.Am
open Go.RowKit (Below)

section
variable {P : Program} {w0 : World} {fns : Nat → Option AFn} {rec : Rec} {ρ : Ren} {X : Frm} {h h' : Heap} {w : World} {t : List AV} {a : Act} {F : Fence} {ops : Array Oper}

theorem cOper_spec {o : Oper} {ao : AOpr} (hc : cOper P ops o = some ao) : cOp P o.op = some ao.op ∧ cGuard ops o.guard = some ao.guard ∧ ao.dst = o.dst := by
  unfold cOper at hc
  split at hc
  · rename_i op g h1 h2; cases hc; exact ⟨h1, h2, rfl⟩
  · cases hc

theorem want_sound {o : Oper} {ao : AOpr} (hc : cOper P ops o = some ao) {tmps : Array Value} (ht : VRs ρ t tmps.toList) {b : Bool} (hw : ao.want t = some b) : Region.wanted o (yielded ops tmps) = b := by
  obtain ⟨_, hg, _⟩ := cOper_spec hc
  unfold AOpr.want at hw
  unfold Region.wanted
  cases hog : o.guard with
  | none =>
    rw [hog] at hg
    simp only [cGuard, Option.some.injEq] at hg
    rw [← hg] at hw
    simpa using hw
  | some jw =>
    obtain ⟨j, wv⟩ := jw
    rw [hog] at hg
    simp only [cGuard, Option.map_eq_some_iff] at hg
    obtain ⟨d, hd, hag⟩ := hg
    rw [← hag] at hw
    simp only at hw ⊢
    have hv := ht.getD d
    unfold yielded
    rw [hd]
    simp only [Option.bind_some]
    by_cases hlt : d < tmps.size
    · have hget : tmps[d]? = some tmps[d] := Array.getElem?_eq_getElem hlt
      have hgd : tmps.getD d undef = tmps[d] := by simp [Array.getD, hlt]
      rw [hgd] at hv
      rw [hget]
      split at hw
      · rename_i bb hb
        rw [hb] at hv
        have := vBool hv
        rw [this]
        cases hw
        simp
      · rename_i l hb
        rw [hb] at hv
        simp only [VR] at hv
        obtain ⟨cs, e, _⟩ := hv
        rw [e]
        cases hw
        rfl
      · cases hw
    · have hget : tmps[d]? = none := Array.getElem?_eq_none (by omega)
      rw [hget]
      have hl := ht.length
      simp only [Array.length_toList] at hl
      have : t.getD d undefA = undefA := by simp [List.getD, List.getElem?_eq_none (show t.length ≤ d by omega)]
      rw [this] at hw
      simp only [undefA, Option.some.injEq] at hw
      rw [← hw]; rfl

theorem put_rel {a : Act} (ht : VRs ρ t a.tmps.toList) (dst : Option Nat) {v : AV} {v' : Value} (hv : VR ρ v v') : VRs ρ (setO t dst v) (a.put dst v').tmps.toList := by
  cases dst with
  | none => exact ht
  | some d => simp only [setO, Act.put, Array.toList_setIfInBounds]; exact ht.setR d hv

theorem put_defers (a : Act) (dst : Option Nat) (v : Value) : (a.put dst v).defers = a.defers := by cases dst <;> rfl

theorem qv_step (H : HR P w0 ρ X h w) (ht : VRs ρ t a.tmps.toList) {o : Oper} {op : AOp} (hc : cOp P o.op = some op) (hcl : op.cls = .pure ∨ op.cls = .read) {v : AV}
    (hq : qv h t op = some v) (hF : Fc F) (n : Nat) {N : Act → World → Prop} (hN : ∀ v', VR ρ v v' → N (a.put o.dst v') w) {Q : Exit → Act → World → Prop} : o.wpIn F n P a w N Q := by
  refine ⟨fun f _ => hF.1 f, ?_⟩
  rw [Oper.semAt_eq _ _ _ (no_defer hc)]
  obtain ⟨v', h1, h2⟩ := qv_sound (o := o) H ht rfl hc hcl hq
  rw [h1]
  exact hN v' h2

theorem al_step (H : HR P w0 ρ X h w) (ht : VRs ρ t a.tmps.toList) {o : Oper} {op : AOp} (hc : cOp P o.op = some op) (hcl : op.cls = .alloc) {b : Blk} {f : Nat → AV}
    (hq : al t op = some (b, f)) (hF : Fc F) (n : Nat) {N : Act → World → Prop}
    (hN : ∀ v' w' obj sz, w'.heap = w.heap.push obj → w'.os = w.os → w'.tape = w.tape → w'.output = w.output →
      (∀ n, ρ n = none → BR P (ρ.put n (w.heap.size, 0, sz)) (w.heap.size, 0, sz) b (some obj) ∧ VR (ρ.put n (w.heap.size, 0, sz)) (f n) v') → N (a.put o.dst v') w') {Q : Exit → Act → World → Prop} : o.wpIn F n P a w N Q := by
  refine ⟨fun f _ => hF.1 f, ?_⟩
  rw [Oper.semAt_eq _ _ _ (no_defer hc)]
  obtain ⟨v', w', obj, sz, h1, h2, h3, h4, h5, h6⟩ := al_sound (o := o) H ht rfl hc hcl hq
  rw [h1]
  exact hN v' w' obj sz h2 h3 h4 h5 h6

theorem op_step (S : Snd P w0 rec) (hfns : Fns P fns) (H : HR P w0 ρ X h w) (ht : VRs ρ t a.tmps.toList) {o : Oper} {op : AOp} (hc : cOp P o.op = some op) {K : AV → Heap → Prop}
    (hq : aop fns rec op t h K) (hF : Fc F) (n : Nat) {N : Act → World → Prop} (hN : Nx P w0 ρ X K N a o.dst) {Q : Exit → Act → World → Prop} : o.wpIn F n P a w N Q := by
  unfold aop at hq
  split at hq
  · rename_i hcl
    exact eff_step S hfns H ht hc hcl hq hF n hN
  · rename_i hcl
    split at hq
    · rename_i b f hal
      have fresh := H.fresh h.next (Nat.le_refl _)
      refine al_step H ht hc hcl hal hF n fun v' w' obj sz e1 e2 e3 e4 e5 => ?_
      obtain ⟨k1, k2⟩ := e5 _ fresh.1
      exact hN _ v' _ _ w' hq (Ren.le_put fresh.1) (H.new e1 e2 e3 e4 k1) k2
    · exact hq.elim
  · rename_i hn1 hn2
    split at hq
    · rename_i v hv
      have hcl : op.cls = .pure ∨ op.cls = .read := by
        cases hh : op.cls <;> simp_all
      exact qv_step H ht hc hcl hv hF n fun v' hvv => hN v v' h ρ w hq (Ren.le_refl _) H hvv
    · exact hq.elim

theorem St.put_h (s : St) (dst : Option Nat) (v : AV) : (s.put dst v).h = s.h := by cases dst <;> rfl
theorem St.put_t (s : St) (dst : Option Nat) (v : AV) : (s.put dst v).t = setO s.t dst v := by cases dst <;> rfl
theorem St.put_d (s : St) (dst : Option Nat) (v : AV) : (s.put dst v).d = s.d := by cases dst <;> rfl
theorem St.put_rd (s : St) (dst : Option Nat) (v : AV) : (s.put dst v).rd = s.rd := by cases dst <;> rfl

theorem runOps_sound (S : Snd P w0 rec) (hfns : Fns P fns) (hF : Fc F) (n : Nat) {Q : Exit → Act → World → Prop} : ∀ (l : List Oper) (as : List AOpr) (i : Nat), (∀ j, l[j]? = ops[i + j]?) → cOpers P ops l = some as →
    ∀ (s : St) (K : St → Prop) (ρ : Ren) (a : Act) (w : World), runOps fns rec as s K → HR P w0 ρ X s.h w → VRs ρ s.t a.tmps.toList → DR ρ s.d a.defers →
    (∀ a' w' s' ρ', K s' → ρ.le ρ' → HR P w0 ρ' X s'.h w' → VRs ρ' s'.t a'.tmps.toList → DR ρ' s'.d a'.defers → s'.rd = s.rd → Q .normal a' w') → wpOpsIn F n P ops Q (List.range' i l.length) a w
  | [], as, i, hi, hc, s, K, ρ, a, w, hq, H, ht, hd, hQ => by
    cases hc
    exact hQ a w s ρ hq (Ren.le_refl _) H ht hd rfl
  | o :: l, as, i, hi, hc, s, K, ρ, a, w, hq, H, ht, hd, hQ => by
    simp only [cOpers] at hc
    split at hc
    · rename_i ao as' ho hl
      cases hc
      have hoi : ops[i]? = some o := by simpa using (hi 0).symm
      obtain ⟨c1, c2, c3⟩ := cOper_spec ho
      simp only [List.length_cons, List.range'_succ, wpOpsIn, hoi]
      have hi' : ∀ j, l[j]? = ops[i + 1 + j]? := fun j => by
        have := hi (j + 1)
        simpa [Nat.add_assoc, Nat.add_comm 1 j] using this
      simp only [runOps] at hq
      split at hq
      · rename_i hw
        rw [want_sound ho ht hw]
        simp only [if_true]
        refine op_step S hfns H ht c1 hq hF n ?_
        intro v v' h' ρ' w' hK hle H' hv
        refine runOps_sound S hfns hF n l as' (i + 1) hi' hl _ K ρ' _ w' hK (by rw [St.put_h]; exact H') (by rw [St.put_t, c3]; exact put_rel (ht.mono hle) _ hv) (by rw [St.put_d, put_defers]; exact hd.mono hle) ?_
        intro a' w'' s' ρ'' k1 k2 k3 k4 k5 k6
        exact hQ a' w'' s' ρ'' k1 (Ren.le_trans hle k2) k3 k4 k5 (by rw [k6, St.put_rd])
      · rename_i hw
        rw [want_sound ho ht hw]
        simp only [Bool.false_eq_true, if_false]
        refine ⟨fun f _ => hF.1 f, ?_⟩
        refine runOps_sound S hfns hF n l as' (i + 1) hi' hl _ K ρ _ w hq (by rw [St.put_h]; exact H) (by rw [St.put_t, c3]; exact put_rel ht _ (VR.undef _)) (by rw [St.put_d, put_defers]; exact hd) ?_
        intro a' w'' s' ρ'' k1 k2 k3 k4 k5 k6
        exact hQ a' w'' s' ρ'' k1 k2 k3 k4 k5 (by rw [k6, St.put_rd])
      · exact hq.elim
    · cases hc

/-- What is asked of a region that draws its order. -/
def DSnd (P : Program) (w0 : World) (fns : Nat → Option AFn) (rec : Rec) : Prop :=
  ∀ (ops : Array Oper) (as : List AOpr) (m : Nat) (ds : List DOpr), cOpers P ops ops.toList = some as → cD ops.toList as = some (.regD m ds) → ∀ (s : St) (K : List AV → Heap → Prop),
    runD fns rec ds { nm := s.h.next, t := s.t, k := s.h.resv m, ks := [], pend := [] } K → ∀ (F : Fence), Fc F →
    ∀ (ρ : Ren) (X : Frm) (a : Act) (w : World), HR P w0 ρ X s.h w → VRs ρ s.t a.tmps.toList → DR ρ s.d a.defers → ∀ (n id : Nat),
      (Code.region id ops true).wpIn F n P (fun e a' w' => e = .normal ∧ ∃ t' h' ρ', K t' h' ∧ ρ.le ρ' ∧ HR P w0 ρ' X h' w' ∧ VRs ρ' t' a'.tmps.toList ∧ DR ρ' s.d a'.defers) a w

theorem Post.mono {rd : Bool} {K K' : AX → St → Prop} {ρ ρ' : Ren} (hle : ρ.le ρ') (hK : ∀ x s, s.rd = rd → K x s → K' x s) {e : Exit} {a : Act} {w : World} (h : Post P w0 ρ' X rd K e a w) : Post P w0 ρ X rd K' e a w := by
  obtain ⟨x, s, ρ2, k1, k2, k3, k4, k5, k6, k7⟩ := h
  exact ⟨x, s, ρ2, k1, hK x s k7 k2, Ren.le_trans hle k3, k4, k5, k6, k7⟩

theorem fgt_rel {tm : Array Value} : ∀ (ts : List Nat) (t : List AV), VRs ρ t tm.toList → VRs ρ (ts.foldl (fun t i => t.set i .top) t) tm.toList
  | [], t, ht => ht
  | i :: ts, t, ht => by
    simp only [List.foldl_cons]
    refine fgt_rel ts _ (VRs.of_get (by simpa using ht.length) fun j b hb => ?_)
    rw [List.getElem?_set] at hb
    split at hb
    · rename_i hij
      split at hb
      · rename_i hlt
        cases hb
        have hl := ht.length
        have : j < tm.toList.length := by omega
        exact ⟨tm.toList[j], by simp [this], by simp only [VR]⟩
      · cases hb
    · exact ht.get j b hb


inductive CInv (P : Program) : Code → AC → Prop where
  | skip : CInv P .skip .skip
  | reg (id : Nat) (ops : Array Oper) (as : List AOpr) (h : cOpers P ops ops.toList = some as) : CInv P (.region id ops false) (.reg as)
  | regD (id : Nat) (ops : Array Oper) (as : List AOpr) (m : Nat) (ds : List DOpr) (h : cOpers P ops ops.toList = some as) (h' : cD ops.toList as = some (.regD m ds)) : CInv P (.region id ops true) (.regD m ds)
  | seq (a b : Code) (x y : AC) (h : cCode P a = some x) (h' : cCode P b = some y) : CInv P (.seq a b) (.seq x y)
  | cond (c : Operand) (a b : Code) (x y : AC) (h : cCode P a = some x) (h' : cCode P b = some y) : CInv P (.cond c a b) (.cond (cO P c) x y)
  | block (id : Nat) (c : Code) (x : AC) (h : cCode P c = some x) : CInv P (.block id c) (.block id x)
  | loop (c : Code) (x : AC) (h : cCode P c = some x) : CInv P (.loop c) (.loop x)
  | rangeF (f : Operand) (ps : Array Tmp) (a b : Code) (x y : AC) (h : cCode P a = some x) (h' : cCode P b = some y) : CInv P (.rangeFunc f ps a b) (.rangeF (cO P f) ps.toList x y)
  | exit (id : Nat) : CInv P (.exit id) (.exit id)
  | ret : CInv P .ret .ret

theorem cInv {C : Code} {d : AC} (h : cCode P C = some d) : CInv P C d := by
  cases C
  case skip => cases h; exact .skip
  case region id ops draw =>
    cases draw
    · simp only [cCode, Option.map_eq_some_iff] at h
      obtain ⟨as, h1, rfl⟩ := h
      exact .reg id ops as h1
    · simp only [cCode, Option.bind_eq_some_iff] at h
      obtain ⟨as, h1, h2⟩ := h
      have h3 := h2
      unfold cD at h2
      simp only [] at h2
      split at h2
      · cases h2; exact .regD id ops as _ _ h1 h3
      · cases h2
  case seq a b =>
    simp only [cCode] at h
    split at h
    · rename_i x y h1 h2; cases h; exact .seq a b x y h1 h2
    · cases h
  case cond c a b =>
    simp only [cCode] at h
    split at h
    · rename_i x y h1 h2; cases h; exact .cond c a b x y h1 h2
    · cases h
  case block id c =>
    simp only [cCode, Option.map_eq_some_iff] at h
    obtain ⟨x, h1, rfl⟩ := h
    exact .block id c x h1
  case loop c =>
    simp only [cCode, Option.map_eq_some_iff] at h
    obtain ⟨x, h1, rfl⟩ := h
    exact .loop c x h1
  case rangeFunc f ps a b =>
    simp only [cCode] at h
    split at h
    · rename_i x y h1 h2; cases h; exact .rangeF f ps a b x y h1 h2
    · cases h
  case exit id => cases h; exact .exit id
  case ret => cases h; exact .ret
  all_goals cases h

/-- Code that is no loop. -/
theorem wpQ_of {C : Code} {n : Nat} {Q : Exit → Act → World → Prop} (hn : ∀ c, C ≠ .loop c) (h : C.wpIn F n P Q a w) : wpQ F n P C Q a w := by
  cases C <;> first | exact h | exact absurd rfl (hn _)

theorem snd_step (hm : P.follows .mixedOrders = true) (S : Snd P w0 rec) (D : DSnd P w0 fns rec) (hfns : Fns P fns) : Snd P w0 (astep fns rec) := by
  intro c C hC s K hq F hF hrd ρ X a w H ht hd m
  by_cases hfg : ∃ ts c', c = .fgt ts c'
  · obtain ⟨ts, c', rfl⟩ := hfg
    exact S c' C hC _ K hq F hF hrd ρ X a w H (fgt_rel ts _ ht) hd m
  have hinv := cInv hC
  generalize hce : c.erase = d at hinv
  cases hinv with
  | skip =>
    cases c <;> simp only [AC.erase] at hce <;> (try (cases hce; done)) <;> (try (exact absurd ⟨_, _, rfl⟩ hfg))
    exact wpIn_skip ⟨.normal, s, ρ, rfl, hq, Ren.le_refl _, H, ht, hd, rfl⟩
  | exit id =>
    cases c <;> simp only [AC.erase] at hce <;> (try (cases hce; done)) <;> (try (exact absurd ⟨_, _, rfl⟩ hfg))
    cases hce
    exact wpIn_exit ⟨.exit id, s, ρ, rfl, hq, Ren.le_refl _, H, ht, hd, rfl⟩
  | ret =>
    cases c <;> simp only [AC.erase] at hce <;> (try (cases hce; done)) <;> (try (exact absurd ⟨_, _, rfl⟩ hfg))
    exact wpIn_ret ⟨.ret, s, ρ, rfl, hq, Ren.le_refl _, H, ht, hd, rfl⟩
  | reg id ops as hops =>
    cases c <;> simp only [AC.erase] at hce <;> (try (cases hce; done)) <;> (try (exact absurd ⟨_, _, rfl⟩ hfg))
    cases hce
    have hq' : runOps fns rec as s (K .normal) := hq
    refine wpIn_region ?_
    have := runOps_sound (ops := ops) S hfns hF m (Q := Post P w0 ρ X s.rd K) ops.toList as 0 (fun j => by simp) hops s (K .normal) ρ a w hq' H ht hd
      (fun a' w' s' ρ' k1 k2 k3 k4 k5 k6 => ⟨.normal, s', ρ', rfl, k1, k2, k3, k4, k5, k6⟩)
    rw [List.range_eq_range']
    simpa using this
  | regD id ops as mm ds hops hcd =>
    cases c <;> simp only [AC.erase] at hce <;> (try (cases hce; done)) <;> (try (exact absurd ⟨_, _, rfl⟩ hfg))
    cases hce
    have := D ops as mm ds hops hcd s _ hq F hF ρ X a w H ht hd m id
    refine wpIn_mono this ?_
    rintro e a' w' ⟨rfl, t', h', ρ', k1, k2, k3, k4, k5⟩
    exact ⟨.normal, _, ρ', rfl, k1, k2, k3, k4, k5, rfl⟩
  | seq A B x y h1 h2 =>
    cases c <;> simp only [AC.erase] at hce <;> (try (cases hce; done)) <;> (try (exact absurd ⟨_, _, rfl⟩ hfg))
    cases hce
    rename_i ca cb
    have := (S ca A h1 s _ hq F hF hrd ρ X a w H ht hd m).wpIn
    refine wpIn_seq (wpIn_mono this ?_)
    rintro e a' w' ⟨x, s', ρ', rfl, k1, k2, k3, k4, k5, k6⟩
    cases x with
    | normal =>
      have := (S cb B h2 s' K k1 F hF (by rw [hrd, k6]) ρ' X a' w' k3 k4 k5 m).wpIn
      refine wpIn_mono this fun e a'' w'' hp => ?_
      rw [k6] at hp
      exact Post.mono k2 (fun _ _ _ hk => hk) hp
    | exit id => exact ⟨.exit id, s', ρ', rfl, k1, k2, k3, k4, k5, k6⟩
    | ret => exact ⟨.ret, s', ρ', rfl, k1, k2, k3, k4, k5, k6⟩
  | cond cc A B x y h1 h2 =>
    cases c <;> simp only [AC.erase] at hce <;> (try (cases hce; done)) <;> (try (exact absurd ⟨_, _, rfl⟩ hfg))
    cases hce
    rename_i ca cb
    have hv := H.ev ht cc
    simp only [astep] at hq
    split at hq
    · rename_i he
      rw [he] at hv
      exact wpIn_cond_true (vBool hv) (S ca A h1 s K hq F hF hrd ρ X a w H ht hd m).wpIn
    · rename_i he
      rw [he] at hv
      exact wpIn_cond_false (vBool hv) (S cb B h2 s K hq F hF hrd ρ X a w H ht hd m).wpIn
    · exact hq.elim
  | block id A x h1 =>
    cases c <;> simp only [AC.erase] at hce <;> (try (cases hce; done)) <;> (try (exact absurd ⟨_, _, rfl⟩ hfg))
    cases hce
    rename_i ca
    have := (S ca A h1 s _ hq F hF hrd ρ X a w H ht hd m).wpIn
    refine wpIn_block (wpIn_mono this ?_)
    rintro e a' w' ⟨x, s', ρ', rfl, k1, k2, k3, k4, k5, k6⟩
    cases x with
    | normal => exact ⟨.normal, s', ρ', rfl, k1, k2, k3, k4, k5, k6⟩
    | exit i =>
      simp only [AX.out, Exit.inBlock]
      simp only at k1
      by_cases hi : i = id
      · rw [if_pos hi] at k1 ⊢
        exact ⟨.normal, s', ρ', rfl, k1, k2, k3, k4, k5, k6⟩
      · rw [if_neg hi] at k1 ⊢
        exact ⟨.exit i, s', ρ', rfl, k1, k2, k3, k4, k5, k6⟩
    | ret => exact ⟨.ret, s', ρ', rfl, k1, k2, k3, k4, k5, k6⟩
  | loop A x h1 =>
    cases c <;> simp only [AC.erase] at hce <;> (try (cases hce; done)) <;> (try (exact absurd ⟨_, _, rfl⟩ hfg))
    cases hce
    rename_i ca
    have := (S ca A h1 s _ hq F hF hrd ρ X a w H ht hd m).wpIn
    refine wpLoop_round (wpIn_mono this ?_)
    rintro e a' w' ⟨x, s', ρ', rfl, k1, k2, k3, k4, k5, k6⟩
    cases x with
    | normal =>
      have := S (.loop ca) (.loop A) (by simp [cCode, h1, AC.erase]) s' K k1 F hF (by rw [hrd, k6]) ρ' X a' w' k3 k4 k5 m
      refine wpLoop.mono this fun e a'' w'' hp => ?_
      rw [k6] at hp
      exact Post.mono k2 (fun _ _ _ hk => hk) hp
    | exit id => exact ⟨.exit id, s', ρ', rfl, k1, k2, k3, k4, k5, k6⟩
    | ret => exact ⟨.ret, s', ρ', rfl, k1, k2, k3, k4, k5, k6⟩
  | rangeF f ps A B x y h1 h2 =>
    cases c <;> simp only [AC.erase] at hce <;> (try (cases hce; done)) <;> (try (exact absurd ⟨_, _, rfl⟩ hfg))
    cases hce
    rename_i asg body
    simp only [astep] at hq
    split at hq
    · exact hq.elim
    · rename_i hr
      rw [hr] at hrd
      have hro : F.round = none := by
        cases hh : F.round with
        | none => rfl
        | some l => rw [hh] at hrd; cases hrd
      split at hq
      · rename_i f' caps hfe
        have hv := H.ev ht f
        rw [hfe] at hv
        obtain ⟨cs, e1, e2⟩ := vFn hv
        refine wpIn_rangeFunc fun fn _ => ?_
        have fresh := H.fresh s.h.next (Nat.le_refl _)
        -- the two blocks
        have H1 := H.new (b := .dfr true) (o := .deferred (some [])) (sz := 0) (w' := w.alloc (.deferred (some []))) rfl rfl rfl rfl rfl
        have hle1 := Ren.le_put (p := (w.heap.size, 0, 0)) fresh.1
        have fresh1 := H1.fresh (s.h.new (.dfr true)).next (Nat.le_refl _)
        have hle2 := Ren.le_put (p := ((w.alloc (.deferred (some []))).heap.size, 0, 0)) fresh1.1
        have H2 := H1.new (b := .loop .ready none s.t ps.toList asg body s.h.next) (sz := 0)
          (o := .loop { state := .ready, pending := none, fn, tmps := a.tmps, params := ps, assign := A, body := B, defers := w.heap.size })
          (w' := (w.alloc (.deferred (some []))).alloc (.loop { state := .ready, pending := none, fn, tmps := a.tmps, params := ps, assign := A, body := B, defers := w.heap.size })) rfl rfl rfl rfl
          ⟨rfl, fn, a.tmps, A, B, w.heap.size, by simp, ht.mono (Ren.le_trans hle1 hle2), h1, h2, ⟨(0, 0), hle2 _ _ (Ren.put_same _ _ _)⟩, by simp⟩
        have hsz : (w.alloc (.deferred (some []))).heap.size = w.heap.size + 1 := by simp
        have hnx : (s.h.new (.dfr true)).next = s.h.next + 1 := rfl
        have hargs : VRs ((ρ.put s.h.next (w.heap.size, 0, 0)).put (s.h.new (.dfr true)).next ((w.alloc (.deferred (some []))).heap.size, 0, 0)) (.yield (s.h.next + 1) :: caps) (#[Value.func (.yield (w.heap.size + 1)) #[] #[]] ++ cs).toList := by
          simp only [Array.toList_append, List.cons_append, List.nil_append, VRs, VR]
          refine ⟨⟨_, Ren.put_same _ _ _, by rw [hsz]⟩, e2.mono (Ren.le_trans hle1 hle2)⟩
        have hcall := callF_sound (F := F) S hfns H2 hargs hq hF (m - 1)
        have hcf := hq
        unfold callF at hcf
        split at hcf
        · rename_i g0 hfn
          obtain ⟨⟨g, cc, hg, hb, hnm, _⟩, _⟩ := hfns f' g0 hfn
          refine ⟨w.heap.size + 1, _, _, { target := .fn (.func f') cs, args := #[Value.func (.yield (w.heap.size + 1)) #[] #[]] }, ((w.alloc (.deferred (some []))).alloc (.loop { state := .ready, pending := none, fn, tmps := a.tmps, params := ps, assign := A, body := B, defers := w.heap.size })), f', #[Value.func (.yield (w.heap.size + 1)) #[] #[]] ++ cs, _,
            by rw [hro]; exact run_enterLoop_outer fn a.tmps ps A B, ?_, fun f' _ => hF.1 f', ?_, hF.dep, CallsIn.mono hcall ?_⟩
          · simp only [resolve, rangeCall, e1, Deferred.ofValue, Sem.run_pure]
            simp [Act.eval]
          · simp only [invoke, rCallFunc hg hnm hb]
          · intro e w3 hR
            cases e with
            | panicked ch => exact hR.elim
            | outgrown => exact hR.elim
            | returned v' =>
              obtain ⟨v, h3, ρ3, k1, k2, k3, k4⟩ := hR
              split at k1
              · rename_i st pend tmps' ps' asg' body' dfr' hg3
                obtain ⟨p3, fn3, tm3, ca3, cb3, q3, hp3, hz3, hw3, htm3, hca3, hcb3, hdf3, hpn3⟩ := k3.loop hg3
                have hpe := k2 _ _ (Ren.put_same _ _ _)
                rw [hnx] at hpe
                rw [hpe] at hp3; cases hp3
                rw [hsz] at hw3
                have hbusy : st ≠ .busy := by
                  intro hb; subst hb; exact k1
                have H4 := k3.upd (p := _) (b' := .loop .exhausted pend tmps' ps' asg' body' dfr') (w' := w3.putObj (w.heap.size + 1) (.loop { state := .exhausted, pending := pend.map AX.code, fn := fn3, tmps := tm3, params := ps'.toArray, assign := ca3, body := cb3, defers := q3 })) hg3 rfl hpe (by rw [hsz]; rfl) rfl rfl rfl
                  ⟨rfl, fn3, tm3, ca3, cb3, q3, rfl, htm3, hca3, hcb3, hdf3, hpn3⟩
                refine ⟨_, _, run_endLoop hw3 hbusy, ?_⟩
                have hK : K (pend.getD .normal) { s with h := h3.put (s.h.next + 1) (.loop .exhausted pend tmps' ps' asg' body' dfr'), d := s.h.next :: s.d } := by
                  cases st <;> first | exact k1 | exact absurd rfl hbusy
                have hle : ρ.le ρ3 := Ren.le_trans (Ren.le_trans hle1 hle2) k2
                have hd' : DR ρ3 (s.h.next :: s.d) ([{ target := .collected w.heap.size, args := #[] }] ++ a.defers) := ⟨⟨_, Ren.le_trans hle2 k2 _ _ (Ren.put_same _ _ _), rfl⟩, hd.mono hle⟩
                cases pend with
                | none => exact ⟨.normal, _, ρ3, rfl, hK, hle, H4, ht.mono hle, hd', rfl⟩
                | some jx =>
                  cases jx with
                  | normal => exact absurd rfl hpn3
                  | exit id => exact wpIn_exit ⟨.exit id, _, ρ3, rfl, hK, hle, H4, ht.mono hle, hd', rfl⟩
                  | ret => exact wpIn_ret ⟨.ret, _, ρ3, rfl, hK, hle, H4, ht.mono hle, hd', rfl⟩
              · exact k1.elim
        · exact hcf.elim
      · exact hq.elim

end
end Go.Am

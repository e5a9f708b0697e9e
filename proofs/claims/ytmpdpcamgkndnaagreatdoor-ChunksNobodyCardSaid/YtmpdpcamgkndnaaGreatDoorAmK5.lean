/- The abstract machine, tuned for the kernel: the evaluator over slots that are a tree; what it says, arun says. Conditions: none. -/
import Derived.Test.YtmpdpcamgkndnaaGreatDoorAmK3
set_option linter.constructorNameAsVariable false
set_option linter.unusedSimpArgs false
set_option linter.unusedVariables false
namespace Go.Am

structure KS where
  n : Nat
  tr : QT
  h : Heap
  d : List Nat
  rd : Bool

noncomputable def KS.ab (s : KS) : St := { t := absT s.n s.tr, h := s.h, d := s.d, rd := s.rd }
abbrev KRec := AC → KS → Option (AX × KS)
def Rl (kr : KRec) (ar : ARec) : Prop := ∀ c s, ar c s.ab = (kr c s).map fun p => (p.1, p.2.ab)

noncomputable def mkTr (n : Nat) (l : List AV) (i : Nat) (tr : QT) : QT := @List.rec AV (fun _ => Nat → QT → QT) (fun _ tr => tr) (fun a _ ih i tr => setS n tr i a fun tr' => ih (Nat.succ i) tr') l i tr
theorem mkTr_get (n : Nat) : ∀ (l : List AV) (i : Nat) (tr : QT) (j : Nat), j < n → getQ (pathOf (depth n) j) (mkTr n l i tr) = if i ≤ j ∧ j < i + l.length then l.getD (j - i) undefA else getQ (pathOf (depth n) j) tr
  | [], i, tr, j, hj => by
    show getQ _ tr = _
    rw [if_neg (by rintro ⟨h1, h2⟩; simp at h2; omega)]
  | a :: l, i, tr, j, hj => by
    show getQ _ (setS n tr i a fun tr' => mkTr n l (Nat.succ i) tr') = _
    rw [setS_k, mkTr_get n l _ _ j hj, setS_get n tr i a j hj]
    simp only [List.length_cons]
    by_cases hji : j = i
    · subst hji
      rw [if_neg (by omega), if_pos rfl, if_pos (by omega)]; simp
    · by_cases h2 : i ≤ j ∧ j < i + (l.length + 1)
      · rw [if_pos (by omega), if_pos h2]
        have : j - i = (j - Nat.succ i) + 1 := by omega
        rw [this, List.getD_cons_succ]
      · rw [if_neg (by omega), if_neg hji, if_neg h2]

theorem absT_mk (args : List AV) (k : Nat) : absT (args.length + k) (mkTr (args.length + k) args 0 .nil) = args ++ List.replicate k undefA := by
  apply List.ext_getElem?
  intro j
  unfold absT
  rw [List.getElem?_map]
  by_cases hj : j < args.length + k
  · rw [List.getElem?_range hj, Option.map_some, mkTr_get _ _ _ _ _ hj]
    by_cases h1 : j < args.length
    · rw [if_pos (by omega), List.getElem?_append_left h1]
      simp [h1]
    · rw [if_neg (by omega), List.getElem?_append_right (by omega), List.getElem?_replicate, if_pos (by omega), getQ_nil]
  · rw [List.getElem?_eq_none (by simp; omega), List.getElem?_eq_none (by simp; omega)]; rfl

def resK (h : Heap) (g : Nat → AV) : ARes → Option AV
  | .tmp i => some (g i)
  | .cell1 i =>
    match g i with
    | .ptr (some a) => h.ld a
    | _ => none
  | .cellN i n =>
    match g i with
    | .ptr (some a) => (h.ldN a n).map .agg
    | _ => none
def resAllK (h : Heap) (g : Nat → AV) : List ARes → Option (List AV)
  | [] => some []
  | r :: rs =>
    match resK h g r, resAllK h g rs with
    | some v, some vs => some (v :: vs)
    | _, _ => none
theorem resAllK_eq (h : Heap) (n : Nat) (tr : QT) : ∀ rs, resAll h (absT n tr) rs = resAllK h (slot n tr) rs
  | [] => rfl
  | r :: rs => by
    simp only [resAll, resAllK, resAllK_eq h n tr rs]
    have : resA h (absT n tr) r = resK h (slot n tr) r := by
      cases r <;> simp only [resA, resK, absT_get] <;> rfl
    rw [this]
    rfl

noncomputable def rFT (fns : Nat → Option AFn) (kr : KRec) (f : Nat) (args : List AV) (h : Heap) : Option (AV × Heap) :=
  match fns f with
  | some fn =>
    match fn.memo args h with
    | some v => some (v, h)
    | none =>
    match kr fn.body { n := args.length + (fn.ntmps - args.length), tr := mkTr (args.length + (fn.ntmps - args.length)) args 0 .nil, h, d := [], rd := false } with
    | some (x, s) =>
      match x with
      | .exit _ => none
      | _ =>
        match takeD s.d s.h with
        | some h' => (resAllK h' (slot s.n s.tr) fn.res).map fun vs => (pack vs, h')
        | none => none
    | none => none
  | none => none

noncomputable def rYT (kr : KRec) (l : Nat) (args : List AV) (h : Heap) : Option (AV × Heap) :=
  match h.get l with
  | some (.loop .ready _ tmps ps asg body _) =>
    if args.length = ps.length then
      match kr asg { n := (setAll tmps ps args).length, tr := mkTr (setAll tmps ps args).length (setAll tmps ps args) 0 .nil, h, d := [], rd := true } with
      | some (.normal, s) =>
        match s.h.get l with
        | some (.loop .ready pend' tmps' ps' asg' body' dfr') =>
          match kr body { s with h := s.h.put l (.loop .busy pend' tmps' ps' asg' body' dfr') } with
          | some (y, s') =>
            match s'.h.get l with
            | some (.loop _ _ tmps'' ps'' asg'' body'' dfr'') =>
              match y with
              | .normal => some (.bool true, s'.h.put l (.loop .ready none tmps'' ps'' asg'' body'' dfr''))
              | y => some (.bool false, s'.h.put l (.loop .done (some y) tmps'' ps'' asg'' body'' dfr''))
            | _ => none
          | none => none
        | _ => none
      | _ => none
    else none
  | _ => none

noncomputable def rVT (fns : Nat → Option AFn) (kr : KRec) (v : AV) (args : List AV) (h : Heap) : Option (AV × Heap) :=
  match v with
  | .fn f caps => rFT fns kr f (args ++ caps) h
  | .yield l => rYT kr l args h
  | _ => none

section
variable {fns : Nat → Option AFn} {kr : KRec} {ar : ARec}

theorem rFT_eq (R : Rl kr ar) (f : Nat) (args : List AV) (h : Heap) : rF fns ar f args h = rFT fns kr f args h := by
  unfold rF rFT
  cases fns f with
  | none => rfl
  | some fn =>
    simp only []
    cases fn.memo args h with
    | some v => rfl
    | none =>
    simp only []
    have := R fn.body { n := args.length + (fn.ntmps - args.length), tr := mkTr (args.length + (fn.ntmps - args.length)) args 0 .nil, h, d := [], rd := false }
    simp only [KS.ab, absT_mk] at this
    rw [this]
    cases kr fn.body { n := args.length + (fn.ntmps - args.length), tr := mkTr (args.length + (fn.ntmps - args.length)) args 0 .nil, h, d := [], rd := false } with
    | none => rfl
    | some p =>
      obtain ⟨x, s⟩ := p
      cases x with
      | exit i => rfl
      | normal =>
        simp only [Option.map_some]
        cases takeD s.d s.h with
        | none => rfl
        | some h' => simp only [resAllK_eq]
      | ret =>
        simp only [Option.map_some]
        cases takeD s.d s.h with
        | none => rfl
        | some h' => simp only [resAllK_eq]

theorem rYT_eq (R : Rl kr ar) (l : Nat) (args : List AV) (h : Heap) : rY ar l args h = rYT kr l args h := by
  unfold rY rYT
  cases hg : h.get l with
  | none => rfl
  | some bk =>
    cases bk with
    | loop st pend tmps ps asg body dfr =>
      cases st with
      | ready =>
        simp only []
        by_cases hl : args.length = ps.length
        · rw [if_pos hl, if_pos hl]
          have := R asg { n := (setAll tmps ps args).length, tr := mkTr (setAll tmps ps args).length (setAll tmps ps args) 0 .nil, h, d := [], rd := true }
          simp only [KS.ab] at this
          have hm := absT_mk (setAll tmps ps args) 0
          simp only [Nat.add_zero, List.replicate_zero, List.append_nil] at hm
          rw [hm] at this
          rw [this]
          cases kr asg { n := (setAll tmps ps args).length, tr := mkTr (setAll tmps ps args).length (setAll tmps ps args) 0 .nil, h, d := [], rd := true } with
          | none => rfl
          | some p =>
            obtain ⟨x, s⟩ := p
            cases x with
            | exit i => rfl
            | ret => rfl
            | normal =>
              simp only [Option.map_some]
              cases hg1 : s.h.get l with
              | none => rfl
              | some bk1 =>
                cases bk1 with
                | loop st1 pend' tmps' ps' asg' body' dfr' =>
                  cases st1 with
                  | ready =>
                    simp only []
                    have h2 := R body { s with h := s.h.put l (.loop .busy pend' tmps' ps' asg' body' dfr') }
                    simp only [KS.ab] at h2
                    rw [h2]
                    cases kr body { s with h := s.h.put l (.loop .busy pend' tmps' ps' asg' body' dfr') } with
                    | none => rfl
                    | some q =>
                      obtain ⟨y, s'⟩ := q
                      simp only [Option.map_some]
                      cases s'.h.get l with
                      | none => rfl
                      | some bk2 =>
                        cases bk2 with
                        | loop => cases y <;> rfl
                        | _ => rfl
                  | _ => rfl
                | _ => rfl
        · rw [if_neg hl, if_neg hl]
      | _ => rfl
    | _ => rfl

noncomputable def okT (fns : Nat → Option AFn) (kr : KRec) (op : AOp) : OpT := opK (fun f l e h => rFT fns kr f (l.map e) h) (fun x l e h => rVT fns kr (e x) (l.map e) h) op

theorem okT_eq (R : Rl kr ar) (op : AOp) (n : Nat) (tr : QT) (h : Heap) : rOp fns ar op (absT n tr) h = okT fns kr op (evT n tr) h := by
  rw [← evT_eq]
  by_cases hc : op.isCall = false
  · exact (opK_eq op hc).symm
  · cases op <;> first | (exact absurd rfl hc) | skip
    case call f l => exact rFT_eq R f _ h
    case callv x l =>
      show rV fns ar (AO.ev (absT n tr) x) (l.map (AO.ev (absT n tr))) h = rVT fns kr (AO.ev (absT n tr) x) (l.map (AO.ev (absT n tr))) h
      unfold rV rVT
      cases AO.ev (absT n tr) x <;> first | rfl | exact rFT_eq R _ _ h | exact rYT_eq R _ _ h

noncomputable def rOpsT (ok : AOp → OpT) (n : Nat) (ops : List AOpr) : QT → Heap → Option (QT × Heap) :=
  @List.rec AOpr (fun _ => QT → Heap → Option (QT × Heap)) (fun t h => some (t, h)) (fun o _ ih t h =>
    @AOpr.rec (fun _ => Option (QT × Heap)) (fun dst op guard =>
      @Option.rec _ (fun _ => Option (QT × Heap))
        (@Option.rec _ (fun _ => Option (QT × Heap)) none (fun p => @Prod.rec _ _ (fun _ => Option (QT × Heap)) (fun v h' => putT n t dst v fun t' => ih t' h') p) (ok op (evT n t) h))
        (fun dw =>
          match slot n t dw.1 with
          | .bool b => @Bool.rec (fun _ => Option (QT × Heap)) (putT n t dst undefA fun t' => ih t' h)
              (@Option.rec _ (fun _ => Option (QT × Heap)) none (fun p => @Prod.rec _ _ (fun _ => Option (QT × Heap)) (fun v h' => putT n t dst v fun t' => ih t' h') p) (ok op (evT n t) h)) (b == dw.2)
          | .tup _ => putT n t dst undefA fun t' => ih t' h
          | _ => none) guard) o) ops

theorem rOpsT_eq {ok : AOp → OpT} (n : Nat) (hok : ∀ op tr h, rOp fns ar op (absT n tr) h = ok op (evT n tr) h) : ∀ (ops : List AOpr) (tr : QT) (h : Heap) (d : List Nat) (rd : Bool),
    rOps fns ar ops { t := absT n tr, h, d, rd } = (rOpsT ok n ops tr h).map fun p => { t := absT n p.1, h := p.2, d, rd }
  | [], tr, h, d, rd => rfl
  | o :: os, tr, h, d, rd => by
    obtain ⟨dst, op, guard⟩ := o
    have hput : ∀ (v : AV) (h' : Heap), ({ t := absT n tr, h := h', d, rd } : St).put dst v = { t := absT n (setT n tr dst v), h := h', d, rd } := by
      intro v h'
      rw [← absT_put]
      cases dst <;> rfl
    have step : ∀ {r : Option (AV × Heap)}, rOp fns ar op (absT n tr) h = r →
        (match rOp fns ar op (absT n tr) h with
          | some (v, h') => rOps fns ar os (({ t := absT n tr, h := h', d, rd } : St).put dst v)
          | none => none) = (@Option.rec _ (fun _ => Option (QT × Heap)) none (fun p => @Prod.rec _ _ (fun _ => Option (QT × Heap)) (fun v h' => putT n tr dst v fun t' => rOpsT ok n os t' h') p) r).map fun p => ({ t := absT n p.1, h := p.2, d, rd } : St) := by
      intro r hr
      rw [hr]
      cases r with
      | none => rfl
      | some p =>
        obtain ⟨v, h'⟩ := p
        simp only [putT_eq, hput]
        rw [rOpsT_eq n hok os]
    have skip : rOps fns ar os (({ t := absT n tr, h, d, rd } : St).put dst undefA) = (putT n tr dst undefA fun t' => rOpsT ok n os t' h).map fun p => ({ t := absT n p.1, h := p.2, d, rd } : St) := by
      rw [putT_eq, hput, rOpsT_eq n hok os]
    cases guard with
    | none => exact step (hok op tr h)
    | some dw =>
      obtain ⟨g, w⟩ := dw
      simp only [rOps, AOpr.want]
      show _ = (match slot n tr g with
          | .bool b => @Bool.rec (fun _ => Option (QT × Heap)) (putT n tr dst undefA fun t' => rOpsT ok n os t' h)
              (@Option.rec _ (fun _ => Option (QT × Heap)) none (fun p => @Prod.rec _ _ (fun _ => Option (QT × Heap)) (fun v h' => putT n tr dst v fun t' => rOpsT ok n os t' h') p) (ok op (evT n tr) h)) (b == w)
          | .tup _ => putT n tr dst undefA fun t' => rOpsT ok n os t' h
          | _ => none).map _
      rw [absT_get]
      cases hv : slot n tr g with
      | bool b =>
        simp only []
        cases hb : (b == w) with
        | true => simp only []; exact step (hok op tr h)
        | false => simp only []; exact skip
      | tup l => exact skip
      | _ => rfl

structure SdT where
  nm : Nat
  t : QT
  k : Heap
  ks : List (Nat × Heap)
  pend : List (Nat × Blk)

noncomputable def SdT.ab (n : Nat) (s : SdT) : Sd := { nm := s.nm, t := absT n s.t, k := s.k, ks := s.ks, pend := s.pend }

noncomputable def putLK (l : List (Nat × Blk)) (h : Heap) : Heap := @List.rec (Nat × Blk) (fun _ => Heap → Heap) (fun h => h) (fun p _ ih h => hputK h p.1 p.2 ih) l h
theorem putLK_eq : ∀ (l : List (Nat × Blk)) (h : Heap), putLK l h = h.putL l
  | [], h => rfl
  | p :: ps, h => by
    show hputK h p.1 p.2 (putLK ps) = _
    rw [hputK_eq, putLK_eq ps]; rfl

/-- Is it the same in every heap in which it may be read? -/
noncomputable def sureT (ok : AOp → OpT) (e : AO → AV) (m : Nat) (op : AOp) (ks : List (Nat × Heap)) (v : AV) : Bool :=
  @List.rec (Nat × Heap) (fun _ => Bool) true (fun p _ ih => @Bool.rec (fun _ => Bool) (@Bool.rec (fun _ => Bool) false ih (beqO ((ok op e p.2).map (·.1)) v)) ih (m.testBit p.1)) ks

theorem sureT_eq {ok : AOp → OpT} {e : AO → AV} {m : Nat} {op : AOp} {t : List AV} (hok : ∀ h, (ok op e h).map (·.1) = qv h t op) (v : AV) : ∀ ks : List (Nat × Heap),
    sureT ok e m op ks v = ks.all fun p => m.testBit p.1 || beqO (qv p.2 t op) v
  | [] => rfl
  | p :: ks => by
    show @Bool.rec (fun _ => Bool) (@Bool.rec (fun _ => Bool) false (sureT ok e m op ks v) (beqO ((ok op e p.2).map (·.1)) v)) (sureT ok e m op ks v) (m.testBit p.1) = _
    rw [sureT_eq hok v ks, hok]
    simp only [List.all_cons]
    cases m.testBit p.1 <;> cases beqO (qv p.2 t op) v <;> rfl

noncomputable def wantT (n : Nat) (tr : QT) (g : Option (Nat × Bool)) : Option Bool :=
  match g with
  | none => some true
  | some (d, w) =>
    match slot n tr d with
    | .bool b => some (b == w)
    | .tup _ => some false
    | _ => none
theorem wantT_eq (n : Nat) (tr : QT) (o : AOpr) : o.want (absT n tr) = wantT n tr o.guard := by
  unfold AOpr.want wantT
  cases o.guard with
  | none => rfl
  | some dw => obtain ⟨d, w⟩ := dw; simp only [absT_get]; rfl

noncomputable def rDT (ok : AOp → OpT) (n : Nat) (ds : List DOpr) : SdT → Option (QT × Heap) :=
  @List.rec DOpr (fun _ => SdT → Option (QT × Heap)) (fun s => some (s.t, putLK s.pend s.k)) (fun d _ ih s =>
    @SdT.rec (fun _ => Option (QT × Heap)) (fun nm t k ks pend =>
    @DOpr.rec (fun _ => Option (QT × Heap)) (fun o i m =>
    @AOpr.rec (fun _ => Option (QT × Heap)) (fun dst op guard =>
      @Option.rec Bool (fun _ => Option (QT × Heap)) none (fun b => @Bool.rec (fun _ => Option (QT × Heap))
        (@Cls.rec (fun _ => Option (QT × Heap))
          (putT n t dst undefA fun t => ih ⟨nm, t, k, ks, pend⟩)
          (putT n t dst undefA fun t => ih ⟨nm, t, k, ks, pend⟩)
          (putT n t dst undefA fun t => ih ⟨Nat.succ nm, t, k, ks, pend⟩)
          (putT n t dst undefA fun t => ih ⟨nm, t, putLK pend k, (i, k) :: ks, []⟩) op.cls)
        (@Cls.rec (fun _ => Option (QT × Heap))
          (@Option.rec (AV × Heap) (fun _ => Option (QT × Heap)) none (fun p => putT n t dst p.1 fun t => ih ⟨nm, t, k, ks, pend⟩) (ok op (evT n t) Heap.empty))
          (@Option.rec (AV × Heap) (fun _ => Option (QT × Heap)) none (fun p => avK p.1 fun v => @Bool.rec (fun _ => Option (QT × Heap)) none (putT n t dst v fun t => ih ⟨nm, t, k, ks, pend⟩) (sureT ok (evT n t) m op ks v)) (ok op (evT n t) k))
          (@Option.rec (Blk × (Nat → AV)) (fun _ => Option (QT × Heap)) none (fun p => putT n t dst (p.2 nm) fun t => ih ⟨Nat.succ nm, t, k, ks, pend ++ [(nm, p.1)]⟩) (al [] (op.sub (evT n t))))
          (@Option.rec (AV × Heap) (fun _ => Option (QT × Heap)) none (fun p => @Prod.rec _ _ (fun _ => Option (QT × Heap)) (fun v h' => putT n t dst v fun t => ih ⟨nm, t, h', (i, k) :: ks, []⟩) p) (ok op (evT n t) (putLK pend k))) op.cls) b) (wantT n t guard)) o) d) s) ds

theorem rDT_eq {ok : AOp → OpT} (n : Nat) (hok : ∀ op tr h, rOp fns ar op (absT n tr) h = ok op (evT n tr) h) : ∀ (ds : List DOpr) (s : SdT), rD fns ar ds (s.ab n) = (rDT ok n ds s).map fun p => (absT n p.1, p.2)
  | [], s => by
    show some _ = some _
    simp only [SdT.ab, putLK_eq]
  | ⟨⟨dst, op, guard⟩, i, m⟩ :: ds, ⟨nm, t, k, ks, pend⟩ => by
    have ih := rDT_eq n hok ds
    have ih' : ∀ nm t k ks pend, rD fns ar ds { nm, t := absT n t, k, ks, pend } = (rDT ok n ds ⟨nm, t, k, ks, pend⟩).map fun p => (absT n p.1, p.2) := fun nm t k ks pend => ih ⟨nm, t, k, ks, pend⟩
    show _ = (@Option.rec Bool (fun _ => Option (QT × Heap)) none (fun b => @Bool.rec (fun _ => Option (QT × Heap))
        (@Cls.rec (fun _ => Option (QT × Heap))
          (putT n t dst undefA fun t => rDT ok n ds ⟨nm, t, k, ks, pend⟩)
          (putT n t dst undefA fun t => rDT ok n ds ⟨nm, t, k, ks, pend⟩)
          (putT n t dst undefA fun t => rDT ok n ds ⟨Nat.succ nm, t, k, ks, pend⟩)
          (putT n t dst undefA fun t => rDT ok n ds ⟨nm, t, putLK pend k, (i, k) :: ks, []⟩) op.cls)
        (@Cls.rec (fun _ => Option (QT × Heap))
          (@Option.rec (AV × Heap) (fun _ => Option (QT × Heap)) none (fun p => putT n t dst p.1 fun t => rDT ok n ds ⟨nm, t, k, ks, pend⟩) (ok op (evT n t) Heap.empty))
          (@Option.rec (AV × Heap) (fun _ => Option (QT × Heap)) none (fun p => avK p.1 fun v => @Bool.rec (fun _ => Option (QT × Heap)) none (putT n t dst v fun t => rDT ok n ds ⟨nm, t, k, ks, pend⟩) (sureT ok (evT n t) m op ks v)) (ok op (evT n t) k))
          (@Option.rec (Blk × (Nat → AV)) (fun _ => Option (QT × Heap)) none (fun p => putT n t dst (p.2 nm) fun t => rDT ok n ds ⟨Nat.succ nm, t, k, ks, pend ++ [(nm, p.1)]⟩) (al [] (op.sub (evT n t))))
          (@Option.rec (AV × Heap) (fun _ => Option (QT × Heap)) none (fun p => @Prod.rec _ _ (fun _ => Option (QT × Heap)) (fun v h' => putT n t dst v fun t => rDT ok n ds ⟨nm, t, h', (i, k) :: ks, []⟩) p) (ok op (evT n t) (putLK pend k))) op.cls) b) (wantT n t guard)).map fun p => (absT n p.1, p.2)
    simp only [rD, SdT.ab, wantT_eq, putT_eq, putLK_eq, avK_eq]
    cases wantT n t guard with
    | none => rfl
    | some b =>
      cases b with
      | false =>
        simp only []
        cases hc : op.cls <;> simp only [Sd.skip, hc, absT_put, ih']
      | true =>
        simp only []
        have hq : ∀ h, (op.cls = .pure ∨ op.cls = .read) → ok op (evT n t) h = (qv h (absT n t) op).map fun v => (v, h) := by
          intro h hcl
          rw [← hok op t h]
          unfold rOp
          rcases hcl with hcl | hcl <;> rw [hcl]
        cases hc : op.cls with
        | pure =>
          simp only []
          rw [hq _ (.inl hc)]
          cases qv Heap.empty (absT n t) op with
          | none => rfl
          | some v => simp only [Option.map_some, absT_put, ih']
        | read =>
          simp only []
          rw [hq _ (.inr hc)]
          cases qv k (absT n t) op with
          | none => rfl
          | some v =>
            have hs : sureT ok (evT n t) m op ks v = ks.all fun p => m.testBit p.1 || beqO (qv p.2 (absT n t) op) v :=
              sureT_eq (fun h => by rw [hq h (.inr hc)]; cases qv h (absT n t) op <;> rfl) v ks
            simp only [Option.map_some, hs, Sd.sure, absT_put]
            cases (ks.all fun p => m.testBit p.1 || beqO (qv p.2 (absT n t) op) v) with
            | true => simp only [if_true, ih']
            | false => rfl
        | alloc =>
          simp only []
          rw [← evT_eq, al_sub]
          cases al (absT n t) op with
          | none => rfl
          | some p => simp only [absT_put, ih']
        | eff =>
          simp only []
          have he : ok op (evT n t) (k.putL pend) = rEff fns ar (absT n t) (k.putL pend) op := by
            rw [← hok op t _]
            unfold rOp
            rw [hc]
          rw [he]
          cases rEff fns ar (absT n t) (k.putL pend) op with
          | none => rfl
          | some p => simp only [absT_put, ih']

noncomputable def fgtT (n : Nat) (ts : List Nat) (tr : QT) : QT := @List.rec Nat (fun _ => QT → QT) (fun tr => tr) (fun i _ ih tr => setS n tr i .top ih) ts tr
theorem fgtT_eq (n : Nat) : ∀ (ts : List Nat) (tr : QT), ts.foldl (fun t i => t.set i .top) (absT n tr) = absT n (fgtT n ts tr)
  | [], tr => rfl
  | i :: ts, tr => by
    simp only [List.foldl_cons]
    rw [absT_set, fgtT_eq n ts]
    show _ = absT n (setS n tr i .top (fgtT n ts))
    rw [setS_k n tr i .top (fgtT n ts)]

noncomputable def t_reg (fns : Nat → Option AFn) (kr : KRec) (ops : List AOpr) (s : KS) : Option (AX × KS) := (rOpsT (okT fns kr) s.n ops s.tr s.h).map fun p => (.normal, ⟨s.n, p.1, p.2, s.d, s.rd⟩)
noncomputable def t_regD (fns : Nat → Option AFn) (kr : KRec) (m : Nat) (ops : List DOpr) (s : KS) : Option (AX × KS) := (rDT (okT fns kr) s.n ops ⟨s.h.next, s.tr, s.h.resv m, [], []⟩).map fun p => (.normal, ⟨s.n, p.1, p.2, s.d, s.rd⟩)
def t_seq (kr : KRec) (a b : AC) (s : KS) : Option (AX × KS) :=
  match kr a s with
  | some (.normal, s') => kr b s'
  | r => r
noncomputable def t_cond (kr : KRec) (c : AO) (a b : AC) (s : KS) : Option (AX × KS) :=
  match evT s.n s.tr c with
  | .bool true => kr a s
  | .bool false => kr b s
  | _ => none
def t_block (kr : KRec) (id : Nat) (c : AC) (s : KS) : Option (AX × KS) :=
  match kr c s with
  | some (.exit i, s') => if i = id then some (.normal, s') else some (.exit i, s')
  | r => r
def t_loop (kr : KRec) (c : AC) (s : KS) : Option (AX × KS) :=
  match kr c s with
  | some (.normal, s') => kr (.loop c) s'
  | r => r
noncomputable def t_rangeF (fns : Nat → Option AFn) (kr : KRec) (f : AO) (ps : List Nat) (asg body : AC) (s : KS) : Option (AX × KS) :=
  match s.rd with
  | true => none
  | false =>
    match evT s.n s.tr f with
    | .fn f' caps =>
      match rFT fns kr f' (.yield (s.h.next + 1) :: caps) ((s.h.new (.dfr true)).new (.loop .ready none (absT s.n s.tr) ps asg body s.h.next)) with
      | some (_, h3) =>
        match h3.get (s.h.next + 1) with
        | some (.loop st pend a b c d e) =>
          match st with
          | .busy => none
          | _ => some (pend.getD .normal, { s with h := h3.put (s.h.next + 1) (.loop .exhausted pend a b c d e), d := s.h.next :: s.d })
        | _ => none
      | none => none
    | _ => none

noncomputable def rstepT (fns : Nat → Option AFn) (kr : KRec) (c : AC) (s : KS) : Option (AX × KS) :=
  match c with
  | .skip => some (.normal, s)
  | .reg ops => t_reg fns kr ops s
  | .regD m ops => t_regD fns kr m ops s
  | .seq a b => t_seq kr a b s
  | .cond c a b => t_cond kr c a b s
  | .block id c => t_block kr id c s
  | .loop c => t_loop kr c s
  | .rangeF f ps asg body => t_rangeF fns kr f ps asg body s
  | .exit id => some (.exit id, s)
  | .ret => some (.ret, s)
  | .fgt ts c => kr c { s with tr := fgtT s.n ts s.tr }

theorem rstepT_eq (R : Rl kr ar) : Rl (rstepT fns kr) (rstep fns ar) := by
  intro c s
  cases c with
  | skip => rfl
  | exit id => rfl
  | ret => rfl
  | reg ops =>
    show (rOps fns ar ops s.ab).map _ = (t_reg fns kr ops s).map _
    unfold t_reg
    rw [show s.ab = { t := absT s.n s.tr, h := s.h, d := s.d, rd := s.rd } from rfl, rOpsT_eq s.n (fun op tr h => okT_eq R op s.n tr h), Option.map_map, Option.map_map]
    rfl
  | regD m ops =>
    show (rD fns ar ops _).map _ = (t_regD fns kr m ops s).map _
    unfold t_regD
    have := rDT_eq (fns := fns) (ok := okT fns kr) s.n (fun op tr h => okT_eq R op s.n tr h) ops ⟨s.h.next, s.tr, s.h.resv m, [], []⟩
    rw [show ({ nm := s.ab.h.next, t := s.ab.t, k := s.ab.h.resv m, ks := [], pend := [] } : Sd) = SdT.ab s.n ⟨s.h.next, s.tr, s.h.resv m, [], []⟩ from rfl, this, Option.map_map, Option.map_map]
    rfl
  | seq a b =>
    show (match ar a s.ab with
      | some (.normal, s') => ar b s'
      | r => r) = (t_seq kr a b s).map _
    unfold t_seq
    rw [R a s]
    cases kr a s with
    | none => rfl
    | some p =>
      obtain ⟨x, s'⟩ := p
      cases x with
      | normal => exact R b s'
      | exit i => rfl
      | ret => rfl
  | cond c a b =>
    show (match AO.ev (absT s.n s.tr) c with
      | .bool true => ar a s.ab
      | .bool false => ar b s.ab
      | _ => none) = (t_cond kr c a b s).map _
    unfold t_cond
    rw [evT_eq]
    generalize evT s.n s.tr c = v
    cases v with
    | bool bb => cases bb with
      | true => exact R a s
      | false => exact R b s
    | _ => rfl
  | block id c =>
    show (match ar c s.ab with
      | some (.exit i, s') => if i = id then some (.normal, s') else some (.exit i, s')
      | r => r) = (t_block kr id c s).map _
    unfold t_block
    rw [R c s]
    cases kr c s with
    | none => rfl
    | some p =>
      obtain ⟨x, s'⟩ := p
      cases x with
      | normal => rfl
      | exit i =>
        simp only [Option.map_some]
        by_cases hi : i = id
        · rw [if_pos hi, if_pos hi]; rfl
        · rw [if_neg hi, if_neg hi]; rfl
      | ret => rfl
  | loop c =>
    show (match ar c s.ab with
      | some (.normal, s') => ar (.loop c) s'
      | r => r) = (t_loop kr c s).map _
    unfold t_loop
    rw [R c s]
    cases kr c s with
    | none => rfl
    | some p =>
      obtain ⟨x, s'⟩ := p
      cases x with
      | normal => exact R _ s'
      | exit i => rfl
      | ret => rfl
  | fgt ts c =>
    show ar c { s.ab with t := ts.foldl (fun t i => t.set i .top) s.ab.t } = _
    have := R c { s with tr := fgtT s.n ts s.tr }
    rw [← show KS.ab { s with tr := fgtT s.n ts s.tr } = { s.ab with t := ts.foldl (fun t i => t.set i .top) s.ab.t } from by
      simp only [KS.ab, fgtT_eq]]
    exact this
  | rangeF f ps asg body =>
    obtain ⟨n, tr, h, d, rd⟩ := s
    simp only [rstep, rstepT, t_rangeF, KS.ab]
    cases rd with
    | true => rfl
    | false =>
      simp only []
      rw [evT_eq]
      generalize evT n tr f = v
      cases v with
      | fn f' caps =>
        simp only []
        rw [rFT_eq R]
        cases rFT fns kr f' (.yield (h.next + 1) :: caps) ((h.new (.dfr true)).new (.loop .ready none (absT n tr) ps asg body h.next)) with
        | none => rfl
        | some p =>
          obtain ⟨u, h3⟩ := p
          simp only []
          cases h3.get (h.next + 1) with
          | none => rfl
          | some bk =>
            cases bk with
            | loop st pend a b c d e => cases st <;> rfl
            | _ => rfl
      | _ => rfl

noncomputable def arunT (fns : Nat → Option AFn) (n : Nat) : KRec := @Nat.rec (fun _ => KRec) (fun _ _ => none) (fun _ ih => rstepT fns ih) n
theorem arunT_eq : ∀ n, Rl (arunT fns n) (arun fns n)
  | 0 => fun _ _ => rfl
  | n + 1 => rstepT_eq (arunT_eq n)

noncomputable def arunFT (fns : Nat → Option AFn) (n f : Nat) (args : List AV) (h : Heap) : Option (AV × Heap) := rFT fns (arunT fns n) f args h
theorem arunFT_eq {n f : Nat} {args : List AV} {h : Heap} : arunF fns n f args h = arunFT fns n f args h := rFT_eq (arunT_eq n) f args h

end
end Go.Am

/- The abstract machine, run: what comes out, if one thing can come out alone. Conditions: none; definitions alone. -/
import Derived.Test.YtmpdpcamgkndnaaGreatDoorAmCode
set_option linter.constructorNameAsVariable false
set_option linter.unusedSimpArgs false
set_option linter.unusedVariables false
namespace Go.Am

abbrev ARec := AC → St → Option (AX × St)

/-- Operations that turn the heap, no calls. -/
def ef (h : Heap) (t : List AV) : AOp → Option (AV × Heap)
  | .store n a x =>
    match a.ev t with
    | .ptr (some p) => if (x.ev t).cells.length = n then (h.stN p (x.ev t).cells).map fun h' => (undefA, h') else none
    | _ => none
  | .append e size bytes _ x y =>
    match x.ev t, h.slCells size (y.ev t) with
    | .sl a len cap ex, some new =>
      match srcLen (y.ev t) with
      | some n =>
        if len + n ≤ cap then
          match a with
          | none => some (.sl a (len + n) cap ex, h)
          | some p => (h.stN (p.1, p.2 + len * size) new).map fun h' => (.sl a (len + n) cap ex, h')
        else if (len + n) * bytes ≤ 2 ^ 46 ∧ 0 < bytes ∧ 0 < size ∧ len + n ≤ 2 ^ 46 ∧ new.all AV.flat = true then
          match ex with
          | none => (h.slCells size (x.ev t)).map fun old => (.sl (some (h.next, 0)) (len + n) (len + n) (some size), h.new (.cells e (old ++ new) false))
          | some es =>
            match a with
            | some p =>
              match h.get p.1, h.slCells size (x.ev t) with
              | some (.cells e' _ false), some old => if e' = e ∧ es = size then some (.sl (some (h.next, 0)) (len + n) (len + n) (some size), (h.del p.1).new (.cells e (old ++ new) false)) else none
              | _, _ => none
            | none => none
        else none
      | none => none
    | _, _ => none
  | .copy size x y =>
    match x.ev t with
    | .sl a dl _ _ =>
      match srcCut dl (y.ev t) with
      | some (n, y') =>
        match h.slCells size y' with
        | some new =>
          match a with
          | none => some (.int .i64 (Nat.min n dl), h)
          | some p => (h.stN p new).map fun h' => (.int .i64 (Nat.min n dl), h')
        | none => none
      | none => none
    | _ => none
  | .clear size z x =>
    match x.ev t with
    | .sl none _ _ _ => some (undefA, h)
    | .sl (some p) n _ _ => if z.length = size then (h.stN p ((List.replicate n z).flatten)).map fun h' => (undefA, h') else none
    | _ => none
  | .mapUpd kd m k v =>
    match m.ev t with
    | .map (some r) =>
      match h.mp r with
      | some (es, clock) =>
        match findK kd (k.ev t) es 0 with
        | some (some (i, _)) => (es[i]?).map fun e => (undefA, h.put r (.map (es.set i (k.ev t, v.ev t, e.2.2)) clock))
        | some none => some (undefA, h.put r (.map (es ++ [(k.ev t, v.ev t, clock)]) (clock + 1)))
        | none => none
      | none => none
    | _ => none
  | .delete kd m k =>
    match m.ev t with
    | .map none => some (undefA, h)
    | .map (some r) =>
      match h.mp r with
      | some (es, clock) =>
        match findK kd (k.ev t) es 0 with
        | some (some (i, _)) => some (undefA, h.put r (.map (es.eraseIdx i) clock))
        | some none => some (undefA, h)
        | none => none
      | none => none
    | _ => none
  | .freeze x =>
    match x.ev t with
    | .sl (some p) len cap ex =>
      match h.get p.1 with
      | some (.cells _ _ false) => some (.sl (some p) len cap ex, h)
      | _ => none
    | _ => none
  | .range x =>
    match x.ev t with
    | .map none => some (.ptr (some (h.next, 0)), h.new (.iter none 0 [] 0))
    | .map (some m) => (h.mp m).map fun p => (.ptr (some (h.next, 0)), h.new (.iter (some m) p.2 [] p.2))
    | _ => none
  | .next it =>
    match it.ev t with
    | .ptr (some (r, 0)) =>
      match h.get r with
      | some (.iter none _ _ _) => some (.tup [.bool false], h)
      | some (.iter (some m) since seen stepped) =>
        match h.mp m with
        | some (es, clock) =>
          if since ≤ stepped ∧ es.all (fun e => decide (e.2.2 < since)) = true then
            match es.filter fun e => !seen.contains e.2.2 with
            | [] => some (.tup [.bool false], h)
            | [e] => some (.tup [.bool true, e.1, e.2.1], h.put r (.iter (some m) since (seen ++ [e.2.2]) clock))
            | _ => none
          else none
        | none => none
      | _ => none
    | _ => none
  | _ => none

def rF (fns : Nat → Option AFn) (rec : ARec) (f : Nat) (args : List AV) (h : Heap) : Option (AV × Heap) :=
  match fns f with
  | some fn =>
    match fn.memo args h with
    | some v => some (v, h)
    | none =>
      match rec fn.body { t := args ++ List.replicate (fn.ntmps - args.length) undefA, h, d := [], rd := false } with
      | some (x, s) =>
        match x with
        | .exit _ => none
        | _ =>
          match takeD s.d s.h with
          | some h' => (resAll h' s.t fn.res).map fun vs => (pack vs, h')
          | none => none
      | none => none
  | none => none

def rY (rec : ARec) (l : Nat) (args : List AV) (h : Heap) : Option (AV × Heap) :=
  match h.get l with
  | some (.loop .ready _ tmps ps asg body _) =>
    if args.length = ps.length then
      match rec asg { t := setAll tmps ps args, h, d := [], rd := true } with
      | some (.normal, s) =>
        match s.h.get l with
        | some (.loop .ready pend' tmps' ps' asg' body' dfr') =>
          match rec body { s with h := s.h.put l (.loop .busy pend' tmps' ps' asg' body' dfr') } with
          | some (y, s') =>
            match s'.h.get l with
            | some (.loop _ _ tmps'' ps'' asg'' body'' dfr'') =>
              match y with
              | .normal => some (.bool true, s'.h.put l (.loop .ready none tmps'' ps'' asg'' body'' dfr''))
              | y => some (.bool false, s'.h.put l (.loop .done (some y) tmps'' ps'' asg'' body'' dfr''))
            | _ => none
          | none => none
        | _ => none
      | _ => none
    else none
  | _ => none

def rV (fns : Nat → Option AFn) (rec : ARec) (v : AV) (args : List AV) (h : Heap) : Option (AV × Heap) :=
  match v with
  | .fn f caps => rF fns rec f (args ++ caps) h
  | .yield l => rY rec l args h
  | _ => none

def rEff (fns : Nat → Option AFn) (rec : ARec) (t : List AV) (h : Heap) (op : AOp) : Option (AV × Heap) :=
  match op with
  | .call f args => rF fns rec f (args.map (AO.ev t)) h
  | .callv x args => rV fns rec (x.ev t) (args.map (AO.ev t)) h
  | op => ef h t op

def rOp (fns : Nat → Option AFn) (rec : ARec) (op : AOp) (t : List AV) (h : Heap) : Option (AV × Heap) :=
  match op.cls with
  | .eff => rEff fns rec t h op
  | .alloc => (al t op).map fun p => (p.2 h.next, h.new p.1)
  | _ => (qv h t op).map fun v => (v, h)

def rOps (fns : Nat → Option AFn) (rec : ARec) : List AOpr → St → Option St
  | [], s => some s
  | o :: os, s =>
    match o.want s.t with
    | some true =>
      match rOp fns rec o.op s.t s.h with
      | some (v, h) => rOps fns rec os ({ s with h }.put o.dst v)
      | none => none
    | some false => rOps fns rec os (s.put o.dst undefA)
    | none => none

def rD (fns : Nat → Option AFn) (rec : ARec) : List DOpr → Sd → Option (List AV × Heap)
  | [], s => some (s.t, s.k.putL s.pend)
  | d :: ds, s =>
    match d.o.want s.t with
    | none => none
    | some false => rD fns rec ds (s.skip d)
    | some true =>
      match d.o.op.cls with
      | .pure =>
        match qv Heap.empty s.t d.o.op with
        | some v => rD fns rec ds { s with t := setO s.t d.o.dst v }
        | none => none
      | .read =>
        match qv s.k s.t d.o.op with
        | some v => if s.sure d v = true then rD fns rec ds { s with t := setO s.t d.o.dst v } else none
        | none => none
      | .alloc =>
        match al s.t d.o.op with
        | some (b, f) => rD fns rec ds { s with nm := s.nm + 1, t := setO s.t d.o.dst (f s.nm), pend := s.pend ++ [(s.nm, b)] }
        | none => none
      | .eff =>
        match rEff fns rec s.t (s.k.putL s.pend) d.o.op with
        | some (v, h') => rD fns rec ds { s with t := setO s.t d.o.dst v, k := h', ks := (d.i, s.k) :: s.ks, pend := [] }
        | none => none

def rstep (fns : Nat → Option AFn) (rec : ARec) (c : AC) (s : St) : Option (AX × St) :=
  match c with
  | .skip => some (.normal, s)
  | .reg ops => (rOps fns rec ops s).map fun s' => (.normal, s')
  | .regD m ops => (rD fns rec ops { nm := s.h.next, t := s.t, k := s.h.resv m, ks := [], pend := [] }).map fun p => (.normal, { s with t := p.1, h := p.2 })
  | .seq a b =>
    match rec a s with
    | some (.normal, s') => rec b s'
    | r => r
  | .cond c a b =>
    match c.ev s.t with
    | .bool true => rec a s
    | .bool false => rec b s
    | _ => none
  | .block id c =>
    match rec c s with
    | some (.exit i, s') => if i = id then some (.normal, s') else some (.exit i, s')
    | r => r
  | .loop c =>
    match rec c s with
    | some (.normal, s') => rec (.loop c) s'
    | r => r
  | .rangeF f ps asg body =>
    match s.rd with
    | true => none
    | false =>
      match f.ev s.t with
      | .fn f' caps =>
        match rF fns rec f' (.yield (s.h.next + 1) :: caps) ((s.h.new (.dfr true)).new (.loop .ready none s.t ps asg body s.h.next)) with
        | some (_, h3) =>
          match h3.get (s.h.next + 1) with
          | some (.loop st pend a b c d e) =>
            match st with
            | .busy => none
            | _ => some (pend.getD .normal, { s with h := h3.put (s.h.next + 1) (.loop .exhausted pend a b c d e), d := s.h.next :: s.d })
          | _ => none
        | none => none
      | _ => none
  | .exit id => some (.exit id, s)
  | .ret => some (.ret, s)
  | .fgt ts c => rec c { s with t := ts.foldl (fun t i => t.set i .top) s.t }

def arun (fns : Nat → Option AFn) : Nat → ARec
  | 0 => fun _ _ => none
  | n + 1 => rstep fns (arun fns n)

def arunF (fns : Nat → Option AFn) (n f : Nat) (args : List AV) (h : Heap) : Option (AV × Heap) := rF fns (arun fns n) f args h

/-! ### What comes out, comes out -/
def Lnk (a : ARec) (p : Rec) : Prop := ∀ c s x s', a c s = some (x, s') → ∀ K : AX → St → Prop, K x s' → p c s K

section
variable {fns : Nat → Option AFn} {a : ARec} {p : Rec}

theorem ef_lnk {h : Heap} {t : List AV} {op : AOp} {v : AV} {h' : Heap} (he : ef h t op = some (v, h')) {K : AV → Heap → Prop} (hK : K v h') : aeff fns p t h K op := by
  cases op <;> simp only [ef] at he <;> (try (cases he; done)) <;> simp only [aeff]
  case store n x y =>
    split at he
    · rename_i q hq
      split at he
      · rename_i hl
        simp only [Option.map_eq_some_iff] at he
        obtain ⟨h2, h3, h4⟩ := he
        cases h4
        simp only [hq, hl, if_true, h3]
        exact hK
      · cases he
    · cases he
  case append e size bytes z x y =>
    split at he
    · rename_i q len cap ex new hx hy
      simp only [hx, hy]
      split at he
      · rename_i n hn
        simp only [hn]
        split at he
        · rename_i hle
          simp only [hle, if_true]
          cases q with
          | none => cases he; exact hK
          | some q =>
            simp only [Option.map_eq_some_iff] at he
            obtain ⟨h2, h3, h4⟩ := he
            cases h4
            simp only [h3]
            exact hK
        · rename_i hle
          simp only [hle, if_false]
          split at he
          · rename_i hc
            simp only [hc, and_self, if_true]
            split at he
            · simp only [Option.map_eq_some_iff] at he
              obtain ⟨old, h3, h4⟩ := he
              cases h4
              rw [hx] at h3
              simp only [h3]
              exact hK
            · rename_i es
              split at he
              · rename_i q
                split at he
                · rename_i e' l old hg ho
                  rw [hx] at ho
                  simp only [hg, ho]
                  split at he
                  · rename_i hh
                    cases he
                    rw [if_pos hh]
                    exact hK
                  · cases he
                · cases he
              · cases he
          · cases he
      · cases he
    · cases he
  case copy size x y =>
    split at he
    · rename_i q dl c1 e1 hx
      simp only [hx]
      split at he
      · rename_i n y' hy
        simp only [hy]
        split at he
        · rename_i new hn
          simp only [hn]
          cases q with
          | none => cases he; exact hK
          | some q =>
            simp only [Option.map_eq_some_iff] at he
            obtain ⟨h2, h3, h4⟩ := he
            cases h4
            simp only [h3]
            exact hK
        · cases he
      · cases he
    · cases he
  case clear size z x =>
    split at he
    · rename_i hx; simp only [hx]; cases he; exact hK
    · rename_i hx
      simp only [hx]
      split at he
      · rename_i hz
        simp only [Option.map_eq_some_iff] at he
        obtain ⟨h2, h3, h4⟩ := he
        cases h4
        simp only [hz, if_true, h3]
        exact hK
      · cases he
    · cases he
  case mapUpd kd m k v =>
    split at he
    · rename_i hx
      simp only [hx]
      split at he
      · rename_i es clock hm
        simp only [hm]
        split at he
        · rename_i i u hf
          simp only [hf]
          simp only [Option.map_eq_some_iff] at he
          obtain ⟨e, h3, h4⟩ := he
          cases h4
          simp only [h3]
          exact hK
        · rename_i hf
          simp only [hf]
          cases he; exact hK
        · cases he
      · cases he
    · cases he
  case delete kd m k =>
    split at he
    · rename_i hx; simp only [hx]; cases he; exact hK
    · rename_i hx
      simp only [hx]
      split at he
      · rename_i es clock hm
        simp only [hm]
        split at he
        · rename_i hf; simp only [hf]; cases he; exact hK
        · rename_i hf; simp only [hf]; cases he; exact hK
        · cases he
      · cases he
    · cases he
  case freeze x =>
    split at he
    · rename_i hx
      simp only [hx]
      split at he
      · rename_i hg; simp only [hg]; cases he; exact hK
      · cases he
    · cases he
  case range x =>
    split at he
    · rename_i hx; simp only [hx]; cases he; exact hK
    · rename_i hx
      simp only [Option.map_eq_some_iff] at he
      obtain ⟨q, h3, h4⟩ := he
      cases h4
      simp only [hx, h3]
      exact hK
    · cases he
  case next it =>
    split at he
    · rename_i hx
      simp only [hx]
      split at he
      · rename_i hg; simp only [hg]; cases he; exact hK
      · rename_i hg
        simp only [hg]
        split at he
        · rename_i es clock hm
          simp only [hm]
          split at he
          · rename_i hc
            rw [if_pos hc]
            split at he
            · rename_i hl
              cases he
              simp only [hl, List.isEmpty_nil, if_true]
              exact hK
            · rename_i e hl
              cases he
              simp only [hl, List.isEmpty_cons, Bool.false_eq_true, if_false, List.mem_singleton, forall_eq]
              exact hK
            · cases he
          · cases he
        · cases he
      · cases he
    · cases he

theorem rF_lnk (L : Lnk a p) {f : Nat} {args : List AV} {h : Heap} {v : AV} {h' : Heap} (he : rF fns a f args h = some (v, h')) {K : AV → Heap → Prop} (hK : K v h') : callF fns p f args h K := by
  unfold rF at he
  unfold callF
  split at he
  · rename_i fn hfn
    simp only [hfn]
    split at he
    · rename_i hm
      simp only [hm]
      cases he
      exact hK
    rename_i hm
    simp only [hm]
    split at he
    · rename_i x s hr
      refine L _ _ _ _ hr _ ?_
      cases x with
      | exit i => cases he
      | normal =>
        simp only at he ⊢
        split at he
        · rename_i h2 ht
          simp only [ht]
          simp only [Option.map_eq_some_iff] at he
          obtain ⟨vs, h3, h4⟩ := he
          cases h4
          simp only [h3]
          exact hK
        · cases he
      | ret =>
        simp only at he ⊢
        split at he
        · rename_i h2 ht
          simp only [ht]
          simp only [Option.map_eq_some_iff] at he
          obtain ⟨vs, h3, h4⟩ := he
          cases h4
          simp only [h3]
          exact hK
        · cases he
    · cases he
  · cases he

theorem rY_lnk (L : Lnk a p) {l : Nat} {args : List AV} {h : Heap} {v : AV} {h' : Heap} (he : rY a l args h = some (v, h')) {K : AV → Heap → Prop} (hK : K v h') : callYield p l args h K := by
  unfold rY at he
  unfold callYield
  split at he
  · rename_i pend tmps ps asg body dfr hg
    simp only [hg]
    split at he
    · rename_i hl
      rw [if_pos hl]
      split at he
      · rename_i s hr
        refine L _ _ _ _ hr _ ?_
        simp only
        split at he
        · rename_i hg1
          simp only [hg1]
          split at he
          · rename_i y s' hr2
            refine L _ _ _ _ hr2 _ ?_
            split at he
            · rename_i hg2
              simp only [hg2]
              cases y <;> (cases he; exact hK)
            · cases he
          · cases he
        · cases he
      · cases he
    · cases he
  · cases he

theorem rEff_lnk (L : Lnk a p) {t : List AV} {op : AOp} {h : Heap} {v : AV} {h' : Heap} (he : rEff fns a t h op = some (v, h')) {K : AV → Heap → Prop} (hK : K v h') : aeff fns p t h K op := by
  unfold rEff at he
  split at he
  · exact rF_lnk L he hK
  · rename_i x args
    simp only [aeff]
    unfold rV at he
    unfold callV
    split at he
    · rename_i hx; simp only [hx]; exact rF_lnk L he hK
    · rename_i hx; simp only [hx]; exact rY_lnk L he hK
    · cases he
  · exact ef_lnk he hK

theorem rOp_lnk (L : Lnk a p) {t : List AV} {op : AOp} {h : Heap} {v : AV} {h' : Heap} (he : rOp fns a op t h = some (v, h')) {K : AV → Heap → Prop} (hK : K v h') : aop fns p op t h K := by
  unfold rOp at he
  unfold aop
  split at he
  · rename_i hc; simp only [hc]; exact rEff_lnk L he hK
  · rename_i hc
    simp only [Option.map_eq_some_iff] at he
    obtain ⟨q, h3, h4⟩ := he
    cases h4
    simp only [hc, h3]
    exact hK
  · simp only [Option.map_eq_some_iff] at he
    obtain ⟨q, h3, h4⟩ := he
    cases h4
    split
    · rename_i hc; simp_all
    · rename_i hc; simp_all
    · simp only [h3]; exact hK

theorem rOps_lnk (L : Lnk a p) : ∀ (ops : List AOpr) (s s' : St), rOps fns a ops s = some s' → ∀ K : St → Prop, K s' → runOps fns p ops s K
  | [], s, s', he, K, hK => by cases he; exact hK
  | o :: os, s, s', he, K, hK => by
    simp only [rOps] at he
    simp only [runOps]
    split at he
    · rename_i hw
      simp only [hw]
      split at he
      · rename_i v h ho
        exact rOp_lnk L ho (rOps_lnk L os _ _ he K hK)
      · cases he
    · rename_i hw
      simp only [hw]
      exact rOps_lnk L os _ _ he K hK
    · cases he

theorem rD_lnk (L : Lnk a p) : ∀ (ds : List DOpr) (s : Sd) (r : List AV × Heap), rD fns a ds s = some r → ∀ K : List AV → Heap → Prop, K r.1 r.2 → runD fns p ds s K
  | [], s, r, he, K, hK => by cases he; exact hK
  | d :: ds, s, r, he, K, hK => by
    simp only [rD] at he
    simp only [runD]
    split at he
    · cases he
    · rename_i hw; simp only [hw]; exact rD_lnk L ds _ _ he K hK
    · rename_i hw
      simp only [hw]
      split at he
      · rename_i hc
        simp only [hc]
        split at he
        · rename_i hv; simp only [hv]; exact rD_lnk L ds _ _ he K hK
        · cases he
      · rename_i hc
        simp only [hc]
        split at he
        · rename_i hv
          split at he
          · rename_i hs; simp only [hv, hs, if_true]; exact rD_lnk L ds _ _ he K hK
          · cases he
        · cases he
      · rename_i hc
        simp only [hc]
        split at he
        · rename_i hv; simp only [hv]; exact rD_lnk L ds _ _ he K hK
        · cases he
      · rename_i hc
        simp only [hc]
        split at he
        · rename_i v h' hv
          exact ⟨v, h', fun K' hK' => rEff_lnk L hv hK', rD_lnk L ds _ _ he K hK⟩
        · cases he

theorem rstep_lnk (L : Lnk a p) : Lnk (rstep fns a) (astep fns p) := by
  intro c s x s' he K hK
  cases c with
  | skip => cases he; exact hK
  | reg ops =>
    simp only [rstep, Option.map_eq_some_iff] at he
    obtain ⟨s2, h1, h2⟩ := he
    cases h2
    exact rOps_lnk L ops s _ h1 _ hK
  | regD m ops =>
    simp only [rstep, Option.map_eq_some_iff] at he
    obtain ⟨r, h1, h2⟩ := he
    cases h2
    exact rD_lnk L ops _ r h1 _ hK
  | seq c1 c2 =>
    simp only [rstep] at he
    show p c1 s _
    split at he
    · rename_i s2 h1
      exact L _ _ _ _ h1 _ (L _ _ _ _ he _ hK)
    · rename_i hn
      refine L _ _ _ _ he _ ?_
      cases x with
      | normal => exact absurd he (hn _)
      | exit i => exact hK
      | ret => exact hK
  | cond cc c1 c2 =>
    simp only [rstep] at he
    simp only [astep]
    split at he
    · rename_i hc; simp only [hc]; exact L _ _ _ _ he _ hK
    · rename_i hc; simp only [hc]; exact L _ _ _ _ he _ hK
    · cases he
  | block id c1 =>
    simp only [rstep] at he
    show p c1 s _
    split at he
    · rename_i i s2 h1
      refine L _ _ _ _ h1 _ ?_
      simp only
      split at he
      · rename_i hi; rw [if_pos hi]; cases he; exact hK
      · rename_i hi; rw [if_neg hi]; cases he; exact hK
    · rename_i hn
      refine L _ _ _ _ he _ ?_
      cases x with
      | normal => exact hK
      | exit i => exact absurd he (hn _ _)
      | ret => exact hK
  | loop c1 =>
    simp only [rstep] at he
    show p c1 s _
    split at he
    · rename_i s2 h1
      exact L _ _ _ _ h1 _ (L _ _ _ _ he _ hK)
    · rename_i hn
      refine L _ _ _ _ he _ ?_
      cases x with
      | normal => exact absurd he (hn _)
      | exit i => exact hK
      | ret => exact hK
  | rangeF f ps asg body =>
    simp only [rstep] at he
    simp only [astep]
    split at he
    · cases he
    · rename_i hrd
      simp only [hrd]
      split at he
      · rename_i f' caps hf
        simp only [hf]
        split at he
        · rename_i u h3 hr
          refine rF_lnk L hr ?_
          split at he
          · rename_i st pend b1 b2 b3 b4 b5 hg
            simp only [hg]
            cases st <;> first | (cases he; done) | (cases he; rw [hrd] at hK; exact hK)
          · cases he
        · cases he
      · cases he
  | exit id => cases he; exact hK
  | ret => cases he; exact hK
  | fgt ts c1 => exact L _ _ _ _ he _ hK

theorem arun_lnk : ∀ n, Lnk (arun fns n) (awp fns n)
  | 0 => fun c s x s' he => by cases he
  | n + 1 => rstep_lnk (arun_lnk n)

theorem arunF_lnk {n f : Nat} {args : List AV} {h : Heap} {v : AV} {h' : Heap} (he : arunF fns n f args h = some (v, h')) {K : AV → Heap → Prop} (hK : K v h') : acall fns n f args h K := rF_lnk (arun_lnk n) he hK
end
end Go.Am

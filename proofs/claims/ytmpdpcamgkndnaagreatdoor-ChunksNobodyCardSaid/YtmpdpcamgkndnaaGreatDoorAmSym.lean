/- The abstract machine: laws by which simp goes through code whose values are not all known. What is to be done later is kept shut (KSeq, KBlk, KOps, KRet) until it is reached. Conditions: those that each lemma names. -/
import Derived.Test.YtmpdpcamgkndnaaGreatDoorAmWp
set_option linter.constructorNameAsVariable false
set_option linter.unusedSimpArgs false
set_option linter.unusedVariables false
namespace Go.Am

section
variable {fns : Nat → Option AFn} {s : St} {K : AX → St → Prop}

def KSeq (fns : Nat → Option AFn) (b : AC) (K : AX → St → Prop) : AX → St → Prop := fun x s' =>
  match x with
  | .normal => AWP fns b s' K
  | x => K x s'
theorem KSeq_n {b : AC} : KSeq fns b K .normal s = AWP fns b s K := rfl
theorem KSeq_r {b : AC} : KSeq fns b K .ret s = K .ret s := rfl
theorem KSeq_e {b : AC} {i : Nat} : KSeq fns b K (.exit i) s = K (.exit i) s := rfl
theorem AWP_seq {a b : AC} : AWP fns (.seq a b) s K = AWP fns a s (KSeq fns b K) := AWP.eq

def KBlk (id : Nat) (K : AX → St → Prop) : AX → St → Prop := fun x s' =>
  match x with
  | .exit i => if i = id then K .normal s' else K (.exit i) s'
  | x => K x s'
theorem KBlk_n {i : Nat} : KBlk i K .normal s = K .normal s := rfl
theorem KBlk_r {i : Nat} : KBlk i K .ret s = K .ret s := rfl
theorem KBlk_e {i j : Nat} : KBlk i K (.exit j) s = if j = i then K .normal s else K (.exit j) s := rfl
theorem AWP_block {i : Nat} {c : AC} : AWP fns (.block i c) s K = AWP fns c s (KBlk i K) := AWP.eq

theorem AWP_skip : AWP fns .skip s K = K .normal s := AWP.eq
theorem AWP_exit {i : Nat} : AWP fns (.exit i) s K = K (.exit i) s := AWP.eq
theorem AWP_ret : AWP fns .ret s K = K .ret s := AWP.eq
theorem AWP_reg {ops : List AOpr} : AWP fns (.reg ops) s K = runOps fns (AWP fns) ops s (K .normal) := AWP.eq
theorem AWP_cond {c : AO} {a b : AC} : AWP fns (.cond c a b) s K = match c.ev s.t with
    | .bool x => if x = true then AWP fns a s K else AWP fns b s K
    | _ => False := by
  rw [AWP.eq]
  simp only [astep]
  split <;> simp_all
theorem AWP_fgt {ts : List Nat} {c : AC} : AWP fns (.fgt ts c) s K = AWP fns c { s with t := ts.foldl (fun t i => t.set i .top) s.t } K := AWP.eq

def KLoop (fns : Nat → Option AFn) (c : AC) (K : AX → St → Prop) : AX → St → Prop := fun x s' =>
  match x with
  | .normal => AWP fns (.loop c) s' K
  | x => K x s'
theorem KLoop_n {b : AC} : KLoop fns b K .normal s = AWP fns (.loop b) s K := rfl
theorem KLoop_r {b : AC} : KLoop fns b K .ret s = K .ret s := rfl
theorem KLoop_e {b : AC} {i : Nat} : KLoop fns b K (.exit i) s = K (.exit i) s := rfl
theorem AWP_loop {c : AC} : AWP fns (.loop c) s K = AWP fns c s (KLoop fns c K) := AWP.eq

/-- A loop, by a measure. -/
theorem AWP_loop_ind {c : AC} {K : AX → St → Prop} (I : Nat → St → Prop) (hstep : ∀ n s, I n s → AWP fns c s fun x s' =>
    match x with
    | .normal => ∃ m, m < n ∧ I m s'
    | x => K x s') : ∀ n s, I n s → AWP fns (.loop c) s K := by
  intro n
  induction n using Nat.strongRecOn with
  | _ n ih =>
    intro s hI
    rw [AWP_loop]
    refine AWP.mono _ _ _ _ ?_ (hstep n s hI)
    intro x s' hx
    cases x with
    | normal => obtain ⟨m, hm, hI'⟩ := hx; exact ih m hm s' hI'
    | exit i => exact hx
    | ret => exact hx

/-! ### Operations -/
def KOps (fns : Nat → Option AFn) (os : List AOpr) (dst : Option Nat) (t : List AV) (d : List Nat) (rd : Bool) (K : St → Prop) : AV → Heap → Prop := fun v h =>
  runOps fns (AWP fns) os (({ t, h, d, rd } : St).put dst v) K
theorem KOps_s {os : List AOpr} {i : Nat} {t : List AV} {d : List Nat} {rd : Bool} {K : St → Prop} {v : AV} {h : Heap} : KOps fns os (some i) t d rd K v h = runOps fns (AWP fns) os { t := t.set i v, h, d, rd } K := rfl
theorem KOps_n {os : List AOpr} {t : List AV} {d : List Nat} {rd : Bool} {K : St → Prop} {v : AV} {h : Heap} : KOps fns os none t d rd K v h = runOps fns (AWP fns) os { t, h, d, rd } K := rfl

theorem ops_nil {K : St → Prop} : runOps fns (AWP fns) [] s K = K s := rfl
theorem ops_cons {dst : Option Nat} {op : AOp} {os : List AOpr} {t : List AV} {h : Heap} {d : List Nat} {rd : Bool} {K : St → Prop} :
    runOps fns (AWP fns) (⟨dst, op, none⟩ :: os) { t, h, d, rd } K = aop fns (AWP fns) op t h (KOps fns os dst t d rd K) := rfl
theorem ops_guard {dst : Option Nat} {op : AOp} {os : List AOpr} {t : List AV} {h : Heap} {d : List Nat} {rd : Bool} {K : St → Prop} {g : Nat} {w : Bool} :
    runOps fns (AWP fns) (⟨dst, op, some (g, w)⟩ :: os) { t, h, d, rd } K = match t.getD g undefA with
      | .bool b => if b = w then aop fns (AWP fns) op t h (KOps fns os dst t d rd K) else KOps fns os dst t d rd K undefA h
      | .tup _ => KOps fns os dst t d rd K undefA h
      | _ => False := by
  simp only [runOps, AOpr.want]
  cases t.getD g undefA <;> try rfl
  rename_i b
  cases b <;> cases w <;> rfl

/-! ### Calls -/
def KRet (res : List ARes) (K : AV → Heap → Prop) : AX → St → Prop := fun x s =>
  match x with
  | .exit _ => False
  | _ =>
    match takeD s.d s.h with
    | some h' =>
      match resAll h' s.t res with
      | some vs => K (pack vs) h'
      | none => False
    | none => False
theorem KRet_r {res : List ARes} {K : AV → Heap → Prop} {t : List AV} {h : Heap} {rd : Bool} : KRet res K .ret { t, h, d := [], rd } = match resAll h t res with
    | some vs => K (pack vs) h
    | none => False := rfl
theorem KRet_n {res : List ARes} {K : AV → Heap → Prop} {t : List AV} {h : Heap} {rd : Bool} : KRet res K .normal { t, h, d := [], rd } = match resAll h t res with
    | some vs => K (pack vs) h
    | none => False := rfl

theorem ACall_enter {f n : Nat} {res : List ARes} {body : AC} (hf : fns f = some (AFn.mk n res body fun _ _ => none)) {args : List AV} {h : Heap} {K : AV → Heap → Prop}
    (hq : AWP fns body { t := args ++ List.replicate (n - args.length) undefA, h, d := [], rd := false } (KRet res K)) : ACall fns f args h K := by
  unfold ACall callF
  simp only [hf]
  exact hq

theorem aop_call {rec : Rec} {f : Nat} {l : List AO} {t : List AV} {h : Heap} {K : AV → Heap → Prop} : aop fns rec (.call f l) t h K = callF fns rec f (l.map (AO.ev t)) h K := rfl
theorem aop_callA {f : Nat} {l : List AO} {t : List AV} {h : Heap} {K : AV → Heap → Prop} : aop fns (AWP fns) (.call f l) t h K = ACall fns f (l.map (AO.ev t)) h K := rfl
end

/-! ### What each operation does -/
section
variable {fns : Nat → Option AFn} {r : Rec} {t : List AV} {h : Heap} {K : AV → Heap → Prop}
/-- What comes out, or nothing. -/
def orF (o : Option AV) (h : Heap) (K : AV → Heap → Prop) : Prop :=
  match o with
  | some v => K v h
  | none => False
theorem orF_some {v : AV} : orF (some v) h K = K v h := rfl
theorem orF_none : orF none h K = False := rfl
theorem aop_q {op : AOp} (hc : op.cls = .pure ∨ op.cls = .read) : aop fns r op t h K = orF (qv h t op) h K := by
  unfold aop orF
  rcases hc with hc | hc <;> simp only [hc] <;> rfl
theorem aop_mov {x : AO} : aop fns r (.mov x) t h K = K (x.ev t) h := rfl
theorem aop_pick {c a b : AO} : aop fns r (.pick c a b) t h K = match c.ev t with
    | .bool b' => K (if b' then a.ev t else b.ev t) h
    | _ => False := by
  rw [aop_q (.inl rfl)]; simp only [qv]; split <;> first | rfl | (rename_i hh; simp_all [orF])
theorem aop_bin {op : BinOp} {x y : AO} : aop fns r (.bin op x y) t h K = orF (abin op (x.ev t) (y.ev t)) h K := rfl
theorem aop_eq {n : Bool} {k : EqK} {x y : AO} : aop fns r (.eq n k x y) t h K = orF ((aeq k (x.ev t) (y.ev t)).map fun b => .bool (if n then !b else b)) h K := rfl
theorem aop_un {op : UnOp} {x : AO} : aop fns r (.un op x) t h K = orF (aun op (x.ev t)) h K := rfl
theorem aop_build {z : List AV} {ps : List (Nat × Nat × AO)} : aop fns r (.build z ps) t h K = orF ((fillA z (ps.map fun p => (p.1, p.2.1, p.2.2.ev t))).map .agg) h K := rfl
theorem aop_load {x : AO} : aop fns r (.load x) t h K = match x.ev t with
    | .ptr (some a) => orF (h.ld a) h K
    | _ => False := by
  rw [aop_q (.inr rfl)]; simp only [qv]; split <;> first | rfl | (rename_i hh; simp_all [orF])
theorem aop_loadN {n : Nat} {x : AO} : aop fns r (.loadN n x) t h K = match x.ev t with
    | .ptr (some a) => orF ((h.ldN a n).map .agg) h K
    | _ => False := by
  rw [aop_q (.inr rfl)]; simp only [qv]; split <;> first | rfl | (rename_i hh; simp_all [orF])
theorem aop_lenS {x : AO} : aop fns r (.len 0 x) t h K = match x.ev t with
    | .str l => K (.int .i64 l.length) h
    | _ => False := by
  rw [aop_q (.inr rfl)]; simp only [qv]; cases x.ev t <;> rfl
theorem aop_lenL {x : AO} : aop fns r (.len 1 x) t h K = match x.ev t with
    | .sl _ n _ _ => K (.int .i64 n) h
    | _ => False := by
  rw [aop_q (.inr rfl)]; simp only [qv]; cases x.ev t <;> rfl
theorem aop_conv {k : IntKind} {x : AO} : aop fns r (.conv k x) t h K = match x.ev t with
    | .int _ n => K (.int k (k.wrap n)) h
    | _ => False := by
  rw [aop_q (.inl rfl)]; simp only [qv]; cases x.ev t <;> rfl
theorem aop_ext {x : AO} {i : Nat} : aop fns r (.ext x i) t h K = match x.ev t with
    | .tup l => orF l[i]? h K
    | _ => False := by
  rw [aop_q (.inl rfl)]; simp only [qv]; cases x.ev t <;> rfl
theorem aop_field1 {x : AO} {i : Nat} : aop fns r (.field1 i x) t h K = match x.ev t with
    | .agg l => orF l[i]? h K
    | _ => False := by
  rw [aop_q (.inl rfl)]; simp only [qv]; cases x.ev t <;> rfl
theorem aop_fieldAddr {x : AO} {i : Nat} : aop fns r (.fieldAddr i x) t h K = match x.ev t with
    | .ptr (some a) => K (.ptr (some (a.1, a.2 + i))) h
    | _ => False := by
  rw [aop_q (.inl rfl)]; simp only [qv]; split <;> first | rfl | (rename_i hh; simp_all [orF])
theorem aop_nilCheck {x : AO} : aop fns r (.nilCheck x) t h K = orF (qv h t (.nilCheck x)) h K := rfl
theorem aop_alloc {e : Nat} {z : List AV} : aop fns r (.alloc e z) t h K = K (.ptr (some (h.next, 0))) (h.new (.cells e z false)) := rfl
theorem aop_box {e : Nat} {x : AO} : aop fns r (.box e x) t h K = if (x.ev t).cells.all AV.flat = true then K (.ptr (some (h.next, 0))) (h.new (.cells e (x.ev t).cells false)) else False := by
  unfold aop
  simp only [AOp.cls, al]
  cases (x.ev t).cells.all AV.flat <;> rfl
theorem aop_store {n : Nat} {a x : AO} : aop fns r (.store n a x) t h K = aeff fns r t h K (.store n a x) := rfl
theorem aop_sliceSl {n : Nat} {x : AO} {a b c : Option AO} : aop fns r (.sliceSl n x a b c) t h K = orF (qv h t (.sliceSl n x a b c)) h K := rfl
theorem aop_sliceStr {x : AO} {a b : Option AO} : aop fns r (.sliceStr x a b) t h K = orF (qv h t (.sliceStr x a b)) h K := rfl
theorem aop_idxAddrSl {n : Nat} {x i : AO} : aop fns r (.idxAddrSl n x i) t h K = orF (qv h t (.idxAddrSl n x i)) h K := rfl
theorem aop_idxAddrArr {l n : Nat} {x i : AO} : aop fns r (.idxAddrArr l n x i) t h K = orF (qv h t (.idxAddrArr l n x i)) h K := rfl
theorem aop_idxStr {x i : AO} : aop fns r (.idxStr x i) t h K = orF (qv h t (.idxStr x i)) h K := rfl
theorem aop_fieldN {o n : Nat} {x : AO} : aop fns r (.fieldN o n x) t h K = orF (qv h t (.fieldN o n x)) h K := rfl
end
end Go.Am

/- The abstract machine, tuned for the kernel: the evaluator, equal to arun. Conditions: none. -/
import Derived.Test.YtmpdpcamgkndnaaGreatDoorAmK2
set_option linter.constructorNameAsVariable false
set_option linter.unusedSimpArgs false
set_option linter.unusedVariables false
namespace Go.Am

noncomputable def opK (cf : Nat → List AO → OpT) (cv : AO → List AO → OpT) (op : AOp) : OpT :=
  @AOp.rec (fun _ => OpT) k_mov (fun c a b => gq (.pick c a b)) (fun z ps => gq (.build z ps)) k_load k_loadN k_nil k_bin (fun n k x y => gq (.eq n k x y)) (fun o x => gq (.un o x)) k_conv
    (fun x => gq (.same x)) (fun x => gq (.bytesStr x)) (fun n x => gq (.s2a n x)) (fun f l => gq (.mkFn f l)) (fun x l h => gq (.sliceStr x l h)) (fun s x l h m => gq (.sliceSl s x l h m)) (fun n s x l h m => gq (.sliceArr n s x l h m))
    k_fieldAddr k_field1 (fun o n x => gq (.fieldN o n x)) k_idxAddrArr k_idxAddrSl k_idxArr1 (fun l m x i => gq (.idxArrN l m x i)) (fun x i => gq (.idxStr x i)) (fun kd z x k ok => gq (.lookup kd z x k ok))
    (fun x => gq (.entry x)) k_ext k_len k_lenC (fun l => gq (.mn l)) (fun l => gq (.mx l)) (fun x y => gq (.cmpB x y))
    k_alloc k_box (fun e n z ps => ga (.buildSl e n z ps)) (ga .mkMap) (fun e s b z l c => ga (.mkSl e s b z l c)) (fun e x => ga (.strBytes e x))
    k_store (fun e s b z x y => ge (.append e s b z x y)) (fun s x y => ge (.copy s x y)) (fun s z x => ge (.clear s z x)) (fun kd m k v => ge (.mapUpd kd m k v)) (fun kd m k => ge (.delete kd m k))
    (fun x => ge (.freeze x)) (fun x => ge (.range x)) (fun x => ge (.next x)) cf cv op

section
variable {fns : Nat → Option AFn} {rec : ARec}

theorem opK_eq {cf : Nat → List AO → OpT} {cv : AO → List AO → OpT} {t : List AV} {h : Heap} (op : AOp) (hnc : op.isCall = false) : opK cf cv op (AO.ev t) h = rOp fns rec op t h := by
  cases op
  case call f l => cases hnc
  case callv x l => cases hnc
  case mov x => show k_mov x (AO.ev t) h = _; simp [k_mov, rOp, AOp.cls, qv]
  case load x =>
    show k_load x (AO.ev t) h = _
    simp only [k_load, rOp, AOp.cls, qv, ldK_eq]
    generalize AO.ev t x = v; cases v <;> first | rfl | (rename_i a; cases a <;> rfl)
  case loadN n x =>
    show k_loadN n x (AO.ev t) h = _
    simp only [k_loadN, rOp, AOp.cls, qv]
    generalize AO.ev t x = v; cases v <;> first | rfl | (rename_i a; cases a <;> simp [Option.map_map, Function.comp_def])
  case nilCheck x =>
    show k_nil x (AO.ev t) h = _
    simp only [k_nil, rOp, AOp.cls, qv]
    generalize AO.ev t x = v; cases v <;> first | rfl | (rename_i a; cases a <;> rfl)
  case bin o x y =>
    show k_bin o x y (AO.ev t) h = _
    simp only [k_bin, rOp, AOp.cls, qv]
    generalize AO.ev t x = v
    generalize AO.ev t y = w
    cases v <;> first | rfl | (cases w <;> first | rfl | simp only [intOpK_eq])
  case conv k x =>
    show k_conv k x (AO.ev t) h = _
    simp only [k_conv, rOp, AOp.cls, qv, wrapK_eq]
    generalize AO.ev t x = v; cases v <;> rfl
  case fieldAddr o x =>
    show k_fieldAddr o x (AO.ev t) h = _
    simp only [k_fieldAddr, rOp, AOp.cls, qv]
    generalize AO.ev t x = v; cases v <;> first | rfl | (rename_i a; cases a <;> rfl)
  case field1 o x =>
    show k_field1 o x (AO.ev t) h = _
    simp only [k_field1, rOp, AOp.cls, qv, lnth_eq]
    generalize AO.ev t x = v; cases v <;> rfl
  case idxAddrArr l s x i =>
    show k_idxAddrArr l s x i (AO.ev t) h = _
    simp only [k_idxAddrArr, rOp, AOp.cls, qv, inB_eq]
    generalize AO.ev t x = v
    generalize AO.ev t i = w
    cases v <;> first | rfl | (rename_i a; cases a <;> first | rfl | (cases w <;> first | rfl | (rename_i n; by_cases hn : 0 ≤ n ∧ n < l <;> simp [hn])))
  case idxAddrSl s x i =>
    show k_idxAddrSl s x i (AO.ev t) h = _
    simp only [k_idxAddrSl, rOp, AOp.cls, qv, inB_eq]
    generalize AO.ev t x = v
    generalize AO.ev t i = w
    cases v <;> first | rfl | (rename_i a len _ _; cases a <;> first | rfl | (cases w <;> first | rfl | (rename_i n; by_cases hn : 0 ≤ n ∧ n < len <;> simp [hn])))
  case idxArr1 l x i =>
    show k_idxArr1 l x i (AO.ev t) h = _
    simp only [k_idxArr1, rOp, AOp.cls, qv, inB_eq, lnth_eq]
    generalize AO.ev t x = v
    generalize AO.ev t i = w
    cases v <;> first | rfl | (cases w <;> first | rfl | (rename_i n; by_cases hn : 0 ≤ n ∧ n < l <;> simp [hn]))
  case ext x i =>
    show k_ext x i (AO.ev t) h = _
    simp only [k_ext, rOp, AOp.cls, qv, lnth_eq]
    generalize AO.ev t x = v; cases v <;> rfl
  case len k x =>
    show k_len k x (AO.ev t) h = _
    simp only [k_len, gq, qv_sub]
    split
    · rename_i hx; simp [rOp, AOp.cls, qv, hx]
    · rename_i hx; simp [rOp, AOp.cls, qv, hx]
    · rfl
  case lenC n => rfl
  case alloc e z => show k_alloc e z (AO.ev t) h = _; simp [k_alloc, rOp, AOp.cls, al, hnewK_eq]
  case box e x =>
    show k_box e x (AO.ev t) h = _
    simp only [k_box, rOp, AOp.cls, al, hnewK_eq]
    by_cases hh : ((x.ev t).cells.all AV.flat) = true
    · simp [hh]
    · simp [hh]
  case store n a x =>
    show k_store n a x (AO.ev t) h = _
    simp only [k_store, rOp, AOp.cls, rEff, ef]
    split
    · rename_i p hp
      simp only [hp]
      split
      · rename_i hx; simp only [hx]; rfl
      · rename_i hx; simp only [hx]; rfl
      · rename_i hx
        simp only [hx]
        by_cases hn : AV.top.cells.length = n
        · rw [if_pos hn]; simp only [AV.cells, Heap.stN]; split <;> simp [AV.flat]
        · rw [if_neg hn]
      · rename_i h1 h2 h3
        have hc : (x.ev t).cells = [x.ev t] := by
          cases hv : x.ev t <;> simp_all [AV.cells]
        rw [avK_eq, st1_eq p _ hc, hc]
        simp only [List.length_singleton]
        by_cases hn : 1 = n
        · rw [if_pos hn]
          have : Nat.beq 1 n = true := by rw [Nat.beq_eq]; exact hn
          rw [this]
        · rw [if_neg hn]
          have : Nat.beq 1 n = false := by
            cases hh : Nat.beq 1 n with
            | false => rfl
            | true => exact absurd (Nat.beq_eq ▸ hh) hn
          rw [this]
    · rename_i hn
      split
      · rename_i hp; exact absurd hp (hn _)
      · rfl
  all_goals first | (show gq _ (AO.ev t) h = _; simp only [gq, qv_sub]; rfl) | (show ga _ (AO.ev t) h = _; simp only [ga, al_sub]; rfl) | (show ge _ (AO.ev t) h = _; simp only [ge, ef_sub]; rfl)

/-! ### Slots as a tree with four branches -/
inductive D4 where
  | a | b | c | d
inductive QT where
  | nil
  | leaf (v : AV)
  | node (a b c d : QT)

noncomputable def dig (n : Nat) : D4 := @Nat.rec (fun _ => D4) .a (fun j _ => @Nat.rec (fun _ => D4) .b (fun j _ => @Nat.rec (fun _ => D4) .c (fun _ _ => .d) j) j) n
theorem dig_inj {i j : Nat} (hi : i < 4) (hj : j < 4) (h : dig i = dig j) : i = j := by
  match i, j, hi, hj, h with
  | 0, 0, _, _, _ => rfl
  | 1, 1, _, _, _ => rfl
  | 2, 2, _, _, _ => rfl
  | 3, 3, _, _, _ => rfl
  | 0, 1, _, _, h => cases h
  | 0, 2, _, _, h => cases h
  | 0, 3, _, _, h => cases h
  | 1, 0, _, _, h => cases h
  | 1, 2, _, _, h => cases h
  | 1, 3, _, _, h => cases h
  | 2, 0, _, _, h => cases h
  | 2, 1, _, _, h => cases h
  | 2, 3, _, _, h => cases h
  | 3, 0, _, _, h => cases h
  | 3, 1, _, _, h => cases h
  | 3, 2, _, _, h => cases h

noncomputable def pathOf (D : Nat) (i : Nat) : List D4 := @Nat.rec (fun _ => Nat → List D4) (fun _ => []) (fun _ ih i => dig (Nat.mod i 4) :: ih (Nat.div i 4)) D i
theorem path_len : ∀ (D i : Nat), (pathOf D i).length = D
  | 0, i => rfl
  | D + 1, i => by show (dig (Nat.mod i 4) :: pathOf D (Nat.div i 4)).length = _; simp [path_len D]
theorem path_inj : ∀ (D i j : Nat), i < 4 ^ D → j < 4 ^ D → pathOf D i = pathOf D j → i = j
  | 0, i, j, hi, hj, _ => by simp at hi hj; omega
  | D + 1, i, j, hi, hj, h => by
    have h' : dig (i % 4) :: pathOf D (i / 4) = dig (j % 4) :: pathOf D (j / 4) := h
    simp only [List.cons.injEq] at h'
    have h1 := dig_inj (Nat.mod_lt _ (by omega)) (Nat.mod_lt _ (by omega)) h'.1
    have h2 := path_inj D (i / 4) (j / 4) (by rw [Nat.pow_succ] at hi; omega) (by rw [Nat.pow_succ] at hj; omega) h'.2
    omega

noncomputable def leafOf (q : QT) : AV := @QT.casesOn (fun _ => AV) q undefA (fun v => v) (fun _ _ _ _ => undefA)
noncomputable def getQ (p : List D4) (q : QT) : AV :=
  @List.rec D4 (fun _ => QT → AV) leafOf (fun d _ ih q => @QT.casesOn (fun _ => AV) q undefA (fun _ => undefA) (fun x y z u => ih (@D4.rec (fun _ => QT) x y z u d))) p q

abbrev QK (R : Type) := (QT → (QT → R) → R) → QT → QT → QT → QT → (QT → R) → R
def q_a {R : Type} : QK R := fun ih x y z u k => ih x fun x' => k (.node x' y z u)
def q_b {R : Type} : QK R := fun ih x y z u k => ih y fun y' => k (.node x y' z u)
def q_c {R : Type} : QK R := fun ih x y z u k => ih z fun z' => k (.node x y z' u)
def q_d {R : Type} : QK R := fun ih x y z u k => ih u fun u' => k (.node x y z u')
noncomputable def setQ {R : Type} (v : AV) (p : List D4) (q : QT) (k : QT → R) : R :=
  @List.rec D4 (fun _ => QT → (QT → R) → R) (fun _ k => k (.leaf v)) (fun d _ ih q k => @QT.casesOn (fun _ => R) q (@D4.rec (fun _ => QK R) q_a q_b q_c q_d d ih .nil .nil .nil .nil k) (fun _ => @D4.rec (fun _ => QK R) q_a q_b q_c q_d d ih .nil .nil .nil .nil k)
    (fun x y z u => @D4.rec (fun _ => QK R) q_a q_b q_c q_d d ih x y z u k)) p q k

theorem setQ_k {R : Type} (v : AV) : ∀ (p : List D4) (q : QT) (k : QT → R), setQ v p q k = k (setQ v p q id)
  | [], q, k => rfl
  | d :: p, q, k => by
    have h : ∀ {R : Type} (k : QT → R), setQ v (d :: p) q k = @QT.casesOn (fun _ => R) q (@D4.rec (fun _ => QK R) q_a q_b q_c q_d d (setQ v p) .nil .nil .nil .nil k) (fun _ => @D4.rec (fun _ => QK R) q_a q_b q_c q_d d (setQ v p) .nil .nil .nil .nil k)
      (fun x y z u => @D4.rec (fun _ => QK R) q_a q_b q_c q_d d (setQ v p) x y z u k) := fun k => rfl
    rw [h, h]
    have g : ∀ x y z u : QT, @D4.rec (fun _ => QK R) q_a q_b q_c q_d d (setQ v p) x y z u k = k (@D4.rec (fun _ => QK QT) q_a q_b q_c q_d d (setQ v p) x y z u id) := by
      intro x y z u
      cases d
      · show setQ v p x _ = k (setQ v p x _); rw [setQ_k v p x, setQ_k v p x (fun x' => id (QT.node x' y z u))]; rfl
      · show setQ v p y _ = k (setQ v p y _); rw [setQ_k v p y, setQ_k v p y (fun y' => id (QT.node x y' z u))]; rfl
      · show setQ v p z _ = k (setQ v p z _); rw [setQ_k v p z, setQ_k v p z (fun z' => id (QT.node x y z' u))]; rfl
      · show setQ v p u _ = k (setQ v p u _); rw [setQ_k v p u, setQ_k v p u (fun u' => id (QT.node x y z u'))]; rfl
    cases q with
    | nil => exact g _ _ _ _
    | leaf w => exact g _ _ _ _
    | node x y z u => exact g _ _ _ _

theorem getQ_nil (p : List D4) : getQ p .nil = undefA := by cases p <;> rfl
theorem getQ_leaf (d : D4) (p : List D4) (w : AV) : getQ (d :: p) (.leaf w) = undefA := rfl

theorem getQ_setQ (v : AV) : ∀ (p p' : List D4) (q : QT), p.length = p'.length → (p' = p → getQ p' (setQ v p q id) = v) ∧ (p' ≠ p → getQ p' (setQ v p q id) = getQ p' q)
  | [], [], q, _ => ⟨fun _ => rfl, fun h => absurd rfl h⟩
  | d :: p, d' :: p', q, hl => by
    have ih := fun q => getQ_setQ v p p' q (by simpa using hl)
    have key : ∀ x y z u : QT, (d' :: p' = d :: p → getQ (d' :: p') (@D4.rec (fun _ => QK QT) q_a q_b q_c q_d d (setQ v p) x y z u id) = v) ∧
        (d' :: p' ≠ d :: p → getQ (d' :: p') (@D4.rec (fun _ => QK QT) q_a q_b q_c q_d d (setQ v p) x y z u id) = getQ (d' :: p') (.node x y z u)) := by
      intro x y z u
      have e : @D4.rec (fun _ => QK QT) q_a q_b q_c q_d d (setQ v p) x y z u id = @D4.rec (fun _ => QT) (.node (setQ v p x id) y z u) (.node x (setQ v p y id) z u) (.node x y (setQ v p z id) u) (.node x y z (setQ v p u id)) d := by
        cases d
        · show setQ v p x _ = _; rw [setQ_k]; rfl
        · show setQ v p y _ = _; rw [setQ_k]; rfl
        · show setQ v p z _ = _; rw [setQ_k]; rfl
        · show setQ v p u _ = _; rw [setQ_k]; rfl
      rw [e]
      have nd : ∀ (x y z u : QT), getQ (d' :: p') (.node x y z u) = getQ p' (@D4.rec (fun _ => QT) x y z u d') := fun _ _ _ _ => rfl
      constructor
      · intro h
        simp only [List.cons.injEq] at h
        obtain ⟨rfl, h2⟩ := h
        cases d' <;> (simp only [nd]; exact (ih _).1 h2)
      · intro h
        by_cases hd : d' = d
        · subst hd
          have h2 : p' ≠ p := fun h2 => h (by rw [h2])
          cases d' <;> (simp only [nd]; exact (ih _).2 h2)
        · cases d <;> cases d' <;> first | (exact absurd rfl hd) | rfl
    cases q with
    | nil =>
      have := key .nil .nil .nil .nil
      refine ⟨this.1, fun h => (this.2 h).trans ?_⟩
      rw [getQ_nil]
      show getQ p' (@D4.rec (fun _ => QT) .nil .nil .nil .nil d') = _
      cases d' <;> exact getQ_nil p'
    | leaf w =>
      have := key .nil .nil .nil .nil
      refine ⟨this.1, fun h => (this.2 h).trans ?_⟩
      rw [getQ_leaf]
      show getQ p' (@D4.rec (fun _ => QT) .nil .nil .nil .nil d') = _
      cases d' <;> exact getQ_nil p'
    | node x y z u => exact key x y z u
  | [], _ :: _, _, hl => by simp at hl
  | _ :: _, [], _, hl => by simp at hl

noncomputable def depth (n : Nat) : Nat :=
  @Bool.rec (fun _ => Nat) (@Bool.rec (fun _ => Nat) (@Bool.rec (fun _ => Nat) (@Bool.rec (fun _ => Nat) n 4 (Nat.ble n 256)) 3 (Nat.ble n 64)) 2 (Nat.ble n 16)) 1 (Nat.ble n 4)
theorem depth_le (n : Nat) : n ≤ 4 ^ depth n := by
  unfold depth
  cases h1 : Nat.ble n 4 with
  | true => exact Nat.le_of_ble_eq_true h1
  | false =>
    cases h2 : Nat.ble n 16 with
    | true => exact Nat.le_of_ble_eq_true h2
    | false =>
      cases h3 : Nat.ble n 64 with
      | true => exact Nat.le_of_ble_eq_true h3
      | false =>
        cases h4 : Nat.ble n 256 with
        | true => exact Nat.le_of_ble_eq_true h4
        | false => exact Nat.le_of_lt (Nat.lt_pow_self (by omega))

theorem ble_iff (i n : Nat) : (i < n ∧ Nat.ble (Nat.succ i) n = true) ∨ (¬ i < n ∧ Nat.ble (Nat.succ i) n = false) := by
  by_cases h : i < n
  · exact .inl ⟨h, Nat.ble_eq_true_of_le h⟩
  · refine .inr ⟨h, ?_⟩
    cases hh : Nat.ble (Nat.succ i) n with
    | false => rfl
    | true => exact absurd (Nat.le_of_ble_eq_true hh) h

noncomputable def slot (n : Nat) (tr : QT) (i : Nat) : AV := @Bool.rec (fun _ => AV) undefA (getQ (pathOf (depth n) i) tr) (Nat.ble (Nat.succ i) n)
noncomputable def evT (n : Nat) (tr : QT) (x : AO) : AV := @AO.rec (fun _ => AV) (fun i => slot n tr i) (fun c => c) (fun g => .ptr (some (g, 0))) (fun f => .fn f []) x
noncomputable def absT (n : Nat) (tr : QT) : List AV := (List.range n).map fun i => getQ (pathOf (depth n) i) tr

theorem absT_get (n : Nat) (tr : QT) (i : Nat) : (absT n tr).getD i undefA = slot n tr i := by
  unfold slot absT
  rcases ble_iff i n with ⟨h, h2⟩ | ⟨h, h2⟩
  · rw [h2]
    simp only [List.getD, List.getElem?_map, List.getElem?_range h, Option.map_some, Option.getD_some]
  · rw [h2]
    simp [List.getD, List.getElem?_eq_none (show ((List.range n).map fun i => getQ (pathOf (depth n) i) tr).length ≤ i by simp; omega)]

theorem evT_eq (n : Nat) (tr : QT) : AO.ev (absT n tr) = evT n tr := by
  funext x
  cases x with
  | t i => show (absT n tr).getD i undefA = slot n tr i; exact absT_get n tr i
  | _ => rfl

noncomputable def setS {R : Type} (n : Nat) (tr : QT) (i : Nat) (v : AV) (k : QT → R) : R := @Bool.rec (fun _ => R) (k tr) (setQ v (pathOf (depth n) i) tr k) (Nat.ble (Nat.succ i) n)
theorem setS_k {R : Type} (n : Nat) (tr : QT) (i : Nat) (v : AV) (k : QT → R) : setS n tr i v k = k (setS n tr i v id) := by
  unfold setS
  cases Nat.ble (Nat.succ i) n with
  | true => exact setQ_k _ _ _ _
  | false => rfl

theorem setS_get (n : Nat) (tr : QT) (i : Nat) (v : AV) (j : Nat) (hj : j < n) : getQ (pathOf (depth n) j) (setS n tr i v id) = if j = i then v else getQ (pathOf (depth n) j) tr := by
  unfold setS
  have hd := depth_le n
  rcases ble_iff i n with ⟨h, h2⟩ | ⟨h, h2⟩
  · rw [h2]
    have g := getQ_setQ v (pathOf (depth n) i) (pathOf (depth n) j) tr (by rw [path_len, path_len])
    by_cases hji : j = i
    · rw [if_pos hji]; exact g.1 (by rw [hji])
    · rw [if_neg hji]; exact g.2 fun he => hji (path_inj _ _ _ (by omega) (by omega) he)
  · rw [h2, if_neg (by omega)]; rfl

theorem absT_set (n : Nat) (tr : QT) (i : Nat) (v : AV) : (absT n tr).set i v = absT n (setS n tr i v id) := by
  apply List.ext_getElem?
  intro j
  unfold absT
  simp only [List.getElem?_set, List.getElem?_map, List.length_map, List.length_range]
  by_cases hj : j < n
  · rw [List.getElem?_range hj]
    simp only [Option.map_some, setS_get n tr i v j hj]
    by_cases hij : i = j
    · subst hij; simp [hj]
    · simp [hij, Ne.symm hij]
  · have h1 : (List.range n)[j]? = none := List.getElem?_eq_none (by simp; omega)
    rw [h1]
    by_cases hij : i = j
    · subst hij; simp [hj]
    · simp [hij]

noncomputable def putT {R : Type} (n : Nat) (tr : QT) (d : Option Nat) (v : AV) (k : QT → R) : R :=
  @Option.rec Nat (fun _ => R) (k tr) (fun d => avK v fun v => setS n tr d v k) d
noncomputable def setT (n : Nat) (tr : QT) (d : Option Nat) (v : AV) : QT :=
  match d with
  | some d => setS n tr d v id
  | none => tr
theorem putT_eq {R : Type} (n : Nat) (tr : QT) (d : Option Nat) (v : AV) (k : QT → R) : putT n tr d v k = k (setT n tr d v) := by
  cases d with
  | none => rfl
  | some d => show avK v (fun v => setS n tr d v k) = _; rw [avK_eq, setS_k]; rfl
theorem absT_put (n : Nat) (tr : QT) (d : Option Nat) (v : AV) : setO (absT n tr) d v = absT n (setT n tr d v) := by
  cases d with
  | none => rfl
  | some d => exact absT_set n tr d v

end
end Go.Am
